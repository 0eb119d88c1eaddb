/- Printed by gen.py: contracts, part 2. -/
import Derived.Test.YtjeolkdhicmhgaaCtr1
set_option linter.all false
set_option maxRecDepth 100000
namespace Go.Sp
open Go Go.Av Go.Proofs

theorem c_gasolierref03_Made (fuel : Nat) (p0 : gasolierref03_Raw) {r : (Chart × Round)} (H : gasolierref03_Made fuel p0 = some r) : Ctr Try.prog 20 [.agg [.int .i64 (p0.Places), roL 7 enc_Arr7Int p0.Ways, .int .i64 (p0.Round.x0), .int .i64 (p0.Round.x1), roL 4 enc_Arr4Int p0.Stops]] (.tup [.agg [.int .i64 (r.1.Places), roL 7 enc_Way r.1.Ways], .agg [.int .i64 (r.2.Place), .int .i64 (r.2.At), roL 4 enc_Stop r.2.Stops]]) := by
  unfold gasolierref03_Made at H
  refine Ctr.of_body (N := 176) Try.func20 (by kernel_rfl) (c := _) rfl Try.ntmps20 rfl (fun w0 h0 hval => ?_)
  refine W.seq ?_
  refine W.region env [] [] rfl rfl rfl .nil .nil (At.keep (ts := [1, 2, 3]) (ids := [1, 2, 3]) rfl rfl ?_)
  refine At.thenC ?_
  refine W.seq ?_
  obtain ⟨y1, hy2, H⟩ := of_bindO H
  obtain ⟨hc3, H⟩ := of_must H
  refine W.region env [] [⟨.int .i64 (y1), [], 0, []⟩] rfl rfl rfl (.cons hc3 .nil) (.free (c_gasolierref03_Mod p0.Places 5 hy2) .nil) (At.keep (ts := [1, 2, 3, 4]) (ids := [1, 2, 3, 4]) rfl rfl ?_)
  refine At.thenC ?_
  refine W.seq ?_
  refine W.seq ?_
  refine W.region env [] [] rfl rfl rfl .nil .nil (At.keep (ts := [1, 2, 3, 4, 5]) (ids := [1, 2, 3, 4]) rfl rfl ?_)
  refine At.thenC ?_
  refine W.block ?_
  refine At.nilOwnCell 4 1 801 53 7 (e := fun i => enc_Way (([] : List Way).getD i default)) rfl rfl rfl ?_
  refine At.keep (ts := [1, 2, 3, 4, 5]) (ids := [1, 2, 3, 4, 801]) rfl rfl ?_
  refine W.loopGo H (fun (s4 : Int × (List Way)) => [(1, .lp 1 0), (2, .lp 2 0), (3, .lp 3 0), (4, .lp 4 0), (5, .int .i64 (s4.1))]) (fun (s4 : Int × (List Way)) => [(1, .cells [.int .i64 (p0.Places), roL 7 enc_Arr7Int p0.Ways, .int .i64 (p0.Round.x0), .int .i64 (p0.Round.x1), roL 4 enc_Arr4Int p0.Stops]), (2, .cells [.int .i64 (0), .nilS]), (3, .cells [.int .i64 (0), .int .i64 (0), .nilS]), (4, .cells [.int .i64 ((2 + y1)), .buf 801 (s4.2).length]), (801, bufL 53 7 enc_Way s4.2)]) (.cons (.of_eq (by first | rfl | (simp; done) | omega | (simp; omega))) (.cons (.of_eq (by first | rfl | (simp; done) | omega | (simp; omega))) (.cons (.of_eq (by first | rfl | (simp; done) | omega | (simp; omega))) (.cons (.of_eq (by first | rfl | (simp; done) | omega | (simp; omega))) (.cons (.of_eq (by first | rfl | (simp; done) | omega | (simp; omega))) .nil))))) (.cons (.of_eq (by first | rfl | (simp; done) | omega | (simp; omega))) (.cons (.of_eq (by first | rfl | (simp; done) | omega | (simp; omega))) (.cons (.of_eq (by first | rfl | (simp; done) | omega | (simp; omega))) (.cons (.of_eq (by first | rfl | (simp; done) | omega | (simp; omega))) (.cons (.of_eq (by first | rfl | (simp; done) | omega | (simp; omega))) .nil))))) (fun k4 s4 H K0 hK4 => ?_)
  refine W.seq ?_
  refine W.seq ?_
  refine W.region env [] [] rfl rfl rfl (.cons (fun h => h) (.cons (fun h => h) .nil)) .nil (At.keep (ts := [1, 2, 3, 4, 5, 27]) (ids := [1, 2, 3, 4, 801]) rfl rfl ?_)
  refine At.thenC ?_
  refine W.cond rfl (fun hb5 => ?_) (fun hb5 => ?_)
  · have H := of_true H hb5
    refine W.skip ?_
    refine At.thenC ?_
    refine W.seq ?_
    refine W.block ?_
    refine W.seq ?_
    obtain ⟨hc6, H⟩ := of_must H
    refine W.region env [] [] rfl rfl rfl (.cons hc6 .nil) .nil (At.keep (ts := [1, 2, 3, 4, 5, 6]) (ids := [1, 2, 3, 4, 6, 801]) rfl rfl ?_)
    refine At.thenC ?_
    refine W.seq ?_
    obtain ⟨y7, hy8, H⟩ := of_bindO H
    refine W.region env [] [⟨.int .i64 (y7), [], 0, []⟩] rfl rfl rfl (.cons (by decide) .nil) (.free (c_gasolierref03_Mod ((p0.Ways.getD (s4.1).toNat default).x0) (2 + y1) hy8) .nil) (At.keep (ts := [1, 2, 3, 4, 5, 6, 7]) (ids := [1, 2, 3, 4, 6, 801]) rfl rfl ?_)
    refine At.thenC ?_
    refine W.seq ?_
    obtain ⟨hc9, H⟩ := of_must H
    obtain ⟨hc10, H⟩ := of_must H
    obtain ⟨y11, hy12, H⟩ := of_bindO H
    obtain ⟨hc13, H⟩ := of_must H
    obtain ⟨hc14, H⟩ := of_must H
    refine W.region env [] [⟨.int .i64 (y11), [], 0, []⟩] rfl rfl rfl (.cons hc9 (.cons (by decide) (.cons hc10 (.cons hc13 (.cons hc14 .nil))))) (.free (c_gasolierref03_Mod ((p0.Ways.getD (s4.1).toNat default).x1) ((2 + y1) - 1) hy12) .nil) (At.keep (ts := [1, 2, 3, 4, 5, 6, 8]) (ids := [1, 2, 3, 4, 6, 8, 801]) rfl rfl ?_)
    refine At.thenC ?_
    refine W.seq ?_
    obtain ⟨y15, hy16, H⟩ := of_bindO H
    obtain ⟨hc17, H⟩ := of_must H
    refine W.region env [] [⟨.int .i64 (y15), [], 0, []⟩] rfl rfl rfl (.cons (by decide) (.cons hc17 .nil)) (.free (c_gasolierref03_Mod ((p0.Ways.getD (s4.1).toNat default).x2) 20 hy16) .nil) (At.keep (ts := [1, 2, 3, 4, 5, 6, 8]) (ids := [1, 2, 3, 4, 6, 8, 801]) rfl rfl ?_)
    refine At.thenC ?_
    refine W.seq ?_
    obtain ⟨y18, hy19, H⟩ := of_bindO H
    obtain ⟨hc20, H⟩ := of_must H
    refine W.region env [] [⟨.int .i64 (y18), [], 0, []⟩] rfl rfl rfl (.cons (by decide) (.cons hc20 .nil)) (.free (c_gasolierref03_Mod ((p0.Ways.getD (s4.1).toNat default).x3) 12 hy19) .nil) (At.keep (ts := [1, 2, 3, 4, 5, 6, 8]) (ids := [1, 2, 3, 4, 6, 8, 801]) rfl rfl ?_)
    refine At.thenC ?_
    refine W.seq ?_
    refine W.region env [] [] rfl rfl rfl .nil .nil (At.keep (ts := [1, 2, 3, 4, 5, 6, 8]) (ids := [1, 2, 3, 4, 6, 8, 801]) rfl rfl ?_)
    refine At.thenC ?_
    refine W.seq ?_
    refine W.seq ?_
    obtain ⟨y21, hy22, H⟩ := of_bindO H
    refine W.region env [] [⟨.int .i64 (y21), [], 0, []⟩] rfl rfl rfl (.cons (by decide) .nil) (.free (c_gasolierref03_Mod ((p0.Ways.getD (s4.1).toNat default).x4) 3 hy22) .nil) (At.keep (ts := [1, 2, 3, 4, 5, 6, 8, 74]) (ids := [1, 2, 3, 4, 6, 8, 801]) rfl rfl ?_)
    refine At.thenC ?_
    refine W.joinC H (fun (s23 : Way) => [(1, .lp 1 0), (2, .lp 2 0), (3, .lp 3 0), (4, .lp 4 0), (5, .int .i64 (s4.1)), (6, .lp 6 0), (8, .lp 8 0)]) (fun (s23 : Way) => [(1, .cells [.int .i64 (p0.Places), roL 7 enc_Arr7Int p0.Ways, .int .i64 (p0.Round.x0), .int .i64 (p0.Round.x1), roL 4 enc_Arr4Int p0.Stops]), (2, .cells [.int .i64 (0), .nilS]), (3, .cells [.int .i64 (0), .int .i64 (0), .nilS]), (4, .cells [.int .i64 ((2 + y1)), .buf 801 (s4.2).length]), (6, .cells [.int .i64 ((p0.Ways.getD (s4.1).toNat default).x0), .int .i64 ((p0.Ways.getD (s4.1).toNat default).x1), .int .i64 ((p0.Ways.getD (s4.1).toNat default).x2), .int .i64 ((p0.Ways.getD (s4.1).toNat default).x3), .int .i64 ((p0.Ways.getD (s4.1).toNat default).x4), .int .i64 ((p0.Ways.getD (s4.1).toNat default).x5), .int .i64 ((p0.Ways.getD (s4.1).toNat default).x6)]), (8, .cells [.int .i64 (s23.From), .int .i64 (s23.To), .int .i64 (s23.Takes.Lo), .int .i64 (s23.Takes.Hi), .int .i64 (s23.Open.Lo), .int .i64 (s23.Open.Hi), .int .i64 (s23.Every)]), (801, bufL 53 7 enc_Way s4.2)]) (fun s23 H => ?_) (fun k23 H hK23 => ?_)
    · refine W.seq ?_
      refine W.seq ?_
      obtain ⟨y24, hy25, H⟩ := of_bindO H
      refine W.region env [] [⟨.int .i64 (y24), [], 0, []⟩] rfl rfl rfl (.cons (by decide) .nil) (.free (c_gasolierref03_Mod ((p0.Ways.getD (s4.1).toNat default).x4) 3 hy25) .nil) (At.keep (ts := [1, 2, 3, 4, 5, 6, 8, 92]) (ids := [1, 2, 3, 4, 6, 8, 801]) rfl rfl ?_)
      refine At.thenC ?_
      refine W.joinC H (fun (s26 : Way) => [(1, .lp 1 0), (2, .lp 2 0), (3, .lp 3 0), (4, .lp 4 0), (5, .int .i64 (s4.1)), (8, .lp 8 0)]) (fun (s26 : Way) => [(1, .cells [.int .i64 (p0.Places), roL 7 enc_Arr7Int p0.Ways, .int .i64 (p0.Round.x0), .int .i64 (p0.Round.x1), roL 4 enc_Arr4Int p0.Stops]), (2, .cells [.int .i64 (0), .nilS]), (3, .cells [.int .i64 (0), .int .i64 (0), .nilS]), (4, .cells [.int .i64 ((2 + y1)), .buf 801 (s4.2).length]), (8, .cells [.int .i64 (s26.From), .int .i64 (s26.To), .int .i64 (s26.Takes.Lo), .int .i64 (s26.Takes.Hi), .int .i64 (s26.Open.Lo), .int .i64 (s26.Open.Hi), .int .i64 (s26.Every)]), (801, bufL 53 7 enc_Way s4.2)]) (fun s26 H => ?_) (fun k26 H hK26 => ?_)
      · obtain ⟨hc27, H⟩ := of_must H
        refine W.region env [] [] rfl rfl rfl (.cons (⟨by first | rfl | (simp; done) | omega | (simp; omega), by have := hc27; first | simpa using this | (unfold room at this ⊢; simp at this ⊢; omega)⟩) .nil) .nil (At.keep (ts := [1, 2, 3, 4, 5]) (ids := [1, 2, 3, 4, 801]) rfl rfl ?_)
        refine At.convM (.cons (.refl _) (.cons (.refl _) (.cons (.refl _) (.cons (.refl _) (.cons (y := bufL 53 7 enc_Way (s4.2 ++ ([s26] : List Way))) (BSim.seg (Seg.push (Seg.refl enc_Way _) (Seg.lit (f := enc_Way) (sz := 7) ([s26] : List Way) rfl rfl (fun _ => rfl)))) .nil))))) ?_
        refine At.inb ?_
        refine At.thenC ?_
        obtain ⟨hc28, H⟩ := of_must H
        refine W.region env [] [] rfl rfl rfl (.cons hc28 .nil) .nil (At.keep (ts := [1, 2, 3, 4, 5]) (ids := [1, 2, 3, 4, 801]) rfl rfl ?_)
        refine At.thenK (At.keep (ts := [1, 2, 3, 4, 5]) (ids := [1, 2, 3, 4, 801]) rfl rfl ?_)
        exact At.conv (.cons (.of_eq (by first | rfl | (simp; done) | omega | (simp; omega))) (.cons (.of_eq (by first | rfl | (simp; done) | omega | (simp; omega))) (.cons (.of_eq (by first | rfl | (simp; done) | omega | (simp; omega))) (.cons (.of_eq (by first | rfl | (simp; done) | omega | (simp; omega))) (.cons (.of_eq (by first | rfl | (simp; done) | omega | (simp; omega))) .nil))))) (.cons (.of_eq (by first | rfl | (simp; done) | omega | (simp; omega))) (.cons (.of_eq (by first | rfl | (simp; done) | omega | (simp; omega))) (.cons (.of_eq (by first | rfl | (simp; done) | omega | (simp; omega))) (.cons (.of_eq (by first | rfl | (simp; done) | omega | (simp; omega))) (.cons (.of_eq (by first | rfl | (simp; done) | omega | (simp; omega))) .nil))))) (hK4 ((s4.1 + 1), (s4.2 ++ ([s26] : List Way))) H)
      · refine W.cond rfl (fun hb29 => ?_) (fun hb29 => ?_)
        · have H := of_true H hb29
          obtain ⟨y30, hy31, H⟩ := of_bindO H
          obtain ⟨hc32, H⟩ := of_must H
          refine W.region env [] [⟨.int .i64 (y30), [], 0, []⟩] rfl rfl rfl (.cons (by decide) (.cons hc32 .nil)) (.free (c_gasolierref03_Mod ((p0.Ways.getD (s4.1).toNat default).x6) 40 hy31) .nil) (At.keep (ts := [1, 2, 3, 4, 5, 8]) (ids := [1, 2, 3, 4, 8, 801]) rfl rfl ?_)
          refine At.thenK (At.keep (ts := [1, 2, 3, 4, 5, 8]) (ids := [1, 2, 3, 4, 8, 801]) rfl rfl ?_)
          exact At.conv (.cons (.of_eq (by first | rfl | (simp; done) | omega | (simp; omega))) (.cons (.of_eq (by first | rfl | (simp; done) | omega | (simp; omega))) (.cons (.of_eq (by first | rfl | (simp; done) | omega | (simp; omega))) (.cons (.of_eq (by first | rfl | (simp; done) | omega | (simp; omega))) (.cons (.of_eq (by first | rfl | (simp; done) | omega | (simp; omega))) (.cons (.of_eq (by first | rfl | (simp; done) | omega | (simp; omega))) .nil)))))) (.cons (.of_eq (by first | rfl | (simp; done) | omega | (simp; omega))) (.cons (.of_eq (by first | rfl | (simp; done) | omega | (simp; omega))) (.cons (.of_eq (by first | rfl | (simp; done) | omega | (simp; omega))) (.cons (.of_eq (by first | rfl | (simp; done) | omega | (simp; omega))) (.cons (.of_eq (by first | rfl | (simp; done) | omega | (simp; omega))) (.cons (.of_eq (by first | rfl | (simp; done) | omega | (simp; omega))) .nil)))))) (hK26 (⟨s23.From, s23.To, s23.Takes, s23.Open, (1 + y30)⟩ : Way) H)
        · have H := of_false H hb29
          refine W.skip ?_
          refine At.thenK (At.keep (ts := [1, 2, 3, 4, 5, 8]) (ids := [1, 2, 3, 4, 8, 801]) rfl rfl ?_)
          exact At.conv (.cons (.of_eq (by first | rfl | (simp; done) | omega | (simp; omega))) (.cons (.of_eq (by first | rfl | (simp; done) | omega | (simp; omega))) (.cons (.of_eq (by first | rfl | (simp; done) | omega | (simp; omega))) (.cons (.of_eq (by first | rfl | (simp; done) | omega | (simp; omega))) (.cons (.of_eq (by first | rfl | (simp; done) | omega | (simp; omega))) (.cons (.of_eq (by first | rfl | (simp; done) | omega | (simp; omega))) .nil)))))) (.cons (.of_eq (by first | rfl | (simp; done) | omega | (simp; omega))) (.cons (.of_eq (by first | rfl | (simp; done) | omega | (simp; omega))) (.cons (.of_eq (by first | rfl | (simp; done) | omega | (simp; omega))) (.cons (.of_eq (by first | rfl | (simp; done) | omega | (simp; omega))) (.cons (.of_eq (by first | rfl | (simp; done) | omega | (simp; omega))) (.cons (.of_eq (by first | rfl | (simp; done) | omega | (simp; omega))) .nil)))))) (hK26 s23 H)
    · refine W.cond rfl (fun hb33 => ?_) (fun hb33 => ?_)
      · have H := of_true H hb33
        refine W.seq ?_
        obtain ⟨y34, hy35, H⟩ := of_bindO H
        refine W.region env [] [⟨.int .i64 (y34), [], 0, []⟩] rfl rfl rfl (.cons (by decide) .nil) (.free (c_gasolierref03_Mod ((p0.Ways.getD (s4.1).toNat default).x5) 200 hy35) .nil) (At.keep (ts := [1, 2, 3, 4, 5, 6, 8]) (ids := [1, 2, 3, 4, 6, 8, 801]) rfl rfl ?_)
        refine At.thenC ?_
        obtain ⟨y36, hy37, H⟩ := of_bindO H
        obtain ⟨hc38, H⟩ := of_must H
        refine W.region env [] [⟨.int .i64 (y36), [], 0, []⟩] rfl rfl rfl (.cons (by decide) (.cons hc38 .nil)) (.free (c_gasolierref03_Mod ((p0.Ways.getD (s4.1).toNat default).x6) 150 hy37) .nil) (At.keep (ts := [1, 2, 3, 4, 5, 6, 8]) (ids := [1, 2, 3, 4, 6, 8, 801]) rfl rfl ?_)
        refine At.thenK (At.keep (ts := [1, 2, 3, 4, 5, 6, 8]) (ids := [1, 2, 3, 4, 6, 8, 801]) rfl rfl ?_)
        exact At.conv (.cons (.of_eq (by first | rfl | (simp; done) | omega | (simp; omega))) (.cons (.of_eq (by first | rfl | (simp; done) | omega | (simp; omega))) (.cons (.of_eq (by first | rfl | (simp; done) | omega | (simp; omega))) (.cons (.of_eq (by first | rfl | (simp; done) | omega | (simp; omega))) (.cons (.of_eq (by first | rfl | (simp; done) | omega | (simp; omega))) (.cons (.of_eq (by first | rfl | (simp; done) | omega | (simp; omega))) (.cons (.of_eq (by first | rfl | (simp; done) | omega | (simp; omega))) .nil))))))) (.cons (.of_eq (by first | rfl | (simp; done) | omega | (simp; omega))) (.cons (.of_eq (by first | rfl | (simp; done) | omega | (simp; omega))) (.cons (.of_eq (by first | rfl | (simp; done) | omega | (simp; omega))) (.cons (.of_eq (by first | rfl | (simp; done) | omega | (simp; omega))) (.cons (.of_eq (by first | rfl | (simp; done) | omega | (simp; omega))) (.cons (.of_eq (by first | rfl | (simp; done) | omega | (simp; omega))) (.cons (.of_eq (by first | rfl | (simp; done) | omega | (simp; omega))) .nil))))))) (hK23 (⟨y7, (Int.tmod ((y7 + 1) + y11) (2 + y1)), (⟨(1 + y15), ((1 + y15) + y18)⟩ : Range), (⟨y34, (y34 + y36)⟩ : Range), 0⟩ : Way) H)
      · have H := of_false H hb33
        refine W.skip ?_
        refine At.thenK (At.keep (ts := [1, 2, 3, 4, 5, 6, 8]) (ids := [1, 2, 3, 4, 6, 8, 801]) rfl rfl ?_)
        exact At.conv (.cons (.of_eq (by first | rfl | (simp; done) | omega | (simp; omega))) (.cons (.of_eq (by first | rfl | (simp; done) | omega | (simp; omega))) (.cons (.of_eq (by first | rfl | (simp; done) | omega | (simp; omega))) (.cons (.of_eq (by first | rfl | (simp; done) | omega | (simp; omega))) (.cons (.of_eq (by first | rfl | (simp; done) | omega | (simp; omega))) (.cons (.of_eq (by first | rfl | (simp; done) | omega | (simp; omega))) (.cons (.of_eq (by first | rfl | (simp; done) | omega | (simp; omega))) .nil))))))) (.cons (.of_eq (by first | rfl | (simp; done) | omega | (simp; omega))) (.cons (.of_eq (by first | rfl | (simp; done) | omega | (simp; omega))) (.cons (.of_eq (by first | rfl | (simp; done) | omega | (simp; omega))) (.cons (.of_eq (by first | rfl | (simp; done) | omega | (simp; omega))) (.cons (.of_eq (by first | rfl | (simp; done) | omega | (simp; omega))) (.cons (.of_eq (by first | rfl | (simp; done) | omega | (simp; omega))) (.cons (.of_eq (by first | rfl | (simp; done) | omega | (simp; omega))) .nil))))))) (hK23 (⟨y7, (Int.tmod ((y7 + 1) + y11) (2 + y1)), (⟨(1 + y15), ((1 + y15) + y18)⟩ : Range), (⟨0, 1439⟩ : Range), 0⟩ : Way) H)
  · have H := of_false H hb5
    refine W.exit ?_
    refine At.xthen ?_
    refine At.xthen ?_
    refine At.xhere ?_
    refine At.thenC ?_
    refine W.seq ?_
    obtain ⟨y39, hy40, H⟩ := of_bindO H
    obtain ⟨y41, hy42, H⟩ := of_bindO H
    refine W.region env [] [⟨.int .i64 (y39), [], 0, []⟩, ⟨.int .i64 (y41), [], 0, []⟩] rfl rfl rfl (.cons (by decide) (.cons (by decide) .nil)) (.free (c_gasolierref03_Mod p0.Round.x0 (2 + y1) hy40) (.free (c_gasolierref03_Mod p0.Round.x1 150 hy42) .nil)) (At.keep (ts := [1, 2, 3, 4, 9]) (ids := [1, 2, 3, 4, 9, 801]) rfl rfl ?_)
    refine At.thenC ?_
    refine W.seq ?_
    refine W.region env [] [] rfl rfl rfl .nil .nil (At.keep (ts := [1, 2, 3, 4, 9, 10]) (ids := [1, 2, 3, 4, 9, 801]) rfl rfl ?_)
    refine At.thenC ?_
    refine W.seq ?_
    refine W.seq ?_
    refine W.region env [] [] rfl rfl rfl .nil .nil (At.keep (ts := [1, 2, 3, 4, 9, 10, 11]) (ids := [1, 2, 3, 4, 9, 801]) rfl rfl ?_)
    refine At.thenC ?_
    refine W.block ?_
    refine At.nilOwnCell 9 2 1052 87 4 (e := fun i => enc_Stop (([] : List Stop).getD i default)) rfl rfl rfl ?_
    refine At.keep (ts := [1, 2, 3, 4, 9, 10, 11]) (ids := [1, 2, 3, 4, 9, 801, 1052]) rfl rfl ?_
    refine W.loopGo H (fun (s43 : Int × Int × (List Stop)) => [(1, .lp 1 0), (2, .lp 2 0), (3, .lp 3 0), (4, .lp 4 0), (9, .lp 9 0), (10, .int .i64 (s43.1)), (11, .int .i64 (s43.2.1))]) (fun (s43 : Int × Int × (List Stop)) => [(1, .cells [.int .i64 (p0.Places), roL 7 enc_Arr7Int p0.Ways, .int .i64 (p0.Round.x0), .int .i64 (p0.Round.x1), roL 4 enc_Arr4Int p0.Stops]), (2, .cells [.int .i64 (0), .nilS]), (3, .cells [.int .i64 (0), .int .i64 (0), .nilS]), (4, .cells [.int .i64 ((2 + y1)), .buf 801 (s4.2).length]), (9, .cells [.int .i64 (y39), .int .i64 (y41), .buf 1052 (s43.2.2).length]), (801, bufL 53 7 enc_Way s4.2), (1052, bufL 87 4 enc_Stop s43.2.2)]) (.cons (.of_eq (by first | rfl | (simp; done) | omega | (simp; omega))) (.cons (.of_eq (by first | rfl | (simp; done) | omega | (simp; omega))) (.cons (.of_eq (by first | rfl | (simp; done) | omega | (simp; omega))) (.cons (.of_eq (by first | rfl | (simp; done) | omega | (simp; omega))) (.cons (.of_eq (by first | rfl | (simp; done) | omega | (simp; omega))) (.cons (.of_eq (by first | rfl | (simp; done) | omega | (simp; omega))) (.cons (.of_eq (by first | rfl | (simp; done) | omega | (simp; omega))) .nil))))))) (.cons (.of_eq (by first | rfl | (simp; done) | omega | (simp; omega))) (.cons (.of_eq (by first | rfl | (simp; done) | omega | (simp; omega))) (.cons (.of_eq (by first | rfl | (simp; done) | omega | (simp; omega))) (.cons (.of_eq (by first | rfl | (simp; done) | omega | (simp; omega))) (.cons (.of_eq (by first | rfl | (simp; done) | omega | (simp; omega))) (.cons (.of_eq (by first | rfl | (simp; done) | omega | (simp; omega))) (.cons (.of_eq (by first | rfl | (simp; done) | omega | (simp; omega))) .nil))))))) (fun k43 s43 H K0 hK43 => ?_)
    refine W.seq ?_
    refine W.seq ?_
    refine W.region env [] [] rfl rfl rfl (.cons (fun h => h) (.cons (fun h => h) .nil)) .nil (At.keep (ts := [1, 2, 3, 4, 9, 10, 11, 125]) (ids := [1, 2, 3, 4, 9, 801, 1052]) rfl rfl ?_)
    refine At.thenC ?_
    refine W.cond rfl (fun hb44 => ?_) (fun hb44 => ?_)
    · have H := of_true H hb44
      refine W.skip ?_
      refine At.thenC ?_
      refine W.seq ?_
      refine W.block ?_
      refine W.seq ?_
      obtain ⟨hc45, H⟩ := of_must H
      refine W.region env [] [] rfl rfl rfl (.cons hc45 .nil) .nil (At.keep (ts := [1, 2, 3, 4, 9, 10, 11, 12]) (ids := [1, 2, 3, 4, 9, 12, 801, 1052]) rfl rfl ?_)
      refine At.thenC ?_
      refine W.seq ?_
      obtain ⟨y46, hy47, H⟩ := of_bindO H
      obtain ⟨y48, hy49, H⟩ := of_bindO H
      refine W.region env [] [⟨.int .i64 (y46), [], 0, []⟩, ⟨.int .i64 (y48), [], 0, []⟩] rfl rfl rfl (.cons (by decide) (.cons (by decide) .nil)) (.free (c_gasolierref03_Mod ((p0.Stops.getD (s43.2.1).toNat default).x0) (2 + y1) hy47) (.free (c_gasolierref03_Mod ((p0.Stops.getD (s43.2.1).toNat default).x3) 9 hy49) .nil)) (At.keep (ts := [1, 2, 3, 4, 9, 10, 11, 12, 13]) (ids := [1, 2, 3, 4, 9, 12, 13, 801, 1052]) rfl rfl ?_)
      refine At.thenC ?_
      refine W.seq ?_
      obtain ⟨y50, hy51, H⟩ := of_bindO H
      obtain ⟨hc52, H⟩ := of_must H
      obtain ⟨hc53, H⟩ := of_must H
      refine W.region env [] [⟨.int .i64 (y50), [], 0, []⟩] rfl rfl rfl (.cons (by decide) (.cons hc52 (.cons hc53 .nil))) (.free (c_gasolierref03_Mod ((p0.Stops.getD (s43.2.1).toNat default).x1) 40 hy51) .nil) (At.keep (ts := [1, 2, 3, 4, 9, 11, 12, 13]) (ids := [1, 2, 3, 4, 9, 12, 13, 801, 1052]) rfl rfl ?_)
      refine At.thenC ?_
      refine W.seq ?_
      refine W.region env [] [] rfl rfl rfl .nil .nil (At.keep (ts := [1, 2, 3, 4, 9, 11, 12, 13]) (ids := [1, 2, 3, 4, 9, 12, 13, 801, 1052]) rfl rfl ?_)
      refine At.thenC ?_
      refine W.seq ?_
      obtain ⟨y54, hy55, H⟩ := of_bindO H
      obtain ⟨hc56, H⟩ := of_must H
      refine W.region env [] [⟨.int .i64 (y54), [], 0, []⟩] rfl rfl rfl (.cons (by decide) (.cons hc56 .nil)) (.free (c_gasolierref03_Mod ((p0.Stops.getD (s43.2.1).toNat default).x2) 60 hy55) .nil) (At.keep (ts := [1, 2, 3, 4, 9, 11, 13]) (ids := [1, 2, 3, 4, 9, 13, 801, 1052]) rfl rfl ?_)
      refine At.thenC ?_
      refine W.seq ?_
      refine W.region env [] [] rfl rfl rfl .nil .nil (At.keep (ts := [1, 2, 3, 4, 9, 10, 11, 13]) (ids := [1, 2, 3, 4, 9, 13, 801, 1052]) rfl rfl ?_)
      refine At.thenC ?_
      obtain ⟨hc57, H⟩ := of_must H
      refine W.region env [] [] rfl rfl rfl (.cons (⟨by first | rfl | (simp; done) | omega | (simp; omega), by have := hc57; first | simpa using this | (unfold room at this ⊢; simp at this ⊢; omega)⟩) .nil) .nil (At.keep (ts := [1, 2, 3, 4, 9, 10, 11]) (ids := [1, 2, 3, 4, 9, 801, 1052]) rfl rfl ?_)
      refine At.convM (.cons (.refl _) (.cons (.refl _) (.cons (.refl _) (.cons (.refl _) (.cons (.refl _) (.cons (.refl _) (.cons (y := bufL 87 4 enc_Stop (s43.2.2 ++ ([(⟨y46, (⟨(max ((s43.1 + y50) - 10) 0), ((max ((s43.1 + y50) - 10) 0) + y54)⟩ : Range), y48⟩ : Stop)] : List Stop))) (BSim.seg (Seg.push (Seg.refl enc_Stop _) (Seg.lit (f := enc_Stop) (sz := 4) ([(⟨y46, (⟨(max ((s43.1 + y50) - 10) 0), ((max ((s43.1 + y50) - 10) 0) + y54)⟩ : Range), y48⟩ : Stop)] : List Stop) rfl rfl (fun _ => rfl)))) .nil))))))) ?_
      refine At.inb ?_
      refine At.thenC ?_
      obtain ⟨hc58, H⟩ := of_must H
      refine W.region env [] [] rfl rfl rfl (.cons hc58 .nil) .nil (At.keep (ts := [1, 2, 3, 4, 9, 10, 11]) (ids := [1, 2, 3, 4, 9, 801, 1052]) rfl rfl ?_)
      refine At.thenK (At.keep (ts := [1, 2, 3, 4, 9, 10, 11]) (ids := [1, 2, 3, 4, 9, 801, 1052]) rfl rfl ?_)
      exact At.conv (.cons (.of_eq (by first | rfl | (simp; done) | omega | (simp; omega))) (.cons (.of_eq (by first | rfl | (simp; done) | omega | (simp; omega))) (.cons (.of_eq (by first | rfl | (simp; done) | omega | (simp; omega))) (.cons (.of_eq (by first | rfl | (simp; done) | omega | (simp; omega))) (.cons (.of_eq (by first | rfl | (simp; done) | omega | (simp; omega))) (.cons (.of_eq (by first | rfl | (simp; done) | omega | (simp; omega))) (.cons (.of_eq (by first | rfl | (simp; done) | omega | (simp; omega))) .nil))))))) (.cons (.of_eq (by first | rfl | (simp; done) | omega | (simp; omega))) (.cons (.of_eq (by first | rfl | (simp; done) | omega | (simp; omega))) (.cons (.of_eq (by first | rfl | (simp; done) | omega | (simp; omega))) (.cons (.of_eq (by first | rfl | (simp; done) | omega | (simp; omega))) (.cons (.of_eq (by first | rfl | (simp; done) | omega | (simp; omega))) (.cons (.of_eq (by first | rfl | (simp; done) | omega | (simp; omega))) (.cons (.of_eq (by first | rfl | (simp; done) | omega | (simp; omega))) .nil))))))) (hK43 ((max ((s43.1 + y50) - 10) 0), (s43.2.1 + 1), (s43.2.2 ++ ([(⟨y46, (⟨(max ((s43.1 + y50) - 10) 0), ((max ((s43.1 + y50) - 10) 0) + y54)⟩ : Range), y48⟩ : Stop)] : List Stop))) H)
    · have H := of_false H hb44
      refine W.exit ?_
      refine At.xthen ?_
      refine At.xthen ?_
      refine At.xhere ?_
      refine At.thenC ?_
      refine W.seq ?_
      refine W.region env [] [] rfl rfl rfl .nil .nil (At.keep (ts := [2, 3]) (ids := [2, 3, 801, 1052]) rfl rfl ?_)
      refine At.thenC ?_
      refine W.ret ?_
      cases H
      exact At.ret env.ty rfl rfl (fun q hq => by cases hq; exact ⟨by first | rfl | (simp; done) | omega | (simp; omega), (by first | rfl | (simp; done) | omega | (simp; omega))⟩) (.refl _) hval

theorem co_gasolierref03_Made_o1_4 (fuel : Nat) (p0 : gasolierref03_Raw) {r : (Chart × Round)} (H : gasolierref03_Made fuel p0 = some r) : CtrO Try.prog 20 [.agg [.int .i64 (p0.Places), roL 7 enc_Arr7Int p0.Ways, .int .i64 (p0.Round.x0), .int .i64 (p0.Round.x1), roL 4 enc_Arr4Int p0.Stops]] [] (.tup [.agg [.int .i64 (r.1.Places), .buf 940 (r.1.Ways).length], .agg [.int .i64 (r.2.Place), .int .i64 (r.2.At), .buf 941 (r.2.Stops).length]]) [(940, bufL 53 7 enc_Way r.1.Ways), (941, bufL 87 4 enc_Stop r.2.Stops)] := by
  unfold gasolierref03_Made at H
  refine CtrO.of_body (N := 176) Try.func20 (by kernel_rfl) (c := _) rfl Try.ntmps20 rfl (fun w0 h0 ρb hval hdom => ?_)
  refine W.seq ?_
  refine W.region env [] [] rfl rfl rfl .nil .nil (At.keep (ts := [1, 2, 3]) (ids := [1, 2, 3]) rfl rfl ?_)
  refine At.thenC ?_
  refine W.seq ?_
  obtain ⟨y1, hy2, H⟩ := of_bindO H
  obtain ⟨hc3, H⟩ := of_must H
  refine W.region env [] [⟨.int .i64 (y1), [], 0, []⟩] rfl rfl rfl (.cons hc3 .nil) (.free (c_gasolierref03_Mod p0.Places 5 hy2) .nil) (At.keep (ts := [1, 2, 3, 4]) (ids := [1, 2, 3, 4]) rfl rfl ?_)
  refine At.thenC ?_
  refine W.seq ?_
  refine W.seq ?_
  refine W.region env [] [] rfl rfl rfl .nil .nil (At.keep (ts := [1, 2, 3, 4, 5]) (ids := [1, 2, 3, 4]) rfl rfl ?_)
  refine At.thenC ?_
  refine W.block ?_
  refine At.nilOwnCell 4 1 801 53 7 (e := fun i => enc_Way (([] : List Way).getD i default)) rfl rfl rfl ?_
  refine At.keep (ts := [1, 2, 3, 4, 5]) (ids := [1, 2, 3, 4, 801]) rfl rfl ?_
  refine W.loopGo H (fun (s4 : Int × (List Way)) => [(1, .lp 1 0), (2, .lp 2 0), (3, .lp 3 0), (4, .lp 4 0), (5, .int .i64 (s4.1))]) (fun (s4 : Int × (List Way)) => [(1, .cells [.int .i64 (p0.Places), roL 7 enc_Arr7Int p0.Ways, .int .i64 (p0.Round.x0), .int .i64 (p0.Round.x1), roL 4 enc_Arr4Int p0.Stops]), (2, .cells [.int .i64 (0), .nilS]), (3, .cells [.int .i64 (0), .int .i64 (0), .nilS]), (4, .cells [.int .i64 ((2 + y1)), .buf 801 (s4.2).length]), (801, bufL 53 7 enc_Way s4.2)]) (.cons (.of_eq (by first | rfl | (simp; done) | omega | (simp; omega))) (.cons (.of_eq (by first | rfl | (simp; done) | omega | (simp; omega))) (.cons (.of_eq (by first | rfl | (simp; done) | omega | (simp; omega))) (.cons (.of_eq (by first | rfl | (simp; done) | omega | (simp; omega))) (.cons (.of_eq (by first | rfl | (simp; done) | omega | (simp; omega))) .nil))))) (.cons (.of_eq (by first | rfl | (simp; done) | omega | (simp; omega))) (.cons (.of_eq (by first | rfl | (simp; done) | omega | (simp; omega))) (.cons (.of_eq (by first | rfl | (simp; done) | omega | (simp; omega))) (.cons (.of_eq (by first | rfl | (simp; done) | omega | (simp; omega))) (.cons (.of_eq (by first | rfl | (simp; done) | omega | (simp; omega))) .nil))))) (fun k4 s4 H K0 hK4 => ?_)
  refine W.seq ?_
  refine W.seq ?_
  refine W.region env [] [] rfl rfl rfl (.cons (fun h => h) (.cons (fun h => h) .nil)) .nil (At.keep (ts := [1, 2, 3, 4, 5, 27]) (ids := [1, 2, 3, 4, 801]) rfl rfl ?_)
  refine At.thenC ?_
  refine W.cond rfl (fun hb5 => ?_) (fun hb5 => ?_)
  · have H := of_true H hb5
    refine W.skip ?_
    refine At.thenC ?_
    refine W.seq ?_
    refine W.block ?_
    refine W.seq ?_
    obtain ⟨hc6, H⟩ := of_must H
    refine W.region env [] [] rfl rfl rfl (.cons hc6 .nil) .nil (At.keep (ts := [1, 2, 3, 4, 5, 6]) (ids := [1, 2, 3, 4, 6, 801]) rfl rfl ?_)
    refine At.thenC ?_
    refine W.seq ?_
    obtain ⟨y7, hy8, H⟩ := of_bindO H
    refine W.region env [] [⟨.int .i64 (y7), [], 0, []⟩] rfl rfl rfl (.cons (by decide) .nil) (.free (c_gasolierref03_Mod ((p0.Ways.getD (s4.1).toNat default).x0) (2 + y1) hy8) .nil) (At.keep (ts := [1, 2, 3, 4, 5, 6, 7]) (ids := [1, 2, 3, 4, 6, 801]) rfl rfl ?_)
    refine At.thenC ?_
    refine W.seq ?_
    obtain ⟨hc9, H⟩ := of_must H
    obtain ⟨hc10, H⟩ := of_must H
    obtain ⟨y11, hy12, H⟩ := of_bindO H
    obtain ⟨hc13, H⟩ := of_must H
    obtain ⟨hc14, H⟩ := of_must H
    refine W.region env [] [⟨.int .i64 (y11), [], 0, []⟩] rfl rfl rfl (.cons hc9 (.cons (by decide) (.cons hc10 (.cons hc13 (.cons hc14 .nil))))) (.free (c_gasolierref03_Mod ((p0.Ways.getD (s4.1).toNat default).x1) ((2 + y1) - 1) hy12) .nil) (At.keep (ts := [1, 2, 3, 4, 5, 6, 8]) (ids := [1, 2, 3, 4, 6, 8, 801]) rfl rfl ?_)
    refine At.thenC ?_
    refine W.seq ?_
    obtain ⟨y15, hy16, H⟩ := of_bindO H
    obtain ⟨hc17, H⟩ := of_must H
    refine W.region env [] [⟨.int .i64 (y15), [], 0, []⟩] rfl rfl rfl (.cons (by decide) (.cons hc17 .nil)) (.free (c_gasolierref03_Mod ((p0.Ways.getD (s4.1).toNat default).x2) 20 hy16) .nil) (At.keep (ts := [1, 2, 3, 4, 5, 6, 8]) (ids := [1, 2, 3, 4, 6, 8, 801]) rfl rfl ?_)
    refine At.thenC ?_
    refine W.seq ?_
    obtain ⟨y18, hy19, H⟩ := of_bindO H
    obtain ⟨hc20, H⟩ := of_must H
    refine W.region env [] [⟨.int .i64 (y18), [], 0, []⟩] rfl rfl rfl (.cons (by decide) (.cons hc20 .nil)) (.free (c_gasolierref03_Mod ((p0.Ways.getD (s4.1).toNat default).x3) 12 hy19) .nil) (At.keep (ts := [1, 2, 3, 4, 5, 6, 8]) (ids := [1, 2, 3, 4, 6, 8, 801]) rfl rfl ?_)
    refine At.thenC ?_
    refine W.seq ?_
    refine W.region env [] [] rfl rfl rfl .nil .nil (At.keep (ts := [1, 2, 3, 4, 5, 6, 8]) (ids := [1, 2, 3, 4, 6, 8, 801]) rfl rfl ?_)
    refine At.thenC ?_
    refine W.seq ?_
    refine W.seq ?_
    obtain ⟨y21, hy22, H⟩ := of_bindO H
    refine W.region env [] [⟨.int .i64 (y21), [], 0, []⟩] rfl rfl rfl (.cons (by decide) .nil) (.free (c_gasolierref03_Mod ((p0.Ways.getD (s4.1).toNat default).x4) 3 hy22) .nil) (At.keep (ts := [1, 2, 3, 4, 5, 6, 8, 74]) (ids := [1, 2, 3, 4, 6, 8, 801]) rfl rfl ?_)
    refine At.thenC ?_
    refine W.joinC H (fun (s23 : Way) => [(1, .lp 1 0), (2, .lp 2 0), (3, .lp 3 0), (4, .lp 4 0), (5, .int .i64 (s4.1)), (6, .lp 6 0), (8, .lp 8 0)]) (fun (s23 : Way) => [(1, .cells [.int .i64 (p0.Places), roL 7 enc_Arr7Int p0.Ways, .int .i64 (p0.Round.x0), .int .i64 (p0.Round.x1), roL 4 enc_Arr4Int p0.Stops]), (2, .cells [.int .i64 (0), .nilS]), (3, .cells [.int .i64 (0), .int .i64 (0), .nilS]), (4, .cells [.int .i64 ((2 + y1)), .buf 801 (s4.2).length]), (6, .cells [.int .i64 ((p0.Ways.getD (s4.1).toNat default).x0), .int .i64 ((p0.Ways.getD (s4.1).toNat default).x1), .int .i64 ((p0.Ways.getD (s4.1).toNat default).x2), .int .i64 ((p0.Ways.getD (s4.1).toNat default).x3), .int .i64 ((p0.Ways.getD (s4.1).toNat default).x4), .int .i64 ((p0.Ways.getD (s4.1).toNat default).x5), .int .i64 ((p0.Ways.getD (s4.1).toNat default).x6)]), (8, .cells [.int .i64 (s23.From), .int .i64 (s23.To), .int .i64 (s23.Takes.Lo), .int .i64 (s23.Takes.Hi), .int .i64 (s23.Open.Lo), .int .i64 (s23.Open.Hi), .int .i64 (s23.Every)]), (801, bufL 53 7 enc_Way s4.2)]) (fun s23 H => ?_) (fun k23 H hK23 => ?_)
    · refine W.seq ?_
      refine W.seq ?_
      obtain ⟨y24, hy25, H⟩ := of_bindO H
      refine W.region env [] [⟨.int .i64 (y24), [], 0, []⟩] rfl rfl rfl (.cons (by decide) .nil) (.free (c_gasolierref03_Mod ((p0.Ways.getD (s4.1).toNat default).x4) 3 hy25) .nil) (At.keep (ts := [1, 2, 3, 4, 5, 6, 8, 92]) (ids := [1, 2, 3, 4, 6, 8, 801]) rfl rfl ?_)
      refine At.thenC ?_
      refine W.joinC H (fun (s26 : Way) => [(1, .lp 1 0), (2, .lp 2 0), (3, .lp 3 0), (4, .lp 4 0), (5, .int .i64 (s4.1)), (8, .lp 8 0)]) (fun (s26 : Way) => [(1, .cells [.int .i64 (p0.Places), roL 7 enc_Arr7Int p0.Ways, .int .i64 (p0.Round.x0), .int .i64 (p0.Round.x1), roL 4 enc_Arr4Int p0.Stops]), (2, .cells [.int .i64 (0), .nilS]), (3, .cells [.int .i64 (0), .int .i64 (0), .nilS]), (4, .cells [.int .i64 ((2 + y1)), .buf 801 (s4.2).length]), (8, .cells [.int .i64 (s26.From), .int .i64 (s26.To), .int .i64 (s26.Takes.Lo), .int .i64 (s26.Takes.Hi), .int .i64 (s26.Open.Lo), .int .i64 (s26.Open.Hi), .int .i64 (s26.Every)]), (801, bufL 53 7 enc_Way s4.2)]) (fun s26 H => ?_) (fun k26 H hK26 => ?_)
      · obtain ⟨hc27, H⟩ := of_must H
        refine W.region env [] [] rfl rfl rfl (.cons (⟨by first | rfl | (simp; done) | omega | (simp; omega), by have := hc27; first | simpa using this | (unfold room at this ⊢; simp at this ⊢; omega)⟩) .nil) .nil (At.keep (ts := [1, 2, 3, 4, 5]) (ids := [1, 2, 3, 4, 801]) rfl rfl ?_)
        refine At.convM (.cons (.refl _) (.cons (.refl _) (.cons (.refl _) (.cons (.refl _) (.cons (y := bufL 53 7 enc_Way (s4.2 ++ ([s26] : List Way))) (BSim.seg (Seg.push (Seg.refl enc_Way _) (Seg.lit (f := enc_Way) (sz := 7) ([s26] : List Way) rfl rfl (fun _ => rfl)))) .nil))))) ?_
        refine At.inb ?_
        refine At.thenC ?_
        obtain ⟨hc28, H⟩ := of_must H
        refine W.region env [] [] rfl rfl rfl (.cons hc28 .nil) .nil (At.keep (ts := [1, 2, 3, 4, 5]) (ids := [1, 2, 3, 4, 801]) rfl rfl ?_)
        refine At.thenK (At.keep (ts := [1, 2, 3, 4, 5]) (ids := [1, 2, 3, 4, 801]) rfl rfl ?_)
        exact At.conv (.cons (.of_eq (by first | rfl | (simp; done) | omega | (simp; omega))) (.cons (.of_eq (by first | rfl | (simp; done) | omega | (simp; omega))) (.cons (.of_eq (by first | rfl | (simp; done) | omega | (simp; omega))) (.cons (.of_eq (by first | rfl | (simp; done) | omega | (simp; omega))) (.cons (.of_eq (by first | rfl | (simp; done) | omega | (simp; omega))) .nil))))) (.cons (.of_eq (by first | rfl | (simp; done) | omega | (simp; omega))) (.cons (.of_eq (by first | rfl | (simp; done) | omega | (simp; omega))) (.cons (.of_eq (by first | rfl | (simp; done) | omega | (simp; omega))) (.cons (.of_eq (by first | rfl | (simp; done) | omega | (simp; omega))) (.cons (.of_eq (by first | rfl | (simp; done) | omega | (simp; omega))) .nil))))) (hK4 ((s4.1 + 1), (s4.2 ++ ([s26] : List Way))) H)
      · refine W.cond rfl (fun hb29 => ?_) (fun hb29 => ?_)
        · have H := of_true H hb29
          obtain ⟨y30, hy31, H⟩ := of_bindO H
          obtain ⟨hc32, H⟩ := of_must H
          refine W.region env [] [⟨.int .i64 (y30), [], 0, []⟩] rfl rfl rfl (.cons (by decide) (.cons hc32 .nil)) (.free (c_gasolierref03_Mod ((p0.Ways.getD (s4.1).toNat default).x6) 40 hy31) .nil) (At.keep (ts := [1, 2, 3, 4, 5, 8]) (ids := [1, 2, 3, 4, 8, 801]) rfl rfl ?_)
          refine At.thenK (At.keep (ts := [1, 2, 3, 4, 5, 8]) (ids := [1, 2, 3, 4, 8, 801]) rfl rfl ?_)
          exact At.conv (.cons (.of_eq (by first | rfl | (simp; done) | omega | (simp; omega))) (.cons (.of_eq (by first | rfl | (simp; done) | omega | (simp; omega))) (.cons (.of_eq (by first | rfl | (simp; done) | omega | (simp; omega))) (.cons (.of_eq (by first | rfl | (simp; done) | omega | (simp; omega))) (.cons (.of_eq (by first | rfl | (simp; done) | omega | (simp; omega))) (.cons (.of_eq (by first | rfl | (simp; done) | omega | (simp; omega))) .nil)))))) (.cons (.of_eq (by first | rfl | (simp; done) | omega | (simp; omega))) (.cons (.of_eq (by first | rfl | (simp; done) | omega | (simp; omega))) (.cons (.of_eq (by first | rfl | (simp; done) | omega | (simp; omega))) (.cons (.of_eq (by first | rfl | (simp; done) | omega | (simp; omega))) (.cons (.of_eq (by first | rfl | (simp; done) | omega | (simp; omega))) (.cons (.of_eq (by first | rfl | (simp; done) | omega | (simp; omega))) .nil)))))) (hK26 (⟨s23.From, s23.To, s23.Takes, s23.Open, (1 + y30)⟩ : Way) H)
        · have H := of_false H hb29
          refine W.skip ?_
          refine At.thenK (At.keep (ts := [1, 2, 3, 4, 5, 8]) (ids := [1, 2, 3, 4, 8, 801]) rfl rfl ?_)
          exact At.conv (.cons (.of_eq (by first | rfl | (simp; done) | omega | (simp; omega))) (.cons (.of_eq (by first | rfl | (simp; done) | omega | (simp; omega))) (.cons (.of_eq (by first | rfl | (simp; done) | omega | (simp; omega))) (.cons (.of_eq (by first | rfl | (simp; done) | omega | (simp; omega))) (.cons (.of_eq (by first | rfl | (simp; done) | omega | (simp; omega))) (.cons (.of_eq (by first | rfl | (simp; done) | omega | (simp; omega))) .nil)))))) (.cons (.of_eq (by first | rfl | (simp; done) | omega | (simp; omega))) (.cons (.of_eq (by first | rfl | (simp; done) | omega | (simp; omega))) (.cons (.of_eq (by first | rfl | (simp; done) | omega | (simp; omega))) (.cons (.of_eq (by first | rfl | (simp; done) | omega | (simp; omega))) (.cons (.of_eq (by first | rfl | (simp; done) | omega | (simp; omega))) (.cons (.of_eq (by first | rfl | (simp; done) | omega | (simp; omega))) .nil)))))) (hK26 s23 H)
    · refine W.cond rfl (fun hb33 => ?_) (fun hb33 => ?_)
      · have H := of_true H hb33
        refine W.seq ?_
        obtain ⟨y34, hy35, H⟩ := of_bindO H
        refine W.region env [] [⟨.int .i64 (y34), [], 0, []⟩] rfl rfl rfl (.cons (by decide) .nil) (.free (c_gasolierref03_Mod ((p0.Ways.getD (s4.1).toNat default).x5) 200 hy35) .nil) (At.keep (ts := [1, 2, 3, 4, 5, 6, 8]) (ids := [1, 2, 3, 4, 6, 8, 801]) rfl rfl ?_)
        refine At.thenC ?_
        obtain ⟨y36, hy37, H⟩ := of_bindO H
        obtain ⟨hc38, H⟩ := of_must H
        refine W.region env [] [⟨.int .i64 (y36), [], 0, []⟩] rfl rfl rfl (.cons (by decide) (.cons hc38 .nil)) (.free (c_gasolierref03_Mod ((p0.Ways.getD (s4.1).toNat default).x6) 150 hy37) .nil) (At.keep (ts := [1, 2, 3, 4, 5, 6, 8]) (ids := [1, 2, 3, 4, 6, 8, 801]) rfl rfl ?_)
        refine At.thenK (At.keep (ts := [1, 2, 3, 4, 5, 6, 8]) (ids := [1, 2, 3, 4, 6, 8, 801]) rfl rfl ?_)
        exact At.conv (.cons (.of_eq (by first | rfl | (simp; done) | omega | (simp; omega))) (.cons (.of_eq (by first | rfl | (simp; done) | omega | (simp; omega))) (.cons (.of_eq (by first | rfl | (simp; done) | omega | (simp; omega))) (.cons (.of_eq (by first | rfl | (simp; done) | omega | (simp; omega))) (.cons (.of_eq (by first | rfl | (simp; done) | omega | (simp; omega))) (.cons (.of_eq (by first | rfl | (simp; done) | omega | (simp; omega))) (.cons (.of_eq (by first | rfl | (simp; done) | omega | (simp; omega))) .nil))))))) (.cons (.of_eq (by first | rfl | (simp; done) | omega | (simp; omega))) (.cons (.of_eq (by first | rfl | (simp; done) | omega | (simp; omega))) (.cons (.of_eq (by first | rfl | (simp; done) | omega | (simp; omega))) (.cons (.of_eq (by first | rfl | (simp; done) | omega | (simp; omega))) (.cons (.of_eq (by first | rfl | (simp; done) | omega | (simp; omega))) (.cons (.of_eq (by first | rfl | (simp; done) | omega | (simp; omega))) (.cons (.of_eq (by first | rfl | (simp; done) | omega | (simp; omega))) .nil))))))) (hK23 (⟨y7, (Int.tmod ((y7 + 1) + y11) (2 + y1)), (⟨(1 + y15), ((1 + y15) + y18)⟩ : Range), (⟨y34, (y34 + y36)⟩ : Range), 0⟩ : Way) H)
      · have H := of_false H hb33
        refine W.skip ?_
        refine At.thenK (At.keep (ts := [1, 2, 3, 4, 5, 6, 8]) (ids := [1, 2, 3, 4, 6, 8, 801]) rfl rfl ?_)
        exact At.conv (.cons (.of_eq (by first | rfl | (simp; done) | omega | (simp; omega))) (.cons (.of_eq (by first | rfl | (simp; done) | omega | (simp; omega))) (.cons (.of_eq (by first | rfl | (simp; done) | omega | (simp; omega))) (.cons (.of_eq (by first | rfl | (simp; done) | omega | (simp; omega))) (.cons (.of_eq (by first | rfl | (simp; done) | omega | (simp; omega))) (.cons (.of_eq (by first | rfl | (simp; done) | omega | (simp; omega))) (.cons (.of_eq (by first | rfl | (simp; done) | omega | (simp; omega))) .nil))))))) (.cons (.of_eq (by first | rfl | (simp; done) | omega | (simp; omega))) (.cons (.of_eq (by first | rfl | (simp; done) | omega | (simp; omega))) (.cons (.of_eq (by first | rfl | (simp; done) | omega | (simp; omega))) (.cons (.of_eq (by first | rfl | (simp; done) | omega | (simp; omega))) (.cons (.of_eq (by first | rfl | (simp; done) | omega | (simp; omega))) (.cons (.of_eq (by first | rfl | (simp; done) | omega | (simp; omega))) (.cons (.of_eq (by first | rfl | (simp; done) | omega | (simp; omega))) .nil))))))) (hK23 (⟨y7, (Int.tmod ((y7 + 1) + y11) (2 + y1)), (⟨(1 + y15), ((1 + y15) + y18)⟩ : Range), (⟨0, 1439⟩ : Range), 0⟩ : Way) H)
  · have H := of_false H hb5
    refine W.exit ?_
    refine At.xthen ?_
    refine At.xthen ?_
    refine At.xhere ?_
    refine At.thenC ?_
    refine W.seq ?_
    obtain ⟨y39, hy40, H⟩ := of_bindO H
    obtain ⟨y41, hy42, H⟩ := of_bindO H
    refine W.region env [] [⟨.int .i64 (y39), [], 0, []⟩, ⟨.int .i64 (y41), [], 0, []⟩] rfl rfl rfl (.cons (by decide) (.cons (by decide) .nil)) (.free (c_gasolierref03_Mod p0.Round.x0 (2 + y1) hy40) (.free (c_gasolierref03_Mod p0.Round.x1 150 hy42) .nil)) (At.keep (ts := [1, 2, 3, 4, 9]) (ids := [1, 2, 3, 4, 9, 801]) rfl rfl ?_)
    refine At.thenC ?_
    refine W.seq ?_
    refine W.region env [] [] rfl rfl rfl .nil .nil (At.keep (ts := [1, 2, 3, 4, 9, 10]) (ids := [1, 2, 3, 4, 9, 801]) rfl rfl ?_)
    refine At.thenC ?_
    refine W.seq ?_
    refine W.seq ?_
    refine W.region env [] [] rfl rfl rfl .nil .nil (At.keep (ts := [1, 2, 3, 4, 9, 10, 11]) (ids := [1, 2, 3, 4, 9, 801]) rfl rfl ?_)
    refine At.thenC ?_
    refine W.block ?_
    refine At.nilOwnCell 9 2 1052 87 4 (e := fun i => enc_Stop (([] : List Stop).getD i default)) rfl rfl rfl ?_
    refine At.keep (ts := [1, 2, 3, 4, 9, 10, 11]) (ids := [1, 2, 3, 4, 9, 801, 1052]) rfl rfl ?_
    refine W.loopGo H (fun (s43 : Int × Int × (List Stop)) => [(1, .lp 1 0), (2, .lp 2 0), (3, .lp 3 0), (4, .lp 4 0), (9, .lp 9 0), (10, .int .i64 (s43.1)), (11, .int .i64 (s43.2.1))]) (fun (s43 : Int × Int × (List Stop)) => [(1, .cells [.int .i64 (p0.Places), roL 7 enc_Arr7Int p0.Ways, .int .i64 (p0.Round.x0), .int .i64 (p0.Round.x1), roL 4 enc_Arr4Int p0.Stops]), (2, .cells [.int .i64 (0), .nilS]), (3, .cells [.int .i64 (0), .int .i64 (0), .nilS]), (4, .cells [.int .i64 ((2 + y1)), .buf 801 (s4.2).length]), (9, .cells [.int .i64 (y39), .int .i64 (y41), .buf 1052 (s43.2.2).length]), (801, bufL 53 7 enc_Way s4.2), (1052, bufL 87 4 enc_Stop s43.2.2)]) (.cons (.of_eq (by first | rfl | (simp; done) | omega | (simp; omega))) (.cons (.of_eq (by first | rfl | (simp; done) | omega | (simp; omega))) (.cons (.of_eq (by first | rfl | (simp; done) | omega | (simp; omega))) (.cons (.of_eq (by first | rfl | (simp; done) | omega | (simp; omega))) (.cons (.of_eq (by first | rfl | (simp; done) | omega | (simp; omega))) (.cons (.of_eq (by first | rfl | (simp; done) | omega | (simp; omega))) (.cons (.of_eq (by first | rfl | (simp; done) | omega | (simp; omega))) .nil))))))) (.cons (.of_eq (by first | rfl | (simp; done) | omega | (simp; omega))) (.cons (.of_eq (by first | rfl | (simp; done) | omega | (simp; omega))) (.cons (.of_eq (by first | rfl | (simp; done) | omega | (simp; omega))) (.cons (.of_eq (by first | rfl | (simp; done) | omega | (simp; omega))) (.cons (.of_eq (by first | rfl | (simp; done) | omega | (simp; omega))) (.cons (.of_eq (by first | rfl | (simp; done) | omega | (simp; omega))) (.cons (.of_eq (by first | rfl | (simp; done) | omega | (simp; omega))) .nil))))))) (fun k43 s43 H K0 hK43 => ?_)
    refine W.seq ?_
    refine W.seq ?_
    refine W.region env [] [] rfl rfl rfl (.cons (fun h => h) (.cons (fun h => h) .nil)) .nil (At.keep (ts := [1, 2, 3, 4, 9, 10, 11, 125]) (ids := [1, 2, 3, 4, 9, 801, 1052]) rfl rfl ?_)
    refine At.thenC ?_
    refine W.cond rfl (fun hb44 => ?_) (fun hb44 => ?_)
    · have H := of_true H hb44
      refine W.skip ?_
      refine At.thenC ?_
      refine W.seq ?_
      refine W.block ?_
      refine W.seq ?_
      obtain ⟨hc45, H⟩ := of_must H
      refine W.region env [] [] rfl rfl rfl (.cons hc45 .nil) .nil (At.keep (ts := [1, 2, 3, 4, 9, 10, 11, 12]) (ids := [1, 2, 3, 4, 9, 12, 801, 1052]) rfl rfl ?_)
      refine At.thenC ?_
      refine W.seq ?_
      obtain ⟨y46, hy47, H⟩ := of_bindO H
      obtain ⟨y48, hy49, H⟩ := of_bindO H
      refine W.region env [] [⟨.int .i64 (y46), [], 0, []⟩, ⟨.int .i64 (y48), [], 0, []⟩] rfl rfl rfl (.cons (by decide) (.cons (by decide) .nil)) (.free (c_gasolierref03_Mod ((p0.Stops.getD (s43.2.1).toNat default).x0) (2 + y1) hy47) (.free (c_gasolierref03_Mod ((p0.Stops.getD (s43.2.1).toNat default).x3) 9 hy49) .nil)) (At.keep (ts := [1, 2, 3, 4, 9, 10, 11, 12, 13]) (ids := [1, 2, 3, 4, 9, 12, 13, 801, 1052]) rfl rfl ?_)
      refine At.thenC ?_
      refine W.seq ?_
      obtain ⟨y50, hy51, H⟩ := of_bindO H
      obtain ⟨hc52, H⟩ := of_must H
      obtain ⟨hc53, H⟩ := of_must H
      refine W.region env [] [⟨.int .i64 (y50), [], 0, []⟩] rfl rfl rfl (.cons (by decide) (.cons hc52 (.cons hc53 .nil))) (.free (c_gasolierref03_Mod ((p0.Stops.getD (s43.2.1).toNat default).x1) 40 hy51) .nil) (At.keep (ts := [1, 2, 3, 4, 9, 11, 12, 13]) (ids := [1, 2, 3, 4, 9, 12, 13, 801, 1052]) rfl rfl ?_)
      refine At.thenC ?_
      refine W.seq ?_
      refine W.region env [] [] rfl rfl rfl .nil .nil (At.keep (ts := [1, 2, 3, 4, 9, 11, 12, 13]) (ids := [1, 2, 3, 4, 9, 12, 13, 801, 1052]) rfl rfl ?_)
      refine At.thenC ?_
      refine W.seq ?_
      obtain ⟨y54, hy55, H⟩ := of_bindO H
      obtain ⟨hc56, H⟩ := of_must H
      refine W.region env [] [⟨.int .i64 (y54), [], 0, []⟩] rfl rfl rfl (.cons (by decide) (.cons hc56 .nil)) (.free (c_gasolierref03_Mod ((p0.Stops.getD (s43.2.1).toNat default).x2) 60 hy55) .nil) (At.keep (ts := [1, 2, 3, 4, 9, 11, 13]) (ids := [1, 2, 3, 4, 9, 13, 801, 1052]) rfl rfl ?_)
      refine At.thenC ?_
      refine W.seq ?_
      refine W.region env [] [] rfl rfl rfl .nil .nil (At.keep (ts := [1, 2, 3, 4, 9, 10, 11, 13]) (ids := [1, 2, 3, 4, 9, 13, 801, 1052]) rfl rfl ?_)
      refine At.thenC ?_
      obtain ⟨hc57, H⟩ := of_must H
      refine W.region env [] [] rfl rfl rfl (.cons (⟨by first | rfl | (simp; done) | omega | (simp; omega), by have := hc57; first | simpa using this | (unfold room at this ⊢; simp at this ⊢; omega)⟩) .nil) .nil (At.keep (ts := [1, 2, 3, 4, 9, 10, 11]) (ids := [1, 2, 3, 4, 9, 801, 1052]) rfl rfl ?_)
      refine At.convM (.cons (.refl _) (.cons (.refl _) (.cons (.refl _) (.cons (.refl _) (.cons (.refl _) (.cons (.refl _) (.cons (y := bufL 87 4 enc_Stop (s43.2.2 ++ ([(⟨y46, (⟨(max ((s43.1 + y50) - 10) 0), ((max ((s43.1 + y50) - 10) 0) + y54)⟩ : Range), y48⟩ : Stop)] : List Stop))) (BSim.seg (Seg.push (Seg.refl enc_Stop _) (Seg.lit (f := enc_Stop) (sz := 4) ([(⟨y46, (⟨(max ((s43.1 + y50) - 10) 0), ((max ((s43.1 + y50) - 10) 0) + y54)⟩ : Range), y48⟩ : Stop)] : List Stop) rfl rfl (fun _ => rfl)))) .nil))))))) ?_
      refine At.inb ?_
      refine At.thenC ?_
      obtain ⟨hc58, H⟩ := of_must H
      refine W.region env [] [] rfl rfl rfl (.cons hc58 .nil) .nil (At.keep (ts := [1, 2, 3, 4, 9, 10, 11]) (ids := [1, 2, 3, 4, 9, 801, 1052]) rfl rfl ?_)
      refine At.thenK (At.keep (ts := [1, 2, 3, 4, 9, 10, 11]) (ids := [1, 2, 3, 4, 9, 801, 1052]) rfl rfl ?_)
      exact At.conv (.cons (.of_eq (by first | rfl | (simp; done) | omega | (simp; omega))) (.cons (.of_eq (by first | rfl | (simp; done) | omega | (simp; omega))) (.cons (.of_eq (by first | rfl | (simp; done) | omega | (simp; omega))) (.cons (.of_eq (by first | rfl | (simp; done) | omega | (simp; omega))) (.cons (.of_eq (by first | rfl | (simp; done) | omega | (simp; omega))) (.cons (.of_eq (by first | rfl | (simp; done) | omega | (simp; omega))) (.cons (.of_eq (by first | rfl | (simp; done) | omega | (simp; omega))) .nil))))))) (.cons (.of_eq (by first | rfl | (simp; done) | omega | (simp; omega))) (.cons (.of_eq (by first | rfl | (simp; done) | omega | (simp; omega))) (.cons (.of_eq (by first | rfl | (simp; done) | omega | (simp; omega))) (.cons (.of_eq (by first | rfl | (simp; done) | omega | (simp; omega))) (.cons (.of_eq (by first | rfl | (simp; done) | omega | (simp; omega))) (.cons (.of_eq (by first | rfl | (simp; done) | omega | (simp; omega))) (.cons (.of_eq (by first | rfl | (simp; done) | omega | (simp; omega))) .nil))))))) (hK43 ((max ((s43.1 + y50) - 10) 0), (s43.2.1 + 1), (s43.2.2 ++ ([(⟨y46, (⟨(max ((s43.1 + y50) - 10) 0), ((max ((s43.1 + y50) - 10) 0) + y54)⟩ : Range), y48⟩ : Stop)] : List Stop))) H)
    · have H := of_false H hb44
      refine W.exit ?_
      refine At.xthen ?_
      refine At.xthen ?_
      refine At.xhere ?_
      refine At.thenC ?_
      refine W.seq ?_
      refine W.region env [] [] rfl rfl rfl .nil .nil (At.keep (ts := [2, 3]) (ids := [2, 3, 801, 1052]) rfl rfl ?_)
      refine At.thenC ?_
      refine W.ret ?_
      cases H
      refine At.ren [(801, 940), (1052, 941)] (K := [2, 3, 801, 1052]) (ts := [2, 3]) rfl rfl rfl rfl rfl ?_
      exact At.retK env.ty [940, 941] 0 rfl rfl rfl rfl (.cons (.refl _) (.cons (.refl _) .nil)) (Sim.tupL (.cons (Sim.aggL (.cons (.refl _) (.cons (.of_eq (by refine bufEq ?_; first | rfl | (simp; done) | omega | (simp; omega))) .nil))) (.cons (Sim.aggL (.cons (.refl _) (.cons (.refl _) (.cons (.of_eq (by refine bufEq ?_; first | rfl | (simp; done) | omega | (simp; omega))) .nil)))) .nil))) hval hdom rfl

theorem c_gasolierlaw03_RoundMatrix (fuel : Nat) (p0 : gasolierref03_Raw) (p1 : Int) {r : Bool} (H : gasolierlaw03_RoundMatrix fuel p0 p1 = some r) : Ctr Try.prog 6 [.agg [.int .i64 (p0.Places), roL 7 enc_Arr7Int p0.Ways, .int .i64 (p0.Round.x0), .int .i64 (p0.Round.x1), roL 4 enc_Arr4Int p0.Stops], .int .i64 (p1)] (.bool (r)) := by
  unfold gasolierlaw03_RoundMatrix at H
  refine Ctr.of_body (N := 239) Try.func6 (by kernel_rfl) (c := _) rfl Try.ntmps6 rfl (fun w0 h0 hval => ?_)
  refine W.seq ?_
  refine W.region env [] [] rfl rfl rfl .nil .nil (At.keep (ts := [1, 2]) (ids := [2]) rfl rfl ?_)
  refine At.thenC ?_
  refine W.seq ?_
  obtain ⟨y1, hy2, H⟩ := of_bindO H
  refine W.region env [] [⟨.bool (y1), [], 0, []⟩] rfl rfl rfl .nil (.free (c_gasolierlaw03_sane fuel hy2) .nil) (At.keep (ts := [1, 2, 5]) (ids := [2]) rfl rfl ?_)
  refine At.thenC ?_
  refine W.seq ?_
  obtain ⟨y3, hy4, H⟩ := of_bindO H
  refine W.region env [] [⟨.tup [.agg [.int .i64 (y3.1.Places), .buf 940 (y3.1.Ways).length], .agg [.int .i64 (y3.2.Place), .int .i64 (y3.2.At), .buf 941 (y3.2.Stops).length]], [(940, bufL 53 7 enc_Way y3.1.Ways), (941, bufL 87 4 enc_Stop y3.2.Stops)], 23000, []⟩] rfl rfl (by kernel_rfl) .nil (.free ((Ctr.ofO (co_gasolierref03_Made_o1_4 fuel p0 hy4))) .nil) (At.keep (ts := [1, 5, 6, 7]) (ids := [6, 7, 23940, 23941]) rfl rfl ?_)
  refine At.thenC ?_
  refine W.seq ?_
  refine W.seq ?_
  refine W.region env [] [] rfl rfl rfl .nil .nil (At.keep (ts := [1, 5, 6, 7, 8]) (ids := [6, 7, 23940, 23941]) rfl rfl ?_)
  refine At.thenC ?_
  refine W.block ?_
  refine At.keep (ts := [1, 5, 6, 7, 8]) (ids := [6, 7, 23940, 23941]) rfl rfl ?_
  refine W.loopGo H (fun (s5 : Int × (List Way)) => [(1, .int .i64 (p1)), (5, .bool (y1)), (6, .lp 6 0), (7, .lp 7 0), (8, .int .i64 (s5.1))]) (fun (s5 : Int × (List Way)) => [(6, .cells [.int .i64 (y3.1.Places), .buf 23940 (s5.2).length]), (7, .cells [.int .i64 (y3.2.Place), .int .i64 (y3.2.At), .buf 23941 (y3.2.Stops).length]), (23940, bufL 53 7 enc_Way s5.2), (23941, bufL 87 4 enc_Stop y3.2.Stops)]) (.cons (.of_eq (by first | rfl | (simp; done) | omega | (simp; omega))) (.cons (.of_eq (by first | rfl | (simp; done) | omega | (simp; omega))) (.cons (.of_eq (by first | rfl | (simp; done) | omega | (simp; omega))) (.cons (.of_eq (by first | rfl | (simp; done) | omega | (simp; omega))) (.cons (.of_eq (by first | rfl | (simp; done) | omega | (simp; omega))) .nil))))) (.cons (.of_eq (by first | rfl | (simp; done) | omega | (simp; omega))) (.cons (.of_eq (by first | rfl | (simp; done) | omega | (simp; omega))) (.cons (.of_eq (by first | rfl | (simp; done) | omega | (simp; omega))) (.cons (.of_eq (by first | rfl | (simp; done) | omega | (simp; omega))) .nil)))) (fun k5 s5 H K0 hK5 => ?_)
  refine W.seq ?_
  refine W.seq ?_
  refine W.region env [] [] rfl rfl rfl (.cons (by first | rfl | (simp; done) | omega | (simp; omega)) .nil) .nil (At.keep (ts := [1, 5, 6, 7, 8, 29]) (ids := [6, 7, 23940, 23941]) rfl rfl ?_)
  refine At.thenC ?_
  refine W.cond rfl (fun hb6 => ?_) (fun hb6 => ?_)
  · have H := of_true H hb6
    refine W.skip ?_
    refine At.thenC ?_
    refine W.seq ?_
    refine W.block ?_
    refine W.seq ?_
    obtain ⟨hc7, H⟩ := of_must H
    refine W.region env [] [] rfl rfl rfl (.cons (⟨by first | rfl | (simp; done) | omega | (simp; omega), hc7⟩) (.cons (⟨by first | rfl | (simp; done) | omega | (simp; omega), (by have := hc7; omega)⟩) .nil)) .nil (At.keep (ts := [1, 5, 6, 7, 8]) (ids := [6, 7, 23940, 23941]) rfl rfl ?_)
    refine At.convM (.cons (.refl _) (.cons (.refl _) (.cons (y := bufL 53 7 enc_Way (s5.2.set (s5.1).toNat (⟨(s5.2.getD (s5.1).toNat default).From, (s5.2.getD (s5.1).toNat default).To, (s5.2.getD (s5.1).toNat default).Takes, (⟨0, 1439⟩ : Range), (s5.2.getD (s5.1).toNat default).Every⟩ : Way))) (BSim.seg (Seg.set (Seg.refl enc_Way _) (⟨(s5.2.getD (s5.1).toNat default).From, (s5.2.getD (s5.1).toNat default).To, (s5.2.getD (s5.1).toNat default).Takes, (⟨0, 1439⟩ : Range), (s5.2.getD (s5.1).toNat default).Every⟩ : Way) rfl)) (.cons (.refl _) .nil)))) ?_
    refine At.thenC ?_
    obtain ⟨hc8, H⟩ := of_must H
    refine W.region env [] [] rfl rfl rfl (.cons (⟨by first | rfl | (simp; done) | omega | (simp; omega), hc8⟩) (.cons (⟨by first | rfl | (simp; done) | omega | (simp; omega), (by have := hc8; omega)⟩) .nil)) .nil (At.keep (ts := [1, 5, 6, 7, 8]) (ids := [6, 7, 23940, 23941]) rfl rfl ?_)
    refine At.convM (.cons (.refl _) (.cons (.refl _) (.cons (y := bufL 53 7 enc_Way ((s5.2.set (s5.1).toNat (⟨(s5.2.getD (s5.1).toNat default).From, (s5.2.getD (s5.1).toNat default).To, (s5.2.getD (s5.1).toNat default).Takes, (⟨0, 1439⟩ : Range), (s5.2.getD (s5.1).toNat default).Every⟩ : Way)).set (s5.1).toNat (⟨((s5.2.set (s5.1).toNat (⟨(s5.2.getD (s5.1).toNat default).From, (s5.2.getD (s5.1).toNat default).To, (s5.2.getD (s5.1).toNat default).Takes, (⟨0, 1439⟩ : Range), (s5.2.getD (s5.1).toNat default).Every⟩ : Way)).getD (s5.1).toNat default).From, ((s5.2.set (s5.1).toNat (⟨(s5.2.getD (s5.1).toNat default).From, (s5.2.getD (s5.1).toNat default).To, (s5.2.getD (s5.1).toNat default).Takes, (⟨0, 1439⟩ : Range), (s5.2.getD (s5.1).toNat default).Every⟩ : Way)).getD (s5.1).toNat default).To, ((s5.2.set (s5.1).toNat (⟨(s5.2.getD (s5.1).toNat default).From, (s5.2.getD (s5.1).toNat default).To, (s5.2.getD (s5.1).toNat default).Takes, (⟨0, 1439⟩ : Range), (s5.2.getD (s5.1).toNat default).Every⟩ : Way)).getD (s5.1).toNat default).Takes, ((s5.2.set (s5.1).toNat (⟨(s5.2.getD (s5.1).toNat default).From, (s5.2.getD (s5.1).toNat default).To, (s5.2.getD (s5.1).toNat default).Takes, (⟨0, 1439⟩ : Range), (s5.2.getD (s5.1).toNat default).Every⟩ : Way)).getD (s5.1).toNat default).Open, 0⟩ : Way))) (BSim.seg (Seg.set (Seg.refl enc_Way _) (⟨((s5.2.set (s5.1).toNat (⟨(s5.2.getD (s5.1).toNat default).From, (s5.2.getD (s5.1).toNat default).To, (s5.2.getD (s5.1).toNat default).Takes, (⟨0, 1439⟩ : Range), (s5.2.getD (s5.1).toNat default).Every⟩ : Way)).getD (s5.1).toNat default).From, ((s5.2.set (s5.1).toNat (⟨(s5.2.getD (s5.1).toNat default).From, (s5.2.getD (s5.1).toNat default).To, (s5.2.getD (s5.1).toNat default).Takes, (⟨0, 1439⟩ : Range), (s5.2.getD (s5.1).toNat default).Every⟩ : Way)).getD (s5.1).toNat default).To, ((s5.2.set (s5.1).toNat (⟨(s5.2.getD (s5.1).toNat default).From, (s5.2.getD (s5.1).toNat default).To, (s5.2.getD (s5.1).toNat default).Takes, (⟨0, 1439⟩ : Range), (s5.2.getD (s5.1).toNat default).Every⟩ : Way)).getD (s5.1).toNat default).Takes, ((s5.2.set (s5.1).toNat (⟨(s5.2.getD (s5.1).toNat default).From, (s5.2.getD (s5.1).toNat default).To, (s5.2.getD (s5.1).toNat default).Takes, (⟨0, 1439⟩ : Range), (s5.2.getD (s5.1).toNat default).Every⟩ : Way)).getD (s5.1).toNat default).Open, 0⟩ : Way) rfl)) (.cons (.refl _) .nil)))) ?_
    refine At.inb ?_
    refine At.thenC ?_
    obtain ⟨hc9, H⟩ := of_must H
    refine W.region env [] [] rfl rfl rfl (.cons hc9 .nil) .nil (At.keep (ts := [1, 5, 6, 7, 8]) (ids := [6, 7, 23940, 23941]) rfl rfl ?_)
    refine At.thenK (At.keep (ts := [1, 5, 6, 7, 8]) (ids := [6, 7, 23940, 23941]) rfl rfl ?_)
    exact At.conv (.cons (.of_eq (by first | rfl | (simp; done) | omega | (simp; omega))) (.cons (.of_eq (by first | rfl | (simp; done) | omega | (simp; omega))) (.cons (.of_eq (by first | rfl | (simp; done) | omega | (simp; omega))) (.cons (.of_eq (by first | rfl | (simp; done) | omega | (simp; omega))) (.cons (.of_eq (by first | rfl | (simp; done) | omega | (simp; omega))) .nil))))) (.cons (.of_eq (by first | rfl | (simp; done) | omega | (simp; omega))) (.cons (.of_eq (by first | rfl | (simp; done) | omega | (simp; omega))) (.cons (.of_eq (by first | rfl | (simp; done) | omega | (simp; omega))) (.cons (.of_eq (by first | rfl | (simp; done) | omega | (simp; omega))) .nil)))) (hK5 ((s5.1 + 1), ((s5.2.set (s5.1).toNat (⟨(s5.2.getD (s5.1).toNat default).From, (s5.2.getD (s5.1).toNat default).To, (s5.2.getD (s5.1).toNat default).Takes, (⟨0, 1439⟩ : Range), (s5.2.getD (s5.1).toNat default).Every⟩ : Way)).set (s5.1).toNat (⟨((s5.2.set (s5.1).toNat (⟨(s5.2.getD (s5.1).toNat default).From, (s5.2.getD (s5.1).toNat default).To, (s5.2.getD (s5.1).toNat default).Takes, (⟨0, 1439⟩ : Range), (s5.2.getD (s5.1).toNat default).Every⟩ : Way)).getD (s5.1).toNat default).From, ((s5.2.set (s5.1).toNat (⟨(s5.2.getD (s5.1).toNat default).From, (s5.2.getD (s5.1).toNat default).To, (s5.2.getD (s5.1).toNat default).Takes, (⟨0, 1439⟩ : Range), (s5.2.getD (s5.1).toNat default).Every⟩ : Way)).getD (s5.1).toNat default).To, ((s5.2.set (s5.1).toNat (⟨(s5.2.getD (s5.1).toNat default).From, (s5.2.getD (s5.1).toNat default).To, (s5.2.getD (s5.1).toNat default).Takes, (⟨0, 1439⟩ : Range), (s5.2.getD (s5.1).toNat default).Every⟩ : Way)).getD (s5.1).toNat default).Takes, ((s5.2.set (s5.1).toNat (⟨(s5.2.getD (s5.1).toNat default).From, (s5.2.getD (s5.1).toNat default).To, (s5.2.getD (s5.1).toNat default).Takes, (⟨0, 1439⟩ : Range), (s5.2.getD (s5.1).toNat default).Every⟩ : Way)).getD (s5.1).toNat default).Open, 0⟩ : Way))) H)
  · have H := of_false H hb6
    refine W.exit ?_
    refine At.xthen ?_
    refine At.xthen ?_
    refine At.xhere ?_
    refine At.thenC ?_
    refine W.seq ?_
    refine W.seq ?_
    refine W.region env [] [] rfl rfl rfl .nil .nil (At.keep (ts := [1, 5, 6, 7, 9]) (ids := [6, 7, 23940, 23941]) rfl rfl ?_)
    refine At.thenC ?_
    refine W.block ?_
    refine At.keep (ts := [1, 5, 6, 7, 9]) (ids := [6, 7, 23940, 23941]) rfl rfl ?_
    refine W.loopGo H (fun (s10 : Int × (List Way)) => [(1, .int .i64 (p1)), (5, .bool (y1)), (6, .lp 6 0), (7, .lp 7 0), (9, .int .i64 (s10.1))]) (fun (s10 : Int × (List Way)) => [(6, .cells [.int .i64 (y3.1.Places), .buf 23940 (s10.2).length]), (7, .cells [.int .i64 (y3.2.Place), .int .i64 (y3.2.At), .buf 23941 (y3.2.Stops).length]), (23940, bufL 53 7 enc_Way s10.2), (23941, bufL 87 4 enc_Stop y3.2.Stops)]) (.cons (.of_eq (by first | rfl | (simp; done) | omega | (simp; omega))) (.cons (.of_eq (by first | rfl | (simp; done) | omega | (simp; omega))) (.cons (.of_eq (by first | rfl | (simp; done) | omega | (simp; omega))) (.cons (.of_eq (by first | rfl | (simp; done) | omega | (simp; omega))) (.cons (.of_eq (by first | rfl | (simp; done) | omega | (simp; omega))) .nil))))) (.cons (.of_eq (by first | rfl | (simp; done) | omega | (simp; omega))) (.cons (.of_eq (by first | rfl | (simp; done) | omega | (simp; omega))) (.cons (.of_eq (by first | rfl | (simp; done) | omega | (simp; omega))) (.cons (.of_eq (by first | rfl | (simp; done) | omega | (simp; omega))) .nil)))) (fun k10 s10 H K0 hK10 => ?_)
    refine W.seq ?_
    refine W.seq ?_
    refine W.region env [] [] rfl rfl rfl .nil .nil (At.keep (ts := [1, 5, 6, 7, 9, 46]) (ids := [6, 7, 23940, 23941]) rfl rfl ?_)
    refine At.thenC ?_
    refine W.cond rfl (fun hb11 => ?_) (fun hb11 => ?_)
    · have H := of_true H hb11
      refine W.skip ?_
      refine At.thenC ?_
      refine W.seq ?_
      refine W.block ?_
      obtain ⟨hc12, H⟩ := of_must H
      obtain ⟨hc13, H⟩ := of_must H
      obtain ⟨hc14, H⟩ := of_must H
      refine W.region env [] [] rfl rfl rfl (.cons hc12 (.cons hc13 (.cons (⟨by first | rfl | (simp; done) | omega | (simp; omega), by have := hc14; first | simpa using this | (unfold room at this ⊢; simp at this ⊢; omega)⟩) .nil))) .nil (At.keep (ts := [1, 5, 6, 7, 9]) (ids := [6, 7, 23940, 23941]) rfl rfl ?_)
      refine At.convM (.cons (.refl _) (.cons (.refl _) (.cons (y := bufL 53 7 enc_Way (s10.2 ++ ([(⟨s10.1, (Int.tmod (s10.1 + 1) y3.1.Places), (⟨9, 15⟩ : Range), (⟨0, 1439⟩ : Range), 0⟩ : Way)] : List Way))) (BSim.seg (Seg.push (Seg.refl enc_Way _) (Seg.lit (f := enc_Way) (sz := 7) ([(⟨s10.1, (Int.tmod (s10.1 + 1) y3.1.Places), (⟨9, 15⟩ : Range), (⟨0, 1439⟩ : Range), 0⟩ : Way)] : List Way) rfl rfl (fun _ => rfl)))) (.cons (.refl _) .nil)))) ?_
      refine At.inb ?_
      refine At.thenC ?_
      obtain ⟨hc15, H⟩ := of_must H
      refine W.region env [] [] rfl rfl rfl (.cons hc15 .nil) .nil (At.keep (ts := [1, 5, 6, 7, 9]) (ids := [6, 7, 23940, 23941]) rfl rfl ?_)
      refine At.thenK (At.keep (ts := [1, 5, 6, 7, 9]) (ids := [6, 7, 23940, 23941]) rfl rfl ?_)
      exact At.conv (.cons (.of_eq (by first | rfl | (simp; done) | omega | (simp; omega))) (.cons (.of_eq (by first | rfl | (simp; done) | omega | (simp; omega))) (.cons (.of_eq (by first | rfl | (simp; done) | omega | (simp; omega))) (.cons (.of_eq (by first | rfl | (simp; done) | omega | (simp; omega))) (.cons (.of_eq (by first | rfl | (simp; done) | omega | (simp; omega))) .nil))))) (.cons (.of_eq (by first | rfl | (simp; done) | omega | (simp; omega))) (.cons (.of_eq (by first | rfl | (simp; done) | omega | (simp; omega))) (.cons (.of_eq (by first | rfl | (simp; done) | omega | (simp; omega))) (.cons (.of_eq (by first | rfl | (simp; done) | omega | (simp; omega))) .nil)))) (hK10 ((s10.1 + 1), (s10.2 ++ ([(⟨s10.1, (Int.tmod (s10.1 + 1) y3.1.Places), (⟨9, 15⟩ : Range), (⟨0, 1439⟩ : Range), 0⟩ : Way)] : List Way))) H)
    · have H := of_false H hb11
      refine W.exit ?_
      refine At.xthen ?_
      refine At.xthen ?_
      refine At.xhere ?_
      refine At.thenC ?_
      refine W.seq ?_
      refine At.freezeA 23940 (K := [6, 7, 23941]) (ts := [1, 5, 6, 7]) rfl rfl rfl rfl .nil (.cons (by first | rfl | (simp; done) | omega | (simp; omega)) .nil) (fun _ h => h) ?_
      obtain ⟨y16, hy17, H⟩ := of_bindO H
      refine W.region env [] [⟨.tup [roL 1 enc_ListRange y16.1, .int .i64 (y16.2)], [], 0, []⟩] rfl rfl rfl .nil (.free (c_round_Matrix fuel (⟨y3.1.Places, s10.2⟩ : Chart) hy17) .nil) (At.keep (ts := [1, 5, 6, 7, 10, 11]) (ids := [6, 7, 23941]) rfl rfl ?_)
      refine At.thenC ?_
      refine W.seq ?_
      obtain ⟨y18, hy19, H⟩ := of_bindO H
      refine W.region env [] [⟨.int .i64 (y18), [], 0, []⟩] rfl rfl rfl .nil (.free (c_gasolierref03_Mod p1 1440 hy19) .nil) (At.keep (ts := [1, 5, 6, 7, 10, 11]) (ids := [6, 7, 23941]) rfl rfl ?_)
      refine At.thenC ?_
      refine W.seq ?_
      obtain ⟨y20, hy21, H⟩ := of_bindO H
      refine W.region env [] [⟨.tup [roL 1 enc_Int y20.1, .int .i64 (y20.2)], [], 0, []⟩] rfl rfl rfl .nil (.free (c_round_Sure fuel (⟨y3.1.Places, s10.2⟩ : Chart) y3.2.Place y18 hy21) .nil) (At.keep (ts := [1, 5, 6, 7, 10, 11, 12, 13]) (ids := [6, 7, 23941]) rfl rfl ?_)
      refine At.thenC ?_
      refine W.seq ?_
      refine W.seq ?_
      refine W.region env [] [] rfl rfl rfl (.cons (fun h => h) (.cons (fun h => by rw [h]; rfl) (.cons (fun h => h) (.cons (fun h => by rw [h]; rfl) (.cons (fun h => h) (.cons (fun h => h) (.cons (fun h => h) (.cons (fun h => h) (.cons (fun h => by rw [h]; rfl) (.cons (fun h => h) (.cons (fun h => h) (.cons (fun h => h) (.cons (fun h => h) (.cons (fun h => by rw [h]; rfl) .nil)))))))))))))) .nil (At.keep (ts := [1, 6, 7, 10, 12, 101]) (ids := [6, 7, 23941]) rfl rfl ?_)
      refine At.thenC ?_
      refine W.cond rfl (fun hb22 => ?_) (fun hb22 => ?_)
      · have H := of_true H hb22
        refine W.seq ?_
        refine W.region env [] [] rfl rfl rfl .nil .nil (At.keep (ts := [4]) (ids := []) rfl rfl ?_)
        refine At.thenC ?_
        refine W.ret ?_
        refine At.rthen ?_
        cases H
        exact At.ret env.ty rfl rfl (fun q hq => by cases hq) (.refl _) hval
      · have H := of_false H hb22
        refine W.skip ?_
        refine At.thenC ?_
        refine W.seq ?_
        refine W.seq ?_
        refine W.region env [] [] rfl rfl rfl .nil .nil (At.keep (ts := [1, 6, 7, 10, 12, 14]) (ids := [6, 7, 23941]) rfl rfl ?_)
        refine At.thenC ?_
        refine W.block ?_
        refine At.keep (ts := [1, 6, 7, 10, 12, 14]) (ids := [6, 7, 23941]) rfl rfl ?_
        refine W.loopGo H (fun (s23 : Int) => [(1, .int .i64 (y18)), (6, .lp 6 0), (7, .lp 7 0), (10, roL 1 enc_ListRange y16.1), (12, roL 1 enc_Int y20.1), (14, .int .i64 (s23))]) (fun (s23 : Int) => [(6, .cells [.int .i64 (y3.1.Places), roL 7 enc_Way s10.2]), (7, .cells [.int .i64 (y3.2.Place), .int .i64 (y3.2.At), .buf 23941 (y3.2.Stops).length]), (23941, bufL 87 4 enc_Stop y3.2.Stops)]) (.cons (.of_eq (by first | rfl | (simp; done) | omega | (simp; omega))) (.cons (.of_eq (by first | rfl | (simp; done) | omega | (simp; omega))) (.cons (.of_eq (by first | rfl | (simp; done) | omega | (simp; omega))) (.cons (.of_eq (by first | rfl | (simp; done) | omega | (simp; omega))) (.cons (.of_eq (by first | rfl | (simp; done) | omega | (simp; omega))) (.cons (.of_eq (by first | rfl | (simp; done) | omega | (simp; omega))) .nil)))))) (.cons (.of_eq (by first | rfl | (simp; done) | omega | (simp; omega))) (.cons (.of_eq (by first | rfl | (simp; done) | omega | (simp; omega))) (.cons (.of_eq (by first | rfl | (simp; done) | omega | (simp; omega))) .nil))) (fun k23 s23 H K0 hK23 => ?_)
        refine W.seq ?_
        refine W.seq ?_
        refine W.region env [] [] rfl rfl rfl .nil .nil (At.keep (ts := [1, 6, 7, 10, 12, 14, 105]) (ids := [6, 7, 23941]) rfl rfl ?_)
        refine At.thenC ?_
        refine W.cond rfl (fun hb24 => ?_) (fun hb24 => ?_)
        · have H := of_true H hb24
          refine W.skip ?_
          refine At.thenC ?_
          refine W.seq ?_
          refine W.block ?_
          refine W.seq ?_
          obtain ⟨hc25, H⟩ := of_must H
          obtain ⟨hc26, H⟩ := of_must H
          obtain ⟨hc27, H⟩ := of_must H
          refine W.region env [] [] rfl rfl rfl (.cons hc25 (.cons hc26 (.cons (fun h => h) (.cons (fun h => h) (.cons (fun h => h) (.cons hc27 (.cons (fun h => h) (.cons (fun h => h) (.cons (fun h => h) (.cons (fun h => h) (.cons (fun h => h) (.cons (fun h => by rw [h]; rfl) .nil)))))))))))) .nil (At.keep (ts := [1, 6, 7, 10, 12, 14, 126]) (ids := [6, 7, 23941]) rfl rfl ?_)
          refine At.thenC ?_
          refine W.cond rfl (fun hb28 => ?_) (fun hb28 => ?_)
          · have H := of_true H hb28
            refine W.seq ?_
            refine W.region env [] [] rfl rfl rfl .nil .nil (At.keep (ts := [4]) (ids := []) rfl rfl ?_)
            refine At.thenC ?_
            refine W.ret ?_
            refine At.rinb ?_
            refine At.rthen ?_
            refine At.rthen ?_
            refine At.rinb ?_
            refine At.rthen ?_
            cases H
            exact At.ret env.ty rfl rfl (fun q hq => by cases hq) (.refl _) hval
          · have H := of_false H hb28
            refine W.skip ?_
            refine At.inb ?_
            refine At.thenC ?_
            obtain ⟨hc29, H⟩ := of_must H
            refine W.region env [] [] rfl rfl rfl (.cons hc29 .nil) .nil (At.keep (ts := [1, 6, 7, 10, 12, 14]) (ids := [6, 7, 23941]) rfl rfl ?_)
            refine At.thenK (At.keep (ts := [1, 6, 7, 10, 12, 14]) (ids := [6, 7, 23941]) rfl rfl ?_)
            exact At.conv (.cons (.of_eq (by first | rfl | (simp; done) | omega | (simp; omega))) (.cons (.of_eq (by first | rfl | (simp; done) | omega | (simp; omega))) (.cons (.of_eq (by first | rfl | (simp; done) | omega | (simp; omega))) (.cons (.of_eq (by first | rfl | (simp; done) | omega | (simp; omega))) (.cons (.of_eq (by first | rfl | (simp; done) | omega | (simp; omega))) (.cons (.of_eq (by first | rfl | (simp; done) | omega | (simp; omega))) .nil)))))) (.cons (.of_eq (by first | rfl | (simp; done) | omega | (simp; omega))) (.cons (.of_eq (by first | rfl | (simp; done) | omega | (simp; omega))) (.cons (.of_eq (by first | rfl | (simp; done) | omega | (simp; omega))) .nil))) (hK23 (s23 + 1) H)
        · have H := of_false H hb24
          refine W.exit ?_
          refine At.xthen ?_
          refine At.xthen ?_
          refine At.xhere ?_
          refine At.thenC ?_
          refine W.seq ?_
          refine W.seq ?_
          refine W.region env [] [] rfl rfl rfl .nil .nil (At.keep (ts := [1, 6, 7, 10, 12, 15]) (ids := [6, 7, 23941]) rfl rfl ?_)
          refine At.thenC ?_
          refine W.block ?_
          refine At.keep (ts := [1, 6, 7, 10, 12, 15]) (ids := [6, 7, 23941]) rfl rfl ?_
          refine W.loopGo H (fun (s30 : Int) => [(1, .int .i64 (y18)), (6, .lp 6 0), (7, .lp 7 0), (10, roL 1 enc_ListRange y16.1), (12, roL 1 enc_Int y20.1), (15, .int .i64 (s30))]) (fun (s30 : Int) => [(6, .cells [.int .i64 (y3.1.Places), roL 7 enc_Way s10.2]), (7, .cells [.int .i64 (y3.2.Place), .int .i64 (y3.2.At), .buf 23941 (y3.2.Stops).length]), (23941, bufL 87 4 enc_Stop y3.2.Stops)]) (.cons (.of_eq (by first | rfl | (simp; done) | omega | (simp; omega))) (.cons (.of_eq (by first | rfl | (simp; done) | omega | (simp; omega))) (.cons (.of_eq (by first | rfl | (simp; done) | omega | (simp; omega))) (.cons (.of_eq (by first | rfl | (simp; done) | omega | (simp; omega))) (.cons (.of_eq (by first | rfl | (simp; done) | omega | (simp; omega))) (.cons (.of_eq (by first | rfl | (simp; done) | omega | (simp; omega))) .nil)))))) (.cons (.of_eq (by first | rfl | (simp; done) | omega | (simp; omega))) (.cons (.of_eq (by first | rfl | (simp; done) | omega | (simp; omega))) (.cons (.of_eq (by first | rfl | (simp; done) | omega | (simp; omega))) .nil))) (fun k30 s30 H K0 hK30 => ?_)
          refine W.seq ?_
          refine W.seq ?_
          refine W.region env [] [] rfl rfl rfl .nil .nil (At.keep (ts := [1, 6, 7, 10, 12, 15, 130]) (ids := [6, 7, 23941]) rfl rfl ?_)
          refine At.thenC ?_
          refine W.cond rfl (fun hb31 => ?_) (fun hb31 => ?_)
          · have H := of_true H hb31
            refine W.skip ?_
            refine At.thenC ?_
            refine W.seq ?_
            refine W.block ?_
            refine W.seq ?_
            refine W.seq ?_
            refine W.region env [] [] rfl rfl rfl .nil .nil (At.keep (ts := [1, 6, 7, 10, 12, 15, 16]) (ids := [6, 7, 23941]) rfl rfl ?_)
            refine At.thenC ?_
            refine W.block ?_
            refine At.keep (ts := [1, 6, 7, 10, 12, 15, 16]) (ids := [6, 7, 23941]) rfl rfl ?_
            refine W.loopGo H (fun (s32 : Int) => [(1, .int .i64 (y18)), (6, .lp 6 0), (7, .lp 7 0), (10, roL 1 enc_ListRange y16.1), (12, roL 1 enc_Int y20.1), (15, .int .i64 (s30)), (16, .int .i64 (s32))]) (fun (s32 : Int) => [(6, .cells [.int .i64 (y3.1.Places), roL 7 enc_Way s10.2]), (7, .cells [.int .i64 (y3.2.Place), .int .i64 (y3.2.At), .buf 23941 (y3.2.Stops).length]), (23941, bufL 87 4 enc_Stop y3.2.Stops)]) (.cons (.of_eq (by first | rfl | (simp; done) | omega | (simp; omega))) (.cons (.of_eq (by first | rfl | (simp; done) | omega | (simp; omega))) (.cons (.of_eq (by first | rfl | (simp; done) | omega | (simp; omega))) (.cons (.of_eq (by first | rfl | (simp; done) | omega | (simp; omega))) (.cons (.of_eq (by first | rfl | (simp; done) | omega | (simp; omega))) (.cons (.of_eq (by first | rfl | (simp; done) | omega | (simp; omega))) (.cons (.of_eq (by first | rfl | (simp; done) | omega | (simp; omega))) .nil))))))) (.cons (.of_eq (by first | rfl | (simp; done) | omega | (simp; omega))) (.cons (.of_eq (by first | rfl | (simp; done) | omega | (simp; omega))) (.cons (.of_eq (by first | rfl | (simp; done) | omega | (simp; omega))) .nil))) (fun k32 s32 H K0 hK32 => ?_)
            refine W.seq ?_
            refine W.seq ?_
            refine W.region env [] [] rfl rfl rfl .nil .nil (At.keep (ts := [1, 6, 7, 10, 12, 15, 16, 136]) (ids := [6, 7, 23941]) rfl rfl ?_)
            refine At.thenC ?_
            refine W.cond rfl (fun hb33 => ?_) (fun hb33 => ?_)
            · have H := of_true H hb33
              refine W.skip ?_
              refine At.thenC ?_
              refine W.seq ?_
              refine W.block ?_
              refine W.seq ?_
              refine W.region env [] [] rfl rfl rfl .nil .nil (At.keep (ts := [1, 6, 7, 10, 12, 15, 16, 17]) (ids := [6, 7, 23941]) rfl rfl ?_)
              refine At.thenC ?_
              refine W.block ?_
              refine At.keep (ts := [1, 6, 7, 10, 12, 15, 16, 17]) (ids := [6, 7, 23941]) rfl rfl ?_
              refine W.loopGo H (fun (s34 : Int) => [(1, .int .i64 (y18)), (6, .lp 6 0), (7, .lp 7 0), (10, roL 1 enc_ListRange y16.1), (12, roL 1 enc_Int y20.1), (15, .int .i64 (s30)), (16, .int .i64 (s32)), (17, .int .i64 (s34))]) (fun (s34 : Int) => [(6, .cells [.int .i64 (y3.1.Places), roL 7 enc_Way s10.2]), (7, .cells [.int .i64 (y3.2.Place), .int .i64 (y3.2.At), .buf 23941 (y3.2.Stops).length]), (23941, bufL 87 4 enc_Stop y3.2.Stops)]) (.cons (.of_eq (by first | rfl | (simp; done) | omega | (simp; omega))) (.cons (.of_eq (by first | rfl | (simp; done) | omega | (simp; omega))) (.cons (.of_eq (by first | rfl | (simp; done) | omega | (simp; omega))) (.cons (.of_eq (by first | rfl | (simp; done) | omega | (simp; omega))) (.cons (.of_eq (by first | rfl | (simp; done) | omega | (simp; omega))) (.cons (.of_eq (by first | rfl | (simp; done) | omega | (simp; omega))) (.cons (.of_eq (by first | rfl | (simp; done) | omega | (simp; omega))) (.cons (.of_eq (by first | rfl | (simp; done) | omega | (simp; omega))) .nil)))))))) (.cons (.of_eq (by first | rfl | (simp; done) | omega | (simp; omega))) (.cons (.of_eq (by first | rfl | (simp; done) | omega | (simp; omega))) (.cons (.of_eq (by first | rfl | (simp; done) | omega | (simp; omega))) .nil))) (fun k34 s34 H K0 hK34 => ?_)
              refine W.seq ?_
              refine W.seq ?_
              refine W.region env [] [] rfl rfl rfl .nil .nil (At.keep (ts := [1, 6, 7, 10, 12, 15, 16, 17, 142]) (ids := [6, 7, 23941]) rfl rfl ?_)
              refine At.thenC ?_
              refine W.cond rfl (fun hb35 => ?_) (fun hb35 => ?_)
              · have H := of_true H hb35
                refine W.skip ?_
                refine At.thenC ?_
                refine W.seq ?_
                refine W.block ?_
                refine W.seq ?_
                obtain ⟨hc36, H⟩ := of_must H
                obtain ⟨hc37, H⟩ := of_must H
                obtain ⟨hc38, H⟩ := of_must H
                obtain ⟨hc39, H⟩ := of_must H
                obtain ⟨hc40, H⟩ := of_must H
                obtain ⟨hc41, H⟩ := of_must H
                obtain ⟨hc42, H⟩ := of_must H
                obtain ⟨hc43, H⟩ := of_must H
                obtain ⟨hc44, H⟩ := of_must H
                obtain ⟨hc45, H⟩ := of_must H
                obtain ⟨hc46, H⟩ := of_must H
                obtain ⟨hc47, H⟩ := of_must H
                obtain ⟨hc48, H⟩ := of_must H
                obtain ⟨hc49, H⟩ := of_must H
                obtain ⟨hc50, H⟩ := of_must H
                obtain ⟨hc51, H⟩ := of_must H
                obtain ⟨hc52, H⟩ := of_must H
                obtain ⟨hc53, H⟩ := of_must H
                refine W.region env [] [] rfl rfl rfl (.cons hc36 (.cons hc37 (.cons hc38 (.cons hc39 (.cons hc40 (.cons hc41 (.cons hc42 (.cons hc43 (.cons (fun h => h) (.cons (fun h => h) (.cons (fun h => h) (.cons hc44 (.cons (fun h => h) (.cons (fun h => h) (.cons (fun h => h) (.cons (fun h => h) (.cons hc45 (.cons (fun h => h) (.cons (fun h => h) (.cons (fun h => h) (.cons hc46 (.cons (fun h => h) (.cons (fun h => h) (.cons (fun h => h) (.cons (fun h => h) (.cons hc47 (.cons (fun h => h) (.cons (fun h => h) (.cons (fun h => h) (.cons hc48 (.cons (fun h => h) (.cons (fun h => h) (.cons (fun h => h) (.cons (fun h => h) (.cons hc49 (.cons (fun h => h) (.cons (fun h => h) (.cons (fun h => h) (.cons (fun h => h) (.cons (fun h => by rw [h]; rfl) (.cons hc50 (.cons (fun h => h) (.cons (fun h => h) (.cons (fun h => h) (.cons hc51 (.cons (fun h => h) (.cons (fun h => h) (.cons (fun h => h) (.cons (fun h => h) (.cons hc52 (.cons (fun h => h) (.cons (fun h => h) (.cons (fun h => h) (.cons hc53 (.cons (fun h => h) (.cons (fun h => h) (.cons (fun h => h) (.cons (fun h => h) (.cons (fun h => h) (.cons (fun h => h) (.cons (fun h => by rw [h]; rfl) .nil))))))))))))))))))))))))))))))))))))))))))))))))))))))))))))) .nil (At.keep (ts := [1, 6, 7, 10, 12, 15, 16, 17, 217]) (ids := [6, 7, 23941]) rfl rfl ?_)
                refine At.thenC ?_
                refine W.cond rfl (fun hb54 => ?_) (fun hb54 => ?_)
                · have H := of_true H hb54
                  refine W.seq ?_
                  refine W.region env [] [] rfl rfl rfl .nil .nil (At.keep (ts := [4]) (ids := []) rfl rfl ?_)
                  refine At.thenC ?_
                  refine W.ret ?_
                  refine At.rinb ?_
                  refine At.rthen ?_
                  refine At.rthen ?_
                  refine At.rinb ?_
                  refine At.rinb ?_
                  refine At.rthen ?_
                  refine At.rthen ?_
                  refine At.rinb ?_
                  refine At.rthen ?_
                  refine At.rinb ?_
                  refine At.rthen ?_
                  refine At.rthen ?_
                  refine At.rinb ?_
                  refine At.rthen ?_
                  cases H
                  exact At.ret env.ty rfl rfl (fun q hq => by cases hq) (.refl _) hval
                · have H := of_false H hb54
                  refine W.skip ?_
                  refine At.inb ?_
                  refine At.thenC ?_
                  obtain ⟨hc55, H⟩ := of_must H
                  refine W.region env [] [] rfl rfl rfl (.cons hc55 .nil) .nil (At.keep (ts := [1, 6, 7, 10, 12, 15, 16, 17]) (ids := [6, 7, 23941]) rfl rfl ?_)
                  refine At.thenK (At.keep (ts := [1, 6, 7, 10, 12, 15, 16, 17]) (ids := [6, 7, 23941]) rfl rfl ?_)
                  exact At.conv (.cons (.of_eq (by first | rfl | (simp; done) | omega | (simp; omega))) (.cons (.of_eq (by first | rfl | (simp; done) | omega | (simp; omega))) (.cons (.of_eq (by first | rfl | (simp; done) | omega | (simp; omega))) (.cons (.of_eq (by first | rfl | (simp; done) | omega | (simp; omega))) (.cons (.of_eq (by first | rfl | (simp; done) | omega | (simp; omega))) (.cons (.of_eq (by first | rfl | (simp; done) | omega | (simp; omega))) (.cons (.of_eq (by first | rfl | (simp; done) | omega | (simp; omega))) (.cons (.of_eq (by first | rfl | (simp; done) | omega | (simp; omega))) .nil)))))))) (.cons (.of_eq (by first | rfl | (simp; done) | omega | (simp; omega))) (.cons (.of_eq (by first | rfl | (simp; done) | omega | (simp; omega))) (.cons (.of_eq (by first | rfl | (simp; done) | omega | (simp; omega))) .nil))) (hK34 (s34 + 1) H)
              · have H := of_false H hb35
                refine W.exit ?_
                refine At.xthen ?_
                refine At.xthen ?_
                refine At.xhere ?_
                refine At.inb ?_
                refine At.thenC ?_
                obtain ⟨hc56, H⟩ := of_must H
                refine W.region env [] [] rfl rfl rfl (.cons hc56 .nil) .nil (At.keep (ts := [1, 6, 7, 10, 12, 15, 16]) (ids := [6, 7, 23941]) rfl rfl ?_)
                refine At.thenK (At.keep (ts := [1, 6, 7, 10, 12, 15, 16]) (ids := [6, 7, 23941]) rfl rfl ?_)
                exact At.conv (.cons (.of_eq (by first | rfl | (simp; done) | omega | (simp; omega))) (.cons (.of_eq (by first | rfl | (simp; done) | omega | (simp; omega))) (.cons (.of_eq (by first | rfl | (simp; done) | omega | (simp; omega))) (.cons (.of_eq (by first | rfl | (simp; done) | omega | (simp; omega))) (.cons (.of_eq (by first | rfl | (simp; done) | omega | (simp; omega))) (.cons (.of_eq (by first | rfl | (simp; done) | omega | (simp; omega))) (.cons (.of_eq (by first | rfl | (simp; done) | omega | (simp; omega))) .nil))))))) (.cons (.of_eq (by first | rfl | (simp; done) | omega | (simp; omega))) (.cons (.of_eq (by first | rfl | (simp; done) | omega | (simp; omega))) (.cons (.of_eq (by first | rfl | (simp; done) | omega | (simp; omega))) .nil))) (hK32 (s32 + 1) H)
            · have H := of_false H hb33
              refine W.exit ?_
              refine At.xthen ?_
              refine At.xthen ?_
              refine At.xhere ?_
              refine At.thenC ?_
              refine W.seq ?_
              obtain ⟨hc57, H⟩ := of_must H
              obtain ⟨hc58, H⟩ := of_must H
              obtain ⟨hc59, H⟩ := of_must H
              refine W.region env [] [] rfl rfl rfl (.cons hc57 (.cons hc58 (.cons hc59 .nil))) .nil (At.keep (ts := [1, 6, 7, 10, 12, 15, 18]) (ids := [6, 7, 23941]) rfl rfl ?_)
              refine At.thenC ?_
              refine W.seq ?_
              obtain ⟨hc60, H⟩ := of_must H
              refine W.region env [] [] rfl rfl rfl (.cons hc60 (.cons (fun h => h) (.cons (fun h => h) (.cons (fun h => h) (.cons (fun h => h) (.cons (fun h => h) (.cons (fun h => h) .nil))))))) .nil (At.keep (ts := [1, 6, 7, 10, 12, 15, 238]) (ids := [6, 7, 23941]) rfl rfl ?_)
              refine At.thenC ?_
              refine W.cond rfl (fun hb61 => ?_) (fun hb61 => ?_)
              · have H := of_true H hb61
                refine W.seq ?_
                refine W.region env [] [] rfl rfl rfl .nil .nil (At.keep (ts := [4]) (ids := []) rfl rfl ?_)
                refine At.thenC ?_
                refine W.ret ?_
                refine At.rinb ?_
                refine At.rthen ?_
                refine At.rthen ?_
                refine At.rinb ?_
                refine At.rthen ?_
                cases H
                exact At.ret env.ty rfl rfl (fun q hq => by cases hq) (.refl _) hval
              · have H := of_false H hb61
                refine W.skip ?_
                refine At.inb ?_
                refine At.thenC ?_
                obtain ⟨hc62, H⟩ := of_must H
                refine W.region env [] [] rfl rfl rfl (.cons hc62 .nil) .nil (At.keep (ts := [1, 6, 7, 10, 12, 15]) (ids := [6, 7, 23941]) rfl rfl ?_)
                refine At.thenK (At.keep (ts := [1, 6, 7, 10, 12, 15]) (ids := [6, 7, 23941]) rfl rfl ?_)
                exact At.conv (.cons (.of_eq (by first | rfl | (simp; done) | omega | (simp; omega))) (.cons (.of_eq (by first | rfl | (simp; done) | omega | (simp; omega))) (.cons (.of_eq (by first | rfl | (simp; done) | omega | (simp; omega))) (.cons (.of_eq (by first | rfl | (simp; done) | omega | (simp; omega))) (.cons (.of_eq (by first | rfl | (simp; done) | omega | (simp; omega))) (.cons (.of_eq (by first | rfl | (simp; done) | omega | (simp; omega))) .nil)))))) (.cons (.of_eq (by first | rfl | (simp; done) | omega | (simp; omega))) (.cons (.of_eq (by first | rfl | (simp; done) | omega | (simp; omega))) (.cons (.of_eq (by first | rfl | (simp; done) | omega | (simp; omega))) .nil))) (hK30 (s30 + 1) H)
          · have H := of_false H hb31
            refine W.exit ?_
            refine At.xthen ?_
            refine At.xthen ?_
            refine At.xhere ?_
            refine At.thenC ?_
            refine W.seq ?_
            refine W.region env [] [] rfl rfl rfl .nil .nil (At.keep (ts := [4]) (ids := []) rfl rfl ?_)
            refine At.thenC ?_
            refine W.ret ?_
            cases H
            exact At.ret env.ty rfl rfl (fun q hq => by cases hq) (.refl _) hval

end Go.Sp
