/- Printed by gen.py: contracts, part 2. -/
import Derived.Test.YtjeolkdhicmhgaaCtr1
set_option linter.all false
set_option maxRecDepth 100000
namespace Go.Sp
open Go Go.Av Go.Proofs

theorem c_gasolierref03_Made (fuel : Nat) (p0 : gasolierref03_Raw) {r : (Chart × Round)} (H : gasolierref03_Made fuel p0 = some r) : Ctr Try.prog 20 [.agg [.int .i64 (p0.Places), roL 7 enc_Arr7Int p0.Ways, .int .i64 (p0.Round.x0), .int .i64 (p0.Round.x1), roL 4 enc_Arr4Int p0.Stops]] (.tup [.agg [.int .i64 (r.1.Places), roL 7 enc_Way r.1.Ways], .agg [.int .i64 (r.2.Place), .int .i64 (r.2.At), roL 4 enc_Stop r.2.Stops]]) := by
  unfold gasolierref03_Made at H
  refine Ctr.of_body (N := 176) Try.func20 (by kernel_rfl) (c := _) rfl Try.ntmps20 rfl (fun w0 h0 hval => ?_)
  refine W.seq ?_
  refine W.region env [] [] rfl rfl rfl .nil .nil (At.keep (ts := [1, 2, 3]) (ids := [1, 2, 3]) rfl rfl ?_)
  refine At.thenC ?_
  refine W.seq ?_
  obtain ⟨y1, hy2, H⟩ := of_bindO H
  obtain ⟨hc3, H⟩ := of_must H
  refine W.region env [] [⟨.int .i64 (y1), [], 0, []⟩] rfl rfl rfl (.cons hc3 .nil) (.free (c_gasolierref03_Mod p0.Places 5 hy2) .nil) (At.keep (ts := [1, 2, 3, 4]) (ids := [1, 2, 3, 4]) rfl rfl ?_)
  refine At.thenC ?_
  refine W.seq ?_
  refine W.seq ?_
  refine W.region env [] [] rfl rfl rfl .nil .nil (At.keep (ts := [1, 2, 3, 4, 5]) (ids := [1, 2, 3, 4]) rfl rfl ?_)
  refine At.thenC ?_
  refine W.block ?_
  refine At.nilOwnCell 4 1 801 53 7 (e := fun i => enc_Way (([] : List Way).getD i default)) rfl rfl rfl ?_
  refine At.keep (ts := [1, 2, 3, 4, 5]) (ids := [1, 2, 3, 4, 801]) rfl rfl ?_
  refine W.loopGo H (fun (s4 : Int × (List Way)) => [(1, .lp 1 0), (2, .lp 2 0), (3, .lp 3 0), (4, .lp 4 0), (5, .int .i64 (s4.1))]) (fun (s4 : Int × (List Way)) => [(1, .cells [.int .i64 (p0.Places), roL 7 enc_Arr7Int p0.Ways, .int .i64 (p0.Round.x0), .int .i64 (p0.Round.x1), roL 4 enc_Arr4Int p0.Stops]), (2, .cells [.int .i64 (0), .nilS]), (3, .cells [.int .i64 (0), .int .i64 (0), .nilS]), (4, .cells [.int .i64 ((2 + y1)), .buf 801 (s4.2).length]), (801, bufL 53 7 enc_Way s4.2)]) (.cons (.of_eq (by first | rfl | (simp; done) | omega | (simp; omega))) (.cons (.of_eq (by first | rfl | (simp; done) | omega | (simp; omega))) (.cons (.of_eq (by first | rfl | (simp; done) | omega | (simp; omega))) (.cons (.of_eq (by first | rfl | (simp; done) | omega | (simp; omega))) (.cons (.of_eq (by first | rfl | (simp; done) | omega | (simp; omega))) .nil))))) (.cons (.of_eq (by first | rfl | (simp; done) | omega | (simp; omega))) (.cons (.of_eq (by first | rfl | (simp; done) | omega | (simp; omega))) (.cons (.of_eq (by first | rfl | (simp; done) | omega | (simp; omega))) (.cons (.of_eq (by first | rfl | (simp; done) | omega | (simp; omega))) (.cons (.of_eq (by first | rfl | (simp; done) | omega | (simp; omega))) .nil))))) (fun k4 s4 H K0 hK4 => ?_)
  refine W.seq ?_
  refine W.seq ?_
  refine W.region env [] [] rfl rfl rfl (.cons (fun h => h) (.cons (fun h => h) .nil)) .nil (At.keep (ts := [1, 2, 3, 4, 5, 27]) (ids := [1, 2, 3, 4, 801]) rfl rfl ?_)
  refine At.thenC ?_
  refine W.cond rfl (fun hb5 => ?_) (fun hb5 => ?_)
  · have H := of_true H hb5
    refine W.skip ?_
    refine At.thenC ?_
    refine W.seq ?_
    refine W.block ?_
    refine W.seq ?_
    obtain ⟨hc6, H⟩ := of_must H
    refine W.region env [] [] rfl rfl rfl (.cons hc6 .nil) .nil (At.keep (ts := [1, 2, 3, 4, 5, 6]) (ids := [1, 2, 3, 4, 6, 801]) rfl rfl ?_)
    refine At.thenC ?_
    refine W.seq ?_
    obtain ⟨y7, hy8, H⟩ := of_bindO H
    refine W.region env [] [⟨.int .i64 (y7), [], 0, []⟩] rfl rfl rfl (.cons (by decide) .nil) (.free (c_gasolierref03_Mod ((p0.Ways.getD (s4.1).toNat default).x0) (2 + y1) hy8) .nil) (At.keep (ts := [1, 2, 3, 4, 5, 6, 7]) (ids := [1, 2, 3, 4, 6, 801]) rfl rfl ?_)
    refine At.thenC ?_
    refine W.seq ?_
    obtain ⟨hc9, H⟩ := of_must H
    obtain ⟨hc10, H⟩ := of_must H
    obtain ⟨y11, hy12, H⟩ := of_bindO H
    obtain ⟨hc13, H⟩ := of_must H
    obtain ⟨hc14, H⟩ := of_must H
    refine W.region env [] [⟨.int .i64 (y11), [], 0, []⟩] rfl rfl rfl (.cons hc9 (.cons (by decide) (.cons hc10 (.cons hc13 (.cons hc14 .nil))))) (.free (c_gasolierref03_Mod ((p0.Ways.getD (s4.1).toNat default).x1) ((2 + y1) - 1) hy12) .nil) (At.keep (ts := [1, 2, 3, 4, 5, 6, 8]) (ids := [1, 2, 3, 4, 6, 8, 801]) rfl rfl ?_)
    refine At.thenC ?_
    refine W.seq ?_
    obtain ⟨y15, hy16, H⟩ := of_bindO H
    obtain ⟨hc17, H⟩ := of_must H
    refine W.region env [] [⟨.int .i64 (y15), [], 0, []⟩] rfl rfl rfl (.cons (by decide) (.cons hc17 .nil)) (.free (c_gasolierref03_Mod ((p0.Ways.getD (s4.1).toNat default).x2) 20 hy16) .nil) (At.keep (ts := [1, 2, 3, 4, 5, 6, 8]) (ids := [1, 2, 3, 4, 6, 8, 801]) rfl rfl ?_)
    refine At.thenC ?_
    refine W.seq ?_
    obtain ⟨y18, hy19, H⟩ := of_bindO H
    obtain ⟨hc20, H⟩ := of_must H
    refine W.region env [] [⟨.int .i64 (y18), [], 0, []⟩] rfl rfl rfl (.cons (by decide) (.cons hc20 .nil)) (.free (c_gasolierref03_Mod ((p0.Ways.getD (s4.1).toNat default).x3) 12 hy19) .nil) (At.keep (ts := [1, 2, 3, 4, 5, 6, 8]) (ids := [1, 2, 3, 4, 6, 8, 801]) rfl rfl ?_)
    refine At.thenC ?_
    refine W.seq ?_
    refine W.region env [] [] rfl rfl rfl .nil .nil (At.keep (ts := [1, 2, 3, 4, 5, 6, 8]) (ids := [1, 2, 3, 4, 6, 8, 801]) rfl rfl ?_)
    refine At.thenC ?_
    refine W.seq ?_
    refine W.seq ?_
    obtain ⟨y21, hy22, H⟩ := of_bindO H
    refine W.region env [] [⟨.int .i64 (y21), [], 0, []⟩] rfl rfl rfl (.cons (by decide) .nil) (.free (c_gasolierref03_Mod ((p0.Ways.getD (s4.1).toNat default).x4) 3 hy22) .nil) (At.keep (ts := [1, 2, 3, 4, 5, 6, 8, 74]) (ids := [1, 2, 3, 4, 6, 8, 801]) rfl rfl ?_)
    refine At.thenC ?_
    refine W.joinC H (fun (s23 : Way) => [(1, .lp 1 0), (2, .lp 2 0), (3, .lp 3 0), (4, .lp 4 0), (5, .int .i64 (s4.1)), (6, .lp 6 0), (8, .lp 8 0)]) (fun (s23 : Way) => [(1, .cells [.int .i64 (p0.Places), roL 7 enc_Arr7Int p0.Ways, .int .i64 (p0.Round.x0), .int .i64 (p0.Round.x1), roL 4 enc_Arr4Int p0.Stops]), (2, .cells [.int .i64 (0), .nilS]), (3, .cells [.int .i64 (0), .int .i64 (0), .nilS]), (4, .cells [.int .i64 ((2 + y1)), .buf 801 (s4.2).length]), (6, .cells [.int .i64 ((p0.Ways.getD (s4.1).toNat default).x0), .int .i64 ((p0.Ways.getD (s4.1).toNat default).x1), .int .i64 ((p0.Ways.getD (s4.1).toNat default).x2), .int .i64 ((p0.Ways.getD (s4.1).toNat default).x3), .int .i64 ((p0.Ways.getD (s4.1).toNat default).x4), .int .i64 ((p0.Ways.getD (s4.1).toNat default).x5), .int .i64 ((p0.Ways.getD (s4.1).toNat default).x6)]), (8, .cells [.int .i64 (s23.From), .int .i64 (s23.To), .int .i64 (s23.Takes.Lo), .int .i64 (s23.Takes.Hi), .int .i64 (s23.Open.Lo), .int .i64 (s23.Open.Hi), .int .i64 (s23.Every)]), (801, bufL 53 7 enc_Way s4.2)]) (fun s23 H => ?_) (fun k23 H hK23 => ?_)
    · refine W.seq ?_
      refine W.seq ?_
      obtain ⟨y24, hy25, H⟩ := of_bindO H
      refine W.region env [] [⟨.int .i64 (y24), [], 0, []⟩] rfl rfl rfl (.cons (by decide) .nil) (.free (c_gasolierref03_Mod ((p0.Ways.getD (s4.1).toNat default).x4) 3 hy25) .nil) (At.keep (ts := [1, 2, 3, 4, 5, 6, 8, 92]) (ids := [1, 2, 3, 4, 6, 8, 801]) rfl rfl ?_)
      refine At.thenC ?_
      refine W.joinC H (fun (s26 : Way) => [(1, .lp 1 0), (2, .lp 2 0), (3, .lp 3 0), (4, .lp 4 0), (5, .int .i64 (s4.1)), (8, .lp 8 0)]) (fun (s26 : Way) => [(1, .cells [.int .i64 (p0.Places), roL 7 enc_Arr7Int p0.Ways, .int .i64 (p0.Round.x0), .int .i64 (p0.Round.x1), roL 4 enc_Arr4Int p0.Stops]), (2, .cells [.int .i64 (0), .nilS]), (3, .cells [.int .i64 (0), .int .i64 (0), .nilS]), (4, .cells [.int .i64 ((2 + y1)), .buf 801 (s4.2).length]), (8, .cells [.int .i64 (s26.From), .int .i64 (s26.To), .int .i64 (s26.Takes.Lo), .int .i64 (s26.Takes.Hi), .int .i64 (s26.Open.Lo), .int .i64 (s26.Open.Hi), .int .i64 (s26.Every)]), (801, bufL 53 7 enc_Way s4.2)]) (fun s26 H => ?_) (fun k26 H hK26 => ?_)
      · obtain ⟨hc27, H⟩ := of_must H
        refine W.region env [] [] rfl rfl rfl (.cons (⟨by first | rfl | (simp; done) | omega | (simp; omega), by have := hc27; first | simpa using this | (unfold room at this ⊢; simp at this ⊢; omega)⟩) .nil) .nil (At.keep (ts := [1, 2, 3, 4, 5]) (ids := [1, 2, 3, 4, 801]) rfl rfl ?_)
        refine At.convM (.cons (.refl _) (.cons (.refl _) (.cons (.refl _) (.cons (.refl _) (.cons (y := bufL 53 7 enc_Way (s4.2 ++ ([s26] : List Way))) (BSim.seg (Seg.push (Seg.refl enc_Way _) (Seg.lit (f := enc_Way) (sz := 7) ([s26] : List Way) rfl rfl (fun _ => rfl)))) .nil))))) ?_
        refine At.inb ?_
        refine At.thenC ?_
        obtain ⟨hc28, H⟩ := of_must H
        refine W.region env [] [] rfl rfl rfl (.cons hc28 .nil) .nil (At.keep (ts := [1, 2, 3, 4, 5]) (ids := [1, 2, 3, 4, 801]) rfl rfl ?_)
        refine At.thenK (At.keep (ts := [1, 2, 3, 4, 5]) (ids := [1, 2, 3, 4, 801]) rfl rfl ?_)
        exact At.conv (.cons (.of_eq (by first | rfl | (simp; done) | omega | (simp; omega))) (.cons (.of_eq (by first | rfl | (simp; done) | omega | (simp; omega))) (.cons (.of_eq (by first | rfl | (simp; done) | omega | (simp; omega))) (.cons (.of_eq (by first | rfl | (simp; done) | omega | (simp; omega))) (.cons (.of_eq (by first | rfl | (simp; done) | omega | (simp; omega))) .nil))))) (.cons (.of_eq (by first | rfl | (simp; done) | omega | (simp; omega))) (.cons (.of_eq (by first | rfl | (simp; done) | omega | (simp; omega))) (.cons (.of_eq (by first | rfl | (simp; done) | omega | (simp; omega))) (.cons (.of_eq (by first | rfl | (simp; done) | omega | (simp; omega))) (.cons (.of_eq (by first | rfl | (simp; done) | omega | (simp; omega))) .nil))))) (hK4 ((s4.1 + 1), (s4.2 ++ ([s26] : List Way))) H)
      · refine W.cond rfl (fun hb29 => ?_) (fun hb29 => ?_)
        · have H := of_true H hb29
          obtain ⟨y30, hy31, H⟩ := of_bindO H
          obtain ⟨hc32, H⟩ := of_must H
          refine W.region env [] [⟨.int .i64 (y30), [], 0, []⟩] rfl rfl rfl (.cons (by decide) (.cons hc32 .nil)) (.free (c_gasolierref03_Mod ((p0.Ways.getD (s4.1).toNat default).x6) 40 hy31) .nil) (At.keep (ts := [1, 2, 3, 4, 5, 8]) (ids := [1, 2, 3, 4, 8, 801]) rfl rfl ?_)
          refine At.thenK (At.keep (ts := [1, 2, 3, 4, 5, 8]) (ids := [1, 2, 3, 4, 8, 801]) rfl rfl ?_)
          exact At.conv (.cons (.of_eq (by first | rfl | (simp; done) | omega | (simp; omega))) (.cons (.of_eq (by first | rfl | (simp; done) | omega | (simp; omega))) (.cons (.of_eq (by first | rfl | (simp; done) | omega | (simp; omega))) (.cons (.of_eq (by first | rfl | (simp; done) | omega | (simp; omega))) (.cons (.of_eq (by first | rfl | (simp; done) | omega | (simp; omega))) (.cons (.of_eq (by first | rfl | (simp; done) | omega | (simp; omega))) .nil)))))) (.cons (.of_eq (by first | rfl | (simp; done) | omega | (simp; omega))) (.cons (.of_eq (by first | rfl | (simp; done) | omega | (simp; omega))) (.cons (.of_eq (by first | rfl | (simp; done) | omega | (simp; omega))) (.cons (.of_eq (by first | rfl | (simp; done) | omega | (simp; omega))) (.cons (.of_eq (by first | rfl | (simp; done) | omega | (simp; omega))) (.cons (.of_eq (by first | rfl | (simp; done) | omega | (simp; omega))) .nil)))))) (hK26 (⟨s23.From, s23.To, s23.Takes, s23.Open, (1 + y30)⟩ : Way) H)
        · have H := of_false H hb29
          refine W.skip ?_
          refine At.thenK (At.keep (ts := [1, 2, 3, 4, 5, 8]) (ids := [1, 2, 3, 4, 8, 801]) rfl rfl ?_)
          exact At.conv (.cons (.of_eq (by first | rfl | (simp; done) | omega | (simp; omega))) (.cons (.of_eq (by first | rfl | (simp; done) | omega | (simp; omega))) (.cons (.of_eq (by first | rfl | (simp; done) | omega | (simp; omega))) (.cons (.of_eq (by first | rfl | (simp; done) | omega | (simp; omega))) (.cons (.of_eq (by first | rfl | (simp; done) | omega | (simp; omega))) (.cons (.of_eq (by first | rfl | (simp; done) | omega | (simp; omega))) .nil)))))) (.cons (.of_eq (by first | rfl | (simp; done) | omega | (simp; omega))) (.cons (.of_eq (by first | rfl | (simp; done) | omega | (simp; omega))) (.cons (.of_eq (by first | rfl | (simp; done) | omega | (simp; omega))) (.cons (.of_eq (by first | rfl | (simp; done) | omega | (simp; omega))) (.cons (.of_eq (by first | rfl | (simp; done) | omega | (simp; omega))) (.cons (.of_eq (by first | rfl | (simp; done) | omega | (simp; omega))) .nil)))))) (hK26 s23 H)
    · refine W.cond rfl (fun hb33 => ?_) (fun hb33 => ?_)
      · have H := of_true H hb33
        refine W.seq ?_
        obtain ⟨y34, hy35, H⟩ := of_bindO H
        refine W.region env [] [⟨.int .i64 (y34), [], 0, []⟩] rfl rfl rfl (.cons (by decide) .nil) (.free (c_gasolierref03_Mod ((p0.Ways.getD (s4.1).toNat default).x5) 200 hy35) .nil) (At.keep (ts := [1, 2, 3, 4, 5, 6, 8]) (ids := [1, 2, 3, 4, 6, 8, 801]) rfl rfl ?_)
        refine At.thenC ?_
        obtain ⟨y36, hy37, H⟩ := of_bindO H
        obtain ⟨hc38, H⟩ := of_must H
        refine W.region env [] [⟨.int .i64 (y36), [], 0, []⟩] rfl rfl rfl (.cons (by decide) (.cons hc38 .nil)) (.free (c_gasolierref03_Mod ((p0.Ways.getD (s4.1).toNat default).x6) 150 hy37) .nil) (At.keep (ts := [1, 2, 3, 4, 5, 6, 8]) (ids := [1, 2, 3, 4, 6, 8, 801]) rfl rfl ?_)
        refine At.thenK (At.keep (ts := [1, 2, 3, 4, 5, 6, 8]) (ids := [1, 2, 3, 4, 6, 8, 801]) rfl rfl ?_)
        exact At.conv (.cons (.of_eq (by first | rfl | (simp; done) | omega | (simp; omega))) (.cons (.of_eq (by first | rfl | (simp; done) | omega | (simp; omega))) (.cons (.of_eq (by first | rfl | (simp; done) | omega | (simp; omega))) (.cons (.of_eq (by first | rfl | (simp; done) | omega | (simp; omega))) (.cons (.of_eq (by first | rfl | (simp; done) | omega | (simp; omega))) (.cons (.of_eq (by first | rfl | (simp; done) | omega | (simp; omega))) (.cons (.of_eq (by first | rfl | (simp; done) | omega | (simp; omega))) .nil))))))) (.cons (.of_eq (by first | rfl | (simp; done) | omega | (simp; omega))) (.cons (.of_eq (by first | rfl | (simp; done) | omega | (simp; omega))) (.cons (.of_eq (by first | rfl | (simp; done) | omega | (simp; omega))) (.cons (.of_eq (by first | rfl | (simp; done) | omega | (simp; omega))) (.cons (.of_eq (by first | rfl | (simp; done) | omega | (simp; omega))) (.cons (.of_eq (by first | rfl | (simp; done) | omega | (simp; omega))) (.cons (.of_eq (by first | rfl | (simp; done) | omega | (simp; omega))) .nil))))))) (hK23 (⟨y7, (Int.tmod ((y7 + 1) + y11) (2 + y1)), (⟨(1 + y15), ((1 + y15) + y18)⟩ : Range), (⟨y34, (y34 + y36)⟩ : Range), 0⟩ : Way) H)
      · have H := of_false H hb33
        refine W.skip ?_
        refine At.thenK (At.keep (ts := [1, 2, 3, 4, 5, 6, 8]) (ids := [1, 2, 3, 4, 6, 8, 801]) rfl rfl ?_)
        exact At.conv (.cons (.of_eq (by first | rfl | (simp; done) | omega | (simp; omega))) (.cons (.of_eq (by first | rfl | (simp; done) | omega | (simp; omega))) (.cons (.of_eq (by first | rfl | (simp; done) | omega | (simp; omega))) (.cons (.of_eq (by first | rfl | (simp; done) | omega | (simp; omega))) (.cons (.of_eq (by first | rfl | (simp; done) | omega | (simp; omega))) (.cons (.of_eq (by first | rfl | (simp; done) | omega | (simp; omega))) (.cons (.of_eq (by first | rfl | (simp; done) | omega | (simp; omega))) .nil))))))) (.cons (.of_eq (by first | rfl | (simp; done) | omega | (simp; omega))) (.cons (.of_eq (by first | rfl | (simp; done) | omega | (simp; omega))) (.cons (.of_eq (by first | rfl | (simp; done) | omega | (simp; omega))) (.cons (.of_eq (by first | rfl | (simp; done) | omega | (simp; omega))) (.cons (.of_eq (by first | rfl | (simp; done) | omega | (simp; omega))) (.cons (.of_eq (by first | rfl | (simp; done) | omega | (simp; omega))) (.cons (.of_eq (by first | rfl | (simp; done) | omega | (simp; omega))) .nil))))))) (hK23 (⟨y7, (Int.tmod ((y7 + 1) + y11) (2 + y1)), (⟨(1 + y15), ((1 + y15) + y18)⟩ : Range), (⟨0, 1439⟩ : Range), 0⟩ : Way) H)
  · have H := of_false H hb5
    refine W.exit ?_
    refine At.xthen ?_
    refine At.xthen ?_
    refine At.xhere ?_
    refine At.thenC ?_
    refine W.seq ?_
    obtain ⟨y39, hy40, H⟩ := of_bindO H
    obtain ⟨y41, hy42, H⟩ := of_bindO H
    refine W.region env [] [⟨.int .i64 (y39), [], 0, []⟩, ⟨.int .i64 (y41), [], 0, []⟩] rfl rfl rfl (.cons (by decide) (.cons (by decide) .nil)) (.free (c_gasolierref03_Mod p0.Round.x0 (2 + y1) hy40) (.free (c_gasolierref03_Mod p0.Round.x1 150 hy42) .nil)) (At.keep (ts := [1, 2, 3, 4, 9]) (ids := [1, 2, 3, 4, 9, 801]) rfl rfl ?_)
    refine At.thenC ?_
    refine W.seq ?_
    refine W.region env [] [] rfl rfl rfl .nil .nil (At.keep (ts := [1, 2, 3, 4, 9, 10]) (ids := [1, 2, 3, 4, 9, 801]) rfl rfl ?_)
    refine At.thenC ?_
    refine W.seq ?_
    refine W.seq ?_
    refine W.region env [] [] rfl rfl rfl .nil .nil (At.keep (ts := [1, 2, 3, 4, 9, 10, 11]) (ids := [1, 2, 3, 4, 9, 801]) rfl rfl ?_)
    refine At.thenC ?_
    refine W.block ?_
    refine At.nilOwnCell 9 2 1052 87 4 (e := fun i => enc_Stop (([] : List Stop).getD i default)) rfl rfl rfl ?_
    refine At.keep (ts := [1, 2, 3, 4, 9, 10, 11]) (ids := [1, 2, 3, 4, 9, 801, 1052]) rfl rfl ?_
    refine W.loopGo H (fun (s43 : Int × Int × (List Stop)) => [(1, .lp 1 0), (2, .lp 2 0), (3, .lp 3 0), (4, .lp 4 0), (9, .lp 9 0), (10, .int .i64 (s43.1)), (11, .int .i64 (s43.2.1))]) (fun (s43 : Int × Int × (List Stop)) => [(1, .cells [.int .i64 (p0.Places), roL 7 enc_Arr7Int p0.Ways, .int .i64 (p0.Round.x0), .int .i64 (p0.Round.x1), roL 4 enc_Arr4Int p0.Stops]), (2, .cells [.int .i64 (0), .nilS]), (3, .cells [.int .i64 (0), .int .i64 (0), .nilS]), (4, .cells [.int .i64 ((2 + y1)), .buf 801 (s4.2).length]), (9, .cells [.int .i64 (y39), .int .i64 (y41), .buf 1052 (s43.2.2).length]), (801, bufL 53 7 enc_Way s4.2), (1052, bufL 87 4 enc_Stop s43.2.2)]) (.cons (.of_eq (by first | rfl | (simp; done) | omega | (simp; omega))) (.cons (.of_eq (by first | rfl | (simp; done) | omega | (simp; omega))) (.cons (.of_eq (by first | rfl | (simp; done) | omega | (simp; omega))) (.cons (.of_eq (by first | rfl | (simp; done) | omega | (simp; omega))) (.cons (.of_eq (by first | rfl | (simp; done) | omega | (simp; omega))) (.cons (.of_eq (by first | rfl | (simp; done) | omega | (simp; omega))) (.cons (.of_eq (by first | rfl | (simp; done) | omega | (simp; omega))) .nil))))))) (.cons (.of_eq (by first | rfl | (simp; done) | omega | (simp; omega))) (.cons (.of_eq (by first | rfl | (simp; done) | omega | (simp; omega))) (.cons (.of_eq (by first | rfl | (simp; done) | omega | (simp; omega))) (.cons (.of_eq (by first | rfl | (simp; done) | omega | (simp; omega))) (.cons (.of_eq (by first | rfl | (simp; done) | omega | (simp; omega))) (.cons (.of_eq (by first | rfl | (simp; done) | omega | (simp; omega))) (.cons (.of_eq (by first | rfl | (simp; done) | omega | (simp; omega))) .nil))))))) (fun k43 s43 H K0 hK43 => ?_)
    refine W.seq ?_
    refine W.seq ?_
    refine W.region env [] [] rfl rfl rfl (.cons (fun h => h) (.cons (fun h => h) .nil)) .nil (At.keep (ts := [1, 2, 3, 4, 9, 10, 11, 125]) (ids := [1, 2, 3, 4, 9, 801, 1052]) rfl rfl ?_)
    refine At.thenC ?_
    refine W.cond rfl (fun hb44 => ?_) (fun hb44 => ?_)
    · have H := of_true H hb44
      refine W.skip ?_
      refine At.thenC ?_
      refine W.seq ?_
      refine W.block ?_
      refine W.seq ?_
      obtain ⟨hc45, H⟩ := of_must H
      refine W.region env [] [] rfl rfl rfl (.cons hc45 .nil) .nil (At.keep (ts := [1, 2, 3, 4, 9, 10, 11, 12]) (ids := [1, 2, 3, 4, 9, 12, 801, 1052]) rfl rfl ?_)
      refine At.thenC ?_
      refine W.seq ?_
      obtain ⟨y46, hy47, H⟩ := of_bindO H
      obtain ⟨y48, hy49, H⟩ := of_bindO H
      refine W.region env [] [⟨.int .i64 (y46), [], 0, []⟩, ⟨.int .i64 (y48), [], 0, []⟩] rfl rfl rfl (.cons (by decide) (.cons (by decide) .nil)) (.free (c_gasolierref03_Mod ((p0.Stops.getD (s43.2.1).toNat default).x0) (2 + y1) hy47) (.free (c_gasolierref03_Mod ((p0.Stops.getD (s43.2.1).toNat default).x3) 9 hy49) .nil)) (At.keep (ts := [1, 2, 3, 4, 9, 10, 11, 12, 13]) (ids := [1, 2, 3, 4, 9, 12, 13, 801, 1052]) rfl rfl ?_)
      refine At.thenC ?_
      refine W.seq ?_
      obtain ⟨y50, hy51, H⟩ := of_bindO H
      obtain ⟨hc52, H⟩ := of_must H
      obtain ⟨hc53, H⟩ := of_must H
      refine W.region env [] [⟨.int .i64 (y50), [], 0, []⟩] rfl rfl rfl (.cons (by decide) (.cons hc52 (.cons hc53 .nil))) (.free (c_gasolierref03_Mod ((p0.Stops.getD (s43.2.1).toNat default).x1) 40 hy51) .nil) (At.keep (ts := [1, 2, 3, 4, 9, 11, 12, 13]) (ids := [1, 2, 3, 4, 9, 12, 13, 801, 1052]) rfl rfl ?_)
      refine At.thenC ?_
      refine W.seq ?_
      refine W.region env [] [] rfl rfl rfl .nil .nil (At.keep (ts := [1, 2, 3, 4, 9, 11, 12, 13]) (ids := [1, 2, 3, 4, 9, 12, 13, 801, 1052]) rfl rfl ?_)
      refine At.thenC ?_
      refine W.seq ?_
      obtain ⟨y54, hy55, H⟩ := of_bindO H
      obtain ⟨hc56, H⟩ := of_must H
      refine W.region env [] [⟨.int .i64 (y54), [], 0, []⟩] rfl rfl rfl (.cons (by decide) (.cons hc56 .nil)) (.free (c_gasolierref03_Mod ((p0.Stops.getD (s43.2.1).toNat default).x2) 60 hy55) .nil) (At.keep (ts := [1, 2, 3, 4, 9, 11, 13]) (ids := [1, 2, 3, 4, 9, 13, 801, 1052]) rfl rfl ?_)
      refine At.thenC ?_
      refine W.seq ?_
      refine W.region env [] [] rfl rfl rfl .nil .nil (At.keep (ts := [1, 2, 3, 4, 9, 10, 11, 13]) (ids := [1, 2, 3, 4, 9, 13, 801, 1052]) rfl rfl ?_)
      refine At.thenC ?_
      obtain ⟨hc57, H⟩ := of_must H
      refine W.region env [] [] rfl rfl rfl (.cons (⟨by first | rfl | (simp; done) | omega | (simp; omega), by have := hc57; first | simpa using this | (unfold room at this ⊢; simp at this ⊢; omega)⟩) .nil) .nil (At.keep (ts := [1, 2, 3, 4, 9, 10, 11]) (ids := [1, 2, 3, 4, 9, 801, 1052]) rfl rfl ?_)
      refine At.convM (.cons (.refl _) (.cons (.refl _) (.cons (.refl _) (.cons (.refl _) (.cons (.refl _) (.cons (.refl _) (.cons (y := bufL 87 4 enc_Stop (s43.2.2 ++ ([(⟨y46, (⟨(max ((s43.1 + y50) - 10) 0), ((max ((s43.1 + y50) - 10) 0) + y54)⟩ : Range), y48⟩ : Stop)] : List Stop))) (BSim.seg (Seg.push (Seg.refl enc_Stop _) (Seg.lit (f := enc_Stop) (sz := 4) ([(⟨y46, (⟨(max ((s43.1 + y50) - 10) 0), ((max ((s43.1 + y50) - 10) 0) + y54)⟩ : Range), y48⟩ : Stop)] : List Stop) rfl rfl (fun _ => rfl)))) .nil))))))) ?_
      refine At.inb ?_
      refine At.thenC ?_
      obtain ⟨hc58, H⟩ := of_must H
      refine W.region env [] [] rfl rfl rfl (.cons hc58 .nil) .nil (At.keep (ts := [1, 2, 3, 4, 9, 10, 11]) (ids := [1, 2, 3, 4, 9, 801, 1052]) rfl rfl ?_)
      refine At.thenK (At.keep (ts := [1, 2, 3, 4, 9, 10, 11]) (ids := [1, 2, 3, 4, 9, 801, 1052]) rfl rfl ?_)
      exact At.conv (.cons (.of_eq (by first | rfl | (simp; done) | omega | (simp; omega))) (.cons (.of_eq (by first | rfl | (simp; done) | omega | (simp; omega))) (.cons (.of_eq (by first | rfl | (simp; done) | omega | (simp; omega))) (.cons (.of_eq (by first | rfl | (simp; done) | omega | (simp; omega))) (.cons (.of_eq (by first | rfl | (simp; done) | omega | (simp; omega))) (.cons (.of_eq (by first | rfl | (simp; done) | omega | (simp; omega))) (.cons (.of_eq (by first | rfl | (simp; done) | omega | (simp; omega))) .nil))))))) (.cons (.of_eq (by first | rfl | (simp; done) | omega | (simp; omega))) (.cons (.of_eq (by first | rfl | (simp; done) | omega | (simp; omega))) (.cons (.of_eq (by first | rfl | (simp; done) | omega | (simp; omega))) (.cons (.of_eq (by first | rfl | (simp; done) | omega | (simp; omega))) (.cons (.of_eq (by first | rfl | (simp; done) | omega | (simp; omega))) (.cons (.of_eq (by first | rfl | (simp; done) | omega | (simp; omega))) (.cons (.of_eq (by first | rfl | (simp; done) | omega | (simp; omega))) .nil))))))) (hK43 ((max ((s43.1 + y50) - 10) 0), (s43.2.1 + 1), (s43.2.2 ++ ([(⟨y46, (⟨(max ((s43.1 + y50) - 10) 0), ((max ((s43.1 + y50) - 10) 0) + y54)⟩ : Range), y48⟩ : Stop)] : List Stop))) H)
    · have H := of_false H hb44
      refine W.exit ?_
      refine At.xthen ?_
      refine At.xthen ?_
      refine At.xhere ?_
      refine At.thenC ?_
      refine W.seq ?_
      refine W.region env [] [] rfl rfl rfl .nil .nil (At.keep (ts := [2, 3]) (ids := [2, 3, 801, 1052]) rfl rfl ?_)
      refine At.thenC ?_
      refine W.ret ?_
      cases H
      exact At.ret env.ty rfl rfl (fun q hq => by cases hq; exact ⟨by first | rfl | (simp; done) | omega | (simp; omega), (by first | rfl | (simp; done) | omega | (simp; omega))⟩) (.refl _) hval

theorem c_round_CheckMarks_1 (p0 : Int) : Ctr Try.prog 95 [.int .i64 (p0)] (.bool ((round_CheckMarks_1 p0))) := by
  obtain ⟨r, H⟩ : ∃ r, round_CheckMarks_1 p0 = r := ⟨_, rfl⟩
  rw [H]
  unfold round_CheckMarks_1 at H
  refine Ctr.of_body (N := 6) Try.func95 (by kernel_rfl) (c := _) rfl Try.ntmps95 rfl (fun w0 h0 hval => ?_)
  refine W.seq ?_
  refine W.region env [] [] rfl rfl rfl .nil .nil (At.keep (ts := [0]) (ids := []) rfl rfl ?_)
  refine At.thenC ?_
  refine W.seq ?_
  refine W.region env [] [⟨.bool ((round_within p0 (-1) 1439)), [], 0, []⟩] rfl rfl rfl .nil (.free (c_round_within p0 (-1) 1439) .nil) (At.keep (ts := [2]) (ids := []) rfl rfl ?_)
  refine At.thenC ?_
  refine W.ret ?_
  cases H
  exact At.ret env.ty rfl rfl (fun q hq => by cases hq) (.refl _) hval

theorem c_round_CheckMarks (p0 : Chart) (p1 : Int) (p2 : Int) (p3 : (List Int)) {r : Int} (H : round_CheckMarks p0 p1 p2 p3 = some r) : Ctr Try.prog 47 [.agg [.int .i64 (p0.Places), roL 7 enc_Way p0.Ways], .int .i64 (p1), .int .i64 (p2), roL 1 enc_Int p3] (.int .i64 (r)) := by
  unfold round_CheckMarks at H
  refine Ctr.of_body (N := 75) Try.func47 (by kernel_rfl) (c := _) rfl Try.ntmps47 rfl (fun w0 h0 hval => ?_)
  refine W.seq ?_
  refine W.region env [] [] rfl rfl rfl .nil .nil (At.keep (ts := [1, 2, 4, 7, 8]) (ids := [4, 7, 8]) rfl rfl ?_)
  refine At.thenC ?_
  refine W.seq ?_
  refine W.seq ?_
  obtain ⟨y1, hy2, H⟩ := of_bindO H
  refine W.region env [] [⟨.int .i64 (y1), [], 0, []⟩] rfl rfl rfl .nil (.free (Ctr.sim (.cons (.refl _) (.cons (.refl _) (.cons (Sim.lit (f := enc_Int) ([p1] : List Int) rfl rfl (fun _ => rfl)) .nil))) (c_round_placeOf p0 p2 ([p1] : List Int) hy2)) .nil) (At.keep (ts := [1, 2, 4, 7, 8, 9]) (ids := [4, 7, 8]) rfl rfl ?_)
  refine At.thenC ?_
  refine W.seq ?_
  refine W.region env [] [] rfl rfl rfl .nil .nil (At.keep (ts := [1, 2, 4, 7, 8, 9, 21]) (ids := [4, 7, 8]) rfl rfl ?_)
  refine At.thenC ?_
  refine W.cond rfl (fun hb3 => ?_) (fun hb3 => ?_)
  · have H := of_true H hb3
    refine W.seq ?_
    refine W.region env [] [] rfl rfl rfl .nil .nil (At.keep (ts := [8]) (ids := [8]) rfl rfl ?_)
    refine At.thenC ?_
    refine W.ret ?_
    refine At.rthen ?_
    cases H
    exact At.ret env.ty rfl rfl (fun q hq => by cases hq) (.refl _) hval
  · have H := of_false H hb3
    refine W.skip ?_
    refine At.thenC ?_
    refine W.seq ?_
    refine W.seq ?_
    obtain ⟨y4, hy5, H⟩ := of_bindO H
    obtain ⟨hc6, H⟩ := of_must H
    refine W.region env [] [⟨.bool (y4), [], 0, []⟩, ⟨.bool ((round_within (p3.getD (p1).toNat default) 0 p2)), [], 0, []⟩] rfl rfl rfl (.cons (fun h => h) (.cons (fun h => by rw [h]; rfl) (.cons hc6 (.cons (fun h => h) (.cons (fun h => h) (.cons (fun h => h) (.cons (fun h => h) (.cons (fun h => h) (.cons (fun h => h) (.cons (fun h => by rw [h]; rfl) .nil)))))))))) (.on (fun hW => c_slices_ContainsFunc_int p3 (fun x0 => some (round_CheckMarks_1 x0)) 95 [] [] (fun x0 r h => by cases h; exact c_round_CheckMarks_1 x0) (of_true hy5 hW)) (.on (fun hW => c_round_within (p3.getD (p1).toNat default) 0 p2) .nil)) (At.keep (ts := [4, 7, 8, 40]) (ids := [4, 7, 8]) rfl rfl ?_)
    refine At.thenC ?_
    refine W.cond rfl (fun hb7 => ?_) (fun hb7 => ?_)
    · have H := of_true H hb7
      refine W.seq ?_
      refine W.region env [] [] rfl rfl rfl .nil .nil (At.keep (ts := [8]) (ids := [8]) rfl rfl ?_)
      refine At.thenC ?_
      refine W.ret ?_
      refine At.rthen ?_
      cases H
      exact At.ret env.ty rfl rfl (fun q hq => by cases hq) (.refl _) hval
    · have H := of_false H hb7
      refine W.skip ?_
      refine At.thenC ?_
      refine W.seq ?_
      refine W.seq ?_
      refine W.region env [] [] rfl rfl rfl .nil .nil (At.keep (ts := [4, 7, 8, 41, 42, 43]) (ids := [4, 7, 8]) rfl rfl ?_)
      refine At.thenC ?_
      refine W.block ?_
      refine At.keep (ts := [4, 7, 8, 41, 42, 43]) (ids := [4, 7, 8]) rfl rfl ?_
      refine W.len (t := 41) rfl (fun hn8 => ?_)
      refine W.rangeGo H (fun i8 (s8 : Unit) => [(4, .lp 4 0), (7, .lp 7 0), (8, .lp 8 0), (41, roL 1 enc_Int p3), (42, .int .i64 (((p3.length : Nat) : Int))), (43, .int .i64 ((i8 : Int)))]) (fun i8 (s8 : Unit) => [(4, .cells [.int .i64 (p0.Places), roL 7 enc_Way p0.Ways]), (7, .cells [roL 1 enc_Int p3]), (8, .cells [.int .i64 (0)])]) (.cons (.of_eq (by first | rfl | (simp; done) | omega | (simp; omega))) (.cons (.of_eq (by first | rfl | (simp; done) | omega | (simp; omega))) (.cons (.of_eq (by first | rfl | (simp; done) | omega | (simp; omega))) (.cons (.of_eq (by first | rfl | (simp; done) | omega | (simp; omega))) (.cons (.of_eq (by first | rfl | (simp; done) | omega | (simp; omega))) (.cons (.of_eq (by first | rfl | (simp; done) | omega | (simp; omega))) .nil)))))) (.cons (.of_eq (by first | rfl | (simp; done) | omega | (simp; omega))) (.cons (.of_eq (by first | rfl | (simp; done) | omega | (simp; omega))) (.cons (.of_eq (by first | rfl | (simp; done) | omega | (simp; omega))) .nil))) (fun k8 i8 s8 hle8 H1 H2 K0 hK8 => ?_)
      refine W.seq ?_
      refine W.region env [] [] rfl rfl rfl .nil .nil (At.keep (ts := [4, 7, 8, 41, 42, 43, 44]) (ids := [4, 7, 8]) rfl rfl ?_)
      refine At.thenC ?_
      refine W.seq ?_
      refine W.cond rfl (fun hb9 => ?_) (fun hb9 => ?_)
      · have hi8 : i8 < p3.length := by have := of_decide_eq_true hb9; omega
        have H := H1 hi8
        refine W.skip ?_
        refine At.thenC ?_
        refine W.seq ?_
        refine W.joinC H (fun (s10 : Unit) => [(4, .lp 4 0), (7, .lp 7 0), (8, .lp 8 0), (41, roL 1 enc_Int p3), (42, .int .i64 (((p3.length : Nat) : Int))), (43, .int .i64 ((i8 : Int)))]) (fun (s10 : Unit) => [(4, .cells [.int .i64 (p0.Places), roL 7 enc_Way p0.Ways]), (7, .cells [roL 1 enc_Int p3]), (8, .cells [.int .i64 (0)])]) (fun s10 H => ?_) (fun k10 H hK10 => ?_)
        · refine W.region env [] [] rfl rfl rfl (.cons (by unfold inI; have := hn8; (try unfold maxLen at this); omega) .nil) .nil (At.keep (ts := [4, 7, 8, 41, 42, 43]) (ids := [4, 7, 8]) rfl rfl ?_)
          refine At.thenK (At.keep (ts := [4, 7, 8, 41, 42, 43]) (ids := [4, 7, 8]) rfl rfl ?_)
          exact At.conv (.cons (.of_eq (by first | rfl | (simp; done) | omega | (simp; omega))) (.cons (.of_eq (by first | rfl | (simp; done) | omega | (simp; omega))) (.cons (.of_eq (by first | rfl | (simp; done) | omega | (simp; omega))) (.cons (.of_eq (by first | rfl | (simp; done) | omega | (simp; omega))) (.cons (.of_eq (by first | rfl | (simp; done) | omega | (simp; omega))) (.cons (.of_eq (by first | rfl | (simp; done) | omega | (simp; omega))) .nil)))))) (.cons (.of_eq (by first | rfl | (simp; done) | omega | (simp; omega))) (.cons (.of_eq (by first | rfl | (simp; done) | omega | (simp; omega))) (.cons (.of_eq (by first | rfl | (simp; done) | omega | (simp; omega))) .nil))) (hK8 hi8 () H)
        · refine W.block ?_
          refine W.seq ?_
          refine W.region env [] [] rfl rfl rfl (.cons (⟨by omega, by omega⟩ : 0 ≤ (i8 : Int) ∧ (i8 : Int) < ((p3.length : Nat) : Int)) .nil) .nil (At.keep (ts := [4, 7, 8, 10, 11, 41, 42, 43]) (ids := [4, 7, 8]) rfl rfl ?_)
          refine At.thenC ?_
          refine W.seq ?_
          refine W.seq ?_
          refine W.region env [] [] rfl rfl rfl .nil .nil (At.keep (ts := [4, 7, 8, 10, 11, 41, 42, 43, 49]) (ids := [4, 7, 8]) rfl rfl ?_)
          refine At.thenC ?_
          refine W.cond rfl (fun hb11 => ?_) (fun hb11 => ?_)
          · have H := of_true H hb11
            refine W.exit ?_
            refine At.xthen ?_
            refine At.xhere ?_
            refine At.thenK (At.keep (ts := [4, 7, 8, 41, 42, 43]) (ids := [4, 7, 8]) rfl rfl ?_)
            exact At.conv (.cons (.of_eq (by first | rfl | (simp; done) | omega | (simp; omega))) (.cons (.of_eq (by first | rfl | (simp; done) | omega | (simp; omega))) (.cons (.of_eq (by first | rfl | (simp; done) | omega | (simp; omega))) (.cons (.of_eq (by first | rfl | (simp; done) | omega | (simp; omega))) (.cons (.of_eq (by first | rfl | (simp; done) | omega | (simp; omega))) (.cons (.of_eq (by first | rfl | (simp; done) | omega | (simp; omega))) .nil)))))) (.cons (.of_eq (by first | rfl | (simp; done) | omega | (simp; omega))) (.cons (.of_eq (by first | rfl | (simp; done) | omega | (simp; omega))) (.cons (.of_eq (by first | rfl | (simp; done) | omega | (simp; omega))) .nil))) (hK10 () H)
          · have H := of_false H hb11
            refine W.skip ?_
            refine At.thenC ?_
            refine W.seq ?_
            refine W.region env [] [⟨.clo (.func 115) [] [.rp [.int .i64 (p0.Places), roL 7 enc_Way p0.Ways]], [], 0, []⟩, ⟨.clo (.func 121) [] [.rp [.int .i64 (p0.Places), roL 7 enc_Way p0.Ways], .rp [.int .i64 ((i8 : Int))], .rp [.int .i64 ((p3.getD i8 default))], .rp [.clo (.func 115) [] [.rp [.int .i64 (p0.Places), roL 7 enc_Way p0.Ways]]]], [], 0, []⟩] rfl rfl rfl .nil (.free (c_round_most p0) (.free (c_round_from p0 (i8 : Int) (p3.getD i8 default) (fun x0 => round_most_1 x0 p0) 115 [] ([.rp [.int .i64 (p0.Places), roL 7 enc_Way p0.Ways]]) (fun x0 r h => c_round_most_1 x0 p0 h)) .nil)) (At.keep (ts := [4, 7, 8, 41, 42, 43, 55]) (ids := [4, 7, 8]) rfl rfl ?_)
            refine At.thenC ?_
            refine W.block ?_
            obtain ⟨it12, hit12, H⟩ := of_bindO H
            refine At.keep (ts := [4, 7, 8, 41, 42, 43, 55]) (ids := [4, 7, 8]) rfl rfl ?_
            refine W.listGo H (fun (x : Int × Int) => [.int .i64 (x.1), .int .i64 (x.2)]) (c_round_from_1 p0 (i8 : Int) (p3.getD i8 default) (fun x0 => round_most_1 x0 p0) 115 [] ([.rp [.int .i64 (p0.Places), roL 7 enc_Way p0.Ways]]) (fun x0 r h => c_round_most_1 x0 p0 h) hit12) rfl (fun _ => ⟨rfl, rfl⟩) rfl rfl rfl (fun (s13 : Unit) => [(4, .cells [.int .i64 (p0.Places), roL 7 enc_Way p0.Ways]), (7, .cells [roL 1 enc_Int p3]), (8, .cells [.int .i64 (0)])]) (.cons (.of_eq (by first | rfl | (simp; done) | omega | (simp; omega))) (.cons (.of_eq (by first | rfl | (simp; done) | omega | (simp; omega))) (.cons (.of_eq (by first | rfl | (simp; done) | omega | (simp; omega))) .nil))) (fun (x12 : Int × Int) => [(4, .lp 4 0), (7, .lp 7 0), (8, .lp 8 0), (12, .int .i64 (x12.1)), (13, .int .i64 (x12.2))]) (fun e (sx : Int) => e = Exit.ret ∧ some sx = some r) (fun _ (sx : Int) => [(4, .cells [.int .i64 (p0.Places), roL 7 enc_Way p0.Ways]), (7, .cells [roL 1 enc_Int p3]), (8, .cells [.int .i64 (sx)])]) (fun e s h => .inl h.1) hval (fun h1 vs gh st lp x12 s13 K hK => ?_) (fun k13 h1 vs gh st lp x12 s13 H Qr hQ13 hX13 => ?_) (fun s13 H => ?_) (fun e sx h => ?_)
            · refine W.seq ?_
              refine W.region env [] [] rfl rfl rfl .nil .nil (At.keep (ts := [4, 7, 8, 12, 57]) (ids := [4, 7, 8]) rfl rfl ?_)
              refine At.thenC ?_
              refine W.region env [] [] rfl rfl rfl .nil .nil (At.keep (ts := [4, 7, 8, 12, 13]) (ids := [4, 7, 8]) rfl rfl ?_)
              refine At.thenK (At.keep (ts := [4, 7, 8, 12, 13]) (ids := [4, 7, 8]) rfl rfl ?_)
              exact hK
            · refine W.block ?_
              refine W.seq ?_
              obtain ⟨hc14, H⟩ := of_must H
              obtain ⟨hc15, H⟩ := of_must H
              refine W.region env [] [] rfl rfl rfl (.cons hc14 (.cons hc15 .nil)) .nil (At.keep (ts := [8, 13, 14]) (ids := [4, 7, 8]) rfl rfl ?_)
              refine At.thenC ?_
              refine W.seq ?_
              refine W.region env [] [] rfl rfl rfl (.cons (fun h => h) (.cons (fun h => h) (.cons (fun h => by rw [h]; rfl) .nil))) .nil (At.keep (ts := [8, 73]) (ids := [4, 7, 8]) rfl rfl ?_)
              refine At.thenC ?_
              refine W.cond rfl (fun hb16 => ?_) (fun hb16 => ?_)
              · have H := of_true H hb16
                refine W.seq ?_
                refine W.region env [] [] rfl rfl rfl .nil .nil (At.keep (ts := [8]) (ids := [4, 7, 8]) rfl rfl ?_)
                refine At.thenC ?_
                refine W.ret ?_
                refine At.rinb ?_
                refine At.keep (ts := []) (ids := [4, 7, 8]) rfl rfl ?_
                exact At.conv .nil (.cons (.of_eq (by first | rfl | (simp; done) | omega | (simp; omega))) (.cons (.of_eq (by first | rfl | (simp; done) | omega | (simp; omega))) (.cons (.of_eq (by first | rfl | (simp; done) | omega | (simp; omega))) .nil))) (hX13 .ret 37 ⟨rfl, H⟩)
              · have H := of_false H hb16
                refine W.skip ?_
                refine At.inb ?_
                refine At.keep (ts := []) (ids := [4, 7, 8]) rfl rfl ?_
                exact At.conv .nil (.cons (.of_eq (by first | rfl | (simp; done) | omega | (simp; omega))) (.cons (.of_eq (by first | rfl | (simp; done) | omega | (simp; omega))) (.cons (.of_eq (by first | rfl | (simp; done) | omega | (simp; omega))) .nil))) (hQ13 () H)
            · refine At.inb ?_
              refine At.inb ?_
              refine At.thenK (At.keep (ts := [4, 7, 8, 41, 42, 43]) (ids := [4, 7, 8]) rfl rfl ?_)
              exact At.conv (.cons (.of_eq (by first | rfl | (simp; done) | omega | (simp; omega))) (.cons (.of_eq (by first | rfl | (simp; done) | omega | (simp; omega))) (.cons (.of_eq (by first | rfl | (simp; done) | omega | (simp; omega))) (.cons (.of_eq (by first | rfl | (simp; done) | omega | (simp; omega))) (.cons (.of_eq (by first | rfl | (simp; done) | omega | (simp; omega))) (.cons (.of_eq (by first | rfl | (simp; done) | omega | (simp; omega))) .nil)))))) (.cons (.of_eq (by first | rfl | (simp; done) | omega | (simp; omega))) (.cons (.of_eq (by first | rfl | (simp; done) | omega | (simp; omega))) (.cons (.of_eq (by first | rfl | (simp; done) | omega | (simp; omega))) .nil))) (hK10 () H)
            · obtain ⟨rfl, H⟩ := h
              refine At.rinb ?_
              refine At.rinb ?_
              refine At.rthen ?_
              refine At.rthen ?_
              refine At.rinb ?_
              refine At.rthen ?_
              cases H
              exact At.ret env.ty rfl rfl (fun q hq => by cases hq) (.refl _) hval
      · have H := H2 (by have := of_decide_eq_false hb9; omega)
        refine W.exit ?_
        refine At.xthen ?_
        refine At.xthen ?_
        refine At.xhere ?_
        refine At.thenC ?_
        refine W.seq ?_
        refine W.region env [] [] rfl rfl rfl .nil .nil (At.keep (ts := [8]) (ids := [8]) rfl rfl ?_)
        refine At.thenC ?_
        refine W.ret ?_
        cases H
        exact At.ret env.ty rfl rfl (fun q hq => by cases hq) (.refl _) hval

theorem cl_slices_Reverse_int_l (fuel : Nat) (p0 : (List Int)) {r : (List Int)} (H : slices_Reverse_int_l fuel p0 = some r) : CtrO Try.prog 99 [.buf 90000 (p0).length] [(90000, bufL 3 1 enc_Int p0)] (.tup []) [(90000, bufL 3 1 enc_Int r)] := by
  unfold slices_Reverse_int_l at H
  refine CtrL.of_body (N := 28) Try.func99 (by kernel_rfl) (c := _) rfl Try.ntmps99 rfl rfl (fun w0 h0 ρb hval hdom hent => ?_)
  refine W.seq ?_
  obtain ⟨hc1, H⟩ := of_must H
  refine W.region env [] [] rfl rfl rfl (.cons (by first | rfl | (simp; done) | omega | (simp; omega)) (.cons hc1 .nil)) .nil (At.keep (ts := [0, 2, 3]) (ids := [90000]) rfl rfl ?_)
  refine At.thenC ?_
  refine W.block ?_
  refine At.keep (ts := [0, 2, 3]) (ids := [90000]) rfl rfl ?_
  refine W.loopGo H (fun (s2 : Int × Int × (List Int)) => [(0, .buf 90000 (s2.2.2).length), (2, .int .i64 (s2.1)), (3, .int .i64 (s2.2.1))]) (fun (s2 : Int × Int × (List Int)) => [(90000, bufL 3 1 enc_Int s2.2.2)]) (.cons (.of_eq (by refine bufEq ?_; first | (simp [copyAt]; done) | omega | (simp [copyAt]; omega) | rfl)) (.cons (.of_eq (by first | rfl | (simp; done) | omega | (simp; omega))) (.cons (.of_eq (by first | rfl | (simp; done) | omega | (simp; omega))) .nil))) (.cons (.of_eq (by first | rfl | (simp; done) | omega | (simp; omega))) .nil) (fun k2 s2 H K0 hK2 => ?_)
  refine W.seq ?_
  refine W.seq ?_
  refine W.region env [] [] rfl rfl rfl .nil .nil (At.keep (ts := [0, 2, 3, 9]) (ids := [90000]) rfl rfl ?_)
  refine At.thenC ?_
  refine W.cond rfl (fun hb3 => ?_) (fun hb3 => ?_)
  · have H := of_true H hb3
    refine W.skip ?_
    refine At.thenC ?_
    refine W.seq ?_
    refine W.block ?_
    obtain ⟨hc4, H⟩ := of_must H
    obtain ⟨hc5, H⟩ := of_must H
    obtain ⟨hc6, H⟩ := of_must H
    obtain ⟨hc7, H⟩ := of_must H
    refine W.region env [] [] rfl rfl rfl (.cons (⟨by first | rfl | (simp; done) | omega | (simp; omega), hc4⟩) (.cons (⟨by first | rfl | (simp; done) | omega | (simp; omega), (by have := hc4; omega)⟩) (.cons (⟨by first | rfl | (simp; done) | omega | (simp; omega), hc5⟩) (.cons (⟨by first | rfl | (simp; done) | omega | (simp; omega), (by have := hc5; omega)⟩) (.cons (⟨by first | rfl | (simp; done) | omega | (simp; omega), hc6⟩) (.cons (⟨by first | rfl | (simp; done) | omega | (simp; omega), (by have := hc6; omega)⟩) (.cons (⟨by first | rfl | (simp; done) | omega | (simp; omega), (by simpa using hc7)⟩) (.cons (⟨by first | rfl | (simp; done) | omega | (simp; omega), (by have := hc7; simp at this ⊢; omega)⟩) .nil)))))))) .nil (At.keep (ts := [0, 2, 3]) (ids := [90000]) rfl rfl ?_)
    refine At.convM (.cons (y := bufL 3 1 enc_Int ((s2.2.2.set (s2.1).toNat (s2.2.2.getD (s2.2.1).toNat default)).set (s2.2.1).toNat (s2.2.2.getD (s2.1).toNat default))) (BSim.seg (Seg.set (Seg.set (Seg.refl enc_Int _) (s2.2.2.getD (s2.2.1).toNat default) rfl) (s2.2.2.getD (s2.1).toNat default) rfl)) .nil) ?_
    refine At.inb ?_
    refine At.thenC ?_
    obtain ⟨hc8, H⟩ := of_must H
    obtain ⟨hc9, H⟩ := of_must H
    refine W.region env [] [] rfl rfl rfl (.cons hc8 (.cons hc9 .nil)) .nil (At.keep (ts := [0, 2, 3]) (ids := [90000]) rfl rfl ?_)
    refine At.thenK (At.keep (ts := [0, 2, 3]) (ids := [90000]) rfl rfl ?_)
    exact At.conv (.cons (.of_eq (by refine bufEq ?_; first | (simp [copyAt]; done) | omega | (simp [copyAt]; omega) | rfl)) (.cons (.of_eq (by first | rfl | (simp; done) | omega | (simp; omega))) (.cons (.of_eq (by first | rfl | (simp; done) | omega | (simp; omega))) .nil))) (.cons (.of_eq (by first | rfl | (simp; done) | omega | (simp; omega))) .nil) (hK2 ((s2.1 + 1), (s2.2.1 - 1), ((s2.2.2.set (s2.1).toNat (s2.2.2.getD (s2.2.1).toNat default)).set (s2.2.1).toNat (s2.2.2.getD (s2.1).toNat default))) H)
  · have H := of_false H hb3
    refine W.exit ?_
    refine At.xthen ?_
    refine At.xthen ?_
    refine At.xhere ?_
    refine At.oofNormal ?_
    cases H
    exact At.retL env.ty [90000] rfl rfl rfl rfl (.cons (.refl _) .nil) (.refl _) hval hdom hent rfl rfl

theorem c_round_Path (fuel : Nat) (p0 : Chart) (p1 : Trip) {r : ((List Int) × Int)} (H : round_Path fuel p0 p1 = some r) : Ctr Try.prog 49 [.agg [.int .i64 (p0.Places), roL 7 enc_Way p0.Ways], .agg [.int .i64 (p1.From), .int .i64 (p1.To), .int .i64 (p1.At)]] (.tup [roL 1 enc_Int r.1, .int .i64 (r.2)]) := by
  unfold round_Path at H
  refine Ctr.of_body (N := 60) Try.func49 (by kernel_rfl) (c := _) rfl Try.ntmps49 rfl (fun w0 h0 hval => ?_)
  refine W.seq ?_
  refine W.region env [] [] rfl rfl rfl .nil .nil (At.keep (ts := [2, 3]) (ids := [2, 3]) rfl rfl ?_)
  refine At.thenC ?_
  refine W.seq ?_
  refine W.seq ?_
  obtain ⟨y1, hy2, H⟩ := of_bindO H
  refine W.region env [] [⟨.int .i64 (y1), [], 0, []⟩] rfl rfl rfl .nil (.free (Ctr.sim (.cons (.refl _) (.cons (.refl _) (.cons (Sim.lit (f := enc_Int) ([p1.From, p1.To] : List Int) rfl rfl (fun _ => rfl)) .nil))) (c_round_placeOf p0 p1.At ([p1.From, p1.To] : List Int) hy2)) .nil) (At.keep (ts := [2, 3, 6]) (ids := [2, 3]) rfl rfl ?_)
  refine At.thenC ?_
  refine W.seq ?_
  refine W.region env [] [] rfl rfl rfl .nil .nil (At.keep (ts := [2, 3, 6, 21]) (ids := [2, 3]) rfl rfl ?_)
  refine At.thenC ?_
  refine W.cond rfl (fun hb3 => ?_) (fun hb3 => ?_)
  · have H := of_true H hb3
    refine W.seq ?_
    refine W.region env [] [] rfl rfl rfl .nil .nil (At.keep (ts := [4, 5]) (ids := []) rfl rfl ?_)
    refine At.thenC ?_
    refine W.ret ?_
    refine At.rthen ?_
    cases H
    exact At.ret env.ty rfl rfl (fun q hq => by cases hq) (Sim.tupL (.cons (Sim.nil _ _) (.cons (.refl _) .nil))) hval
  · have H := of_false H hb3
    refine W.skip ?_
    refine At.thenC ?_
    refine W.seq ?_
    obtain ⟨y4, hy5, H⟩ := of_bindO H
    refine W.region env [] [⟨.clo (.func 115) [] [.rp [.int .i64 (p0.Places), roL 7 enc_Way p0.Ways]], [], 0, []⟩, ⟨romL (.agg #[.int .i64 0, .int .i64 0]) (fun (x : round_reached) => .agg [.int .i64 (x.at_), .int .i64 (x.way)]) y4, [], 0, []⟩] rfl rfl rfl .nil (.free (c_round_most p0) (.free (c_round_reach fuel p0 p1.From p1.At (fun x0 => round_most_1 x0 p0) 115 [] ([.rp [.int .i64 (p0.Places), roL 7 enc_Way p0.Ways]]) (fun x0 r h => c_round_most_1 x0 p0 h) hy5) .nil)) (At.keep (ts := [2, 3, 7]) (ids := [2, 3]) rfl rfl ?_)
    refine At.thenC ?_
    refine W.seq ?_
    refine W.region env [] [] rfl rfl rfl (.cons rfl .nil) .nil (At.keep (ts := [2, 7, 8, 9]) (ids := [2, 8]) rfl rfl ?_)
    refine At.thenC ?_
    refine W.seq ?_
    refine W.seq ?_
    refine W.region env [] [] rfl rfl rfl .nil .nil (At.keep (ts := [2, 7, 8, 39]) (ids := [2, 8]) rfl rfl ?_)
    refine At.thenC ?_
    refine W.cond rfl (fun hb6 => ?_) (fun hb6 => ?_)
    · have H := of_true H hb6
      refine W.seq ?_
      refine W.region env [] [] rfl rfl rfl .nil .nil (At.keep (ts := [4, 5]) (ids := []) rfl rfl ?_)
      refine At.thenC ?_
      refine W.ret ?_
      refine At.rthen ?_
      cases H
      exact At.ret env.ty rfl rfl (fun q hq => by cases hq) (Sim.tupL (.cons (Sim.nil _ _) (.cons (.refl _) .nil))) hval
    · have H := of_false H hb6
      refine W.skip ?_
      refine At.thenC ?_
      refine W.seq ?_
      refine W.region env [] [] rfl rfl rfl .nil .nil (At.keep (ts := [2, 7, 8, 10]) (ids := [2, 8]) rfl rfl ?_)
      refine At.thenC ?_
      refine W.seq ?_
      refine W.block ?_
      refine At.nilOwn 10 510 3 1 (e := fun i => enc_Int (([] : List Int).getD i default)) rfl rfl ?_
      refine At.keep (ts := [2, 7, 8, 10]) (ids := [2, 8, 510]) rfl rfl ?_
      refine W.loopGo H (fun (s7 : (List Int) × round_reached) => [(2, .lp 2 0), (7, romL (.agg #[.int .i64 0, .int .i64 0]) (fun (x : round_reached) => .agg [.int .i64 (x.at_), .int .i64 (x.way)]) y4), (8, .lp 8 0), (10, .buf 510 (s7.1).length)]) (fun (s7 : (List Int) × round_reached) => [(2, .cells [.int .i64 (p0.Places), roL 7 enc_Way p0.Ways]), (8, .cells [.int .i64 (s7.2.at_), .int .i64 (s7.2.way)]), (510, bufL 3 1 enc_Int s7.1)]) (.cons (.of_eq (by first | rfl | (simp; done) | omega | (simp; omega))) (.cons (.of_eq (by first | rfl | (simp; done) | omega | (simp; omega))) (.cons (.of_eq (by first | rfl | (simp; done) | omega | (simp; omega))) (.cons (.of_eq (by refine bufEq ?_; first | (simp [copyAt]; done) | omega | (simp [copyAt]; omega) | rfl)) .nil)))) (.cons (.of_eq (by first | rfl | (simp; done) | omega | (simp; omega))) (.cons (.of_eq (by first | rfl | (simp; done) | omega | (simp; omega))) (.cons (.of_eq (by first | rfl | (simp; done) | omega | (simp; omega))) .nil))) (fun k7 s7 H K0 hK7 => ?_)
      refine W.seq ?_
      refine W.seq ?_
      refine W.region env [] [] rfl rfl rfl .nil .nil (At.keep (ts := [2, 7, 8, 10, 42]) (ids := [2, 8, 510]) rfl rfl ?_)
      refine At.thenC ?_
      refine W.cond rfl (fun hb8 => ?_) (fun hb8 => ?_)
      · have H := of_true H hb8
        refine W.skip ?_
        refine At.thenC ?_
        refine W.block ?_
        refine W.seq ?_
        obtain ⟨hc9, H⟩ := of_must H
        refine W.region env [] [] rfl rfl rfl (.cons (⟨by first | rfl | (simp; done) | omega | (simp; omega), by have := hc9; first | simpa using this | (unfold room at this ⊢; simp at this ⊢; omega)⟩) .nil) .nil (At.keep (ts := [2, 7, 8, 10]) (ids := [2, 8, 510]) rfl rfl ?_)
        refine At.convM (.cons (.refl _) (.cons (.refl _) (.cons (y := bufL 3 1 enc_Int (s7.1 ++ ([s7.2.way] : List Int))) (BSim.seg (Seg.push (Seg.refl enc_Int _) (Seg.lit (f := enc_Int) (sz := 1) ([s7.2.way] : List Int) rfl rfl (fun _ => rfl)))) .nil))) ?_
        refine At.thenC ?_
        obtain ⟨hc10, H⟩ := of_must H
        refine W.region env [] [] rfl rfl rfl (.cons hc10 (.cons rfl .nil)) .nil (At.keep (ts := [2, 7, 8, 10]) (ids := [2, 8, 510]) rfl rfl ?_)
        refine At.inb ?_
        refine At.thenK (At.keep (ts := [2, 7, 8, 10]) (ids := [2, 8, 510]) rfl rfl ?_)
        exact At.conv (.cons (.of_eq (by first | rfl | (simp; done) | omega | (simp; omega))) (.cons (.of_eq (by first | rfl | (simp; done) | omega | (simp; omega))) (.cons (.of_eq (by first | rfl | (simp; done) | omega | (simp; omega))) (.cons (.of_eq (by refine bufEq ?_; first | (simp [copyAt]; done) | omega | (simp [copyAt]; omega) | rfl)) .nil)))) (.cons (.of_eq (by first | rfl | (simp; done) | omega | (simp; omega))) (.cons (.of_eq (by first | rfl | (simp; done) | omega | (simp; omega))) (.cons (.of_eq (by first | rfl | (simp; done) | omega | (simp; omega))) .nil))) (hK7 ((s7.1 ++ ([s7.2.way] : List Int)), ((y4.get ((p0.Ways.getD (s7.2.way).toNat default).From)).getD default)) H)
      · have H := of_false H hb8
        refine W.exit ?_
        refine At.xthen ?_
        refine At.xthen ?_
        refine At.xhere ?_
        refine At.thenC ?_
        refine W.seq ?_
        obtain ⟨y11, hy12, H⟩ := of_bindO H
        obtain ⟨hc13, H⟩ := of_must H
        refine W.region env [] [⟨.tup [], [(510, bufL 3 1 enc_Int y11)], 0, [510]⟩] rfl rfl (by kernel_rfl) .nil (.free (CtrO.sim (CtrO.ren (cl_slices_Reverse_int_l fuel s7.1 hy12) [(90000, 510)]) (.cons (.of_eq (by refine bufEq ?_; first | rfl | (simp; done) | omega | (simp; omega))) .nil) (.cons (.refl _) .nil)) .nil) (At.keep (ts := [10]) (ids := [510]) rfl rfl ?_)
        refine At.thenC ?_
        refine W.seq ?_
        refine W.region env [] [] rfl rfl rfl .nil .nil (At.keep (ts := [4, 5]) (ids := [510]) rfl rfl ?_)
        refine At.thenC ?_
        refine W.ret ?_
        cases H
        exact At.ret env.ty rfl rfl (fun q hq => by cases hq; exact (by first | rfl | (simp; done) | omega | (simp; omega))) (.refl _) hval

theorem c_gasolierlaw03_RoundShown (fuel : Nat) (p0 : gasolierref03_Raw) (p1 : (List Int)) (p2 : (List Int)) {r : Bool} (H : gasolierlaw03_RoundShown fuel p0 p1 p2 = some r) : Ctr Try.prog 15 [.agg [.int .i64 (p0.Places), roL 7 enc_Arr7Int p0.Ways, .int .i64 (p0.Round.x0), .int .i64 (p0.Round.x1), roL 4 enc_Arr4Int p0.Stops], roL 1 enc_Int p1, roL 1 enc_Int p2] (.bool (r)) := by
  unfold gasolierlaw03_RoundShown at H
  refine Ctr.of_body (N := 211) Try.func15 (by kernel_rfl) (c := _) rfl Try.ntmps15 rfl (fun w0 h0 hval => ?_)
  refine W.seq ?_
  refine W.region env [] [] rfl rfl rfl .nil .nil (At.keep (ts := [1, 2, 3]) (ids := [3]) rfl rfl ?_)
  refine At.thenC ?_
  refine W.seq ?_
  obtain ⟨y1, hy2, H⟩ := of_bindO H
  refine W.region env [] [⟨.bool (y1), [], 0, []⟩] rfl rfl rfl .nil (.free (c_gasolierlaw03_sane fuel hy2) .nil) (At.keep (ts := [1, 2, 3, 7]) (ids := [3]) rfl rfl ?_)
  refine At.thenC ?_
  refine W.seq ?_
  obtain ⟨y3, hy4, H⟩ := of_bindO H
  refine W.region env [] [⟨.tup [.agg [.int .i64 (y3.1.Places), roL 7 enc_Way y3.1.Ways], .agg [.int .i64 (y3.2.Place), .int .i64 (y3.2.At), roL 4 enc_Stop y3.2.Stops]], [], 0, []⟩] rfl rfl rfl .nil (.free (c_gasolierref03_Made fuel p0 hy4) .nil) (At.keep (ts := [1, 2, 7, 8, 9]) (ids := [8, 9]) rfl rfl ?_)
  refine At.thenC ?_
  refine W.seq ?_
  obtain ⟨y5, hy6, H⟩ := of_bindO H
  refine W.region env [] [⟨.tup [roL 1 enc_Int y5.1, .int .i64 (y5.2)], [], 0, []⟩] rfl rfl rfl .nil (.free (c_round_Sure fuel y3.1 y3.2.Place y3.2.At hy6) .nil) (At.keep (ts := [1, 2, 7, 8, 9, 10, 11]) (ids := [8, 9]) rfl rfl ?_)
  refine At.thenC ?_
  refine W.seq ?_
  refine W.seq ?_
  obtain ⟨y7, hy8, H⟩ := of_bindO H
  refine W.region env [] [⟨.int .i64 (y7), [], 0, []⟩] rfl rfl rfl (.cons (fun h => h) (.cons (fun h => by rw [h]; rfl) (.cons (fun h => h) (.cons (fun h => h) (.cons (fun h => h) (.cons (fun h => h) (.cons (fun h => by rw [h]; rfl) (.cons (fun h => h) (.cons (fun h => h) (.cons (fun h => h) (.cons (fun h => h) (.cons (fun h => h) (.cons (fun h => h) (.cons (fun h => h) (.cons (fun h => by rw [h]; rfl) .nil))))))))))))))) (.on (fun hW => c_round_CheckMarks y3.1 y3.2.Place y3.2.At y5.1 (of_true hy8 hW)) .nil) (At.keep (ts := [1, 2, 8, 9, 10, 58]) (ids := [8, 9]) rfl rfl ?_)
  refine At.thenC ?_
  refine W.cond rfl (fun hb9 => ?_) (fun hb9 => ?_)
  · have H := of_true H hb9
    refine W.seq ?_
    refine W.region env [] [] rfl rfl rfl .nil .nil (At.keep (ts := [6]) (ids := []) rfl rfl ?_)
    refine At.thenC ?_
    refine W.ret ?_
    refine At.rthen ?_
    cases H
    exact At.ret env.ty rfl rfl (fun q hq => by cases hq) (.refl _) hval
  · have H := of_false H hb9
    refine W.skip ?_
    refine At.thenC ?_
    refine W.seq ?_
    refine W.region env [] [] rfl rfl rfl .nil .nil (At.keep (ts := [1, 2, 8, 9, 10, 12]) (ids := [8, 9]) rfl rfl ?_)
    refine At.thenC ?_
    refine W.seq ?_
    refine W.seq ?_
    refine W.region env [] [] rfl rfl rfl .nil .nil (At.keep (ts := [1, 2, 8, 9, 10, 12, 13]) (ids := [8, 9]) rfl rfl ?_)
    refine At.thenC ?_
    refine W.block ?_
    refine At.nilOwn 12 512 3 1 (e := fun i => enc_Int (([] : List Int).getD i default)) rfl rfl ?_
    refine At.keep (ts := [1, 2, 8, 9, 10, 12, 13]) (ids := [8, 9, 512]) rfl rfl ?_
    refine W.loopGo H (fun (s10 : Int × (List Int)) => [(1, roL 1 enc_Int p1), (2, roL 1 enc_Int p2), (8, .lp 8 0), (9, .lp 9 0), (10, roL 1 enc_Int y5.1), (12, .buf 512 (s10.2).length), (13, .int .i64 (s10.1))]) (fun (s10 : Int × (List Int)) => [(8, .cells [.int .i64 (y3.1.Places), roL 7 enc_Way y3.1.Ways]), (9, .cells [.int .i64 (y3.2.Place), .int .i64 (y3.2.At), roL 4 enc_Stop y3.2.Stops]), (512, bufL 3 1 enc_Int s10.2)]) (.cons (.of_eq (by first | rfl | (simp; done) | omega | (simp; omega))) (.cons (.of_eq (by first | rfl | (simp; done) | omega | (simp; omega))) (.cons (.of_eq (by first | rfl | (simp; done) | omega | (simp; omega))) (.cons (.of_eq (by first | rfl | (simp; done) | omega | (simp; omega))) (.cons (.of_eq (by first | rfl | (simp; done) | omega | (simp; omega))) (.cons (.of_eq (by refine bufEq ?_; first | (simp [copyAt]; done) | omega | (simp [copyAt]; omega) | rfl)) (.cons (.of_eq (by first | rfl | (simp; done) | omega | (simp; omega))) .nil))))))) (.cons (.of_eq (by first | rfl | (simp; done) | omega | (simp; omega))) (.cons (.of_eq (by first | rfl | (simp; done) | omega | (simp; omega))) (.cons (.of_eq (by first | rfl | (simp; done) | omega | (simp; omega))) .nil))) (fun k10 s10 H K0 hK10 => ?_)
    refine W.seq ?_
    refine W.seq ?_
    refine W.region env [] [] rfl rfl rfl (.cons (fun h => h) (.cons (fun h => h) (.cons (fun h => h) (.cons (fun h => h) (.cons (fun h => h) (.cons (fun h => h) .nil)))))) .nil (At.keep (ts := [1, 2, 8, 9, 10, 12, 13, 72]) (ids := [8, 9, 512]) rfl rfl ?_)
    refine At.thenC ?_
    refine W.cond rfl (fun hb11 => ?_) (fun hb11 => ?_)
    · have H := of_true H hb11
      refine W.skip ?_
      refine At.thenC ?_
      refine W.seq ?_
      refine W.block ?_
      obtain ⟨hc12, H⟩ := of_must H
      obtain ⟨y13, hy14, H⟩ := of_bindO H
      obtain ⟨hc15, H⟩ := of_must H
      refine W.region env [] [⟨.int .i64 (y13), [], 0, []⟩] rfl rfl rfl (.cons hc12 (.cons (⟨by first | rfl | (simp; done) | omega | (simp; omega), by have := hc15; first | simpa using this | (unfold room at this ⊢; simp at this ⊢; omega)⟩) .nil)) (.free (c_gasolierref03_Mod (p1.getD (s10.1).toNat default) ((y3.1.Ways.length : Nat) : Int) hy14) .nil) (At.keep (ts := [1, 2, 8, 9, 10, 12, 13]) (ids := [8, 9, 512]) rfl rfl ?_)
      refine At.convM (.cons (.refl _) (.cons (.refl _) (.cons (y := bufL 3 1 enc_Int (s10.2 ++ ([y13] : List Int))) (BSim.seg (Seg.push (Seg.refl enc_Int _) (Seg.lit (f := enc_Int) (sz := 1) ([y13] : List Int) rfl rfl (fun _ => rfl)))) .nil))) ?_
      refine At.inb ?_
      refine At.thenC ?_
      obtain ⟨hc16, H⟩ := of_must H
      refine W.region env [] [] rfl rfl rfl (.cons hc16 .nil) .nil (At.keep (ts := [1, 2, 8, 9, 10, 12, 13]) (ids := [8, 9, 512]) rfl rfl ?_)
      refine At.thenK (At.keep (ts := [1, 2, 8, 9, 10, 12, 13]) (ids := [8, 9, 512]) rfl rfl ?_)
      exact At.conv (.cons (.of_eq (by first | rfl | (simp; done) | omega | (simp; omega))) (.cons (.of_eq (by first | rfl | (simp; done) | omega | (simp; omega))) (.cons (.of_eq (by first | rfl | (simp; done) | omega | (simp; omega))) (.cons (.of_eq (by first | rfl | (simp; done) | omega | (simp; omega))) (.cons (.of_eq (by first | rfl | (simp; done) | omega | (simp; omega))) (.cons (.of_eq (by refine bufEq ?_; first | (simp [copyAt]; done) | omega | (simp [copyAt]; omega) | rfl)) (.cons (.of_eq (by first | rfl | (simp; done) | omega | (simp; omega))) .nil))))))) (.cons (.of_eq (by first | rfl | (simp; done) | omega | (simp; omega))) (.cons (.of_eq (by first | rfl | (simp; done) | omega | (simp; omega))) (.cons (.of_eq (by first | rfl | (simp; done) | omega | (simp; omega))) .nil))) (hK10 ((s10.1 + 1), (s10.2 ++ ([y13] : List Int))) H)
    · have H := of_false H hb11
      refine W.exit ?_
      refine At.xthen ?_
      refine At.xthen ?_
      refine At.xhere ?_
      refine At.thenC ?_
      refine W.seq ?_
      obtain ⟨hc17, H⟩ := of_must H
      refine W.region env [86] [] rfl rfl rfl (.cons (⟨by first | rfl | (simp; done) | omega | (simp; omega), by have := hc17; first | simpa using this | (unfold room at this ⊢; simp at this ⊢; omega)⟩) .nil) .nil (At.keep (ts := [2, 8, 9, 10, 12, 14]) (ids := [8, 9, 86, 512]) rfl rfl ?_)
      refine At.convM (.cons (.refl _) (.cons (.refl _) (.cons (y := bufL 3 1 enc_Int (([] : List Int) ++ y5.1)) (BSim.seg (Seg.push (Seg.lit (f := enc_Int) (sz := 1) ([] : List Int) rfl rfl (fun _ => rfl)) (Seg.refl enc_Int y5.1))) (.cons (.refl _) .nil)))) ?_
      refine At.thenC ?_
      refine W.seq ?_
      refine W.seq ?_
      refine W.region env [] [] rfl rfl rfl .nil .nil (At.keep (ts := [2, 8, 9, 10, 12, 14, 15]) (ids := [8, 9, 86, 512]) rfl rfl ?_)
      refine At.thenC ?_
      refine W.block ?_
      refine At.keep (ts := [2, 8, 9, 10, 12, 14, 15]) (ids := [8, 9, 86, 512]) rfl rfl ?_
      refine W.loopGo H (fun (s18 : Int × (List Int)) => [(2, roL 1 enc_Int p2), (8, .lp 8 0), (9, .lp 9 0), (10, roL 1 enc_Int y5.1), (12, .buf 512 (s10.2).length), (14, .buf 86 (s18.2).length), (15, .int .i64 (s18.1))]) (fun (s18 : Int × (List Int)) => [(8, .cells [.int .i64 (y3.1.Places), roL 7 enc_Way y3.1.Ways]), (9, .cells [.int .i64 (y3.2.Place), .int .i64 (y3.2.At), roL 4 enc_Stop y3.2.Stops]), (86, bufL 3 1 enc_Int s18.2), (512, bufL 3 1 enc_Int s10.2)]) (.cons (.of_eq (by first | rfl | (simp; done) | omega | (simp; omega))) (.cons (.of_eq (by first | rfl | (simp; done) | omega | (simp; omega))) (.cons (.of_eq (by first | rfl | (simp; done) | omega | (simp; omega))) (.cons (.of_eq (by first | rfl | (simp; done) | omega | (simp; omega))) (.cons (.of_eq (by refine bufEq ?_; first | (simp [copyAt]; done) | omega | (simp [copyAt]; omega) | rfl)) (.cons (.of_eq (by refine bufEq ?_; first | (simp [copyAt]; done) | omega | (simp [copyAt]; omega) | rfl)) (.cons (.of_eq (by first | rfl | (simp; done) | omega | (simp; omega))) .nil))))))) (.cons (.of_eq (by first | rfl | (simp; done) | omega | (simp; omega))) (.cons (.of_eq (by first | rfl | (simp; done) | omega | (simp; omega))) (.cons (.of_eq (by first | rfl | (simp; done) | omega | (simp; omega))) (.cons (.of_eq (by first | rfl | (simp; done) | omega | (simp; omega))) .nil)))) (fun k18 s18 H K0 hK18 => ?_)
      refine W.seq ?_
      refine W.seq ?_
      refine W.region env [] [] rfl rfl rfl (.cons (by first | rfl | (simp; done) | omega | (simp; omega)) (.cons (fun h => h) (.cons (fun h => h) (.cons (fun h => h) .nil)))) .nil (At.keep (ts := [2, 8, 9, 10, 12, 14, 15, 97]) (ids := [8, 9, 86, 512]) rfl rfl ?_)
      refine At.thenC ?_
      refine W.cond rfl (fun hb19 => ?_) (fun hb19 => ?_)
      · have H := of_true H hb19
        refine W.skip ?_
        refine At.thenC ?_
        refine W.seq ?_
        refine W.block ?_
        refine W.seq ?_
        obtain ⟨hc20, H⟩ := of_must H
        refine W.region env [] [] rfl rfl rfl (.cons (⟨by first | rfl | (simp; done) | omega | (simp; omega), hc20⟩) (.cons (⟨by first | rfl | (simp; done) | omega | (simp; omega), (by have := hc20; omega)⟩) .nil)) .nil (At.keep (ts := [2, 8, 9, 10, 12, 14, 15, 104]) (ids := [8, 9, 86, 512]) rfl rfl ?_)
        refine At.thenC ?_
        refine W.cond rfl (fun hb21 => ?_) (fun hb21 => ?_)
        · have H := of_true H hb21
          obtain ⟨hc22, H⟩ := of_must H
          obtain ⟨hc23, H⟩ := of_must H
          obtain ⟨hc24, H⟩ := of_must H
          obtain ⟨y25, hy26, H⟩ := of_bindO H
          obtain ⟨hc27, H⟩ := of_must H
          obtain ⟨hc28, H⟩ := of_must H
          refine W.region env [] [⟨.int .i64 (y25), [], 0, []⟩] rfl rfl rfl (.cons (⟨by first | rfl | (simp; done) | omega | (simp; omega), hc22⟩) (.cons (⟨by first | rfl | (simp; done) | omega | (simp; omega), (by have := hc22; omega)⟩) (.cons hc23 (.cons hc24 (.cons hc27 (.cons (⟨by first | rfl | (simp; done) | omega | (simp; omega), hc28⟩) (.cons (⟨by first | rfl | (simp; done) | omega | (simp; omega), (by have := hc28; omega)⟩) .nil))))))) (.free (c_gasolierref03_Mod (p2.getD ((Int.tmod s18.1 ((p2.length : Nat) : Int))).toNat default) 8 hy26) .nil) (At.keep (ts := [2, 8, 9, 10, 12, 14, 15]) (ids := [8, 9, 86, 512]) rfl rfl ?_)
          refine At.convM (.cons (.refl _) (.cons (.refl _) (.cons (y := bufL 3 1 enc_Int (s18.2.set (s18.1).toNat (max ((s18.2.getD (s18.1).toNat default) - y25) 0))) (BSim.seg (Seg.set (Seg.refl enc_Int _) (max ((s18.2.getD (s18.1).toNat default) - y25) 0) rfl)) (.cons (.refl _) .nil)))) ?_
          refine At.inb ?_
          refine At.thenC ?_
          obtain ⟨hc29, H⟩ := of_must H
          refine W.region env [] [] rfl rfl rfl (.cons hc29 .nil) .nil (At.keep (ts := [2, 8, 9, 10, 12, 14, 15]) (ids := [8, 9, 86, 512]) rfl rfl ?_)
          refine At.thenK (At.keep (ts := [2, 8, 9, 10, 12, 14, 15]) (ids := [8, 9, 86, 512]) rfl rfl ?_)
          exact At.conv (.cons (.of_eq (by first | rfl | (simp; done) | omega | (simp; omega))) (.cons (.of_eq (by first | rfl | (simp; done) | omega | (simp; omega))) (.cons (.of_eq (by first | rfl | (simp; done) | omega | (simp; omega))) (.cons (.of_eq (by first | rfl | (simp; done) | omega | (simp; omega))) (.cons (.of_eq (by refine bufEq ?_; first | (simp [copyAt]; done) | omega | (simp [copyAt]; omega) | rfl)) (.cons (.of_eq (by refine bufEq ?_; first | (simp [copyAt]; done) | omega | (simp [copyAt]; omega) | rfl)) (.cons (.of_eq (by first | rfl | (simp; done) | omega | (simp; omega))) .nil))))))) (.cons (.of_eq (by first | rfl | (simp; done) | omega | (simp; omega))) (.cons (.of_eq (by first | rfl | (simp; done) | omega | (simp; omega))) (.cons (.of_eq (by first | rfl | (simp; done) | omega | (simp; omega))) (.cons (.of_eq (by first | rfl | (simp; done) | omega | (simp; omega))) .nil)))) (hK18 ((s18.1 + 1), (s18.2.set (s18.1).toNat (max ((s18.2.getD (s18.1).toNat default) - y25) 0))) H)
        · have H := of_false H hb21
          refine W.skip ?_
          refine At.inb ?_
          refine At.thenC ?_
          obtain ⟨hc30, H⟩ := of_must H
          refine W.region env [] [] rfl rfl rfl (.cons hc30 .nil) .nil (At.keep (ts := [2, 8, 9, 10, 12, 14, 15]) (ids := [8, 9, 86, 512]) rfl rfl ?_)
          refine At.thenK (At.keep (ts := [2, 8, 9, 10, 12, 14, 15]) (ids := [8, 9, 86, 512]) rfl rfl ?_)
          exact At.conv (.cons (.of_eq (by first | rfl | (simp; done) | omega | (simp; omega))) (.cons (.of_eq (by first | rfl | (simp; done) | omega | (simp; omega))) (.cons (.of_eq (by first | rfl | (simp; done) | omega | (simp; omega))) (.cons (.of_eq (by first | rfl | (simp; done) | omega | (simp; omega))) (.cons (.of_eq (by refine bufEq ?_; first | (simp [copyAt]; done) | omega | (simp [copyAt]; omega) | rfl)) (.cons (.of_eq (by refine bufEq ?_; first | (simp [copyAt]; done) | omega | (simp [copyAt]; omega) | rfl)) (.cons (.of_eq (by first | rfl | (simp; done) | omega | (simp; omega))) .nil))))))) (.cons (.of_eq (by first | rfl | (simp; done) | omega | (simp; omega))) (.cons (.of_eq (by first | rfl | (simp; done) | omega | (simp; omega))) (.cons (.of_eq (by first | rfl | (simp; done) | omega | (simp; omega))) (.cons (.of_eq (by first | rfl | (simp; done) | omega | (simp; omega))) .nil)))) (hK18 ((s18.1 + 1), s18.2) H)
      · have H := of_false H hb19
        refine W.exit ?_
        refine At.xthen ?_
        refine At.xthen ?_
        refine At.xhere ?_
        refine At.thenC ?_
        refine W.seq ?_
        obtain ⟨y31, hy32, H⟩ := of_bindO H
        refine W.region env [] [⟨.int .i64 (y31), [], 0, []⟩] rfl rfl rfl (.cons (by first | rfl | (simp; done) | omega | (simp; omega)) .nil) (.free (c_round_CheckMarks y3.1 y3.2.Place y3.2.At s18.2 hy32) .nil) (At.keep (ts := [8, 9, 10, 12, 14, 16]) (ids := [8, 9, 86, 512]) rfl rfl ?_)
        refine At.thenC ?_
        refine W.seq ?_
        refine W.seq ?_
        refine W.region env [] [] rfl rfl rfl .nil .nil (At.keep (ts := [8, 9, 10, 12, 14, 16, 17]) (ids := [8, 9, 86, 512]) rfl rfl ?_)
        refine At.thenC ?_
        refine W.block ?_
        refine At.keep (ts := [8, 9, 10, 12, 14, 16, 17]) (ids := [8, 9, 86, 512]) rfl rfl ?_
        refine W.loopGo H (fun (s33 : Int) => [(8, .lp 8 0), (9, .lp 9 0), (10, roL 1 enc_Int y5.1), (12, .buf 512 (s10.2).length), (14, .buf 86 (s18.2).length), (16, .bool ((decide (y31 = 0)))), (17, .int .i64 (s33))]) (fun (s33 : Int) => [(8, .cells [.int .i64 (y3.1.Places), roL 7 enc_Way y3.1.Ways]), (9, .cells [.int .i64 (y3.2.Place), .int .i64 (y3.2.At), roL 4 enc_Stop y3.2.Stops]), (86, bufL 3 1 enc_Int s18.2), (512, bufL 3 1 enc_Int s10.2)]) (.cons (.of_eq (by first | rfl | (simp; done) | omega | (simp; omega))) (.cons (.of_eq (by first | rfl | (simp; done) | omega | (simp; omega))) (.cons (.of_eq (by first | rfl | (simp; done) | omega | (simp; omega))) (.cons (.of_eq (by refine bufEq ?_; first | (simp [copyAt]; done) | omega | (simp [copyAt]; omega) | rfl)) (.cons (.of_eq (by refine bufEq ?_; first | (simp [copyAt]; done) | omega | (simp [copyAt]; omega) | rfl)) (.cons (.of_eq (by first | rfl | (simp; done) | omega | (simp; omega))) (.cons (.of_eq (by first | rfl | (simp; done) | omega | (simp; omega))) .nil))))))) (.cons (.of_eq (by first | rfl | (simp; done) | omega | (simp; omega))) (.cons (.of_eq (by first | rfl | (simp; done) | omega | (simp; omega))) (.cons (.of_eq (by first | rfl | (simp; done) | omega | (simp; omega))) (.cons (.of_eq (by first | rfl | (simp; done) | omega | (simp; omega))) .nil)))) (fun k33 s33 H K0 hK33 => ?_)
        refine W.seq ?_
        refine W.seq ?_
        refine W.region env [] [] rfl rfl rfl .nil .nil (At.keep (ts := [8, 9, 10, 12, 14, 16, 17, 133]) (ids := [8, 9, 86, 512]) rfl rfl ?_)
        refine At.thenC ?_
        refine W.cond rfl (fun hb34 => ?_) (fun hb34 => ?_)
        · have H := of_true H hb34
          refine W.skip ?_
          refine At.thenC ?_
          refine W.seq ?_
          refine W.joinC H (fun (s35 : Unit) => [(8, .lp 8 0), (9, .lp 9 0), (10, roL 1 enc_Int y5.1), (12, .buf 512 (s10.2).length), (14, .buf 86 (s18.2).length), (16, .bool ((decide (y31 = 0)))), (17, .int .i64 (s33))]) (fun (s35 : Unit) => [(8, .cells [.int .i64 (y3.1.Places), roL 7 enc_Way y3.1.Ways]), (9, .cells [.int .i64 (y3.2.Place), .int .i64 (y3.2.At), roL 4 enc_Stop y3.2.Stops]), (86, bufL 3 1 enc_Int s18.2), (512, bufL 3 1 enc_Int s10.2)]) (fun s35 H => ?_) (fun k35 H hK35 => ?_)
          · obtain ⟨hc36, H⟩ := of_must H
            refine W.region env [] [] rfl rfl rfl (.cons hc36 .nil) .nil (At.keep (ts := [8, 9, 10, 12, 14, 16, 17]) (ids := [8, 9, 86, 512]) rfl rfl ?_)
            refine At.thenK (At.keep (ts := [8, 9, 10, 12, 14, 16, 17]) (ids := [8, 9, 86, 512]) rfl rfl ?_)
            exact At.conv (.cons (.of_eq (by first | rfl | (simp; done) | omega | (simp; omega))) (.cons (.of_eq (by first | rfl | (simp; done) | omega | (simp; omega))) (.cons (.of_eq (by first | rfl | (simp; done) | omega | (simp; omega))) (.cons (.of_eq (by refine bufEq ?_; first | (simp [copyAt]; done) | omega | (simp [copyAt]; omega) | rfl)) (.cons (.of_eq (by refine bufEq ?_; first | (simp [copyAt]; done) | omega | (simp [copyAt]; omega) | rfl)) (.cons (.of_eq (by first | rfl | (simp; done) | omega | (simp; omega))) (.cons (.of_eq (by first | rfl | (simp; done) | omega | (simp; omega))) .nil))))))) (.cons (.of_eq (by first | rfl | (simp; done) | omega | (simp; omega))) (.cons (.of_eq (by first | rfl | (simp; done) | omega | (simp; omega))) (.cons (.of_eq (by first | rfl | (simp; done) | omega | (simp; omega))) (.cons (.of_eq (by first | rfl | (simp; done) | omega | (simp; omega))) .nil)))) (hK33 (s33 + 1) H)
          · refine W.block ?_
            refine W.seq ?_
            refine W.region env [] [] rfl rfl rfl .nil .nil (At.keep (ts := [8, 9, 10, 12, 14, 16, 17, 18]) (ids := [8, 9, 18, 86, 512]) rfl rfl ?_)
            refine At.thenC ?_
            refine W.seq ?_
            obtain ⟨y37, hy38, H⟩ := of_bindO H
            refine W.region env [] [⟨.tup [roL 1 enc_Int y37.1, .int .i64 (y37.2)], [], 0, []⟩] rfl rfl rfl .nil (.free (c_round_Path fuel y3.1 (⟨y3.2.Place, s33, y3.2.At⟩ : Trip) hy38) .nil) (At.keep (ts := [8, 9, 10, 12, 14, 16, 17, 18, 19, 20]) (ids := [8, 9, 18, 86, 512]) rfl rfl ?_)
            refine At.thenC ?_
            refine W.seq ?_
            refine W.seq ?_
            obtain ⟨hc39, H⟩ := of_must H
            refine W.region env [] [] rfl rfl rfl (.cons hc39 .nil) .nil (At.keep (ts := [8, 9, 10, 12, 14, 16, 17, 18, 19, 20, 152]) (ids := [8, 9, 18, 86, 512]) rfl rfl ?_)
            refine At.thenC ?_
            refine W.cond rfl (fun hb40 => ?_) (fun hb40 => ?_)
            · have H := of_true H hb40
              refine W.seq ?_
              refine W.seq ?_
              obtain ⟨y41, hy42, H⟩ := of_bindO H
              refine W.region env [] [⟨.int .i64 (y41), [], 0, []⟩] rfl rfl rfl (.cons (fun _ => (by first | rfl | (simp; done) | omega | (simp; omega))) (.cons (fun h => h) (.cons (fun h => h) (.cons (fun h => h) (.cons (fun h => h) (.cons (fun h => by rw [h]; rfl) .nil)))))) (.on (fun hW => c_round_CheckPath y3.1 (⟨y3.2.Place, s33, y3.2.At⟩ : Trip) s10.2 1439 (of_true hy42 hW)) .nil) (At.keep (ts := [8, 9, 10, 12, 14, 16, 17, 161]) (ids := [8, 9, 86, 512]) rfl rfl ?_)
              refine At.thenC ?_
              refine W.cond rfl (fun hb43 => ?_) (fun hb43 => ?_)
              · have H := of_true H hb43
                refine W.seq ?_
                refine W.region env [] [] rfl rfl rfl .nil .nil (At.keep (ts := [6]) (ids := []) rfl rfl ?_)
                refine At.thenC ?_
                refine W.ret ?_
                refine At.rthen ?_
                refine At.rthen ?_
                refine At.rinb ?_
                refine At.rthen ?_
                refine At.rthen ?_
                refine At.rinb ?_
                refine At.rthen ?_
                cases H
                exact At.ret env.ty rfl rfl (fun q hq => by cases hq) (.refl _) hval
              · have H := of_false H hb43
                refine W.skip ?_
                refine At.thenC ?_
                refine W.exit ?_
                refine At.xthen ?_
                refine At.xhere ?_
                refine At.thenK (At.keep (ts := [8, 9, 10, 12, 14, 16, 17]) (ids := [8, 9, 86, 512]) rfl rfl ?_)
                exact At.conv (.cons (.of_eq (by first | rfl | (simp; done) | omega | (simp; omega))) (.cons (.of_eq (by first | rfl | (simp; done) | omega | (simp; omega))) (.cons (.of_eq (by first | rfl | (simp; done) | omega | (simp; omega))) (.cons (.of_eq (by refine bufEq ?_; first | (simp [copyAt]; done) | omega | (simp [copyAt]; omega) | rfl)) (.cons (.of_eq (by refine bufEq ?_; first | (simp [copyAt]; done) | omega | (simp [copyAt]; omega) | rfl)) (.cons (.of_eq (by first | rfl | (simp; done) | omega | (simp; omega))) (.cons (.of_eq (by first | rfl | (simp; done) | omega | (simp; omega))) .nil))))))) (.cons (.of_eq (by first | rfl | (simp; done) | omega | (simp; omega))) (.cons (.of_eq (by first | rfl | (simp; done) | omega | (simp; omega))) (.cons (.of_eq (by first | rfl | (simp; done) | omega | (simp; omega))) (.cons (.of_eq (by first | rfl | (simp; done) | omega | (simp; omega))) .nil)))) (hK35 () H)
            · have H := of_false H hb40
              refine W.skip ?_
              refine At.thenC ?_
              refine W.seq ?_
              refine W.seq ?_
              obtain ⟨hc44, H⟩ := of_must H
              obtain ⟨y45, hy46, H⟩ := of_bindO H
              obtain ⟨hc47, H⟩ := of_must H
              obtain ⟨hc48, H⟩ := of_must H
              obtain ⟨y49, hy50, H⟩ := of_bindO H
              refine W.region env [] [⟨.int .i64 (y45), [], 0, []⟩, ⟨.int .i64 (y49), [], 0, []⟩] rfl rfl rfl (.cons hc44 (.cons (fun h => h) (.cons (fun h => h) (.cons (fun h => h) (.cons (fun h => h) (.cons (fun h => h) (.cons (fun h => h) (.cons (fun h => h) (.cons (fun h => h) (.cons (fun h => by rw [h]; rfl) (.cons hc47 (.cons (fun h => h) (.cons (fun h => h) (.cons (fun h => h) (.cons hc48 (.cons (fun h => h) (.cons (fun h => h) (.cons (fun h => h) (.cons (fun h => h) (.cons (fun h => h) (.cons (fun h => h) (.cons (fun h => by rw [h]; rfl) .nil)))))))))))))))))))))) (.on (fun hW => c_round_CheckPath y3.1 (⟨y3.2.Place, s33, y3.2.At⟩ : Trip) y37.1 (y5.1.getD (s33).toNat default) (of_true hy46 hW)) (.on (fun hW => c_round_CheckPath y3.1 (⟨y3.2.Place, s33, y3.2.At⟩ : Trip) y37.1 ((y5.1.getD (s33).toNat default) - 1) (of_true hy50 hW)) .nil)) (At.keep (ts := [8, 9, 10, 12, 14, 16, 17, 18, 186]) (ids := [8, 9, 18, 86, 512]) rfl rfl ?_)
              refine At.thenC ?_
              refine W.cond rfl (fun hb51 => ?_) (fun hb51 => ?_)
              · have H := of_true H hb51
                refine W.seq ?_
                refine W.region env [] [] rfl rfl rfl .nil .nil (At.keep (ts := [6]) (ids := []) rfl rfl ?_)
                refine At.thenC ?_
                refine W.ret ?_
                refine At.rthen ?_
                refine At.rinb ?_
                refine At.rthen ?_
                refine At.rthen ?_
                refine At.rinb ?_
                refine At.rthen ?_
                cases H
                exact At.ret env.ty rfl rfl (fun q hq => by cases hq) (.refl _) hval
              · have H := of_false H hb51
                refine W.skip ?_
                refine At.thenC ?_
                refine W.seq ?_
                obtain ⟨hc52, H⟩ := of_must H
                obtain ⟨hc53, H⟩ := of_must H
                obtain ⟨y54, hy55, H⟩ := of_bindO H
                obtain ⟨hc56, H⟩ := of_must H
                obtain ⟨hc57, H⟩ := of_must H
                refine W.region env [] [⟨.int .i64 (y54), [], 0, []⟩] rfl rfl rfl (.cons hc52 (.cons hc53 (.cons (by first | rfl | (simp; done) | omega | (simp; omega)) (.cons (fun h => h) (.cons (fun hW => ⟨by first | rfl | (simp; done) | omega | (simp; omega), hc56 hW⟩) (.cons (fun h => h) (.cons (fun h => h) (.cons (fun hW => (⟨by first | rfl | (simp; done) | omega | (simp; omega), (by have := hc56 hW; omega)⟩)) (.cons (fun h => h) (.cons hc57 (.cons (fun h => h) (.cons (fun h => h) (.cons (fun h => h) (.cons (fun h => h) (.cons (fun h => h) (.cons (fun h => h) (.cons (fun hW h => by revert hW h; first | (simp +contextual; done) | grind) (.cons (fun h => by rw [h]; rfl) .nil)))))))))))))))))) (.free (c_round_CheckPath y3.1 (⟨y3.2.Place, s33, y3.2.At⟩ : Trip) s10.2 ((y5.1.getD (s33).toNat default) - 1) hy55) .nil) (At.keep (ts := [8, 9, 10, 12, 14, 16, 17, 210]) (ids := [8, 9, 86, 512]) rfl rfl ?_)
                refine At.thenC ?_
                refine W.cond rfl (fun hb58 => ?_) (fun hb58 => ?_)
                · have H := of_true H hb58
                  refine W.seq ?_
                  refine W.region env [] [] rfl rfl rfl .nil .nil (At.keep (ts := [6]) (ids := []) rfl rfl ?_)
                  refine At.thenC ?_
                  refine W.ret ?_
                  refine At.rinb ?_
                  refine At.rthen ?_
                  refine At.rthen ?_
                  refine At.rinb ?_
                  refine At.rthen ?_
                  cases H
                  exact At.ret env.ty rfl rfl (fun q hq => by cases hq) (.refl _) hval
                · have H := of_false H hb58
                  refine W.skip ?_
                  refine At.inb ?_
                  refine At.thenK (At.keep (ts := [8, 9, 10, 12, 14, 16, 17]) (ids := [8, 9, 86, 512]) rfl rfl ?_)
                  exact At.conv (.cons (.of_eq (by first | rfl | (simp; done) | omega | (simp; omega))) (.cons (.of_eq (by first | rfl | (simp; done) | omega | (simp; omega))) (.cons (.of_eq (by first | rfl | (simp; done) | omega | (simp; omega))) (.cons (.of_eq (by refine bufEq ?_; first | (simp [copyAt]; done) | omega | (simp [copyAt]; omega) | rfl)) (.cons (.of_eq (by refine bufEq ?_; first | (simp [copyAt]; done) | omega | (simp [copyAt]; omega) | rfl)) (.cons (.of_eq (by first | rfl | (simp; done) | omega | (simp; omega))) (.cons (.of_eq (by first | rfl | (simp; done) | omega | (simp; omega))) .nil))))))) (.cons (.of_eq (by first | rfl | (simp; done) | omega | (simp; omega))) (.cons (.of_eq (by first | rfl | (simp; done) | omega | (simp; omega))) (.cons (.of_eq (by first | rfl | (simp; done) | omega | (simp; omega))) (.cons (.of_eq (by first | rfl | (simp; done) | omega | (simp; omega))) .nil)))) (hK35 () H)
        · have H := of_false H hb34
          refine W.exit ?_
          refine At.xthen ?_
          refine At.xthen ?_
          refine At.xhere ?_
          refine At.thenC ?_
          refine W.seq ?_
          refine W.region env [] [] rfl rfl rfl .nil .nil (At.keep (ts := [6]) (ids := []) rfl rfl ?_)
          refine At.thenC ?_
          refine W.ret ?_
          cases H
          exact At.ret env.ty rfl rfl (fun q hq => by cases hq) (.refl _) hval

end Go.Sp
