/- Printed by gen.py: contracts, part 2. -/
import Derived.Test.YtjeolkdhicmhgaaCtr1
set_option linter.all false
set_option maxRecDepth 100000
namespace Go.Sp
open Go Go.Av Go.Proofs

theorem c_gasolierref03_Matrix (fuel : Nat) (p0 : Chart) {r : ((List (List Range)) × Int)} (H : gasolierref03_Matrix fuel p0 = some r) : Ctr Try.prog 45 [.agg [.int .i64 (p0.Places), roL 7 enc_Way p0.Ways]] (.tup [roL 1 enc_ListRange r.1, .int .i64 (r.2)]) := by
  unfold gasolierref03_Matrix at H
  refine Ctr.of_body (N := 198) Try.func45 (by kernel_rfl) (c := _) rfl Try.ntmps45 rfl (fun w0 h0 hval => ?_)
  refine W.seq ?_
  refine W.region env [] [] rfl rfl rfl .nil .nil (At.keep (ts := [1]) (ids := [1]) rfl rfl ?_)
  refine At.thenC ?_
  refine W.seq ?_
  refine W.seq ?_
  obtain ⟨y1, hy2, H⟩ := of_bindO H
  refine W.region env [] [⟨.int .i64 (y1), [], 0⟩] rfl rfl rfl .nil (.free (c_gasolierref03_Check fuel p0 hy2) .nil) (At.keep (ts := [1, 19]) (ids := [1]) rfl rfl ?_)
  refine At.thenC ?_
  refine W.cond rfl (fun hb3 => ?_) (fun hb3 => ?_)
  · have H := of_true H hb3
    refine W.seq ?_
    refine W.region env [] [] rfl rfl rfl .nil .nil (At.keep (ts := [2, 3]) (ids := []) rfl rfl ?_)
    refine At.thenC ?_
    refine W.ret ?_
    refine At.rthen ?_
    cases H
    exact At.ret env.ty rfl rfl (fun q hq => by cases hq) (Sim.tupL (.cons (Sim.nil _ _) (.cons (.refl _) .nil))) hval
  · have H := of_false H hb3
    refine W.skip ?_
    refine At.thenC ?_
    refine W.seq ?_
    refine W.region env [] [] rfl rfl rfl .nil .nil (At.keep (ts := [1, 4]) (ids := [1]) rfl rfl ?_)
    refine At.thenC ?_
    refine W.seq ?_
    obtain ⟨hc4, H⟩ := of_must H
    refine W.region env [22] [] rfl rfl rfl (.cons hc4 .nil) .nil (At.keep (ts := [1, 4, 5]) (ids := [1, 22]) rfl rfl ?_)
    refine At.convM (.cons (.refl _) (.cons (y := gridL 57 51 2 enc_Range (List.replicate (p0.Places).toNat ([] : List Range))) (BSim.gseg (GSeg.made (T := Range) enc_Range _)) .nil)) ?_
    refine At.thenC ?_
    refine W.seq ?_
    refine W.seq ?_
    refine W.region env [] [] rfl rfl rfl .nil .nil (At.keep (ts := [1, 4, 5, 6]) (ids := [1, 22]) rfl rfl ?_)
    refine At.thenC ?_
    refine W.block ?_
    refine At.keep (ts := [1, 4, 5, 6]) (ids := [1, 22]) rfl rfl ?_
    refine W.loopGo H (fun (s5 : Int × (List (List Range))) => [(1, .lp 1 0), (4, .int .i64 (601)), (5, .gb 22 (s5.2).length), (6, .int .i64 (s5.1))]) (fun (s5 : Int × (List (List Range))) => [(1, .cells [.int .i64 (p0.Places), roL 7 enc_Way p0.Ways]), (22, gridL 57 51 2 enc_Range s5.2)]) (.cons (.of_eq (by first | rfl | (simp; done) | (simp; omega))) (.cons (.of_eq (by first | rfl | (simp; done) | (simp; omega))) (.cons (.of_eq (by refine gbEq ?_; first | (simp; done) | (simp; omega) | rfl)) (.cons (.of_eq (by first | rfl | (simp; done) | (simp; omega))) .nil)))) (.cons (.of_eq (by first | rfl | (simp; done) | (simp; omega))) (.cons (.of_eq (by first | rfl | (simp; done) | (simp; omega))) .nil)) (fun k5 s5 H K0 hK5 => ?_)
    refine W.seq ?_
    refine W.seq ?_
    refine W.region env [] [] rfl rfl rfl .nil .nil (At.keep (ts := [1, 4, 5, 6, 26]) (ids := [1, 22]) rfl rfl ?_)
    refine At.thenC ?_
    refine W.cond rfl (fun hb6 => ?_) (fun hb6 => ?_)
    · have H := of_true H hb6
      refine W.skip ?_
      refine At.thenC ?_
      refine W.seq ?_
      refine W.block ?_
      refine W.seq ?_
      obtain ⟨hc7, H⟩ := of_must H
      obtain ⟨hc8, H⟩ := of_must H
      obtain ⟨hc9, H⟩ := of_must H
      refine W.region env [] [] rfl rfl rfl (.cons hc7 (.cons (⟨by first | rfl | (simp; done) | (simp; omega), hc8⟩) (.cons (⟨(by have := hc8; first | omega | (simp at this ⊢; omega)), by first | rfl | (simp; done) | (simp; omega), by have := hc9; first | exact this | (simp at this ⊢; omega)⟩) .nil))) .nil (At.keep (ts := [1, 4, 5, 6]) (ids := [1, 22]) rfl rfl ?_)
      refine At.convM (.cons (.refl _) (.cons (y := gridL 57 51 2 enc_Range (s5.2.set (s5.1).toNat (List.replicate (p0.Places).toNat ((⟨0, 0⟩ : Range) : Range)))) (BSim.gseg (GSeg.setRow (i := (s5.1).toNat) (row := (List.replicate (p0.Places).toNat ((⟨0, 0⟩ : Range) : Range))) (GSeg.refl enc_Range _) (Seg.made (f := enc_Range) (⟨0, 0⟩ : Range) rfl))) .nil)) ?_
      refine At.thenC ?_
      refine W.seq ?_
      refine W.region env [] [] rfl rfl rfl .nil .nil (At.keep (ts := [1, 4, 5, 6, 7]) (ids := [1, 22]) rfl rfl ?_)
      refine At.thenC ?_
      refine W.block ?_
      refine At.keep (ts := [1, 4, 5, 6, 7]) (ids := [1, 22]) rfl rfl ?_
      refine W.loopGo H (fun (s10 : Int × (List (List Range))) => [(1, .lp 1 0), (4, .int .i64 (601)), (5, .gb 22 (s10.2).length), (6, .int .i64 (s5.1)), (7, .int .i64 (s10.1))]) (fun (s10 : Int × (List (List Range))) => [(1, .cells [.int .i64 (p0.Places), roL 7 enc_Way p0.Ways]), (22, gridL 57 51 2 enc_Range s10.2)]) (.cons (.of_eq (by first | rfl | (simp; done) | (simp; omega))) (.cons (.of_eq (by first | rfl | (simp; done) | (simp; omega))) (.cons (.of_eq (by refine gbEq ?_; first | (simp; done) | (simp; omega) | rfl)) (.cons (.of_eq (by first | rfl | (simp; done) | (simp; omega))) (.cons (.of_eq (by first | rfl | (simp; done) | (simp; omega))) .nil))))) (.cons (.of_eq (by first | rfl | (simp; done) | (simp; omega))) (.cons (.of_eq (by first | rfl | (simp; done) | (simp; omega))) .nil)) (fun k10 s10 H K0 hK10 => ?_)
      refine W.seq ?_
      refine W.seq ?_
      refine W.region env [] [] rfl rfl rfl .nil .nil (At.keep (ts := [1, 4, 5, 6, 7, 38]) (ids := [1, 22]) rfl rfl ?_)
      refine At.thenC ?_
      refine W.cond rfl (fun hb11 => ?_) (fun hb11 => ?_)
      · have H := of_true H hb11
        refine W.skip ?_
        refine At.thenC ?_
        refine W.seq ?_
        refine W.block ?_
        refine W.seq ?_
        refine W.region env [] [] rfl rfl rfl .nil .nil (At.keep (ts := [1, 4, 5, 6, 7, 43]) (ids := [1, 22]) rfl rfl ?_)
        refine At.thenC ?_
        refine W.cond rfl (fun hb12 => ?_) (fun hb12 => ?_)
        · have H := of_true H hb12
          obtain ⟨hc13, H⟩ := of_must H
          obtain ⟨hc14, H⟩ := of_must H
          refine W.region env [] [] rfl rfl rfl (.cons (⟨by first | rfl | (simp; done) | (simp; omega), hc13⟩) (.cons ((by have := hc13; first | omega | (simp at this ⊢; omega))) (.cons (⟨by first | rfl | (simp; done) | (simp; omega), (by have := hc13; first | omega | (simp at this ⊢; omega)), hc14⟩) (.cons (⟨by first | rfl | (simp; done) | (simp; omega), (by have := hc13; first | omega | (simp at this ⊢; omega)), (by have := hc14; first | omega | (simp at this ⊢; omega))⟩) .nil)))) .nil (At.keep (ts := [1, 4, 5, 6, 7]) (ids := [1, 22]) rfl rfl ?_)
          refine At.convM (.cons (.refl _) (.cons (y := gridL 57 51 2 enc_Range (s10.2.set (s5.1).toNat ((s10.2.getD (s5.1).toNat []).set (s10.1).toNat (⟨601, 601⟩ : Range)))) (BSim.gseg (GSeg.setAt (i := (s5.1).toNat) (j := (s10.1).toNat) (GSeg.refl enc_Range _) (⟨601, 601⟩ : Range) rfl)) .nil)) ?_
          refine At.inb ?_
          refine At.thenC ?_
          obtain ⟨hc15, H⟩ := of_must H
          refine W.region env [] [] rfl rfl rfl (.cons hc15 .nil) .nil (At.keep (ts := [1, 4, 5, 6, 7]) (ids := [1, 22]) rfl rfl ?_)
          refine At.thenK (At.keep (ts := [1, 4, 5, 6, 7]) (ids := [1, 22]) rfl rfl ?_)
          exact At.conv (.cons (.of_eq (by first | rfl | (simp; done) | (simp; omega))) (.cons (.of_eq (by first | rfl | (simp; done) | (simp; omega))) (.cons (.of_eq (by refine gbEq ?_; first | (simp; done) | (simp; omega) | rfl)) (.cons (.of_eq (by first | rfl | (simp; done) | (simp; omega))) (.cons (.of_eq (by first | rfl | (simp; done) | (simp; omega))) .nil))))) (.cons (.of_eq (by first | rfl | (simp; done) | (simp; omega))) (.cons (.of_eq (by first | rfl | (simp; done) | (simp; omega))) .nil)) (hK10 ((s10.1 + 1), (s10.2.set (s5.1).toNat ((s10.2.getD (s5.1).toNat []).set (s10.1).toNat (⟨601, 601⟩ : Range)))) H)
        · have H := of_false H hb12
          refine W.skip ?_
          refine At.inb ?_
          refine At.thenC ?_
          obtain ⟨hc16, H⟩ := of_must H
          refine W.region env [] [] rfl rfl rfl (.cons hc16 .nil) .nil (At.keep (ts := [1, 4, 5, 6, 7]) (ids := [1, 22]) rfl rfl ?_)
          refine At.thenK (At.keep (ts := [1, 4, 5, 6, 7]) (ids := [1, 22]) rfl rfl ?_)
          exact At.conv (.cons (.of_eq (by first | rfl | (simp; done) | (simp; omega))) (.cons (.of_eq (by first | rfl | (simp; done) | (simp; omega))) (.cons (.of_eq (by refine gbEq ?_; first | (simp; done) | (simp; omega) | rfl)) (.cons (.of_eq (by first | rfl | (simp; done) | (simp; omega))) (.cons (.of_eq (by first | rfl | (simp; done) | (simp; omega))) .nil))))) (.cons (.of_eq (by first | rfl | (simp; done) | (simp; omega))) (.cons (.of_eq (by first | rfl | (simp; done) | (simp; omega))) .nil)) (hK10 ((s10.1 + 1), s10.2) H)
      · have H := of_false H hb11
        refine W.exit ?_
        refine At.xthen ?_
        refine At.xthen ?_
        refine At.xhere ?_
        refine At.inb ?_
        refine At.thenC ?_
        obtain ⟨hc17, H⟩ := of_must H
        refine W.region env [] [] rfl rfl rfl (.cons hc17 .nil) .nil (At.keep (ts := [1, 4, 5, 6]) (ids := [1, 22]) rfl rfl ?_)
        refine At.thenK (At.keep (ts := [1, 4, 5, 6]) (ids := [1, 22]) rfl rfl ?_)
        exact At.conv (.cons (.of_eq (by first | rfl | (simp; done) | (simp; omega))) (.cons (.of_eq (by first | rfl | (simp; done) | (simp; omega))) (.cons (.of_eq (by refine gbEq ?_; first | (simp; done) | (simp; omega) | rfl)) (.cons (.of_eq (by first | rfl | (simp; done) | (simp; omega))) .nil)))) (.cons (.of_eq (by first | rfl | (simp; done) | (simp; omega))) (.cons (.of_eq (by first | rfl | (simp; done) | (simp; omega))) .nil)) (hK5 ((s5.1 + 1), s10.2) H)
    · have H := of_false H hb6
      refine W.exit ?_
      refine At.xthen ?_
      refine At.xthen ?_
      refine At.xhere ?_
      refine At.thenC ?_
      refine W.seq ?_
      refine W.seq ?_
      refine W.region env [] [] rfl rfl rfl .nil .nil (At.keep (ts := [1, 5, 8]) (ids := [1, 22]) rfl rfl ?_)
      refine At.thenC ?_
      refine W.block ?_
      refine At.keep (ts := [1, 5, 8]) (ids := [1, 22]) rfl rfl ?_
      refine W.loopGo H (fun (s18 : Int × (List (List Range))) => [(1, .lp 1 0), (5, .gb 22 (s18.2).length), (8, .int .i64 (s18.1))]) (fun (s18 : Int × (List (List Range))) => [(1, .cells [.int .i64 (p0.Places), roL 7 enc_Way p0.Ways]), (22, gridL 57 51 2 enc_Range s18.2)]) (.cons (.of_eq (by first | rfl | (simp; done) | (simp; omega))) (.cons (.of_eq (by refine gbEq ?_; first | (simp; done) | (simp; omega) | rfl)) (.cons (.of_eq (by first | rfl | (simp; done) | (simp; omega))) .nil))) (.cons (.of_eq (by first | rfl | (simp; done) | (simp; omega))) (.cons (.of_eq (by first | rfl | (simp; done) | (simp; omega))) .nil)) (fun k18 s18 H K0 hK18 => ?_)
      refine W.seq ?_
      refine W.seq ?_
      refine W.region env [] [] rfl rfl rfl .nil .nil (At.keep (ts := [1, 5, 8, 57]) (ids := [1, 22]) rfl rfl ?_)
      refine At.thenC ?_
      refine W.cond rfl (fun hb19 => ?_) (fun hb19 => ?_)
      · have H := of_true H hb19
        refine W.skip ?_
        refine At.thenC ?_
        refine W.seq ?_
        refine W.block ?_
        refine W.seq ?_
        obtain ⟨hc20, H⟩ := of_must H
        refine W.region env [] [] rfl rfl rfl (.cons hc20 .nil) .nil (At.keep (ts := [1, 5, 8, 9]) (ids := [1, 9, 22]) rfl rfl ?_)
        refine At.thenC ?_
        refine W.seq ?_
        refine W.region env [] [] rfl rfl rfl (.cons (fun h => h) (.cons (fun h => h) (.cons (fun h => h) (.cons (fun h => h) .nil)))) .nil (At.keep (ts := [1, 5, 8, 9, 73]) (ids := [1, 9, 22]) rfl rfl ?_)
        refine At.thenC ?_
        refine W.cond rfl (fun hb21 => ?_) (fun hb21 => ?_)
        · have H := of_true H hb21
          refine W.seq ?_
          obtain ⟨hc22, H⟩ := of_must H
          obtain ⟨hc23, H⟩ := of_must H
          refine W.region env [] [] rfl rfl rfl (.cons (⟨by first | rfl | (simp; done) | (simp; omega), hc22⟩) (.cons ((by have := hc22; first | omega | (simp at this ⊢; omega))) (.cons (⟨by first | rfl | (simp; done) | (simp; omega), (by have := hc22; first | omega | (simp at this ⊢; omega)), hc23⟩) (.cons (⟨by first | rfl | (simp; done) | (simp; omega), (by have := hc22; first | omega | (simp at this ⊢; omega)), (by have := hc23; first | omega | (simp at this ⊢; omega))⟩) .nil)))) .nil (At.keep (ts := [1, 5, 8, 9, 10]) (ids := [1, 9, 10, 22]) rfl rfl ?_)
          refine At.thenC ?_
          obtain ⟨hc24, H⟩ := of_must H
          obtain ⟨hc25, H⟩ := of_must H
          refine W.region env [] [] rfl rfl rfl (.cons (⟨by first | rfl | (simp; done) | (simp; omega), hc24⟩) (.cons ((by have := hc24; first | omega | (simp at this ⊢; omega))) (.cons (⟨by first | rfl | (simp; done) | (simp; omega), (by have := hc24; first | omega | (simp at this ⊢; omega)), hc25⟩) (.cons (⟨by first | rfl | (simp; done) | (simp; omega), (by have := hc24; first | omega | (simp at this ⊢; omega)), (by have := hc25; first | omega | (simp at this ⊢; omega))⟩) .nil)))) .nil (At.keep (ts := [1, 5, 8]) (ids := [1, 22]) rfl rfl ?_)
          refine At.convM (.cons (.refl _) (.cons (y := gridL 57 51 2 enc_Range (s18.2.set ((p0.Ways.getD (s18.1).toNat default).From).toNat ((s18.2.getD ((p0.Ways.getD (s18.1).toNat default).From).toNat []).set ((p0.Ways.getD (s18.1).toNat default).To).toNat (⟨(min (((s18.2.getD ((p0.Ways.getD (s18.1).toNat default).From).toNat []).getD ((p0.Ways.getD (s18.1).toNat default).To).toNat default).Lo) ((p0.Ways.getD (s18.1).toNat default).Takes.Lo)), (min (((s18.2.getD ((p0.Ways.getD (s18.1).toNat default).From).toNat []).getD ((p0.Ways.getD (s18.1).toNat default).To).toNat default).Hi) ((p0.Ways.getD (s18.1).toNat default).Takes.Hi))⟩ : Range)))) (BSim.gseg (GSeg.setAt (i := ((p0.Ways.getD (s18.1).toNat default).From).toNat) (j := ((p0.Ways.getD (s18.1).toNat default).To).toNat) (GSeg.refl enc_Range _) (⟨(min (((s18.2.getD ((p0.Ways.getD (s18.1).toNat default).From).toNat []).getD ((p0.Ways.getD (s18.1).toNat default).To).toNat default).Lo) ((p0.Ways.getD (s18.1).toNat default).Takes.Lo)), (min (((s18.2.getD ((p0.Ways.getD (s18.1).toNat default).From).toNat []).getD ((p0.Ways.getD (s18.1).toNat default).To).toNat default).Hi) ((p0.Ways.getD (s18.1).toNat default).Takes.Hi))⟩ : Range) rfl)) .nil)) ?_
          refine At.inb ?_
          refine At.thenC ?_
          obtain ⟨hc26, H⟩ := of_must H
          refine W.region env [] [] rfl rfl rfl (.cons hc26 .nil) .nil (At.keep (ts := [1, 5, 8]) (ids := [1, 22]) rfl rfl ?_)
          refine At.thenK (At.keep (ts := [1, 5, 8]) (ids := [1, 22]) rfl rfl ?_)
          exact At.conv (.cons (.of_eq (by first | rfl | (simp; done) | (simp; omega))) (.cons (.of_eq (by refine gbEq ?_; first | (simp; done) | (simp; omega) | rfl)) (.cons (.of_eq (by first | rfl | (simp; done) | (simp; omega))) .nil))) (.cons (.of_eq (by first | rfl | (simp; done) | (simp; omega))) (.cons (.of_eq (by first | rfl | (simp; done) | (simp; omega))) .nil)) (hK18 ((s18.1 + 1), (s18.2.set ((p0.Ways.getD (s18.1).toNat default).From).toNat ((s18.2.getD ((p0.Ways.getD (s18.1).toNat default).From).toNat []).set ((p0.Ways.getD (s18.1).toNat default).To).toNat (⟨(min (((s18.2.getD ((p0.Ways.getD (s18.1).toNat default).From).toNat []).getD ((p0.Ways.getD (s18.1).toNat default).To).toNat default).Lo) ((p0.Ways.getD (s18.1).toNat default).Takes.Lo)), (min (((s18.2.getD ((p0.Ways.getD (s18.1).toNat default).From).toNat []).getD ((p0.Ways.getD (s18.1).toNat default).To).toNat default).Hi) ((p0.Ways.getD (s18.1).toNat default).Takes.Hi))⟩ : Range)))) H)
        · have H := of_false H hb21
          refine W.skip ?_
          refine At.inb ?_
          refine At.thenC ?_
          obtain ⟨hc27, H⟩ := of_must H
          refine W.region env [] [] rfl rfl rfl (.cons hc27 .nil) .nil (At.keep (ts := [1, 5, 8]) (ids := [1, 22]) rfl rfl ?_)
          refine At.thenK (At.keep (ts := [1, 5, 8]) (ids := [1, 22]) rfl rfl ?_)
          exact At.conv (.cons (.of_eq (by first | rfl | (simp; done) | (simp; omega))) (.cons (.of_eq (by refine gbEq ?_; first | (simp; done) | (simp; omega) | rfl)) (.cons (.of_eq (by first | rfl | (simp; done) | (simp; omega))) .nil))) (.cons (.of_eq (by first | rfl | (simp; done) | (simp; omega))) (.cons (.of_eq (by first | rfl | (simp; done) | (simp; omega))) .nil)) (hK18 ((s18.1 + 1), s18.2) H)
      · have H := of_false H hb19
        refine W.exit ?_
        refine At.xthen ?_
        refine At.xthen ?_
        refine At.xhere ?_
        refine At.thenC ?_
        refine W.seq ?_
        refine W.seq ?_
        refine W.region env [] [] rfl rfl rfl .nil .nil (At.keep (ts := [1, 5, 11]) (ids := [1, 22]) rfl rfl ?_)
        refine At.thenC ?_
        refine W.block ?_
        refine At.keep (ts := [1, 5, 11]) (ids := [1, 22]) rfl rfl ?_
        refine W.loopGo H (fun (s28 : Int × (List (List Range))) => [(1, .lp 1 0), (5, .gb 22 (s28.2).length), (11, .int .i64 (s28.1))]) (fun (s28 : Int × (List (List Range))) => [(1, .cells [.int .i64 (p0.Places), roL 7 enc_Way p0.Ways]), (22, gridL 57 51 2 enc_Range s28.2)]) (.cons (.of_eq (by first | rfl | (simp; done) | (simp; omega))) (.cons (.of_eq (by refine gbEq ?_; first | (simp; done) | (simp; omega) | rfl)) (.cons (.of_eq (by first | rfl | (simp; done) | (simp; omega))) .nil))) (.cons (.of_eq (by first | rfl | (simp; done) | (simp; omega))) (.cons (.of_eq (by first | rfl | (simp; done) | (simp; omega))) .nil)) (fun k28 s28 H K0 hK28 => ?_)
        refine W.seq ?_
        refine W.seq ?_
        refine W.region env [] [] rfl rfl rfl .nil .nil (At.keep (ts := [1, 5, 11, 107]) (ids := [1, 22]) rfl rfl ?_)
        refine At.thenC ?_
        refine W.cond rfl (fun hb29 => ?_) (fun hb29 => ?_)
        · have H := of_true H hb29
          refine W.skip ?_
          refine At.thenC ?_
          refine W.seq ?_
          refine W.block ?_
          refine W.seq ?_
          refine W.region env [] [] rfl rfl rfl .nil .nil (At.keep (ts := [1, 5, 11, 12]) (ids := [1, 22]) rfl rfl ?_)
          refine At.thenC ?_
          refine W.block ?_
          refine At.keep (ts := [1, 5, 11, 12]) (ids := [1, 22]) rfl rfl ?_
          refine W.loopGo H (fun (s30 : Int × (List (List Range))) => [(1, .lp 1 0), (5, .gb 22 (s30.2).length), (11, .int .i64 (s28.1)), (12, .int .i64 (s30.1))]) (fun (s30 : Int × (List (List Range))) => [(1, .cells [.int .i64 (p0.Places), roL 7 enc_Way p0.Ways]), (22, gridL 57 51 2 enc_Range s30.2)]) (.cons (.of_eq (by first | rfl | (simp; done) | (simp; omega))) (.cons (.of_eq (by refine gbEq ?_; first | (simp; done) | (simp; omega) | rfl)) (.cons (.of_eq (by first | rfl | (simp; done) | (simp; omega))) (.cons (.of_eq (by first | rfl | (simp; done) | (simp; omega))) .nil)))) (.cons (.of_eq (by first | rfl | (simp; done) | (simp; omega))) (.cons (.of_eq (by first | rfl | (simp; done) | (simp; omega))) .nil)) (fun k30 s30 H K0 hK30 => ?_)
          refine W.seq ?_
          refine W.seq ?_
          refine W.region env [] [] rfl rfl rfl .nil .nil (At.keep (ts := [1, 5, 11, 12, 113]) (ids := [1, 22]) rfl rfl ?_)
          refine At.thenC ?_
          refine W.cond rfl (fun hb31 => ?_) (fun hb31 => ?_)
          · have H := of_true H hb31
            refine W.skip ?_
            refine At.thenC ?_
            refine W.seq ?_
            refine W.block ?_
            refine W.seq ?_
            refine W.region env [] [] rfl rfl rfl .nil .nil (At.keep (ts := [1, 5, 11, 12, 13]) (ids := [1, 22]) rfl rfl ?_)
            refine At.thenC ?_
            refine W.block ?_
            refine At.keep (ts := [1, 5, 11, 12, 13]) (ids := [1, 22]) rfl rfl ?_
            refine W.loopGo H (fun (s32 : Int × (List (List Range))) => [(1, .lp 1 0), (5, .gb 22 (s32.2).length), (11, .int .i64 (s28.1)), (12, .int .i64 (s30.1)), (13, .int .i64 (s32.1))]) (fun (s32 : Int × (List (List Range))) => [(1, .cells [.int .i64 (p0.Places), roL 7 enc_Way p0.Ways]), (22, gridL 57 51 2 enc_Range s32.2)]) (.cons (.of_eq (by first | rfl | (simp; done) | (simp; omega))) (.cons (.of_eq (by refine gbEq ?_; first | (simp; done) | (simp; omega) | rfl)) (.cons (.of_eq (by first | rfl | (simp; done) | (simp; omega))) (.cons (.of_eq (by first | rfl | (simp; done) | (simp; omega))) (.cons (.of_eq (by first | rfl | (simp; done) | (simp; omega))) .nil))))) (.cons (.of_eq (by first | rfl | (simp; done) | (simp; omega))) (.cons (.of_eq (by first | rfl | (simp; done) | (simp; omega))) .nil)) (fun k32 s32 H K0 hK32 => ?_)
            refine W.seq ?_
            refine W.seq ?_
            refine W.region env [] [] rfl rfl rfl .nil .nil (At.keep (ts := [1, 5, 11, 12, 13, 119]) (ids := [1, 22]) rfl rfl ?_)
            refine At.thenC ?_
            refine W.cond rfl (fun hb33 => ?_) (fun hb33 => ?_)
            · have H := of_true H hb33
              refine W.skip ?_
              refine At.thenC ?_
              refine W.seq ?_
              refine W.block ?_
              refine W.seq ?_
              obtain ⟨hc34, H⟩ := of_must H
              obtain ⟨hc35, H⟩ := of_must H
              refine W.region env [] [] rfl rfl rfl (.cons (⟨by first | rfl | (simp; done) | (simp; omega), hc34⟩) (.cons ((by have := hc34; first | omega | (simp at this ⊢; omega))) (.cons (⟨by first | rfl | (simp; done) | (simp; omega), (by have := hc34; first | omega | (simp at this ⊢; omega)), hc35⟩) (.cons (⟨by first | rfl | (simp; done) | (simp; omega), (by have := hc34; first | omega | (simp at this ⊢; omega)), (by have := hc35; first | omega | (simp at this ⊢; omega))⟩) .nil)))) .nil (At.keep (ts := [1, 5, 11, 12, 13, 14]) (ids := [1, 14, 22]) rfl rfl ?_)
              refine At.thenC ?_
              obtain ⟨hc36, H⟩ := of_must H
              obtain ⟨hc37, H⟩ := of_must H
              obtain ⟨hc38, H⟩ := of_must H
              obtain ⟨hc39, H⟩ := of_must H
              obtain ⟨hc40, H⟩ := of_must H
              obtain ⟨hc41, H⟩ := of_must H
              obtain ⟨hc42, H⟩ := of_must H
              obtain ⟨hc43, H⟩ := of_must H
              obtain ⟨hc44, H⟩ := of_must H
              obtain ⟨hc45, H⟩ := of_must H
              obtain ⟨hc46, H⟩ := of_must H
              obtain ⟨hc47, H⟩ := of_must H
              refine W.region env [] [] rfl rfl rfl (.cons (⟨by first | rfl | (simp; done) | (simp; omega), hc36⟩) (.cons ((by have := hc36; first | omega | (simp at this ⊢; omega))) (.cons (⟨by first | rfl | (simp; done) | (simp; omega), hc37⟩) (.cons ((by have := hc37; first | omega | (simp at this ⊢; omega))) (.cons (⟨by first | rfl | (simp; done) | (simp; omega), (by have := hc37; first | omega | (simp at this ⊢; omega)), hc38⟩) (.cons (⟨by first | rfl | (simp; done) | (simp; omega), (by have := hc37; first | omega | (simp at this ⊢; omega)), (by have := hc38; first | omega | (simp at this ⊢; omega))⟩) (.cons (⟨by first | rfl | (simp; done) | (simp; omega), hc39⟩) (.cons ((by have := hc39; first | omega | (simp at this ⊢; omega))) (.cons (⟨by first | rfl | (simp; done) | (simp; omega), (by have := hc39; first | omega | (simp at this ⊢; omega)), hc40⟩) (.cons (⟨by first | rfl | (simp; done) | (simp; omega), (by have := hc39; first | omega | (simp at this ⊢; omega)), (by have := hc40; first | omega | (simp at this ⊢; omega))⟩) (.cons hc41 (.cons (⟨by first | rfl | (simp; done) | (simp; omega), hc42⟩) (.cons ((by have := hc42; first | omega | (simp at this ⊢; omega))) (.cons (⟨by first | rfl | (simp; done) | (simp; omega), (by have := hc42; first | omega | (simp at this ⊢; omega)), hc43⟩) (.cons (⟨by first | rfl | (simp; done) | (simp; omega), (by have := hc42; first | omega | (simp at this ⊢; omega)), (by have := hc43; first | omega | (simp at this ⊢; omega))⟩) (.cons (⟨by first | rfl | (simp; done) | (simp; omega), hc44⟩) (.cons ((by have := hc44; first | omega | (simp at this ⊢; omega))) (.cons (⟨by first | rfl | (simp; done) | (simp; omega), (by have := hc44; first | omega | (simp at this ⊢; omega)), hc45⟩) (.cons (⟨by first | rfl | (simp; done) | (simp; omega), (by have := hc44; first | omega | (simp at this ⊢; omega)), (by have := hc45; first | omega | (simp at this ⊢; omega))⟩) (.cons hc46 (.cons (⟨by first | rfl | (simp; done) | (simp; omega), (by have := hc36; first | omega | (simp at this ⊢; omega)), hc47⟩) (.cons (⟨by first | rfl | (simp; done) | (simp; omega), (by have := hc36; first | omega | (simp at this ⊢; omega)), (by have := hc47; first | omega | (simp at this ⊢; omega))⟩) .nil)))))))))))))))))))))) .nil (At.keep (ts := [1, 5, 11, 12, 13]) (ids := [1, 22]) rfl rfl ?_)
              refine At.convM (.cons (.refl _) (.cons (y := gridL 57 51 2 enc_Range (s32.2.set (s30.1).toNat ((s32.2.getD (s30.1).toNat []).set (s32.1).toNat (⟨(min (((s32.2.getD (s30.1).toNat []).getD (s32.1).toNat default).Lo) (((s32.2.getD (s30.1).toNat []).getD (s28.1).toNat default).Lo + ((s32.2.getD (s28.1).toNat []).getD (s32.1).toNat default).Lo)), (min (((s32.2.getD (s30.1).toNat []).getD (s32.1).toNat default).Hi) (((s32.2.getD (s30.1).toNat []).getD (s28.1).toNat default).Hi + ((s32.2.getD (s28.1).toNat []).getD (s32.1).toNat default).Hi))⟩ : Range)))) (BSim.gseg (GSeg.setAt (i := (s30.1).toNat) (j := (s32.1).toNat) (GSeg.refl enc_Range _) (⟨(min (((s32.2.getD (s30.1).toNat []).getD (s32.1).toNat default).Lo) (((s32.2.getD (s30.1).toNat []).getD (s28.1).toNat default).Lo + ((s32.2.getD (s28.1).toNat []).getD (s32.1).toNat default).Lo)), (min (((s32.2.getD (s30.1).toNat []).getD (s32.1).toNat default).Hi) (((s32.2.getD (s30.1).toNat []).getD (s28.1).toNat default).Hi + ((s32.2.getD (s28.1).toNat []).getD (s32.1).toNat default).Hi))⟩ : Range) rfl)) .nil)) ?_
              refine At.inb ?_
              refine At.thenC ?_
              obtain ⟨hc48, H⟩ := of_must H
              refine W.region env [] [] rfl rfl rfl (.cons hc48 .nil) .nil (At.keep (ts := [1, 5, 11, 12, 13]) (ids := [1, 22]) rfl rfl ?_)
              refine At.thenK (At.keep (ts := [1, 5, 11, 12, 13]) (ids := [1, 22]) rfl rfl ?_)
              exact At.conv (.cons (.of_eq (by first | rfl | (simp; done) | (simp; omega))) (.cons (.of_eq (by refine gbEq ?_; first | (simp; done) | (simp; omega) | rfl)) (.cons (.of_eq (by first | rfl | (simp; done) | (simp; omega))) (.cons (.of_eq (by first | rfl | (simp; done) | (simp; omega))) (.cons (.of_eq (by first | rfl | (simp; done) | (simp; omega))) .nil))))) (.cons (.of_eq (by first | rfl | (simp; done) | (simp; omega))) (.cons (.of_eq (by first | rfl | (simp; done) | (simp; omega))) .nil)) (hK32 ((s32.1 + 1), (s32.2.set (s30.1).toNat ((s32.2.getD (s30.1).toNat []).set (s32.1).toNat (⟨(min (((s32.2.getD (s30.1).toNat []).getD (s32.1).toNat default).Lo) (((s32.2.getD (s30.1).toNat []).getD (s28.1).toNat default).Lo + ((s32.2.getD (s28.1).toNat []).getD (s32.1).toNat default).Lo)), (min (((s32.2.getD (s30.1).toNat []).getD (s32.1).toNat default).Hi) (((s32.2.getD (s30.1).toNat []).getD (s28.1).toNat default).Hi + ((s32.2.getD (s28.1).toNat []).getD (s32.1).toNat default).Hi))⟩ : Range)))) H)
            · have H := of_false H hb33
              refine W.exit ?_
              refine At.xthen ?_
              refine At.xthen ?_
              refine At.xhere ?_
              refine At.inb ?_
              refine At.thenC ?_
              obtain ⟨hc49, H⟩ := of_must H
              refine W.region env [] [] rfl rfl rfl (.cons hc49 .nil) .nil (At.keep (ts := [1, 5, 11, 12]) (ids := [1, 22]) rfl rfl ?_)
              refine At.thenK (At.keep (ts := [1, 5, 11, 12]) (ids := [1, 22]) rfl rfl ?_)
              exact At.conv (.cons (.of_eq (by first | rfl | (simp; done) | (simp; omega))) (.cons (.of_eq (by refine gbEq ?_; first | (simp; done) | (simp; omega) | rfl)) (.cons (.of_eq (by first | rfl | (simp; done) | (simp; omega))) (.cons (.of_eq (by first | rfl | (simp; done) | (simp; omega))) .nil)))) (.cons (.of_eq (by first | rfl | (simp; done) | (simp; omega))) (.cons (.of_eq (by first | rfl | (simp; done) | (simp; omega))) .nil)) (hK30 ((s30.1 + 1), s32.2) H)
          · have H := of_false H hb31
            refine W.exit ?_
            refine At.xthen ?_
            refine At.xthen ?_
            refine At.xhere ?_
            refine At.inb ?_
            refine At.thenC ?_
            obtain ⟨hc50, H⟩ := of_must H
            refine W.region env [] [] rfl rfl rfl (.cons hc50 .nil) .nil (At.keep (ts := [1, 5, 11]) (ids := [1, 22]) rfl rfl ?_)
            refine At.thenK (At.keep (ts := [1, 5, 11]) (ids := [1, 22]) rfl rfl ?_)
            exact At.conv (.cons (.of_eq (by first | rfl | (simp; done) | (simp; omega))) (.cons (.of_eq (by refine gbEq ?_; first | (simp; done) | (simp; omega) | rfl)) (.cons (.of_eq (by first | rfl | (simp; done) | (simp; omega))) .nil))) (.cons (.of_eq (by first | rfl | (simp; done) | (simp; omega))) (.cons (.of_eq (by first | rfl | (simp; done) | (simp; omega))) .nil)) (hK28 ((s28.1 + 1), s30.2) H)
        · have H := of_false H hb29
          refine W.exit ?_
          refine At.xthen ?_
          refine At.xthen ?_
          refine At.xhere ?_
          refine At.thenC ?_
          refine W.seq ?_
          refine W.seq ?_
          refine W.region env [] [] rfl rfl rfl .nil .nil (At.keep (ts := [1, 5, 15]) (ids := [1, 22]) rfl rfl ?_)
          refine At.thenC ?_
          refine W.block ?_
          refine At.keep (ts := [1, 5, 15]) (ids := [1, 22]) rfl rfl ?_
          refine W.loopGo H (fun (s51 : Int) => [(1, .lp 1 0), (5, .gb 22 (s28.2).length), (15, .int .i64 (s51))]) (fun (s51 : Int) => [(1, .cells [.int .i64 (p0.Places), roL 7 enc_Way p0.Ways]), (22, gridL 57 51 2 enc_Range s28.2)]) (.cons (.of_eq (by first | rfl | (simp; done) | (simp; omega))) (.cons (.of_eq (by refine gbEq ?_; first | (simp; done) | (simp; omega) | rfl)) (.cons (.of_eq (by first | rfl | (simp; done) | (simp; omega))) .nil))) (.cons (.of_eq (by first | rfl | (simp; done) | (simp; omega))) (.cons (.of_eq (by first | rfl | (simp; done) | (simp; omega))) .nil)) (fun k51 s51 H K0 hK51 => ?_)
          refine W.seq ?_
          refine W.seq ?_
          refine W.region env [] [] rfl rfl rfl .nil .nil (At.keep (ts := [1, 5, 15, 179]) (ids := [1, 22]) rfl rfl ?_)
          refine At.thenC ?_
          refine W.cond rfl (fun hb52 => ?_) (fun hb52 => ?_)
          · have H := of_true H hb52
            refine W.skip ?_
            refine At.thenC ?_
            refine W.seq ?_
            refine W.block ?_
            refine W.seq ?_
            refine W.region env [] [] rfl rfl rfl .nil .nil (At.keep (ts := [1, 5, 15, 16]) (ids := [1, 22]) rfl rfl ?_)
            refine At.thenC ?_
            refine W.block ?_
            refine At.keep (ts := [1, 5, 15, 16]) (ids := [1, 22]) rfl rfl ?_
            refine W.loopGo H (fun (s53 : Int) => [(1, .lp 1 0), (5, .gb 22 (s28.2).length), (15, .int .i64 (s51)), (16, .int .i64 (s53))]) (fun (s53 : Int) => [(1, .cells [.int .i64 (p0.Places), roL 7 enc_Way p0.Ways]), (22, gridL 57 51 2 enc_Range s28.2)]) (.cons (.of_eq (by first | rfl | (simp; done) | (simp; omega))) (.cons (.of_eq (by refine gbEq ?_; first | (simp; done) | (simp; omega) | rfl)) (.cons (.of_eq (by first | rfl | (simp; done) | (simp; omega))) (.cons (.of_eq (by first | rfl | (simp; done) | (simp; omega))) .nil)))) (.cons (.of_eq (by first | rfl | (simp; done) | (simp; omega))) (.cons (.of_eq (by first | rfl | (simp; done) | (simp; omega))) .nil)) (fun k53 s53 H K0 hK53 => ?_)
            refine W.seq ?_
            refine W.seq ?_
            refine W.region env [] [] rfl rfl rfl .nil .nil (At.keep (ts := [1, 5, 15, 16, 185]) (ids := [1, 22]) rfl rfl ?_)
            refine At.thenC ?_
            refine W.cond rfl (fun hb54 => ?_) (fun hb54 => ?_)
            · have H := of_true H hb54
              refine W.skip ?_
              refine At.thenC ?_
              refine W.seq ?_
              refine W.block ?_
              refine W.seq ?_
              obtain ⟨hc55, H⟩ := of_must H
              obtain ⟨hc56, H⟩ := of_must H
              refine W.region env [] [] rfl rfl rfl (.cons (⟨by first | rfl | (simp; done) | (simp; omega), hc55⟩) (.cons ((by have := hc55; first | omega | (simp at this ⊢; omega))) (.cons (⟨by first | rfl | (simp; done) | (simp; omega), (by have := hc55; first | omega | (simp at this ⊢; omega)), hc56⟩) (.cons (⟨by first | rfl | (simp; done) | (simp; omega), (by have := hc55; first | omega | (simp at this ⊢; omega)), (by have := hc56; first | omega | (simp at this ⊢; omega))⟩) .nil)))) .nil (At.keep (ts := [1, 5, 15, 16, 196]) (ids := [1, 22]) rfl rfl ?_)
              refine At.thenC ?_
              refine W.cond rfl (fun hb57 => ?_) (fun hb57 => ?_)
              · have H := of_true H hb57
                refine W.seq ?_
                refine W.region env [] [] rfl rfl rfl .nil .nil (At.keep (ts := [2, 3]) (ids := []) rfl rfl ?_)
                refine At.thenC ?_
                refine W.ret ?_
                refine At.rinb ?_
                refine At.rthen ?_
                refine At.rthen ?_
                refine At.rinb ?_
                refine At.rinb ?_
                refine At.rthen ?_
                refine At.rthen ?_
                refine At.rinb ?_
                refine At.rthen ?_
                cases H
                exact At.ret env.ty rfl rfl (fun q hq => by cases hq) (Sim.tupL (.cons (Sim.nil _ _) (.cons (.refl _) .nil))) hval
              · have H := of_false H hb57
                refine W.skip ?_
                refine At.inb ?_
                refine At.thenC ?_
                obtain ⟨hc58, H⟩ := of_must H
                refine W.region env [] [] rfl rfl rfl (.cons hc58 .nil) .nil (At.keep (ts := [1, 5, 15, 16]) (ids := [1, 22]) rfl rfl ?_)
                refine At.thenK (At.keep (ts := [1, 5, 15, 16]) (ids := [1, 22]) rfl rfl ?_)
                exact At.conv (.cons (.of_eq (by first | rfl | (simp; done) | (simp; omega))) (.cons (.of_eq (by refine gbEq ?_; first | (simp; done) | (simp; omega) | rfl)) (.cons (.of_eq (by first | rfl | (simp; done) | (simp; omega))) (.cons (.of_eq (by first | rfl | (simp; done) | (simp; omega))) .nil)))) (.cons (.of_eq (by first | rfl | (simp; done) | (simp; omega))) (.cons (.of_eq (by first | rfl | (simp; done) | (simp; omega))) .nil)) (hK53 (s53 + 1) H)
            · have H := of_false H hb54
              refine W.exit ?_
              refine At.xthen ?_
              refine At.xthen ?_
              refine At.xhere ?_
              refine At.inb ?_
              refine At.thenC ?_
              obtain ⟨hc59, H⟩ := of_must H
              refine W.region env [] [] rfl rfl rfl (.cons hc59 .nil) .nil (At.keep (ts := [1, 5, 15]) (ids := [1, 22]) rfl rfl ?_)
              refine At.thenK (At.keep (ts := [1, 5, 15]) (ids := [1, 22]) rfl rfl ?_)
              exact At.conv (.cons (.of_eq (by first | rfl | (simp; done) | (simp; omega))) (.cons (.of_eq (by refine gbEq ?_; first | (simp; done) | (simp; omega) | rfl)) (.cons (.of_eq (by first | rfl | (simp; done) | (simp; omega))) .nil))) (.cons (.of_eq (by first | rfl | (simp; done) | (simp; omega))) (.cons (.of_eq (by first | rfl | (simp; done) | (simp; omega))) .nil)) (hK51 (s51 + 1) H)
          · have H := of_false H hb52
            refine W.exit ?_
            refine At.xthen ?_
            refine At.xthen ?_
            refine At.xhere ?_
            refine At.thenC ?_
            refine W.seq ?_
            refine W.region env [] [] rfl rfl rfl .nil .nil (At.keep (ts := [2, 3]) (ids := [22]) rfl rfl ?_)
            refine At.thenC ?_
            refine W.ret ?_
            cases H
            exact At.ret env.ty rfl rfl (fun q hq => by cases hq; exact (by first | rfl | (simp; done) | (simp; omega))) (.refl _) hval

theorem c_gasolierref03_SameMatrix (fuel : Nat) (p0 : (List (List Range))) (p1 : (List (List Range))) {r : Bool} (H : gasolierref03_SameMatrix fuel p0 p1 = some r) : Ctr Try.prog 46 [roL 1 enc_ListRange p0, roL 1 enc_ListRange p1] (.bool (r)) := by
  unfold gasolierref03_SameMatrix at H
  refine Ctr.of_body (N := 61) Try.func46 (by kernel_rfl) (c := _) rfl Try.ntmps46 rfl (fun w0 h0 hval => ?_)
  refine W.seq ?_
  refine W.region env [] [] rfl rfl rfl .nil .nil (At.keep (ts := [0, 1]) (ids := []) rfl rfl ?_)
  refine At.thenC ?_
  refine W.seq ?_
  refine W.region env [] [] rfl rfl rfl .nil .nil (At.keep (ts := [0, 1, 5]) (ids := []) rfl rfl ?_)
  refine At.thenC ?_
  refine W.seq ?_
  refine W.seq ?_
  refine W.region env [] [] rfl rfl rfl .nil .nil (At.keep (ts := [0, 1, 5, 6]) (ids := []) rfl rfl ?_)
  refine At.thenC ?_
  refine W.block ?_
  refine At.keep (ts := [0, 1, 5, 6]) (ids := []) rfl rfl ?_
  refine W.loopGo H (fun (s1 : Bool × Int) => [(0, roL 1 enc_ListRange p0), (1, roL 1 enc_ListRange p1), (5, .bool (s1.1)), (6, .int .i64 (s1.2))]) (fun (s1 : Bool × Int) => []) (.cons (.of_eq (by first | rfl | (simp; done) | (simp; omega))) (.cons (.of_eq (by first | rfl | (simp; done) | (simp; omega))) (.cons (.of_eq (by first | rfl | (simp; done) | (simp; omega))) (.cons (.of_eq (by first | rfl | (simp; done) | (simp; omega))) .nil)))) .nil (fun k1 s1 H K0 hK1 => ?_)
  refine W.seq ?_
  refine W.seq ?_
  refine W.region env [] [] rfl rfl rfl (.cons (fun h => h) .nil) .nil (At.keep (ts := [0, 1, 5, 6, 19]) (ids := []) rfl rfl ?_)
  refine At.thenC ?_
  refine W.cond rfl (fun hb2 => ?_) (fun hb2 => ?_)
  · have H := of_true H hb2
    refine W.skip ?_
    refine At.thenC ?_
    refine W.seq ?_
    refine W.block ?_
    refine W.seq ?_
    obtain ⟨hc3, H⟩ := of_must H
    obtain ⟨hc4, H⟩ := of_must H
    refine W.region env [] [] rfl rfl rfl (.cons hc3 (.cons hc4 .nil)) .nil (At.keep (ts := [0, 1, 5, 6]) (ids := []) rfl rfl ?_)
    refine At.thenC ?_
    refine W.seq ?_
    refine W.region env [] [] rfl rfl rfl .nil .nil (At.keep (ts := [0, 1, 5, 6, 7]) (ids := []) rfl rfl ?_)
    refine At.thenC ?_
    refine W.block ?_
    refine At.keep (ts := [0, 1, 5, 6, 7]) (ids := []) rfl rfl ?_
    refine W.loopGo H (fun (s5 : Bool × Int) => [(0, roL 1 enc_ListRange p0), (1, roL 1 enc_ListRange p1), (5, .bool (s5.1)), (6, .int .i64 (s1.2)), (7, .int .i64 (s5.2))]) (fun (s5 : Bool × Int) => []) (.cons (.of_eq (by first | rfl | (simp; done) | (simp; omega))) (.cons (.of_eq (by first | rfl | (simp; done) | (simp; omega))) (.cons (.of_eq (by first | rfl | (simp; done) | (simp; omega))) (.cons (.of_eq (by first | rfl | (simp; done) | (simp; omega))) (.cons (.of_eq (by first | rfl | (simp; done) | (simp; omega))) .nil))))) .nil (fun k5 s5 H K0 hK5 => ?_)
    refine W.seq ?_
    refine W.seq ?_
    obtain ⟨hc6, H⟩ := of_must H
    refine W.region env [] [] rfl rfl rfl (.cons hc6 (.cons (fun h => h) .nil)) .nil (At.keep (ts := [0, 1, 5, 6, 7, 42]) (ids := []) rfl rfl ?_)
    refine At.thenC ?_
    refine W.cond rfl (fun hb7 => ?_) (fun hb7 => ?_)
    · have H := of_true H hb7
      refine W.skip ?_
      refine At.thenC ?_
      refine W.seq ?_
      refine W.block ?_
      obtain ⟨hc8, H⟩ := of_must H
      obtain ⟨hc9, H⟩ := of_must H
      obtain ⟨hc10, H⟩ := of_must H
      obtain ⟨hc11, H⟩ := of_must H
      refine W.region env [] [] rfl rfl rfl (.cons hc8 (.cons hc9 (.cons hc10 (.cons hc11 .nil)))) .nil (At.keep (ts := [0, 1, 5, 6, 7]) (ids := []) rfl rfl ?_)
      refine At.inb ?_
      refine At.thenC ?_
      obtain ⟨hc12, H⟩ := of_must H
      refine W.region env [] [] rfl rfl rfl (.cons hc12 .nil) .nil (At.keep (ts := [0, 1, 5, 6, 7]) (ids := []) rfl rfl ?_)
      refine At.thenK (At.keep (ts := [0, 1, 5, 6, 7]) (ids := []) rfl rfl ?_)
      exact At.conv (.cons (.of_eq (by first | rfl | (simp; done) | (simp; omega))) (.cons (.of_eq (by first | rfl | (simp; done) | (simp; omega))) (.cons (.of_eq (by first | rfl | (simp; done) | (simp; omega))) (.cons (.of_eq (by first | rfl | (simp; done) | (simp; omega))) (.cons (.of_eq (by first | rfl | (simp; done) | (simp; omega))) .nil))))) .nil (hK5 (((decide (((p0.getD (s1.2).toNat default).getD (s5.2).toNat default).Lo = ((p1.getD (s1.2).toNat default).getD (s5.2).toNat default).Lo)) && (decide (((p0.getD (s1.2).toNat default).getD (s5.2).toNat default).Hi = ((p1.getD (s1.2).toNat default).getD (s5.2).toNat default).Hi))), (s5.2 + 1)) H)
    · have H := of_false H hb7
      refine W.exit ?_
      refine At.xthen ?_
      refine At.xthen ?_
      refine At.xhere ?_
      refine At.inb ?_
      refine At.thenC ?_
      obtain ⟨hc13, H⟩ := of_must H
      refine W.region env [] [] rfl rfl rfl (.cons hc13 .nil) .nil (At.keep (ts := [0, 1, 5, 6]) (ids := []) rfl rfl ?_)
      refine At.thenK (At.keep (ts := [0, 1, 5, 6]) (ids := []) rfl rfl ?_)
      exact At.conv (.cons (.of_eq (by first | rfl | (simp; done) | (simp; omega))) (.cons (.of_eq (by first | rfl | (simp; done) | (simp; omega))) (.cons (.of_eq (by first | rfl | (simp; done) | (simp; omega))) (.cons (.of_eq (by first | rfl | (simp; done) | (simp; omega))) .nil)))) .nil (hK1 (s5.1, (s1.2 + 1)) H)
  · have H := of_false H hb2
    refine W.exit ?_
    refine At.xthen ?_
    refine At.xthen ?_
    refine At.xhere ?_
    refine At.thenC ?_
    refine W.seq ?_
    refine W.region env [] [] rfl rfl rfl .nil .nil (At.keep (ts := [4]) (ids := []) rfl rfl ?_)
    refine At.thenC ?_
    refine W.ret ?_
    cases H
    exact At.ret env.ty rfl rfl (fun q hq => by cases hq) (.refl _) hval

theorem c_round_CheckMarks_1 (p0 : Int) : Ctr Try.prog 95 [.int .i64 (p0)] (.bool ((round_CheckMarks_1 p0))) := by
  obtain ⟨r, H⟩ : ∃ r, round_CheckMarks_1 p0 = r := ⟨_, rfl⟩
  rw [H]
  unfold round_CheckMarks_1 at H
  refine Ctr.of_body (N := 6) Try.func95 (by kernel_rfl) (c := _) rfl Try.ntmps95 rfl (fun w0 h0 hval => ?_)
  refine W.seq ?_
  refine W.region env [] [] rfl rfl rfl .nil .nil (At.keep (ts := [0]) (ids := []) rfl rfl ?_)
  refine At.thenC ?_
  refine W.seq ?_
  refine W.region env [] [⟨.bool ((round_within p0 (-1) 1439)), [], 0⟩] rfl rfl rfl .nil (.free (c_round_within p0 (-1) 1439) .nil) (At.keep (ts := [2]) (ids := []) rfl rfl ?_)
  refine At.thenC ?_
  refine W.ret ?_
  cases H
  exact At.ret env.ty rfl rfl (fun q hq => by cases hq) (.refl _) hval

theorem c_round_CheckMarks (p0 : Chart) (p1 : Int) (p2 : Int) (p3 : (List Int)) {r : Int} (H : round_CheckMarks p0 p1 p2 p3 = some r) : Ctr Try.prog 47 [.agg [.int .i64 (p0.Places), roL 7 enc_Way p0.Ways], .int .i64 (p1), .int .i64 (p2), roL 1 enc_Int p3] (.int .i64 (r)) := by
  unfold round_CheckMarks at H
  refine Ctr.of_body (N := 75) Try.func47 (by kernel_rfl) (c := _) rfl Try.ntmps47 rfl (fun w0 h0 hval => ?_)
  refine W.seq ?_
  refine W.region env [] [] rfl rfl rfl .nil .nil (At.keep (ts := [1, 2, 4, 7, 8]) (ids := [4, 7, 8]) rfl rfl ?_)
  refine At.thenC ?_
  refine W.seq ?_
  refine W.seq ?_
  obtain ⟨y1, hy2, H⟩ := of_bindO H
  refine W.region env [] [⟨.int .i64 (y1), [], 0⟩] rfl rfl rfl .nil (.free (Ctr.sim (.cons (.refl _) (.cons (.refl _) (.cons (Sim.lit (f := enc_Int) ([p1] : List Int) rfl rfl (fun _ => rfl)) .nil))) (c_round_placeOf p0 p2 ([p1] : List Int) hy2)) .nil) (At.keep (ts := [1, 2, 4, 7, 8, 9]) (ids := [4, 7, 8]) rfl rfl ?_)
  refine At.thenC ?_
  refine W.seq ?_
  refine W.region env [] [] rfl rfl rfl .nil .nil (At.keep (ts := [1, 2, 4, 7, 8, 9, 21]) (ids := [4, 7, 8]) rfl rfl ?_)
  refine At.thenC ?_
  refine W.cond rfl (fun hb3 => ?_) (fun hb3 => ?_)
  · have H := of_true H hb3
    refine W.seq ?_
    refine W.region env [] [] rfl rfl rfl .nil .nil (At.keep (ts := [8]) (ids := [8]) rfl rfl ?_)
    refine At.thenC ?_
    refine W.ret ?_
    refine At.rthen ?_
    cases H
    exact At.ret env.ty rfl rfl (fun q hq => by cases hq) (.refl _) hval
  · have H := of_false H hb3
    refine W.skip ?_
    refine At.thenC ?_
    refine W.seq ?_
    refine W.seq ?_
    obtain ⟨y4, hy5, H⟩ := of_bindO H
    obtain ⟨hc6, H⟩ := of_must H
    refine W.region env [] [⟨.bool (y4), [], 0⟩, ⟨.bool ((round_within (p3.getD (p1).toNat default) 0 p2)), [], 0⟩] rfl rfl rfl (.cons (fun h => h) (.cons (fun h => by rw [h]; rfl) (.cons hc6 (.cons (fun h => h) (.cons (fun h => h) (.cons (fun h => h) (.cons (fun h => h) (.cons (fun h => h) (.cons (fun h => h) (.cons (fun h => by rw [h]; rfl) .nil)))))))))) (.on (fun hW => c_slices_ContainsFunc_int p3 (fun x0 => some (round_CheckMarks_1 x0)) 95 [] [] (fun x0 r h => by cases h; exact c_round_CheckMarks_1 x0) (of_true hy5 hW)) (.on (fun hW => c_round_within (p3.getD (p1).toNat default) 0 p2) .nil)) (At.keep (ts := [4, 7, 8, 40]) (ids := [4, 7, 8]) rfl rfl ?_)
    refine At.thenC ?_
    refine W.cond rfl (fun hb7 => ?_) (fun hb7 => ?_)
    · have H := of_true H hb7
      refine W.seq ?_
      refine W.region env [] [] rfl rfl rfl .nil .nil (At.keep (ts := [8]) (ids := [8]) rfl rfl ?_)
      refine At.thenC ?_
      refine W.ret ?_
      refine At.rthen ?_
      cases H
      exact At.ret env.ty rfl rfl (fun q hq => by cases hq) (.refl _) hval
    · have H := of_false H hb7
      refine W.skip ?_
      refine At.thenC ?_
      refine W.seq ?_
      refine W.seq ?_
      refine W.region env [] [] rfl rfl rfl .nil .nil (At.keep (ts := [4, 7, 8, 41, 42, 43]) (ids := [4, 7, 8]) rfl rfl ?_)
      refine At.thenC ?_
      refine W.block ?_
      refine At.keep (ts := [4, 7, 8, 41, 42, 43]) (ids := [4, 7, 8]) rfl rfl ?_
      refine W.len (t := 41) rfl (fun hn8 => ?_)
      refine W.rangeGo H (fun i8 (s8 : Unit) => [(4, .lp 4 0), (7, .lp 7 0), (8, .lp 8 0), (41, roL 1 enc_Int p3), (42, .int .i64 (((p3.length : Nat) : Int))), (43, .int .i64 ((i8 : Int)))]) (fun i8 (s8 : Unit) => [(4, .cells [.int .i64 (p0.Places), roL 7 enc_Way p0.Ways]), (7, .cells [roL 1 enc_Int p3]), (8, .cells [.int .i64 (0)])]) (.cons (.of_eq (by first | rfl | (simp; done) | (simp; omega))) (.cons (.of_eq (by first | rfl | (simp; done) | (simp; omega))) (.cons (.of_eq (by first | rfl | (simp; done) | (simp; omega))) (.cons (.of_eq (by first | rfl | (simp; done) | (simp; omega))) (.cons (.of_eq (by first | rfl | (simp; done) | (simp; omega))) (.cons (.of_eq (by first | rfl | (simp; done) | (simp; omega))) .nil)))))) (.cons (.of_eq (by first | rfl | (simp; done) | (simp; omega))) (.cons (.of_eq (by first | rfl | (simp; done) | (simp; omega))) (.cons (.of_eq (by first | rfl | (simp; done) | (simp; omega))) .nil))) (fun k8 i8 s8 hle8 H1 H2 K0 hK8 => ?_)
      refine W.seq ?_
      refine W.region env [] [] rfl rfl rfl .nil .nil (At.keep (ts := [4, 7, 8, 41, 42, 43, 44]) (ids := [4, 7, 8]) rfl rfl ?_)
      refine At.thenC ?_
      refine W.seq ?_
      refine W.cond rfl (fun hb9 => ?_) (fun hb9 => ?_)
      · have hi8 : i8 < p3.length := by have := of_decide_eq_true hb9; omega
        have H := H1 hi8
        refine W.skip ?_
        refine At.thenC ?_
        refine W.seq ?_
        refine W.joinC H (fun (s10 : Unit) => [(4, .lp 4 0), (7, .lp 7 0), (8, .lp 8 0), (41, roL 1 enc_Int p3), (42, .int .i64 (((p3.length : Nat) : Int))), (43, .int .i64 ((i8 : Int)))]) (fun (s10 : Unit) => [(4, .cells [.int .i64 (p0.Places), roL 7 enc_Way p0.Ways]), (7, .cells [roL 1 enc_Int p3]), (8, .cells [.int .i64 (0)])]) (fun s10 H => ?_) (fun k10 H hK10 => ?_)
        · refine W.region env [] [] rfl rfl rfl (.cons (by unfold inI; have := hn8; (try unfold maxLen at this); omega) .nil) .nil (At.keep (ts := [4, 7, 8, 41, 42, 43]) (ids := [4, 7, 8]) rfl rfl ?_)
          refine At.thenK (At.keep (ts := [4, 7, 8, 41, 42, 43]) (ids := [4, 7, 8]) rfl rfl ?_)
          exact At.conv (.cons (.of_eq (by first | rfl | (simp; done) | (simp; omega))) (.cons (.of_eq (by first | rfl | (simp; done) | (simp; omega))) (.cons (.of_eq (by first | rfl | (simp; done) | (simp; omega))) (.cons (.of_eq (by first | rfl | (simp; done) | (simp; omega))) (.cons (.of_eq (by first | rfl | (simp; done) | (simp; omega))) (.cons (.of_eq (by first | rfl | (simp; done) | (simp; omega))) .nil)))))) (.cons (.of_eq (by first | rfl | (simp; done) | (simp; omega))) (.cons (.of_eq (by first | rfl | (simp; done) | (simp; omega))) (.cons (.of_eq (by first | rfl | (simp; done) | (simp; omega))) .nil))) (hK8 hi8 () H)
        · refine W.block ?_
          refine W.seq ?_
          refine W.region env [] [] rfl rfl rfl (.cons (⟨by omega, by omega⟩ : 0 ≤ (i8 : Int) ∧ (i8 : Int) < ((p3.length : Nat) : Int)) .nil) .nil (At.keep (ts := [4, 7, 8, 10, 11, 41, 42, 43]) (ids := [4, 7, 8]) rfl rfl ?_)
          refine At.thenC ?_
          refine W.seq ?_
          refine W.seq ?_
          refine W.region env [] [] rfl rfl rfl .nil .nil (At.keep (ts := [4, 7, 8, 10, 11, 41, 42, 43, 49]) (ids := [4, 7, 8]) rfl rfl ?_)
          refine At.thenC ?_
          refine W.cond rfl (fun hb11 => ?_) (fun hb11 => ?_)
          · have H := of_true H hb11
            refine W.exit ?_
            refine At.xthen ?_
            refine At.xhere ?_
            refine At.thenK (At.keep (ts := [4, 7, 8, 41, 42, 43]) (ids := [4, 7, 8]) rfl rfl ?_)
            exact At.conv (.cons (.of_eq (by first | rfl | (simp; done) | (simp; omega))) (.cons (.of_eq (by first | rfl | (simp; done) | (simp; omega))) (.cons (.of_eq (by first | rfl | (simp; done) | (simp; omega))) (.cons (.of_eq (by first | rfl | (simp; done) | (simp; omega))) (.cons (.of_eq (by first | rfl | (simp; done) | (simp; omega))) (.cons (.of_eq (by first | rfl | (simp; done) | (simp; omega))) .nil)))))) (.cons (.of_eq (by first | rfl | (simp; done) | (simp; omega))) (.cons (.of_eq (by first | rfl | (simp; done) | (simp; omega))) (.cons (.of_eq (by first | rfl | (simp; done) | (simp; omega))) .nil))) (hK10 () H)
          · have H := of_false H hb11
            refine W.skip ?_
            refine At.thenC ?_
            refine W.seq ?_
            refine W.region env [] [⟨.clo (.func 115) [] [.rp [.int .i64 (p0.Places), roL 7 enc_Way p0.Ways]], [], 0⟩, ⟨.clo (.func 121) [] [.rp [.int .i64 (p0.Places), roL 7 enc_Way p0.Ways], .rp [.int .i64 ((i8 : Int))], .rp [.int .i64 ((p3.getD i8 default))], .rp [.clo (.func 115) [] [.rp [.int .i64 (p0.Places), roL 7 enc_Way p0.Ways]]]], [], 0⟩] rfl rfl rfl .nil (.free (c_round_most p0) (.free (c_round_from p0 (i8 : Int) (p3.getD i8 default) (fun x0 => round_most_1 x0 p0) 115 [] ([.rp [.int .i64 (p0.Places), roL 7 enc_Way p0.Ways]]) (fun x0 r h => c_round_most_1 x0 p0 h)) .nil)) (At.keep (ts := [4, 7, 8, 41, 42, 43, 55]) (ids := [4, 7, 8]) rfl rfl ?_)
            refine At.thenC ?_
            refine W.block ?_
            obtain ⟨it12, hit12, H⟩ := of_bindO H
            refine At.keep (ts := [4, 7, 8, 41, 42, 43, 55]) (ids := [4, 7, 8]) rfl rfl ?_
            refine W.listGo H (fun (x : Int × Int) => [.int .i64 (x.1), .int .i64 (x.2)]) (c_round_from_1 p0 (i8 : Int) (p3.getD i8 default) (fun x0 => round_most_1 x0 p0) 115 [] ([.rp [.int .i64 (p0.Places), roL 7 enc_Way p0.Ways]]) (fun x0 r h => c_round_most_1 x0 p0 h) hit12) rfl (fun _ => ⟨rfl, rfl⟩) rfl rfl rfl (fun (s13 : Unit) => [(4, .cells [.int .i64 (p0.Places), roL 7 enc_Way p0.Ways]), (7, .cells [roL 1 enc_Int p3]), (8, .cells [.int .i64 (0)])]) (.cons (.of_eq (by first | rfl | (simp; done) | (simp; omega))) (.cons (.of_eq (by first | rfl | (simp; done) | (simp; omega))) (.cons (.of_eq (by first | rfl | (simp; done) | (simp; omega))) .nil))) (fun (x12 : Int × Int) => [(4, .lp 4 0), (7, .lp 7 0), (8, .lp 8 0), (12, .int .i64 (x12.1)), (13, .int .i64 (x12.2))]) (fun e (sx : Int) => e = Exit.ret ∧ some sx = some r) (fun _ (sx : Int) => [(4, .cells [.int .i64 (p0.Places), roL 7 enc_Way p0.Ways]), (7, .cells [roL 1 enc_Int p3]), (8, .cells [.int .i64 (sx)])]) (fun e s h => .inl h.1) hval (fun h1 vs gh st lp x12 s13 K hK => ?_) (fun k13 h1 vs gh st lp x12 s13 H Qr hQ13 hX13 => ?_) (fun s13 H => ?_) (fun e sx h => ?_)
            · refine W.seq ?_
              refine W.region env [] [] rfl rfl rfl .nil .nil (At.keep (ts := [4, 7, 8, 12, 57]) (ids := [4, 7, 8]) rfl rfl ?_)
              refine At.thenC ?_
              refine W.region env [] [] rfl rfl rfl .nil .nil (At.keep (ts := [4, 7, 8, 12, 13]) (ids := [4, 7, 8]) rfl rfl ?_)
              refine At.thenK (At.keep (ts := [4, 7, 8, 12, 13]) (ids := [4, 7, 8]) rfl rfl ?_)
              exact hK
            · refine W.block ?_
              refine W.seq ?_
              obtain ⟨hc14, H⟩ := of_must H
              obtain ⟨hc15, H⟩ := of_must H
              refine W.region env [] [] rfl rfl rfl (.cons hc14 (.cons hc15 .nil)) .nil (At.keep (ts := [8, 13, 14]) (ids := [4, 7, 8]) rfl rfl ?_)
              refine At.thenC ?_
              refine W.seq ?_
              refine W.region env [] [] rfl rfl rfl (.cons (fun h => h) (.cons (fun h => h) (.cons (fun h => by rw [h]; rfl) .nil))) .nil (At.keep (ts := [8, 73]) (ids := [4, 7, 8]) rfl rfl ?_)
              refine At.thenC ?_
              refine W.cond rfl (fun hb16 => ?_) (fun hb16 => ?_)
              · have H := of_true H hb16
                refine W.seq ?_
                refine W.region env [] [] rfl rfl rfl .nil .nil (At.keep (ts := [8]) (ids := [4, 7, 8]) rfl rfl ?_)
                refine At.thenC ?_
                refine W.ret ?_
                refine At.rinb ?_
                refine At.keep (ts := []) (ids := [4, 7, 8]) rfl rfl ?_
                exact At.conv .nil (.cons (.of_eq (by first | rfl | (simp; done) | (simp; omega))) (.cons (.of_eq (by first | rfl | (simp; done) | (simp; omega))) (.cons (.of_eq (by first | rfl | (simp; done) | (simp; omega))) .nil))) (hX13 .ret 37 ⟨rfl, H⟩)
              · have H := of_false H hb16
                refine W.skip ?_
                refine At.inb ?_
                refine At.keep (ts := []) (ids := [4, 7, 8]) rfl rfl ?_
                exact At.conv .nil (.cons (.of_eq (by first | rfl | (simp; done) | (simp; omega))) (.cons (.of_eq (by first | rfl | (simp; done) | (simp; omega))) (.cons (.of_eq (by first | rfl | (simp; done) | (simp; omega))) .nil))) (hQ13 () H)
            · refine At.inb ?_
              refine At.inb ?_
              refine At.thenK (At.keep (ts := [4, 7, 8, 41, 42, 43]) (ids := [4, 7, 8]) rfl rfl ?_)
              exact At.conv (.cons (.of_eq (by first | rfl | (simp; done) | (simp; omega))) (.cons (.of_eq (by first | rfl | (simp; done) | (simp; omega))) (.cons (.of_eq (by first | rfl | (simp; done) | (simp; omega))) (.cons (.of_eq (by first | rfl | (simp; done) | (simp; omega))) (.cons (.of_eq (by first | rfl | (simp; done) | (simp; omega))) (.cons (.of_eq (by first | rfl | (simp; done) | (simp; omega))) .nil)))))) (.cons (.of_eq (by first | rfl | (simp; done) | (simp; omega))) (.cons (.of_eq (by first | rfl | (simp; done) | (simp; omega))) (.cons (.of_eq (by first | rfl | (simp; done) | (simp; omega))) .nil))) (hK10 () H)
            · obtain ⟨rfl, H⟩ := h
              refine At.rinb ?_
              refine At.rinb ?_
              refine At.rthen ?_
              refine At.rthen ?_
              refine At.rinb ?_
              refine At.rthen ?_
              cases H
              exact At.ret env.ty rfl rfl (fun q hq => by cases hq) (.refl _) hval
      · have H := H2 (by have := of_decide_eq_false hb9; omega)
        refine W.exit ?_
        refine At.xthen ?_
        refine At.xthen ?_
        refine At.xhere ?_
        refine At.thenC ?_
        refine W.seq ?_
        refine W.region env [] [] rfl rfl rfl .nil .nil (At.keep (ts := [8]) (ids := [8]) rfl rfl ?_)
        refine At.thenC ?_
        refine W.ret ?_
        cases H
        exact At.ret env.ty rfl rfl (fun q hq => by cases hq) (.refl _) hval

theorem c_gasolierref03_isPlace (p0 : Chart) (p1 : Int) {r : Bool} (H : gasolierref03_isPlace p0 p1 = some r) : Ctr Try.prog 113 [.agg [.int .i64 (p0.Places), roL 7 enc_Way p0.Ways], .int .i64 (p1)] (.bool (r)) := by
  unfold gasolierref03_isPlace at H
  refine Ctr.of_body (N := 10) Try.func113 (by kernel_rfl) (c := _) rfl Try.ntmps113 rfl (fun w0 h0 hval => ?_)
  refine W.seq ?_
  refine W.region env [] [] rfl rfl rfl .nil .nil (At.keep (ts := [1, 2]) (ids := [2]) rfl rfl ?_)
  refine At.thenC ?_
  refine W.seq ?_
  obtain ⟨hc1, H⟩ := of_must H
  refine W.region env [] [⟨.bool ((gasolierref03_In p1 0 (p0.Places - 1))), [], 0⟩] rfl rfl rfl (.cons hc1 .nil) (.free (c_gasolierref03_In p1 0 (p0.Places - 1)) .nil) (At.keep (ts := [4]) (ids := []) rfl rfl ?_)
  refine At.thenC ?_
  refine W.ret ?_
  cases H
  exact At.ret env.ty rfl rfl (fun q hq => by cases hq) (.refl _) hval

theorem c_gasolierref03_isMinute (p0 : Int) : Ctr Try.prog 89 [.int .i64 (p0)] (.bool ((gasolierref03_isMinute p0))) := by
  obtain ⟨r, H⟩ : ∃ r, gasolierref03_isMinute p0 = r := ⟨_, rfl⟩
  rw [H]
  unfold gasolierref03_isMinute at H
  refine Ctr.of_body (N := 5) Try.func89 (by kernel_rfl) (c := _) rfl Try.ntmps89 rfl (fun w0 h0 hval => ?_)
  refine W.seq ?_
  refine W.region env [] [] rfl rfl rfl .nil .nil (At.keep (ts := [0]) (ids := []) rfl rfl ?_)
  refine At.thenC ?_
  refine W.seq ?_
  refine W.region env [] [⟨.bool ((gasolierref03_In p0 0 1439)), [], 0⟩] rfl rfl rfl .nil (.free (c_gasolierref03_In p0 0 1439) .nil) (At.keep (ts := [2]) (ids := []) rfl rfl ?_)
  refine At.thenC ?_
  refine W.ret ?_
  cases H
  exact At.ret env.ty rfl rfl (fun q hq => by cases hq) (.refl _) hval

theorem c_gasolierref03_asked (fuel : Nat) (p0 : Chart) (p1 : Int) (p2 : Int) {r : Int} (H : gasolierref03_asked fuel p0 p1 p2 = some r) : Ctr Try.prog 91 [.agg [.int .i64 (p0.Places), roL 7 enc_Way p0.Ways], .int .i64 (p1), .int .i64 (p2)] (.int .i64 (r)) := by
  unfold gasolierref03_asked at H
  refine Ctr.of_body (N := 19) Try.func91 (by kernel_rfl) (c := _) rfl Try.ntmps91 rfl (fun w0 h0 hval => ?_)
  refine W.seq ?_
  refine W.region env [] [] rfl rfl rfl .nil .nil (At.keep (ts := [1, 2, 3]) (ids := [3]) rfl rfl ?_)
  refine At.thenC ?_
  refine W.seq ?_
  refine W.seq ?_
  obtain ⟨y1, hy2, H⟩ := of_bindO H
  refine W.region env [] [⟨.int .i64 (y1), [], 0⟩] rfl rfl rfl .nil (.free (c_gasolierref03_Check fuel p0 hy2) .nil) (At.keep (ts := [1, 2, 3, 9]) (ids := [3]) rfl rfl ?_)
  refine At.thenC ?_
  refine W.cond rfl (fun hb3 => ?_) (fun hb3 => ?_)
  · have H := of_true H hb3
    refine W.seq ?_
    refine W.region env [] [] rfl rfl rfl .nil .nil (At.keep (ts := [6]) (ids := []) rfl rfl ?_)
    refine At.thenC ?_
    refine W.ret ?_
    refine At.rthen ?_
    cases H
    exact At.ret env.ty rfl rfl (fun q hq => by cases hq) (.refl _) hval
  · have H := of_false H hb3
    refine W.skip ?_
    refine At.thenC ?_
    refine W.seq ?_
    refine W.seq ?_
    obtain ⟨y4, hy5, H⟩ := of_bindO H
    refine W.region env [] [⟨.bool (y4), [], 0⟩, ⟨.bool ((gasolierref03_isMinute p2)), [], 0⟩] rfl rfl rfl (.cons (fun h => h) (.cons (fun h => h) (.cons (fun h => by rw [h]; rfl) .nil))) (.free (c_gasolierref03_isPlace p0 p1 hy5) (.on (fun hW => c_gasolierref03_isMinute p2) .nil)) (At.keep (ts := [18]) (ids := []) rfl rfl ?_)
    refine At.thenC ?_
    refine W.cond rfl (fun hb6 => ?_) (fun hb6 => ?_)
    · have H := of_true H hb6
      refine W.seq ?_
      refine W.region env [] [] rfl rfl rfl .nil .nil (At.keep (ts := [6]) (ids := []) rfl rfl ?_)
      refine At.thenC ?_
      refine W.ret ?_
      refine At.rthen ?_
      cases H
      exact At.ret env.ty rfl rfl (fun q hq => by cases hq) (.refl _) hval
    · have H := of_false H hb6
      refine W.skip ?_
      refine At.thenC ?_
      refine W.seq ?_
      refine W.region env [] [] rfl rfl rfl .nil .nil (At.keep (ts := [6]) (ids := []) rfl rfl ?_)
      refine At.thenC ?_
      refine W.ret ?_
      cases H
      exact At.ret env.ty rfl rfl (fun q hq => by cases hq) (.refl _) hval

theorem c_gasolierref03_begun (p0 : Way) (p1 : Int) {r : Int} (H : gasolierref03_begun p0 p1 = some r) : Ctr Try.prog 90 [.agg [.int .i64 (p0.From), .int .i64 (p0.To), .int .i64 (p0.Takes.Lo), .int .i64 (p0.Takes.Hi), .int .i64 (p0.Open.Lo), .int .i64 (p0.Open.Hi), .int .i64 (p0.Every)], .int .i64 (p1)] (.int .i64 (r)) := by
  unfold gasolierref03_begun at H
  refine Ctr.of_body (N := 39) Try.func90 (by kernel_rfl) (c := _) rfl Try.ntmps90 rfl (fun w0 h0 hval => ?_)
  refine W.seq ?_
  refine W.region env [] [] rfl rfl rfl .nil .nil (At.keep (ts := [1, 2]) (ids := [2]) rfl rfl ?_)
  refine At.thenC ?_
  refine W.seq ?_
  refine W.region env [] [] rfl rfl rfl .nil .nil (At.keep (ts := [2, 5]) (ids := [2]) rfl rfl ?_)
  refine At.thenC ?_
  refine W.seq ?_
  refine W.seq ?_
  refine W.region env [] [] rfl rfl rfl .nil .nil (At.keep (ts := [2, 5, 13]) (ids := [2]) rfl rfl ?_)
  refine At.thenC ?_
  refine W.joinC H (fun (s1 : Int) => [(2, .lp 2 0), (5, .int .i64 (s1))]) (fun (s1 : Int) => [(2, .cells [.int .i64 (p0.From), .int .i64 (p0.To), .int .i64 (p0.Takes.Lo), .int .i64 (p0.Takes.Hi), .int .i64 (p0.Open.Lo), .int .i64 (p0.Open.Hi), .int .i64 (p0.Every)])]) (fun s1 H => ?_) (fun k1 H hK1 => ?_)
  · refine W.seq ?_
    refine W.seq ?_
    refine W.region env [] [] rfl rfl rfl .nil .nil (At.keep (ts := [5, 37]) (ids := []) rfl rfl ?_)
    refine At.thenC ?_
    refine W.cond rfl (fun hb2 => ?_) (fun hb2 => ?_)
    · have H := of_true H hb2
      refine W.seq ?_
      refine W.region env [] [] rfl rfl rfl .nil .nil (At.keep (ts := [4]) (ids := []) rfl rfl ?_)
      refine At.thenC ?_
      refine W.ret ?_
      refine At.rthen ?_
      cases H
      exact At.ret env.ty rfl rfl (fun q hq => by cases hq) (.refl _) hval
    · have H := of_false H hb2
      refine W.skip ?_
      refine At.thenC ?_
      refine W.seq ?_
      refine W.region env [] [] rfl rfl rfl .nil .nil (At.keep (ts := [4]) (ids := []) rfl rfl ?_)
      refine At.thenC ?_
      refine W.ret ?_
      cases H
      exact At.ret env.ty rfl rfl (fun q hq => by cases hq) (.refl _) hval
  · refine W.cond rfl (fun hb3 => ?_) (fun hb3 => ?_)
    · have H := of_true H hb3
      obtain ⟨hc4, H⟩ := of_must H
      obtain ⟨hc5, H⟩ := of_must H
      obtain ⟨hc6, H⟩ := of_must H
      obtain ⟨hc7, H⟩ := of_must H
      obtain ⟨hc8, H⟩ := of_must H
      obtain ⟨hc9, H⟩ := of_must H
      refine W.region env [] [] rfl rfl rfl (.cons hc4 (.cons hc5 (.cons hc6 (.cons hc7 (.cons hc8 (.cons hc9 .nil)))))) .nil (At.keep (ts := [2, 5]) (ids := [2]) rfl rfl ?_)
      refine At.thenK (At.keep (ts := [2, 5]) (ids := [2]) rfl rfl ?_)
      exact At.conv (.cons (.of_eq (by first | rfl | (simp; done) | (simp; omega))) (.cons (.of_eq (by first | rfl | (simp; done) | (simp; omega))) .nil)) (.cons (.of_eq (by first | rfl | (simp; done) | (simp; omega))) .nil) (hK1 (p0.Open.Lo + ((Int.tdiv ((((max p1 p0.Open.Lo) - p0.Open.Lo) + p0.Every) - 1) p0.Every) * p0.Every)) H)
    · have H := of_false H hb3
      refine W.skip ?_
      refine At.thenK (At.keep (ts := [2, 5]) (ids := [2]) rfl rfl ?_)
      exact At.conv (.cons (.of_eq (by first | rfl | (simp; done) | (simp; omega))) (.cons (.of_eq (by first | rfl | (simp; done) | (simp; omega))) .nil)) (.cons (.of_eq (by first | rfl | (simp; done) | (simp; omega))) .nil) (hK1 (max p1 p0.Open.Lo) H)

theorem c_gasolierref03_Ends (p0 : Way) (p1 : Int) (p2 : Int) {r : Int} (H : gasolierref03_Ends p0 p1 p2 = some r) : Ctr Try.prog 98 [.agg [.int .i64 (p0.From), .int .i64 (p0.To), .int .i64 (p0.Takes.Lo), .int .i64 (p0.Takes.Hi), .int .i64 (p0.Open.Lo), .int .i64 (p0.Open.Hi), .int .i64 (p0.Every)], .int .i64 (p1), .int .i64 (p2)] (.int .i64 (r)) := by
  unfold gasolierref03_Ends at H
  refine Ctr.of_body (N := 22) Try.func98 (by kernel_rfl) (c := _) rfl Try.ntmps98 rfl (fun w0 h0 hval => ?_)
  refine W.seq ?_
  refine W.region env [] [] rfl rfl rfl .nil .nil (At.keep (ts := [1, 2, 3]) (ids := [3]) rfl rfl ?_)
  refine At.thenC ?_
  refine W.seq ?_
  obtain ⟨y1, hy2, H⟩ := of_bindO H
  refine W.region env [] [⟨.int .i64 (y1), [], 0⟩] rfl rfl rfl .nil (.free (c_gasolierref03_begun p0 p2 hy2) .nil) (At.keep (ts := [1, 7]) (ids := []) rfl rfl ?_)
  refine At.thenC ?_
  refine W.seq ?_
  refine W.seq ?_
  obtain ⟨hc3, H⟩ := of_must H
  refine W.region env [] [] rfl rfl rfl (.cons hc3 (.cons (fun h => h) (.cons (fun h => h) (.cons (fun h => h) (.cons (fun h => by rw [h]; rfl) .nil))))) .nil (At.keep (ts := [1, 7, 18]) (ids := []) rfl rfl ?_)
  refine At.thenC ?_
  refine W.cond rfl (fun hb4 => ?_) (fun hb4 => ?_)
  · have H := of_true H hb4
    refine W.seq ?_
    refine W.region env [] [] rfl rfl rfl .nil .nil (At.keep (ts := [6]) (ids := []) rfl rfl ?_)
    refine At.thenC ?_
    refine W.ret ?_
    refine At.rthen ?_
    cases H
    exact At.ret env.ty rfl rfl (fun q hq => by cases hq) (.refl _) hval
  · have H := of_false H hb4
    refine W.skip ?_
    refine At.thenC ?_
    refine W.seq ?_
    obtain ⟨hc5, H⟩ := of_must H
    refine W.region env [] [] rfl rfl rfl (.cons hc5 .nil) .nil (At.keep (ts := [6]) (ids := []) rfl rfl ?_)
    refine At.thenC ?_
    refine W.ret ?_
    cases H
    exact At.ret env.ty rfl rfl (fun q hq => by cases hq) (.refl _) hval

theorem c_gasolierref03_CheckMarks (fuel : Nat) (p0 : Chart) (p1 : Trip) (p2 : (List Int)) {r : Int} (H : gasolierref03_CheckMarks fuel p0 p1 p2 = some r) : Ctr Try.prog 48 [.agg [.int .i64 (p0.Places), roL 7 enc_Way p0.Ways], .agg [.int .i64 (p1.From), .int .i64 (p1.To), .int .i64 (p1.At)], roL 1 enc_Int p2] (.int .i64 (r)) := by
  unfold gasolierref03_CheckMarks at H
  refine Ctr.of_body (N := 94) Try.func48 (by kernel_rfl) (c := _) rfl Try.ntmps48 rfl (fun w0 h0 hval => ?_)
  refine W.seq ?_
  refine W.region env [] [] rfl rfl rfl .nil .nil (At.keep (ts := [2, 3, 4]) (ids := [3, 4]) rfl rfl ?_)
  refine At.thenC ?_
  refine W.seq ?_
  obtain ⟨y1, hy2, H⟩ := of_bindO H
  refine W.region env [] [⟨.int .i64 (y1), [], 0⟩] rfl rfl rfl .nil (.free (c_gasolierref03_asked fuel p0 p1.From p1.At hy2) .nil) (At.keep (ts := [2, 3, 4, 7]) (ids := [3, 4]) rfl rfl ?_)
  refine At.thenC ?_
  refine W.seq ?_
  refine W.seq ?_
  refine W.region env [] [] rfl rfl rfl .nil .nil (At.keep (ts := [2, 3, 4, 7, 19]) (ids := [3, 4]) rfl rfl ?_)
  refine At.thenC ?_
  refine W.cond rfl (fun hb3 => ?_) (fun hb3 => ?_)
  · have H := of_true H hb3
    refine W.seq ?_
    refine W.region env [] [] rfl rfl rfl .nil .nil (At.keep (ts := [6]) (ids := []) rfl rfl ?_)
    refine At.thenC ?_
    refine W.ret ?_
    refine At.rthen ?_
    cases H
    exact At.ret env.ty rfl rfl (fun q hq => by cases hq) (.refl _) hval
  · have H := of_false H hb3
    refine W.skip ?_
    refine At.thenC ?_
    refine W.seq ?_
    refine W.seq ?_
    refine W.region env [] [] rfl rfl rfl .nil .nil (At.keep (ts := [2, 3, 4, 25]) (ids := [3, 4]) rfl rfl ?_)
    refine At.thenC ?_
    refine W.cond rfl (fun hb4 => ?_) (fun hb4 => ?_)
    · have H := of_true H hb4
      refine W.seq ?_
      refine W.region env [] [] rfl rfl rfl .nil .nil (At.keep (ts := [6]) (ids := []) rfl rfl ?_)
      refine At.thenC ?_
      refine W.ret ?_
      refine At.rthen ?_
      cases H
      exact At.ret env.ty rfl rfl (fun q hq => by cases hq) (.refl _) hval
    · have H := of_false H hb4
      refine W.skip ?_
      refine At.thenC ?_
      refine W.seq ?_
      refine W.seq ?_
      refine W.region env [] [] rfl rfl rfl .nil .nil (At.keep (ts := [2, 3, 4, 8]) (ids := [3, 4]) rfl rfl ?_)
      refine At.thenC ?_
      refine W.block ?_
      refine At.keep (ts := [2, 3, 4, 8]) (ids := [3, 4]) rfl rfl ?_
      refine W.loopGo H (fun (s5 : Int) => [(2, roL 1 enc_Int p2), (3, .lp 3 0), (4, .lp 4 0), (8, .int .i64 (s5))]) (fun (s5 : Int) => [(3, .cells [.int .i64 (p0.Places), roL 7 enc_Way p0.Ways]), (4, .cells [.int .i64 (p1.From), .int .i64 (p1.To), .int .i64 (p1.At)])]) (.cons (.of_eq (by first | rfl | (simp; done) | (simp; omega))) (.cons (.of_eq (by first | rfl | (simp; done) | (simp; omega))) (.cons (.of_eq (by first | rfl | (simp; done) | (simp; omega))) (.cons (.of_eq (by first | rfl | (simp; done) | (simp; omega))) .nil)))) (.cons (.of_eq (by first | rfl | (simp; done) | (simp; omega))) (.cons (.of_eq (by first | rfl | (simp; done) | (simp; omega))) .nil)) (fun k5 s5 H K0 hK5 => ?_)
      refine W.seq ?_
      refine W.seq ?_
      refine W.region env [] [] rfl rfl rfl .nil .nil (At.keep (ts := [2, 3, 4, 8, 29]) (ids := [3, 4]) rfl rfl ?_)
      refine At.thenC ?_
      refine W.cond rfl (fun hb6 => ?_) (fun hb6 => ?_)
      · have H := of_true H hb6
        refine W.skip ?_
        refine At.thenC ?_
        refine W.seq ?_
        refine W.block ?_
        refine W.seq ?_
        obtain ⟨hc7, H⟩ := of_must H
        obtain ⟨hc8, H⟩ := of_must H
        refine W.region env [] [⟨.bool ((gasolierref03_isMinute (p2.getD (s5).toNat default))), [], 0⟩] rfl rfl rfl (.cons hc7 (.cons hc8 (.cons (fun h => h) (.cons (fun h => h) (.cons (fun h => h) (.cons (fun h => h) (.cons (fun h => h) (.cons (fun h => h) .nil)))))))) (.on (fun hW => c_gasolierref03_isMinute (p2.getD (s5).toNat default)) .nil) (At.keep (ts := [2, 3, 4, 8, 44]) (ids := [3, 4]) rfl rfl ?_)
        refine At.thenC ?_
        refine W.cond rfl (fun hb9 => ?_) (fun hb9 => ?_)
        · have H := of_true H hb9
          refine W.seq ?_
          refine W.region env [] [] rfl rfl rfl .nil .nil (At.keep (ts := [6]) (ids := []) rfl rfl ?_)
          refine At.thenC ?_
          refine W.ret ?_
          refine At.rinb ?_
          refine At.rthen ?_
          refine At.rthen ?_
          refine At.rinb ?_
          refine At.rthen ?_
          cases H
          exact At.ret env.ty rfl rfl (fun q hq => by cases hq) (.refl _) hval
        · have H := of_false H hb9
          refine W.skip ?_
          refine At.inb ?_
          refine At.thenC ?_
          obtain ⟨hc10, H⟩ := of_must H
          refine W.region env [] [] rfl rfl rfl (.cons hc10 .nil) .nil (At.keep (ts := [2, 3, 4, 8]) (ids := [3, 4]) rfl rfl ?_)
          refine At.thenK (At.keep (ts := [2, 3, 4, 8]) (ids := [3, 4]) rfl rfl ?_)
          exact At.conv (.cons (.of_eq (by first | rfl | (simp; done) | (simp; omega))) (.cons (.of_eq (by first | rfl | (simp; done) | (simp; omega))) (.cons (.of_eq (by first | rfl | (simp; done) | (simp; omega))) (.cons (.of_eq (by first | rfl | (simp; done) | (simp; omega))) .nil)))) (.cons (.of_eq (by first | rfl | (simp; done) | (simp; omega))) (.cons (.of_eq (by first | rfl | (simp; done) | (simp; omega))) .nil)) (hK5 (s5 + 1) H)
      · have H := of_false H hb6
        refine W.exit ?_
        refine At.xthen ?_
        refine At.xthen ?_
        refine At.xhere ?_
        refine At.thenC ?_
        refine W.seq ?_
        refine W.seq ?_
        obtain ⟨hc11, H⟩ := of_must H
        refine W.region env [] [⟨.bool ((gasolierref03_In (p2.getD (p1.From).toNat default) 0 p1.At)), [], 0⟩] rfl rfl rfl (.cons hc11 .nil) (.free (c_gasolierref03_In (p2.getD (p1.From).toNat default) 0 p1.At) .nil) (At.keep (ts := [2, 3, 53]) (ids := [3]) rfl rfl ?_)
        refine At.thenC ?_
        refine W.cond rfl (fun hb12 => ?_) (fun hb12 => ?_)
        · have H := of_true H hb12
          refine W.seq ?_
          refine W.region env [] [] rfl rfl rfl .nil .nil (At.keep (ts := [6]) (ids := []) rfl rfl ?_)
          refine At.thenC ?_
          refine W.ret ?_
          refine At.rthen ?_
          cases H
          exact At.ret env.ty rfl rfl (fun q hq => by cases hq) (.refl _) hval
        · have H := of_false H hb12
          refine W.skip ?_
          refine At.thenC ?_
          refine W.seq ?_
          refine W.seq ?_
          refine W.region env [] [] rfl rfl rfl .nil .nil (At.keep (ts := [2, 3, 9]) (ids := [3]) rfl rfl ?_)
          refine At.thenC ?_
          refine W.block ?_
          refine At.keep (ts := [2, 3, 9]) (ids := [3]) rfl rfl ?_
          refine W.loopGo H (fun (s13 : Int) => [(2, roL 1 enc_Int p2), (3, .lp 3 0), (9, .int .i64 (s13))]) (fun (s13 : Int) => [(3, .cells [.int .i64 (p0.Places), roL 7 enc_Way p0.Ways])]) (.cons (.of_eq (by first | rfl | (simp; done) | (simp; omega))) (.cons (.of_eq (by first | rfl | (simp; done) | (simp; omega))) (.cons (.of_eq (by first | rfl | (simp; done) | (simp; omega))) .nil))) (.cons (.of_eq (by first | rfl | (simp; done) | (simp; omega))) .nil) (fun k13 s13 H K0 hK13 => ?_)
          refine W.seq ?_
          refine W.seq ?_
          refine W.region env [] [] rfl rfl rfl .nil .nil (At.keep (ts := [2, 3, 9, 58]) (ids := [3]) rfl rfl ?_)
          refine At.thenC ?_
          refine W.cond rfl (fun hb14 => ?_) (fun hb14 => ?_)
          · have H := of_true H hb14
            refine W.skip ?_
            refine At.thenC ?_
            refine W.seq ?_
            refine W.joinC H (fun (s15 : Unit) => [(2, roL 1 enc_Int p2), (3, .lp 3 0), (9, .int .i64 (s13))]) (fun (s15 : Unit) => [(3, .cells [.int .i64 (p0.Places), roL 7 enc_Way p0.Ways])]) (fun s15 H => ?_) (fun k15 H hK15 => ?_)
            · obtain ⟨hc16, H⟩ := of_must H
              refine W.region env [] [] rfl rfl rfl (.cons hc16 .nil) .nil (At.keep (ts := [2, 3, 9]) (ids := [3]) rfl rfl ?_)
              refine At.thenK (At.keep (ts := [2, 3, 9]) (ids := [3]) rfl rfl ?_)
              exact At.conv (.cons (.of_eq (by first | rfl | (simp; done) | (simp; omega))) (.cons (.of_eq (by first | rfl | (simp; done) | (simp; omega))) (.cons (.of_eq (by first | rfl | (simp; done) | (simp; omega))) .nil))) (.cons (.of_eq (by first | rfl | (simp; done) | (simp; omega))) .nil) (hK13 (s13 + 1) H)
            · refine W.block ?_
              refine W.seq ?_
              obtain ⟨hc17, H⟩ := of_must H
              refine W.region env [] [] rfl rfl rfl (.cons hc17 .nil) .nil (At.keep (ts := [2, 3, 9, 10]) (ids := [3, 10]) rfl rfl ?_)
              refine At.thenC ?_
              refine W.seq ?_
              refine W.seq ?_
              obtain ⟨hc18, H⟩ := of_must H
              refine W.region env [] [] rfl rfl rfl (.cons hc18 .nil) .nil (At.keep (ts := [2, 3, 9, 10, 71]) (ids := [3, 10]) rfl rfl ?_)
              refine At.thenC ?_
              refine W.cond rfl (fun hb19 => ?_) (fun hb19 => ?_)
              · have H := of_true H hb19
                refine W.exit ?_
                refine At.xthen ?_
                refine At.xhere ?_
                refine At.thenK (At.keep (ts := [2, 3, 9]) (ids := [3]) rfl rfl ?_)
                exact At.conv (.cons (.of_eq (by first | rfl | (simp; done) | (simp; omega))) (.cons (.of_eq (by first | rfl | (simp; done) | (simp; omega))) (.cons (.of_eq (by first | rfl | (simp; done) | (simp; omega))) .nil))) (.cons (.of_eq (by first | rfl | (simp; done) | (simp; omega))) .nil) (hK15 () H)
              · have H := of_false H hb19
                refine W.skip ?_
                refine At.thenC ?_
                refine W.seq ?_
                obtain ⟨hc20, H⟩ := of_must H
                obtain ⟨y21, hy22, H⟩ := of_bindO H
                refine W.region env [] [⟨.int .i64 (y21), [], 0⟩] rfl rfl rfl (.cons hc20 .nil) (.free (c_gasolierref03_Ends (p0.Ways.getD (s13).toNat default) ((p0.Ways.getD (s13).toNat default).Takes.Hi) (p2.getD ((p0.Ways.getD (s13).toNat default).From).toNat default) hy22) .nil) (At.keep (ts := [2, 3, 9, 10, 11]) (ids := [3, 10]) rfl rfl ?_)
                refine At.thenC ?_
                refine W.seq ?_
                obtain ⟨hc23, H⟩ := of_must H
                refine W.region env [] [⟨.bool ((gasolierref03_In (p2.getD ((p0.Ways.getD (s13).toNat default).To).toNat default) 0 y21)), [], 0⟩] rfl rfl rfl (.cons (fun h => h) (.cons hc23 (.cons (fun h => h) (.cons (fun h => h) (.cons (fun h => h) (.cons (fun h => h) (.cons (fun h => h) (.cons (fun h => h) (.cons (fun h => h) .nil))))))))) (.on (fun hW => c_gasolierref03_In (p2.getD ((p0.Ways.getD (s13).toNat default).To).toNat default) 0 y21) .nil) (At.keep (ts := [2, 3, 9, 93]) (ids := [3]) rfl rfl ?_)
                refine At.thenC ?_
                refine W.cond rfl (fun hb24 => ?_) (fun hb24 => ?_)
                · have H := of_true H hb24
                  refine W.seq ?_
                  refine W.region env [] [] rfl rfl rfl .nil .nil (At.keep (ts := [6]) (ids := []) rfl rfl ?_)
                  refine At.thenC ?_
                  refine W.ret ?_
                  refine At.rinb ?_
                  refine At.rthen ?_
                  refine At.rthen ?_
                  refine At.rinb ?_
                  refine At.rthen ?_
                  cases H
                  exact At.ret env.ty rfl rfl (fun q hq => by cases hq) (.refl _) hval
                · have H := of_false H hb24
                  refine W.skip ?_
                  refine At.inb ?_
                  refine At.thenK (At.keep (ts := [2, 3, 9]) (ids := [3]) rfl rfl ?_)
                  exact At.conv (.cons (.of_eq (by first | rfl | (simp; done) | (simp; omega))) (.cons (.of_eq (by first | rfl | (simp; done) | (simp; omega))) (.cons (.of_eq (by first | rfl | (simp; done) | (simp; omega))) .nil))) (.cons (.of_eq (by first | rfl | (simp; done) | (simp; omega))) .nil) (hK15 () H)
          · have H := of_false H hb14
            refine W.exit ?_
            refine At.xthen ?_
            refine At.xthen ?_
            refine At.xhere ?_
            refine At.thenC ?_
            refine W.seq ?_
            refine W.region env [] [] rfl rfl rfl .nil .nil (At.keep (ts := [6]) (ids := []) rfl rfl ?_)
            refine At.thenC ?_
            refine W.ret ?_
            cases H
            exact At.ret env.ty rfl rfl (fun q hq => by cases hq) (.refl _) hval

theorem c_gasolierlaw03_RoundMarks (fuel : Nat) (p0 : Chart) (p1 : Trip) (p2 : (List Int)) {r : Bool} (H : gasolierlaw03_RoundMarks fuel p0 p1 p2 = some r) : Ctr Try.prog 10 [.agg [.int .i64 (p0.Places), roL 7 enc_Way p0.Ways], .agg [.int .i64 (p1.From), .int .i64 (p1.To), .int .i64 (p1.At)], roL 1 enc_Int p2] (.bool (r)) := by
  unfold gasolierlaw03_RoundMarks at H
  refine Ctr.of_body (N := 50) Try.func10 (by kernel_rfl) (c := _) rfl Try.ntmps10 rfl (fun w0 h0 hval => ?_)
  refine W.seq ?_
  refine W.region env [] [] rfl rfl rfl .nil .nil (At.keep (ts := [2, 3, 4]) (ids := [3, 4]) rfl rfl ?_)
  refine At.thenC ?_
  refine W.seq ?_
  obtain ⟨y1, hy2, H⟩ := of_bindO H
  refine W.region env [] [⟨.bool (y1), [], 0⟩] rfl rfl rfl .nil (.free (c_gasolierlaw03_sane fuel hy2) .nil) (At.keep (ts := [2, 3, 4, 7]) (ids := [3, 4]) rfl rfl ?_)
  refine At.thenC ?_
  refine W.seq ?_
  obtain ⟨y3, hy4, H⟩ := of_bindO H
  refine W.region env [] [⟨.tup [roL 1 enc_ListRange y3.1, .int .i64 (y3.2)], [], 0⟩] rfl rfl rfl .nil (.free (c_round_Matrix fuel p0 hy4) .nil) (At.keep (ts := [2, 3, 4, 7, 8, 9]) (ids := [3, 4]) rfl rfl ?_)
  refine At.thenC ?_
  refine W.seq ?_
  obtain ⟨y5, hy6, H⟩ := of_bindO H
  refine W.region env [] [⟨.tup [roL 1 enc_ListRange y5.1, .int .i64 (y5.2)], [], 0⟩] rfl rfl rfl .nil (.free (c_gasolierref03_Matrix fuel p0 hy6) .nil) (At.keep (ts := [2, 3, 4, 7, 8, 9, 10, 11]) (ids := [3, 4]) rfl rfl ?_)
  refine At.thenC ?_
  refine W.seq ?_
  obtain ⟨y7, hy8, H⟩ := of_bindO H
  refine W.region env [] [⟨.bool (y7), [], 0⟩] rfl rfl rfl .nil (.free (c_gasolierref03_SameMatrix fuel y3.1 y5.1 hy8) .nil) (At.keep (ts := [2, 3, 4, 7, 9, 11, 12]) (ids := [3, 4]) rfl rfl ?_)
  refine At.thenC ?_
  refine W.seq ?_
  obtain ⟨y9, hy10, H⟩ := of_bindO H
  obtain ⟨y11, hy12, H⟩ := of_bindO H
  refine W.region env [] [⟨.int .i64 (y9), [], 0⟩, ⟨.int .i64 (y11), [], 0⟩] rfl rfl rfl (.cons (fun h => h) (.cons (fun h => h) (.cons (fun h => h) (.cons (fun h => h) (.cons (fun h => h) (.cons (fun h => h) (.cons (fun h => h) (.cons (fun h => h) (.cons (fun h => h) (.cons (fun h => h) (.cons (fun h => h) (.cons (fun h => h) (.cons (fun h => h) (.cons (fun h => h) (.cons (fun h => h) (.cons (fun h => h) .nil)))))))))))))))) (.on (fun hW => c_round_CheckMarks p0 p1.From p1.At p2 (of_true hy10 hW)) (.on (fun hW => c_gasolierref03_CheckMarks fuel p0 p1 p2 (of_true hy12 hW)) .nil)) (At.keep (ts := [6]) (ids := []) rfl rfl ?_)
  refine At.thenC ?_
  refine W.ret ?_
  cases H
  exact At.ret env.ty rfl rfl (fun q hq => by cases hq) (.refl _) hval

end Go.Sp
