/- Printed by gen.py: contracts, part 2. -/
import Derived.Test.YtjeolkdhicmhgaaCtr1
set_option linter.all false
set_option maxRecDepth 100000
namespace Go.Sp
open Go Go.Av Go.Proofs

theorem c_gasolierref03_Check (fuel : Nat) (p0 : Chart) {r : Int} (H : gasolierref03_Check fuel p0 = some r) : Ctr Try.prog 65 [.agg [.int .i64 (p0.Places), roL 7 enc_Way p0.Ways]] (.int .i64 (r)) := by
  unfold gasolierref03_Check at H
  refine Ctr.of_body (N := 29) Try.func65 (by kernel_rfl) (c := _) rfl Try.ntmps65 rfl (fun w0 h0 hval => ?_)
  refine W.seq ?_
  refine W.region env [] [] rfl rfl rfl .nil .nil (At.keep (ts := [1]) (ids := [1]) rfl rfl ?_)
  refine At.thenC ?_
  refine W.seq ?_
  refine W.seq ?_
  refine W.region env [] [⟨.bool ((gasolierref03_In p0.Places 1 12)), [], 0⟩] rfl rfl rfl (.cons (fun h => h) (.cons (fun h => h) (.cons (fun h => h) (.cons (fun h => by rw [h]; rfl) .nil)))) (.free (c_gasolierref03_In p0.Places 1 12) .nil) (At.keep (ts := [1, 13]) (ids := [1]) rfl rfl ?_)
  refine At.thenC ?_
  refine W.cond rfl (fun hb1 => ?_) (fun hb1 => ?_)
  · have H := of_true H hb1
    refine W.seq ?_
    refine W.region env [] [] rfl rfl rfl .nil .nil (At.keep (ts := [2]) (ids := []) rfl rfl ?_)
    refine At.thenC ?_
    refine W.ret ?_
    refine At.rthen ?_
    cases H
    exact At.ret env.ty rfl rfl (fun q hq => by cases hq) (.refl _) hval
  · have H := of_false H hb1
    refine W.skip ?_
    refine At.thenC ?_
    refine W.seq ?_
    refine W.seq ?_
    refine W.region env [] [] rfl rfl rfl .nil .nil (At.keep (ts := [1, 3]) (ids := [1]) rfl rfl ?_)
    refine At.thenC ?_
    refine W.block ?_
    refine At.keep (ts := [1, 3]) (ids := [1]) rfl rfl ?_
    refine W.loopGo H (fun (s2 : Int) => [(1, .lp 1 0), (3, .int .i64 (s2))]) (fun (s2 : Int) => [(1, .cells [.int .i64 (p0.Places), roL 7 enc_Way p0.Ways])]) (.cons (.of_eq (by first | rfl | (simp; done) | (simp; omega))) (.cons (.of_eq (by first | rfl | (simp; done) | (simp; omega))) .nil)) (.cons (.of_eq (by first | rfl | (simp; done) | (simp; omega))) .nil) (fun k2 s2 H K0 hK2 => ?_)
    refine W.seq ?_
    refine W.seq ?_
    refine W.region env [] [] rfl rfl rfl .nil .nil (At.keep (ts := [1, 3, 18]) (ids := [1]) rfl rfl ?_)
    refine At.thenC ?_
    refine W.cond rfl (fun hb3 => ?_) (fun hb3 => ?_)
    · have H := of_true H hb3
      refine W.skip ?_
      refine At.thenC ?_
      refine W.seq ?_
      refine W.block ?_
      refine W.seq ?_
      obtain ⟨hc4, H⟩ := of_must H
      refine W.region env [] [⟨.bool ((gasolierref03_fits p0 (p0.Ways.getD (s2).toNat default))), [], 0⟩] rfl rfl rfl (.cons hc4 .nil) (.free (c_gasolierref03_fits p0 (p0.Ways.getD (s2).toNat default)) .nil) (At.keep (ts := [1, 3, 28]) (ids := [1]) rfl rfl ?_)
      refine At.thenC ?_
      refine W.cond rfl (fun hb5 => ?_) (fun hb5 => ?_)
      · have H := of_true H hb5
        refine W.seq ?_
        refine W.region env [] [] rfl rfl rfl .nil .nil (At.keep (ts := [2]) (ids := []) rfl rfl ?_)
        refine At.thenC ?_
        refine W.ret ?_
        refine At.rinb ?_
        refine At.rthen ?_
        refine At.rthen ?_
        refine At.rinb ?_
        refine At.rthen ?_
        cases H
        exact At.ret env.ty rfl rfl (fun q hq => by cases hq) (.refl _) hval
      · have H := of_false H hb5
        refine W.skip ?_
        refine At.inb ?_
        refine At.thenC ?_
        obtain ⟨hc6, H⟩ := of_must H
        refine W.region env [] [] rfl rfl rfl (.cons hc6 .nil) .nil (At.keep (ts := [1, 3]) (ids := [1]) rfl rfl ?_)
        refine At.thenK (At.keep (ts := [1, 3]) (ids := [1]) rfl rfl ?_)
        exact At.conv (.cons (.of_eq (by first | rfl | (simp; done) | (simp; omega))) (.cons (.of_eq (by first | rfl | (simp; done) | (simp; omega))) .nil)) (.cons (.of_eq (by first | rfl | (simp; done) | (simp; omega))) .nil) (hK2 (s2 + 1) H)
    · have H := of_false H hb3
      refine W.exit ?_
      refine At.xthen ?_
      refine At.xthen ?_
      refine At.xhere ?_
      refine At.thenC ?_
      refine W.seq ?_
      refine W.region env [] [] rfl rfl rfl .nil .nil (At.keep (ts := [2]) (ids := []) rfl rfl ?_)
      refine At.thenC ?_
      refine W.ret ?_
      cases H
      exact At.ret env.ty rfl rfl (fun q hq => by cases hq) (.refl _) hval

theorem c_gasolierref03_With (fuel : Nat) (p0 : Chart) (p1 : Way) {r : (Chart × Int)} (H : gasolierref03_With fuel p0 p1 = some r) : Ctr Try.prog 57 [.agg [.int .i64 (p0.Places), roL 7 enc_Way p0.Ways], .agg [.int .i64 (p1.From), .int .i64 (p1.To), .int .i64 (p1.Takes.Lo), .int .i64 (p1.Takes.Hi), .int .i64 (p1.Open.Lo), .int .i64 (p1.Open.Hi), .int .i64 (p1.Every)]] (.tup [.agg [.int .i64 (r.1.Places), roL 7 enc_Way r.1.Ways], .int .i64 (r.2)]) := by
  unfold gasolierref03_With at H
  refine Ctr.of_body (N := 30) Try.func57 (by kernel_rfl) (c := _) rfl Try.ntmps57 rfl (fun w0 h0 hval => ?_)
  refine W.seq ?_
  refine W.region env [] [] rfl rfl rfl .nil .nil (At.keep (ts := [2, 3, 4]) (ids := [2, 3, 4]) rfl rfl ?_)
  refine At.thenC ?_
  refine W.seq ?_
  refine W.seq ?_
  obtain ⟨y1, hy2, H⟩ := of_bindO H
  refine W.region env [] [⟨.int .i64 (y1), [], 0⟩] rfl rfl rfl .nil (.free (c_gasolierref03_Check fuel p0 hy2) .nil) (At.keep (ts := [2, 3, 4, 8]) (ids := [2, 3, 4]) rfl rfl ?_)
  refine At.thenC ?_
  refine W.cond rfl (fun hb3 => ?_) (fun hb3 => ?_)
  · have H := of_true H hb3
    refine W.seq ?_
    refine W.region env [] [] rfl rfl rfl .nil .nil (At.keep (ts := [4, 5]) (ids := [4]) rfl rfl ?_)
    refine At.thenC ?_
    refine W.ret ?_
    refine At.rthen ?_
    cases H
    exact At.ret env.ty rfl rfl (fun q hq => by cases hq) (Sim.tupL (.cons (Sim.aggL (.cons (.refl _) (.cons (Sim.nil _ _) .nil))) (.cons (.refl _) .nil))) hval
  · have H := of_false H hb3
    refine W.skip ?_
    refine At.thenC ?_
    refine W.seq ?_
    refine W.seq ?_
    refine W.region env [] [⟨.bool ((gasolierref03_fits p0 p1)), [], 0⟩] rfl rfl rfl .nil (.free (c_gasolierref03_fits p0 p1) .nil) (At.keep (ts := [2, 3, 4, 13]) (ids := [2, 3, 4]) rfl rfl ?_)
    refine At.thenC ?_
    refine W.cond rfl (fun hb4 => ?_) (fun hb4 => ?_)
    · have H := of_true H hb4
      refine W.seq ?_
      refine W.region env [] [] rfl rfl rfl .nil .nil (At.keep (ts := [4, 5]) (ids := [4]) rfl rfl ?_)
      refine At.thenC ?_
      refine W.ret ?_
      refine At.rthen ?_
      cases H
      exact At.ret env.ty rfl rfl (fun q hq => by cases hq) (Sim.tupL (.cons (Sim.aggL (.cons (.refl _) (.cons (Sim.nil _ _) .nil))) (.cons (.refl _) .nil))) hval
    · have H := of_false H hb4
      refine W.skip ?_
      refine At.thenC ?_
      refine W.seq ?_
      refine W.seq ?_
      refine W.region env [] [] rfl rfl rfl .nil .nil (At.keep (ts := [2, 3, 4, 18]) (ids := [2, 3, 4]) rfl rfl ?_)
      refine At.thenC ?_
      refine W.cond rfl (fun hb5 => ?_) (fun hb5 => ?_)
      · have H := of_true H hb5
        refine W.seq ?_
        refine W.region env [] [] rfl rfl rfl .nil .nil (At.keep (ts := [4, 5]) (ids := [4]) rfl rfl ?_)
        refine At.thenC ?_
        refine W.ret ?_
        refine At.rthen ?_
        cases H
        exact At.ret env.ty rfl rfl (fun q hq => by cases hq) (Sim.tupL (.cons (Sim.aggL (.cons (.refl _) (.cons (Sim.nil _ _) .nil))) (.cons (.refl _) .nil))) hval
      · have H := of_false H hb5
        refine W.skip ?_
        refine At.thenC ?_
        refine W.seq ?_
        obtain ⟨hc6, H⟩ := of_must H
        obtain ⟨hc7, H⟩ := of_must H
        refine W.region env [22] [] rfl rfl rfl (.cons (⟨by first | rfl | (simp; done) | (simp; omega), by have := hc6; first | simpa using this | (unfold room at this ⊢; simp at this ⊢; omega)⟩) (.cons (⟨by first | rfl | (simp; done) | (simp; omega), by have := hc7; first | simpa using this | (unfold room at this ⊢; simp at this ⊢; omega)⟩) .nil)) .nil (At.keep (ts := [4, 5]) (ids := [4, 22]) rfl rfl ?_)
        refine At.convM (.cons (.refl _) (.cons (y := bufL 53 7 enc_Way ((([] : List Way) ++ p0.Ways) ++ ([p1] : List Way))) (BSim.seg (Seg.push (Seg.push (Seg.lit (f := enc_Way) (sz := 7) ([] : List Way) rfl rfl (fun _ => rfl)) (Seg.refl enc_Way p0.Ways)) (Seg.lit (f := enc_Way) (sz := 7) ([p1] : List Way) rfl rfl (fun _ => rfl)))) .nil)) ?_
        refine At.thenC ?_
        refine W.ret ?_
        cases H
        exact At.ret env.ty rfl rfl (fun q hq => by cases hq; exact (by first | rfl | (simp; done) | (simp; omega))) (.refl _) hval

theorem c_round_Without (p0 : Chart) (p1 : Int) {r : (Chart × Int)} (H : round_Without p0 p1 = some r) : Ctr Try.prog 53 [.agg [.int .i64 (p0.Places), roL 7 enc_Way p0.Ways], .int .i64 (p1)] (.tup [.agg [.int .i64 (r.1.Places), roL 7 enc_Way r.1.Ways], .int .i64 (r.2)]) := by
  unfold round_Without at H
  refine Ctr.of_body (N := 17) Try.func53 (by kernel_rfl) (c := _) rfl Try.ntmps53 rfl (fun w0 h0 hval => ?_)
  refine W.seq ?_
  refine W.region env [] [] rfl rfl rfl .nil .nil (At.keep (ts := [1, 2, 4]) (ids := [2, 4]) rfl rfl ?_)
  refine At.thenC ?_
  refine W.seq ?_
  refine W.seq ?_
  obtain ⟨y1, hy2, H⟩ := of_bindO H
  refine W.region env [] [⟨.int .i64 (y1), [], 0⟩] rfl rfl rfl .nil (.free (c_round_wayOf p0 p1 hy2) .nil) (At.keep (ts := [1, 2, 4, 6]) (ids := [2, 4]) rfl rfl ?_)
  refine At.thenC ?_
  refine W.seq ?_
  refine W.region env [] [] rfl rfl rfl .nil .nil (At.keep (ts := [1, 2, 4, 6, 11]) (ids := [2, 4]) rfl rfl ?_)
  refine At.thenC ?_
  refine W.cond rfl (fun hb3 => ?_) (fun hb3 => ?_)
  · have H := of_true H hb3
    refine W.seq ?_
    refine W.region env [] [] rfl rfl rfl .nil .nil (At.keep (ts := [4, 5]) (ids := [4]) rfl rfl ?_)
    refine At.thenC ?_
    refine W.ret ?_
    refine At.rthen ?_
    cases H
    exact At.ret env.ty rfl rfl (fun q hq => by cases hq) (Sim.tupL (.cons (Sim.aggL (.cons (.refl _) (.cons (Sim.nil _ _) .nil))) (.cons (.refl _) .nil))) hval
  · have H := of_false H hb3
    refine W.skip ?_
    refine At.thenC ?_
    refine W.seq ?_
    obtain ⟨y4, hy5, H⟩ := of_bindO H
    refine W.region env [] [⟨.agg [.int .i64 (y4.Places), roL 7 enc_Way y4.Ways], [], 0⟩] rfl rfl rfl .nil (.free (c_round_without p0 p1 hy5) .nil) (At.keep (ts := [4, 5]) (ids := [4]) rfl rfl ?_)
    refine At.thenC ?_
    refine W.ret ?_
    cases H
    exact At.ret env.ty rfl rfl (fun q hq => by cases hq) (.refl _) hval

theorem c_gasolierref03_without (p0 : Chart) (p1 : Int) {r : Chart} (H : gasolierref03_without p0 p1 = some r) : Ctr Try.prog 104 [.agg [.int .i64 (p0.Places), roL 7 enc_Way p0.Ways], .int .i64 (p1)] (.agg [.int .i64 (r.Places), roL 7 enc_Way r.Ways]) := by
  unfold gasolierref03_without at H
  refine Ctr.of_body (N := 20) Try.func104 (by kernel_rfl) (c := _) rfl Try.ntmps104 rfl (fun w0 h0 hval => ?_)
  refine W.seq ?_
  refine W.region env [] [] rfl rfl rfl .nil .nil (At.keep (ts := [1, 2, 4]) (ids := [2, 4]) rfl rfl ?_)
  refine At.thenC ?_
  refine W.seq ?_
  obtain ⟨hc1, H⟩ := of_must H
  obtain ⟨hc2, H⟩ := of_must H
  obtain ⟨hc3, H⟩ := of_must H
  obtain ⟨hc4, H⟩ := of_must H
  obtain ⟨hc5, H⟩ := of_must H
  refine W.region env [7] [] rfl rfl rfl (.cons hc1 (.cons (⟨by first | rfl | (simp; done) | (simp; omega), by have := hc2; first | simpa using this | (unfold room at this ⊢; simp at this ⊢; omega)⟩) (.cons hc3 (.cons hc4 (.cons (⟨by first | rfl | (simp; done) | (simp; omega), by have := hc5; first | simpa using this | (unfold room at this ⊢; simp at this ⊢; omega)⟩) .nil))))) .nil (At.keep (ts := [4]) (ids := [4, 7]) rfl rfl ?_)
  refine At.convM (.cons (.refl _) (.cons (y := bufL 53 7 enc_Way ((([] : List Way) ++ (p0.Ways.take (p1).toNat)) ++ (p0.Ways.drop ((p1 + 1)).toNat))) (BSim.seg (Seg.push (Seg.push (Seg.lit (f := enc_Way) (sz := 7) ([] : List Way) rfl rfl (fun _ => rfl)) (Seg.take enc_Way p0.Ways ((p1).toNat) (by omega))) (Seg.drop enc_Way p0.Ways (((p1 + 1)).toNat)))) .nil)) ?_
  refine At.thenC ?_
  refine W.ret ?_
  cases H
  exact At.ret env.ty rfl rfl (fun q hq => by cases hq; exact (by first | rfl | (simp; done) | (simp; omega))) (.refl _) hval

theorem c_gasolierref03_Without (fuel : Nat) (p0 : Chart) (p1 : Int) {r : (Chart × Int)} (H : gasolierref03_Without fuel p0 p1 = some r) : Ctr Try.prog 58 [.agg [.int .i64 (p0.Places), roL 7 enc_Way p0.Ways], .int .i64 (p1)] (.tup [.agg [.int .i64 (r.1.Places), roL 7 enc_Way r.1.Ways], .int .i64 (r.2)]) := by
  unfold gasolierref03_Without at H
  refine Ctr.of_body (N := 21) Try.func58 (by kernel_rfl) (c := _) rfl Try.ntmps58 rfl (fun w0 h0 hval => ?_)
  refine W.seq ?_
  refine W.region env [] [] rfl rfl rfl .nil .nil (At.keep (ts := [1, 2, 4]) (ids := [2, 4]) rfl rfl ?_)
  refine At.thenC ?_
  refine W.seq ?_
  refine W.seq ?_
  obtain ⟨y1, hy2, H⟩ := of_bindO H
  refine W.region env [] [⟨.int .i64 (y1), [], 0⟩] rfl rfl rfl .nil (.free (c_gasolierref03_Check fuel p0 hy2) .nil) (At.keep (ts := [1, 2, 4, 8]) (ids := [2, 4]) rfl rfl ?_)
  refine At.thenC ?_
  refine W.cond rfl (fun hb3 => ?_) (fun hb3 => ?_)
  · have H := of_true H hb3
    refine W.seq ?_
    refine W.region env [] [] rfl rfl rfl .nil .nil (At.keep (ts := [4, 5]) (ids := [4]) rfl rfl ?_)
    refine At.thenC ?_
    refine W.ret ?_
    refine At.rthen ?_
    cases H
    exact At.ret env.ty rfl rfl (fun q hq => by cases hq) (Sim.tupL (.cons (Sim.aggL (.cons (.refl _) (.cons (Sim.nil _ _) .nil))) (.cons (.refl _) .nil))) hval
  · have H := of_false H hb3
    refine W.skip ?_
    refine At.thenC ?_
    refine W.seq ?_
    refine W.seq ?_
    obtain ⟨hc4, H⟩ := of_must H
    refine W.region env [] [⟨.bool ((gasolierref03_In p1 0 (((p0.Ways.length : Nat) : Int) - 1))), [], 0⟩] rfl rfl rfl (.cons hc4 .nil) (.free (c_gasolierref03_In p1 0 (((p0.Ways.length : Nat) : Int) - 1)) .nil) (At.keep (ts := [1, 2, 4, 16]) (ids := [2, 4]) rfl rfl ?_)
    refine At.thenC ?_
    refine W.cond rfl (fun hb5 => ?_) (fun hb5 => ?_)
    · have H := of_true H hb5
      refine W.seq ?_
      refine W.region env [] [] rfl rfl rfl .nil .nil (At.keep (ts := [4, 5]) (ids := [4]) rfl rfl ?_)
      refine At.thenC ?_
      refine W.ret ?_
      refine At.rthen ?_
      cases H
      exact At.ret env.ty rfl rfl (fun q hq => by cases hq) (Sim.tupL (.cons (Sim.aggL (.cons (.refl _) (.cons (Sim.nil _ _) .nil))) (.cons (.refl _) .nil))) hval
    · have H := of_false H hb5
      refine W.skip ?_
      refine At.thenC ?_
      refine W.seq ?_
      obtain ⟨y6, hy7, H⟩ := of_bindO H
      refine W.region env [] [⟨.agg [.int .i64 (y6.Places), roL 7 enc_Way y6.Ways], [], 0⟩] rfl rfl rfl .nil (.free (c_gasolierref03_without p0 p1 hy7) .nil) (At.keep (ts := [4, 5]) (ids := [4]) rfl rfl ?_)
      refine At.thenC ?_
      refine W.ret ?_
      cases H
      exact At.ret env.ty rfl rfl (fun q hq => by cases hq) (.refl _) hval

theorem c_gasolierref03_SameChart (fuel : Nat) (p0 : Chart) (p1 : Chart) {r : Bool} (H : gasolierref03_SameChart fuel p0 p1 = some r) : Ctr Try.prog 59 [.agg [.int .i64 (p0.Places), roL 7 enc_Way p0.Ways], .agg [.int .i64 (p1.Places), roL 7 enc_Way p1.Ways]] (.bool (r)) := by
  unfold gasolierref03_SameChart at H
  refine Ctr.of_body (N := 43) Try.func59 (by kernel_rfl) (c := _) rfl Try.ntmps59 rfl (fun w0 h0 hval => ?_)
  refine W.seq ?_
  refine W.region env [] [] rfl rfl rfl .nil .nil (At.keep (ts := [2, 3]) (ids := [2, 3]) rfl rfl ?_)
  refine At.thenC ?_
  refine W.seq ?_
  refine W.region env [] [] rfl rfl rfl (.cons (fun h => h) (.cons (fun h => h) (.cons (fun h => h) (.cons (fun h => h) (.cons (fun h => h) (.cons (fun h => h) (.cons (fun h => h) .nil))))))) .nil (At.keep (ts := [2, 3, 5]) (ids := [2, 3]) rfl rfl ?_)
  refine At.thenC ?_
  refine W.seq ?_
  refine W.seq ?_
  refine W.region env [] [] rfl rfl rfl .nil .nil (At.keep (ts := [2, 3, 5, 6]) (ids := [2, 3]) rfl rfl ?_)
  refine At.thenC ?_
  refine W.block ?_
  refine At.keep (ts := [2, 3, 5, 6]) (ids := [2, 3]) rfl rfl ?_
  refine W.loopGo H (fun (s1 : Bool × Int) => [(2, .lp 2 0), (3, .lp 3 0), (5, .bool (s1.1)), (6, .int .i64 (s1.2))]) (fun (s1 : Bool × Int) => [(2, .cells [.int .i64 (p0.Places), roL 7 enc_Way p0.Ways]), (3, .cells [.int .i64 (p1.Places), roL 7 enc_Way p1.Ways])]) (.cons (.of_eq (by first | rfl | (simp; done) | (simp; omega))) (.cons (.of_eq (by first | rfl | (simp; done) | (simp; omega))) (.cons (.of_eq (by first | rfl | (simp; done) | (simp; omega))) (.cons (.of_eq (by first | rfl | (simp; done) | (simp; omega))) .nil)))) (.cons (.of_eq (by first | rfl | (simp; done) | (simp; omega))) (.cons (.of_eq (by first | rfl | (simp; done) | (simp; omega))) .nil)) (fun k1 s1 H K0 hK1 => ?_)
  refine W.seq ?_
  refine W.seq ?_
  refine W.region env [] [] rfl rfl rfl (.cons (fun h => h) .nil) .nil (At.keep (ts := [2, 3, 5, 6, 28]) (ids := [2, 3]) rfl rfl ?_)
  refine At.thenC ?_
  refine W.cond rfl (fun hb2 => ?_) (fun hb2 => ?_)
  · have H := of_true H hb2
    refine W.skip ?_
    refine At.thenC ?_
    refine W.seq ?_
    refine W.block ?_
    obtain ⟨hc3, H⟩ := of_must H
    obtain ⟨hc4, H⟩ := of_must H
    refine W.region env [] [] rfl rfl rfl (.cons hc3 (.cons hc4 .nil)) .nil (At.keep (ts := [2, 3, 5, 6]) (ids := [2, 3]) rfl rfl ?_)
    refine At.inb ?_
    refine At.thenC ?_
    obtain ⟨hc5, H⟩ := of_must H
    refine W.region env [] [] rfl rfl rfl (.cons hc5 .nil) .nil (At.keep (ts := [2, 3, 5, 6]) (ids := [2, 3]) rfl rfl ?_)
    refine At.thenK (At.keep (ts := [2, 3, 5, 6]) (ids := [2, 3]) rfl rfl ?_)
    exact At.conv (.cons (.of_eq (by first | rfl | (simp; done) | (simp; omega))) (.cons (.of_eq (by first | rfl | (simp; done) | (simp; omega))) (.cons (.of_eq (by first | rfl | (simp; done) | (simp; omega))) (.cons (.of_eq (by first | rfl | (simp; done) | (simp; omega))) .nil)))) (.cons (.of_eq (by first | rfl | (simp; done) | (simp; omega))) (.cons (.of_eq (by first | rfl | (simp; done) | (simp; omega))) .nil)) (hK1 (((decide ((p0.Ways.getD (s1.2).toNat default).From = (p1.Ways.getD (s1.2).toNat default).From)) && ((decide ((p0.Ways.getD (s1.2).toNat default).To = (p1.Ways.getD (s1.2).toNat default).To)) && (((decide ((p0.Ways.getD (s1.2).toNat default).Takes.Lo = (p1.Ways.getD (s1.2).toNat default).Takes.Lo)) && (decide ((p0.Ways.getD (s1.2).toNat default).Takes.Hi = (p1.Ways.getD (s1.2).toNat default).Takes.Hi))) && (((decide ((p0.Ways.getD (s1.2).toNat default).Open.Lo = (p1.Ways.getD (s1.2).toNat default).Open.Lo)) && (decide ((p0.Ways.getD (s1.2).toNat default).Open.Hi = (p1.Ways.getD (s1.2).toNat default).Open.Hi))) && (decide ((p0.Ways.getD (s1.2).toNat default).Every = (p1.Ways.getD (s1.2).toNat default).Every)))))), (s1.2 + 1)) H)
  · have H := of_false H hb2
    refine W.exit ?_
    refine At.xthen ?_
    refine At.xthen ?_
    refine At.xhere ?_
    refine At.thenC ?_
    refine W.seq ?_
    refine W.region env [] [] rfl rfl rfl .nil .nil (At.keep (ts := [4]) (ids := []) rfl rfl ?_)
    refine At.thenC ?_
    refine W.ret ?_
    cases H
    exact At.ret env.ty rfl rfl (fun q hq => by cases hq) (.refl _) hval

theorem c_round_CheckWay (p0 : Way) : Ctr Try.prog 60 [.agg [.int .i64 (p0.From), .int .i64 (p0.To), .int .i64 (p0.Takes.Lo), .int .i64 (p0.Takes.Hi), .int .i64 (p0.Open.Lo), .int .i64 (p0.Open.Hi), .int .i64 (p0.Every)]] (.int .i64 ((round_CheckWay p0))) := by
  obtain ⟨r, H⟩ : ∃ r, round_CheckWay p0 = r := ⟨_, rfl⟩
  rw [H]
  unfold round_CheckWay at H
  refine Ctr.of_body (N := 6) Try.func60 (by kernel_rfl) (c := _) rfl Try.ntmps60 rfl (fun w0 h0 hval => ?_)
  refine W.seq ?_
  refine W.region env [] [] rfl rfl rfl .nil .nil (At.keep (ts := [1]) (ids := [1]) rfl rfl ?_)
  refine At.thenC ?_
  refine W.seq ?_
  refine W.seq ?_
  refine W.region env [] [⟨.bool ((round_isWay p0)), [], 0⟩] rfl rfl rfl .nil (.free (c_round_isWay p0) .nil) (At.keep (ts := [5]) (ids := []) rfl rfl ?_)
  refine At.thenC ?_
  refine W.cond rfl (fun hb1 => ?_) (fun hb1 => ?_)
  · have H := of_true H hb1
    refine W.seq ?_
    refine W.region env [] [] rfl rfl rfl .nil .nil (At.keep (ts := [2]) (ids := []) rfl rfl ?_)
    refine At.thenC ?_
    refine W.ret ?_
    refine At.rthen ?_
    cases H
    exact At.ret env.ty rfl rfl (fun q hq => by cases hq) (.refl _) hval
  · have H := of_false H hb1
    refine W.skip ?_
    refine At.thenC ?_
    refine W.seq ?_
    refine W.region env [] [] rfl rfl rfl .nil .nil (At.keep (ts := [2]) (ids := []) rfl rfl ?_)
    refine At.thenC ?_
    refine W.ret ?_
    cases H
    exact At.ret env.ty rfl rfl (fun q hq => by cases hq) (.refl _) hval

theorem c_round_CheckStop (p0 : Stop) : Ctr Try.prog 62 [.agg [.int .i64 (p0.Place), .int .i64 (p0.Window.Lo), .int .i64 (p0.Window.Hi), .int .i64 (p0.Serve)]] (.int .i64 ((round_CheckStop p0))) := by
  obtain ⟨r, H⟩ : ∃ r, round_CheckStop p0 = r := ⟨_, rfl⟩
  rw [H]
  unfold round_CheckStop at H
  refine Ctr.of_body (N := 6) Try.func62 (by kernel_rfl) (c := _) rfl Try.ntmps62 rfl (fun w0 h0 hval => ?_)
  refine W.seq ?_
  refine W.region env [] [] rfl rfl rfl .nil .nil (At.keep (ts := [1]) (ids := [1]) rfl rfl ?_)
  refine At.thenC ?_
  refine W.seq ?_
  refine W.seq ?_
  refine W.region env [] [⟨.bool ((round_isStop p0)), [], 0⟩] rfl rfl rfl .nil (.free (c_round_isStop p0) .nil) (At.keep (ts := [5]) (ids := []) rfl rfl ?_)
  refine At.thenC ?_
  refine W.cond rfl (fun hb1 => ?_) (fun hb1 => ?_)
  · have H := of_true H hb1
    refine W.seq ?_
    refine W.region env [] [] rfl rfl rfl .nil .nil (At.keep (ts := [2]) (ids := []) rfl rfl ?_)
    refine At.thenC ?_
    refine W.ret ?_
    refine At.rthen ?_
    cases H
    exact At.ret env.ty rfl rfl (fun q hq => by cases hq) (.refl _) hval
  · have H := of_false H hb1
    refine W.skip ?_
    refine At.thenC ?_
    refine W.seq ?_
    refine W.region env [] [] rfl rfl rfl .nil .nil (At.keep (ts := [2]) (ids := []) rfl rfl ?_)
    refine At.thenC ?_
    refine W.ret ?_
    cases H
    exact At.ret env.ty rfl rfl (fun q hq => by cases hq) (.refl _) hval

theorem c_gasolierref03_CheckStop (p0 : Stop) : Ctr Try.prog 63 [.agg [.int .i64 (p0.Place), .int .i64 (p0.Window.Lo), .int .i64 (p0.Window.Hi), .int .i64 (p0.Serve)]] (.int .i64 ((gasolierref03_CheckStop p0))) := by
  obtain ⟨r, H⟩ : ∃ r, gasolierref03_CheckStop p0 = r := ⟨_, rfl⟩
  rw [H]
  unfold gasolierref03_CheckStop at H
  refine Ctr.of_body (N := 29) Try.func63 (by kernel_rfl) (c := _) rfl Try.ntmps63 rfl (fun w0 h0 hval => ?_)
  refine W.seq ?_
  refine W.region env [] [] rfl rfl rfl .nil .nil (At.keep (ts := [1]) (ids := [1]) rfl rfl ?_)
  refine At.thenC ?_
  refine W.seq ?_
  refine W.seq ?_
  refine W.region env [] [⟨.bool ((gasolierref03_In p0.Place 0 11)), [], 0⟩, ⟨.bool ((gasolierref03_In p0.Window.Lo 0 p0.Window.Hi)), [], 0⟩, ⟨.bool ((gasolierref03_In p0.Serve 0 120)), [], 0⟩] rfl rfl rfl (.cons (fun h => h) (.cons (fun h => h) (.cons (fun h => h) (.cons (fun h => h) (.cons (fun h => h) (.cons (fun h => h) (.cons (fun h => h) (.cons (fun h => by rw [h]; rfl) (.cons (fun h => h) (.cons (fun h => h) (.cons (fun h => h) (.cons (fun h => by rw [h]; rfl) (.cons (fun h => h) (.cons (fun h => h) (.cons (fun h => h) (.cons (fun h => by rw [h]; rfl) .nil)))))))))))))))) (.free (c_gasolierref03_In p0.Place 0 11) (.on (fun hW => c_gasolierref03_In p0.Window.Lo 0 p0.Window.Hi) (.on (fun hW => c_gasolierref03_In p0.Serve 0 120) .nil))) (At.keep (ts := [28]) (ids := []) rfl rfl ?_)
  refine At.thenC ?_
  refine W.cond rfl (fun hb1 => ?_) (fun hb1 => ?_)
  · have H := of_true H hb1
    refine W.seq ?_
    refine W.region env [] [] rfl rfl rfl .nil .nil (At.keep (ts := [2]) (ids := []) rfl rfl ?_)
    refine At.thenC ?_
    refine W.ret ?_
    refine At.rthen ?_
    cases H
    exact At.ret env.ty rfl rfl (fun q hq => by cases hq) (.refl _) hval
  · have H := of_false H hb1
    refine W.skip ?_
    refine At.thenC ?_
    refine W.seq ?_
    refine W.region env [] [] rfl rfl rfl .nil .nil (At.keep (ts := [2]) (ids := []) rfl rfl ?_)
    refine At.thenC ?_
    refine W.ret ?_
    cases H
    exact At.ret env.ty rfl rfl (fun q hq => by cases hq) (.refl _) hval

theorem c_gasolierlaw03_RoundCharts (fuel : Nat) (p0 : Chart) (p1 : gasolierlaw03_Ask) {r : Bool} (H : gasolierlaw03_RoundCharts fuel p0 p1 = some r) : Ctr Try.prog 14 [.agg [.int .i64 (p0.Places), roL 7 enc_Way p0.Ways], .agg [.int .i64 (p1.Way.From), .int .i64 (p1.Way.To), .int .i64 (p1.Way.Takes.Lo), .int .i64 (p1.Way.Takes.Hi), .int .i64 (p1.Way.Open.Lo), .int .i64 (p1.Way.Open.Hi), .int .i64 (p1.Way.Every), .int .i64 (p1.Stop.Place), .int .i64 (p1.Stop.Window.Lo), .int .i64 (p1.Stop.Window.Hi), .int .i64 (p1.Stop.Serve), .int .i64 (p1.At)]] (.bool (r)) := by
  unfold gasolierlaw03_RoundCharts at H
  refine Ctr.of_body (N := 93) Try.func14 (by kernel_rfl) (c := _) rfl Try.ntmps14 rfl (fun w0 h0 hval => ?_)
  refine W.seq ?_
  refine W.region env [] [] rfl rfl rfl .nil .nil (At.keep (ts := [2, 3]) (ids := [2, 3]) rfl rfl ?_)
  refine At.thenC ?_
  refine W.seq ?_
  obtain ⟨y1, hy2, H⟩ := of_bindO H
  refine W.region env [] [⟨.bool (y1), [], 0⟩] rfl rfl rfl .nil (.free (c_gasolierlaw03_sane fuel hy2) .nil) (At.keep (ts := [2, 3, 5]) (ids := [2, 3]) rfl rfl ?_)
  refine At.thenC ?_
  refine W.seq ?_
  obtain ⟨y3, hy4, H⟩ := of_bindO H
  refine W.region env [] [⟨.tup [.agg [.int .i64 (y3.1.Places), roL 7 enc_Way y3.1.Ways], .int .i64 (y3.2)], [], 0⟩] rfl rfl rfl .nil (.free (c_round_With p0 p1.Way hy4) .nil) (At.keep (ts := [2, 3, 5, 6, 7]) (ids := [2, 3, 6]) rfl rfl ?_)
  refine At.thenC ?_
  refine W.seq ?_
  obtain ⟨y5, hy6, H⟩ := of_bindO H
  refine W.region env [] [⟨.tup [.agg [.int .i64 (y5.1.Places), roL 7 enc_Way y5.1.Ways], .int .i64 (y5.2)], [], 0⟩] rfl rfl rfl .nil (.free (c_gasolierref03_With fuel p0 p1.Way hy6) .nil) (At.keep (ts := [2, 3, 5, 6, 7, 8, 9]) (ids := [2, 3, 6, 8]) rfl rfl ?_)
  refine At.thenC ?_
  refine W.seq ?_
  obtain ⟨y7, hy8, H⟩ := of_bindO H
  refine W.region env [] [⟨.tup [.agg [.int .i64 (y7.1.Places), roL 7 enc_Way y7.1.Ways], .int .i64 (y7.2)], [], 0⟩] rfl rfl rfl .nil (.free (c_round_Without p0 p1.At hy8) .nil) (At.keep (ts := [2, 3, 5, 6, 7, 8, 9, 10, 11]) (ids := [2, 3, 6, 8, 10]) rfl rfl ?_)
  refine At.thenC ?_
  refine W.seq ?_
  obtain ⟨y9, hy10, H⟩ := of_bindO H
  refine W.region env [] [⟨.tup [.agg [.int .i64 (y9.1.Places), roL 7 enc_Way y9.1.Ways], .int .i64 (y9.2)], [], 0⟩] rfl rfl rfl .nil (.free (c_gasolierref03_Without fuel p0 p1.At hy10) .nil) (At.keep (ts := [2, 3, 5, 6, 7, 8, 9, 10, 11, 12, 13]) (ids := [2, 3, 6, 8, 10, 12]) rfl rfl ?_)
  refine At.thenC ?_
  refine W.seq ?_
  obtain ⟨y11, hy12, H⟩ := of_bindO H
  refine W.region env [] [⟨.bool (y11), [], 0⟩] rfl rfl rfl .nil (.free (c_gasolierref03_SameChart fuel y3.1 y5.1 hy12) .nil) (At.keep (ts := [2, 3, 5, 7, 9, 10, 11, 12, 13, 14]) (ids := [2, 3, 10, 12]) rfl rfl ?_)
  refine At.thenC ?_
  refine W.seq ?_
  obtain ⟨y13, hy14, H⟩ := of_bindO H
  refine W.region env [] [⟨.bool (y13), [], 0⟩] rfl rfl rfl .nil (.free (c_gasolierref03_SameChart fuel y7.1 y9.1 hy14) .nil) (At.keep (ts := [2, 3, 5, 7, 9, 11, 13, 14, 15]) (ids := [2, 3]) rfl rfl ?_)
  refine At.thenC ?_
  refine W.seq ?_
  obtain ⟨y15, hy16, H⟩ := of_bindO H
  obtain ⟨y17, hy18, H⟩ := of_bindO H
  refine W.region env [] [⟨.int .i64 ((round_CheckWay p1.Way)), [], 0⟩, ⟨.int .i64 ((gasolierref03_CheckWay p1.Way)), [], 0⟩, ⟨.int .i64 ((round_CheckStop p1.Stop)), [], 0⟩, ⟨.int .i64 ((gasolierref03_CheckStop p1.Stop)), [], 0⟩, ⟨.int .i64 (y15), [], 0⟩, ⟨.int .i64 (y17), [], 0⟩] rfl rfl rfl (.cons (fun h => h) (.cons (fun h => h) (.cons (fun h => h) (.cons (fun h => h) (.cons (fun h => h) (.cons (fun h => h) (.cons (fun h => h) (.cons (fun h => h) (.cons (fun h => h) (.cons (fun h => h) (.cons (fun h => h) (.cons (fun h => h) (.cons (fun h => h) (.cons (fun h => h) (.cons (fun h => h) (.cons (fun h => h) (.cons (fun h => h) (.cons (fun h => h) (.cons (fun h => h) (.cons (fun h => h) (.cons (fun h => h) (.cons (fun h => h) (.cons (fun h => h) (.cons (fun h => h) (.cons (fun h => h) (.cons (fun h => h) (.cons (fun h => h) .nil))))))))))))))))))))))))))) (.on (fun hW => c_round_CheckWay p1.Way) (.on (fun hW => c_gasolierref03_CheckWay p1.Way) (.on (fun hW => c_round_CheckStop p1.Stop) (.on (fun hW => c_gasolierref03_CheckStop p1.Stop) (.on (fun hW => c_round_Check p0 (of_true hy16 hW)) (.on (fun hW => c_gasolierref03_Check fuel p0 (of_true hy18 hW)) .nil)))))) (At.keep (ts := [4]) (ids := []) rfl rfl ?_)
  refine At.thenC ?_
  refine W.ret ?_
  cases H
  exact At.ret env.ty rfl rfl (fun q hq => by cases hq) (.refl _) hval

end Go.Sp
