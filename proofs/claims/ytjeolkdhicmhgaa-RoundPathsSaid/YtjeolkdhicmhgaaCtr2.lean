/- Printed by gen.py: contracts, part 2. -/
import Derived.Test.YtjeolkdhicmhgaaCtr1
set_option linter.all false
set_option maxRecDepth 100000
namespace Go.Sp
open Go Go.Av Go.Proofs

theorem c_round_Path (fuel : Nat) (p0 : Chart) (p1 : Trip) {r : ((List Int) × Int)} (H : round_Path fuel p0 p1 = some r) : Ctr Try.prog 49 [.agg [.int .i64 (p0.Places), roL 7 enc_Way p0.Ways], .agg [.int .i64 (p1.From), .int .i64 (p1.To), .int .i64 (p1.At)]] (.tup [roL 1 enc_Int r.1, .int .i64 (r.2)]) := by
  unfold round_Path at H
  refine Ctr.of_body (N := 60) Try.func49 (by kernel_rfl) (c := _) rfl Try.ntmps49 rfl (fun w0 h0 hval => ?_)
  refine W.seq ?_
  refine W.region env [] [] rfl rfl rfl .nil .nil (At.keep (ts := [2, 3]) (ids := [2, 3]) rfl rfl ?_)
  refine At.thenC ?_
  refine W.seq ?_
  refine W.seq ?_
  obtain ⟨y1, hy2, H⟩ := of_bindO H
  refine W.region env [] [⟨.int .i64 (y1), [], 0, []⟩] rfl rfl rfl .nil (.free (Ctr.sim (.cons (.refl _) (.cons (.refl _) (.cons (Sim.lit (f := enc_Int) ([p1.From, p1.To] : List Int) rfl rfl (fun _ => rfl)) .nil))) (c_round_placeOf p0 p1.At ([p1.From, p1.To] : List Int) hy2)) .nil) (At.keep (ts := [2, 3, 6]) (ids := [2, 3]) rfl rfl ?_)
  refine At.thenC ?_
  refine W.seq ?_
  refine W.region env [] [] rfl rfl rfl .nil .nil (At.keep (ts := [2, 3, 6, 21]) (ids := [2, 3]) rfl rfl ?_)
  refine At.thenC ?_
  refine W.cond rfl (fun hb3 => ?_) (fun hb3 => ?_)
  · have H := of_true H hb3
    refine W.seq ?_
    refine W.region env [] [] rfl rfl rfl .nil .nil (At.keep (ts := [4, 5]) (ids := []) rfl rfl ?_)
    refine At.thenC ?_
    refine W.ret ?_
    refine At.rthen ?_
    cases H
    exact At.ret env.ty rfl rfl (fun q hq => by cases hq) (Sim.tupL (.cons (Sim.nil _ _) (.cons (.refl _) .nil))) hval
  · have H := of_false H hb3
    refine W.skip ?_
    refine At.thenC ?_
    refine W.seq ?_
    obtain ⟨y4, hy5, H⟩ := of_bindO H
    refine W.region env [] [⟨.clo (.func 115) [] [.rp [.int .i64 (p0.Places), roL 7 enc_Way p0.Ways]], [], 0, []⟩, ⟨romL (.agg #[.int .i64 0, .int .i64 0]) (fun (x : round_reached) => .agg [.int .i64 (x.at_), .int .i64 (x.way)]) y4, [], 0, []⟩] rfl rfl rfl .nil (.free (c_round_most p0) (.free (c_round_reach fuel p0 p1.From p1.At (fun x0 => round_most_1 x0 p0) 115 [] ([.rp [.int .i64 (p0.Places), roL 7 enc_Way p0.Ways]]) (fun x0 r h => c_round_most_1 x0 p0 h) hy5) .nil)) (At.keep (ts := [2, 3, 7]) (ids := [2, 3]) rfl rfl ?_)
    refine At.thenC ?_
    refine W.seq ?_
    refine W.region env [] [] rfl rfl rfl (.cons rfl .nil) .nil (At.keep (ts := [2, 7, 8, 9]) (ids := [2, 8]) rfl rfl ?_)
    refine At.thenC ?_
    refine W.seq ?_
    refine W.seq ?_
    refine W.region env [] [] rfl rfl rfl .nil .nil (At.keep (ts := [2, 7, 8, 39]) (ids := [2, 8]) rfl rfl ?_)
    refine At.thenC ?_
    refine W.cond rfl (fun hb6 => ?_) (fun hb6 => ?_)
    · have H := of_true H hb6
      refine W.seq ?_
      refine W.region env [] [] rfl rfl rfl .nil .nil (At.keep (ts := [4, 5]) (ids := []) rfl rfl ?_)
      refine At.thenC ?_
      refine W.ret ?_
      refine At.rthen ?_
      cases H
      exact At.ret env.ty rfl rfl (fun q hq => by cases hq) (Sim.tupL (.cons (Sim.nil _ _) (.cons (.refl _) .nil))) hval
    · have H := of_false H hb6
      refine W.skip ?_
      refine At.thenC ?_
      refine W.seq ?_
      refine W.region env [] [] rfl rfl rfl .nil .nil (At.keep (ts := [2, 7, 8, 10]) (ids := [2, 8]) rfl rfl ?_)
      refine At.thenC ?_
      refine W.seq ?_
      refine W.block ?_
      refine At.nilOwn 10 510 3 1 (e := fun i => enc_Int (([] : List Int).getD i default)) rfl rfl ?_
      refine At.keep (ts := [2, 7, 8, 10]) (ids := [2, 8, 510]) rfl rfl ?_
      refine W.loopGo H (fun (s7 : (List Int) × round_reached) => [(2, .lp 2 0), (7, romL (.agg #[.int .i64 0, .int .i64 0]) (fun (x : round_reached) => .agg [.int .i64 (x.at_), .int .i64 (x.way)]) y4), (8, .lp 8 0), (10, .buf 510 (s7.1).length)]) (fun (s7 : (List Int) × round_reached) => [(2, .cells [.int .i64 (p0.Places), roL 7 enc_Way p0.Ways]), (8, .cells [.int .i64 (s7.2.at_), .int .i64 (s7.2.way)]), (510, bufL 3 1 enc_Int s7.1)]) (.cons (.of_eq (by first | rfl | (simp; done) | omega | (simp; omega))) (.cons (.of_eq (by first | rfl | (simp; done) | omega | (simp; omega))) (.cons (.of_eq (by first | rfl | (simp; done) | omega | (simp; omega))) (.cons (.of_eq (by refine bufEq ?_; first | (simp [copyAt]; done) | omega | (simp [copyAt]; omega) | rfl)) .nil)))) (.cons (.of_eq (by first | rfl | (simp; done) | omega | (simp; omega))) (.cons (.of_eq (by first | rfl | (simp; done) | omega | (simp; omega))) (.cons (.of_eq (by first | rfl | (simp; done) | omega | (simp; omega))) .nil))) (fun k7 s7 H K0 hK7 => ?_)
      refine W.seq ?_
      refine W.seq ?_
      refine W.region env [] [] rfl rfl rfl .nil .nil (At.keep (ts := [2, 7, 8, 10, 42]) (ids := [2, 8, 510]) rfl rfl ?_)
      refine At.thenC ?_
      refine W.cond rfl (fun hb8 => ?_) (fun hb8 => ?_)
      · have H := of_true H hb8
        refine W.skip ?_
        refine At.thenC ?_
        refine W.block ?_
        refine W.seq ?_
        obtain ⟨hc9, H⟩ := of_must H
        refine W.region env [] [] rfl rfl rfl (.cons (⟨by first | rfl | (simp; done) | omega | (simp; omega), by have := hc9; first | simpa using this | (unfold room at this ⊢; simp at this ⊢; omega)⟩) .nil) .nil (At.keep (ts := [2, 7, 8, 10]) (ids := [2, 8, 510]) rfl rfl ?_)
        refine At.convM (.cons (.refl _) (.cons (.refl _) (.cons (y := bufL 3 1 enc_Int (s7.1 ++ ([s7.2.way] : List Int))) (BSim.seg (Seg.push (Seg.refl enc_Int _) (Seg.lit (f := enc_Int) (sz := 1) ([s7.2.way] : List Int) rfl rfl (fun _ => rfl)))) .nil))) ?_
        refine At.thenC ?_
        obtain ⟨hc10, H⟩ := of_must H
        refine W.region env [] [] rfl rfl rfl (.cons hc10 (.cons rfl .nil)) .nil (At.keep (ts := [2, 7, 8, 10]) (ids := [2, 8, 510]) rfl rfl ?_)
        refine At.inb ?_
        refine At.thenK (At.keep (ts := [2, 7, 8, 10]) (ids := [2, 8, 510]) rfl rfl ?_)
        exact At.conv (.cons (.of_eq (by first | rfl | (simp; done) | omega | (simp; omega))) (.cons (.of_eq (by first | rfl | (simp; done) | omega | (simp; omega))) (.cons (.of_eq (by first | rfl | (simp; done) | omega | (simp; omega))) (.cons (.of_eq (by refine bufEq ?_; first | (simp [copyAt]; done) | omega | (simp [copyAt]; omega) | rfl)) .nil)))) (.cons (.of_eq (by first | rfl | (simp; done) | omega | (simp; omega))) (.cons (.of_eq (by first | rfl | (simp; done) | omega | (simp; omega))) (.cons (.of_eq (by first | rfl | (simp; done) | omega | (simp; omega))) .nil))) (hK7 ((s7.1 ++ ([s7.2.way] : List Int)), ((y4.get ((p0.Ways.getD (s7.2.way).toNat default).From)).getD default)) H)
      · have H := of_false H hb8
        refine W.exit ?_
        refine At.xthen ?_
        refine At.xthen ?_
        refine At.xhere ?_
        refine At.thenC ?_
        refine W.seq ?_
        obtain ⟨y11, hy12, H⟩ := of_bindO H
        obtain ⟨hc13, H⟩ := of_must H
        refine W.region env [] [⟨.tup [], [(510, bufL 3 1 enc_Int y11)], 0, [510]⟩] rfl rfl (by kernel_rfl) .nil (.free (CtrO.sim (CtrO.ren (cl_slices_Reverse_int_l fuel s7.1 hy12) [(90000, 510)]) (.cons (.of_eq (by refine bufEq ?_; first | rfl | (simp; done) | omega | (simp; omega))) .nil) (.cons (.refl _) .nil)) .nil) (At.keep (ts := [10]) (ids := [510]) rfl rfl ?_)
        refine At.thenC ?_
        refine W.seq ?_
        refine W.region env [] [] rfl rfl rfl .nil .nil (At.keep (ts := [4, 5]) (ids := [510]) rfl rfl ?_)
        refine At.thenC ?_
        refine W.ret ?_
        cases H
        exact At.ret env.ty rfl rfl (fun q hq => by cases hq; exact (by first | rfl | (simp; done) | omega | (simp; omega))) (.refl _) hval

theorem c_gasolierref03_In (p0 : Int) (p1 : Int) (p2 : Int) : Ctr Try.prog 56 [.int .i64 (p0), .int .i64 (p1), .int .i64 (p2)] (.bool ((gasolierref03_In p0 p1 p2))) := by
  obtain ⟨r, H⟩ : ∃ r, gasolierref03_In p0 p1 p2 = r := ⟨_, rfl⟩
  rw [H]
  unfold gasolierref03_In at H
  refine Ctr.of_body (N := 15) Try.func56 (by kernel_rfl) (c := _) rfl Try.ntmps56 rfl (fun w0 h0 hval => ?_)
  refine W.seq ?_
  refine W.region env [] [] rfl rfl rfl .nil .nil (At.keep (ts := [0, 1, 2]) (ids := []) rfl rfl ?_)
  refine At.thenC ?_
  refine W.seq ?_
  refine W.region env [] [] rfl rfl rfl (.cons (fun h => h) (.cons (fun h => h) (.cons (fun h => h) .nil))) .nil (At.keep (ts := [6]) (ids := []) rfl rfl ?_)
  refine At.thenC ?_
  refine W.ret ?_
  cases H
  exact At.ret env.ty rfl rfl (fun q hq => by cases hq) (.refl _) hval

theorem c_gasolierref03_CheckWay (p0 : Way) : Ctr Try.prog 61 [.agg [.int .i64 (p0.From), .int .i64 (p0.To), .int .i64 (p0.Takes.Lo), .int .i64 (p0.Takes.Hi), .int .i64 (p0.Open.Lo), .int .i64 (p0.Open.Hi), .int .i64 (p0.Every)]] (.int .i64 ((gasolierref03_CheckWay p0))) := by
  obtain ⟨r, H⟩ : ∃ r, gasolierref03_CheckWay p0 = r := ⟨_, rfl⟩
  rw [H]
  unfold gasolierref03_CheckWay at H
  refine Ctr.of_body (N := 58) Try.func61 (by kernel_rfl) (c := _) rfl Try.ntmps61 rfl (fun w0 h0 hval => ?_)
  refine W.seq ?_
  refine W.region env [] [] rfl rfl rfl .nil .nil (At.keep (ts := [1]) (ids := [1]) rfl rfl ?_)
  refine At.thenC ?_
  refine W.seq ?_
  refine W.seq ?_
  refine W.region env [] [⟨.bool ((gasolierref03_In p0.From 0 11)), [], 0, []⟩, ⟨.bool ((gasolierref03_In p0.To 0 11)), [], 0, []⟩, ⟨.bool ((gasolierref03_In p0.Takes.Lo 1 p0.Takes.Hi)), [], 0, []⟩, ⟨.bool ((gasolierref03_In p0.Open.Lo 0 p0.Open.Hi)), [], 0, []⟩, ⟨.bool ((gasolierref03_In p0.Every 0 600)), [], 0, []⟩] rfl rfl rfl (.cons (fun h => h) (.cons (fun h => h) (.cons (fun h => h) (.cons (fun h => by rw [h]; rfl) (.cons (fun h => h) (.cons (fun h => h) (.cons (fun h => h) (.cons (fun h => h) (.cons (fun h => by rw [h]; rfl) (.cons (fun h => h) (.cons (fun h => h) (.cons (fun h => h) (.cons (fun h => h) (.cons (fun h => h) (.cons (fun h => h) (.cons (fun h => h) (.cons (fun h => by rw [h]; rfl) (.cons (fun h => h) (.cons (fun h => h) (.cons (fun h => h) (.cons (fun h => by rw [h]; rfl) (.cons (fun h => h) (.cons (fun h => h) (.cons (fun h => h) (.cons (fun h => h) (.cons (fun h => h) (.cons (fun h => h) (.cons (fun h => h) (.cons (fun h => by rw [h]; rfl) (.cons (fun h => h) (.cons (fun h => h) (.cons (fun h => h) (.cons (fun h => by rw [h]; rfl) (.cons (fun h => h) (.cons (fun h => h) (.cons (fun h => h) (.cons (fun h => by rw [h]; rfl) .nil))))))))))))))))))))))))))))))))))))) (.free (c_gasolierref03_In p0.From 0 11) (.on (fun hW => c_gasolierref03_In p0.To 0 11) (.on (fun hW => c_gasolierref03_In p0.Takes.Lo 1 p0.Takes.Hi) (.on (fun hW => c_gasolierref03_In p0.Open.Lo 0 p0.Open.Hi) (.on (fun hW => c_gasolierref03_In p0.Every 0 600) .nil))))) (At.keep (ts := [57]) (ids := []) rfl rfl ?_)
  refine At.thenC ?_
  refine W.cond rfl (fun hb1 => ?_) (fun hb1 => ?_)
  · have H := of_true H hb1
    refine W.seq ?_
    refine W.region env [] [] rfl rfl rfl .nil .nil (At.keep (ts := [2]) (ids := []) rfl rfl ?_)
    refine At.thenC ?_
    refine W.ret ?_
    refine At.rthen ?_
    cases H
    exact At.ret env.ty rfl rfl (fun q hq => by cases hq) (.refl _) hval
  · have H := of_false H hb1
    refine W.skip ?_
    refine At.thenC ?_
    refine W.seq ?_
    refine W.region env [] [] rfl rfl rfl .nil .nil (At.keep (ts := [2]) (ids := []) rfl rfl ?_)
    refine At.thenC ?_
    refine W.ret ?_
    cases H
    exact At.ret env.ty rfl rfl (fun q hq => by cases hq) (.refl _) hval

theorem c_gasolierref03_fits (p0 : Chart) (p1 : Way) : Ctr Try.prog 103 [.agg [.int .i64 (p0.Places), roL 7 enc_Way p0.Ways], .agg [.int .i64 (p1.From), .int .i64 (p1.To), .int .i64 (p1.Takes.Lo), .int .i64 (p1.Takes.Hi), .int .i64 (p1.Open.Lo), .int .i64 (p1.Open.Hi), .int .i64 (p1.Every)]] (.bool ((gasolierref03_fits p0 p1))) := by
  obtain ⟨r, H⟩ : ∃ r, gasolierref03_fits p0 p1 = r := ⟨_, rfl⟩
  rw [H]
  unfold gasolierref03_fits at H
  refine Ctr.of_body (N := 22) Try.func103 (by kernel_rfl) (c := _) rfl Try.ntmps103 rfl (fun w0 h0 hval => ?_)
  refine W.seq ?_
  refine W.region env [] [] rfl rfl rfl .nil .nil (At.keep (ts := [2, 3]) (ids := [2, 3]) rfl rfl ?_)
  refine At.thenC ?_
  refine W.seq ?_
  refine W.region env [] [⟨.int .i64 ((gasolierref03_CheckWay p1)), [], 0, []⟩] rfl rfl rfl (.cons (fun h => h) (.cons (fun h => h) (.cons (fun h => h) (.cons (fun h => h) (.cons (fun h => h) (.cons (fun h => h) (.cons (fun h => h) (.cons (fun h => h) (.cons (fun h => h) (.cons (fun h => h) .nil)))))))))) (.free (c_gasolierref03_CheckWay p1) .nil) (At.keep (ts := [4]) (ids := []) rfl rfl ?_)
  refine At.thenC ?_
  refine W.ret ?_
  cases H
  exact At.ret env.ty rfl rfl (fun q hq => by cases hq) (.refl _) hval

theorem c_gasolierref03_Check (fuel : Nat) (p0 : Chart) {r : Int} (H : gasolierref03_Check fuel p0 = some r) : Ctr Try.prog 65 [.agg [.int .i64 (p0.Places), roL 7 enc_Way p0.Ways]] (.int .i64 (r)) := by
  unfold gasolierref03_Check at H
  refine Ctr.of_body (N := 29) Try.func65 (by kernel_rfl) (c := _) rfl Try.ntmps65 rfl (fun w0 h0 hval => ?_)
  refine W.seq ?_
  refine W.region env [] [] rfl rfl rfl .nil .nil (At.keep (ts := [1]) (ids := [1]) rfl rfl ?_)
  refine At.thenC ?_
  refine W.seq ?_
  refine W.seq ?_
  refine W.region env [] [⟨.bool ((gasolierref03_In p0.Places 1 12)), [], 0, []⟩] rfl rfl rfl (.cons (fun h => h) (.cons (fun h => h) (.cons (fun h => h) (.cons (fun h => by rw [h]; rfl) .nil)))) (.free (c_gasolierref03_In p0.Places 1 12) .nil) (At.keep (ts := [1, 13]) (ids := [1]) rfl rfl ?_)
  refine At.thenC ?_
  refine W.cond rfl (fun hb1 => ?_) (fun hb1 => ?_)
  · have H := of_true H hb1
    refine W.seq ?_
    refine W.region env [] [] rfl rfl rfl .nil .nil (At.keep (ts := [2]) (ids := []) rfl rfl ?_)
    refine At.thenC ?_
    refine W.ret ?_
    refine At.rthen ?_
    cases H
    exact At.ret env.ty rfl rfl (fun q hq => by cases hq) (.refl _) hval
  · have H := of_false H hb1
    refine W.skip ?_
    refine At.thenC ?_
    refine W.seq ?_
    refine W.seq ?_
    refine W.region env [] [] rfl rfl rfl .nil .nil (At.keep (ts := [1, 3]) (ids := [1]) rfl rfl ?_)
    refine At.thenC ?_
    refine W.block ?_
    refine At.keep (ts := [1, 3]) (ids := [1]) rfl rfl ?_
    refine W.loopGo H (fun (s2 : Int) => [(1, .lp 1 0), (3, .int .i64 (s2))]) (fun (s2 : Int) => [(1, .cells [.int .i64 (p0.Places), roL 7 enc_Way p0.Ways])]) (.cons (.of_eq (by first | rfl | (simp; done) | omega | (simp; omega))) (.cons (.of_eq (by first | rfl | (simp; done) | omega | (simp; omega))) .nil)) (.cons (.of_eq (by first | rfl | (simp; done) | omega | (simp; omega))) .nil) (fun k2 s2 H K0 hK2 => ?_)
    refine W.seq ?_
    refine W.seq ?_
    refine W.region env [] [] rfl rfl rfl .nil .nil (At.keep (ts := [1, 3, 18]) (ids := [1]) rfl rfl ?_)
    refine At.thenC ?_
    refine W.cond rfl (fun hb3 => ?_) (fun hb3 => ?_)
    · have H := of_true H hb3
      refine W.skip ?_
      refine At.thenC ?_
      refine W.seq ?_
      refine W.block ?_
      refine W.seq ?_
      obtain ⟨hc4, H⟩ := of_must H
      refine W.region env [] [⟨.bool ((gasolierref03_fits p0 (p0.Ways.getD (s2).toNat default))), [], 0, []⟩] rfl rfl rfl (.cons hc4 .nil) (.free (c_gasolierref03_fits p0 (p0.Ways.getD (s2).toNat default)) .nil) (At.keep (ts := [1, 3, 28]) (ids := [1]) rfl rfl ?_)
      refine At.thenC ?_
      refine W.cond rfl (fun hb5 => ?_) (fun hb5 => ?_)
      · have H := of_true H hb5
        refine W.seq ?_
        refine W.region env [] [] rfl rfl rfl .nil .nil (At.keep (ts := [2]) (ids := []) rfl rfl ?_)
        refine At.thenC ?_
        refine W.ret ?_
        refine At.rinb ?_
        refine At.rthen ?_
        refine At.rthen ?_
        refine At.rinb ?_
        refine At.rthen ?_
        cases H
        exact At.ret env.ty rfl rfl (fun q hq => by cases hq) (.refl _) hval
      · have H := of_false H hb5
        refine W.skip ?_
        refine At.inb ?_
        refine At.thenC ?_
        obtain ⟨hc6, H⟩ := of_must H
        refine W.region env [] [] rfl rfl rfl (.cons hc6 .nil) .nil (At.keep (ts := [1, 3]) (ids := [1]) rfl rfl ?_)
        refine At.thenK (At.keep (ts := [1, 3]) (ids := [1]) rfl rfl ?_)
        exact At.conv (.cons (.of_eq (by first | rfl | (simp; done) | omega | (simp; omega))) (.cons (.of_eq (by first | rfl | (simp; done) | omega | (simp; omega))) .nil)) (.cons (.of_eq (by first | rfl | (simp; done) | omega | (simp; omega))) .nil) (hK2 (s2 + 1) H)
    · have H := of_false H hb3
      refine W.exit ?_
      refine At.xthen ?_
      refine At.xthen ?_
      refine At.xhere ?_
      refine At.thenC ?_
      refine W.seq ?_
      refine W.region env [] [] rfl rfl rfl .nil .nil (At.keep (ts := [2]) (ids := []) rfl rfl ?_)
      refine At.thenC ?_
      refine W.ret ?_
      cases H
      exact At.ret env.ty rfl rfl (fun q hq => by cases hq) (.refl _) hval

theorem c_gasolierref03_isPlace (p0 : Chart) (p1 : Int) {r : Bool} (H : gasolierref03_isPlace p0 p1 = some r) : Ctr Try.prog 113 [.agg [.int .i64 (p0.Places), roL 7 enc_Way p0.Ways], .int .i64 (p1)] (.bool (r)) := by
  unfold gasolierref03_isPlace at H
  refine Ctr.of_body (N := 10) Try.func113 (by kernel_rfl) (c := _) rfl Try.ntmps113 rfl (fun w0 h0 hval => ?_)
  refine W.seq ?_
  refine W.region env [] [] rfl rfl rfl .nil .nil (At.keep (ts := [1, 2]) (ids := [2]) rfl rfl ?_)
  refine At.thenC ?_
  refine W.seq ?_
  obtain ⟨hc1, H⟩ := of_must H
  refine W.region env [] [⟨.bool ((gasolierref03_In p1 0 (p0.Places - 1))), [], 0, []⟩] rfl rfl rfl (.cons hc1 .nil) (.free (c_gasolierref03_In p1 0 (p0.Places - 1)) .nil) (At.keep (ts := [4]) (ids := []) rfl rfl ?_)
  refine At.thenC ?_
  refine W.ret ?_
  cases H
  exact At.ret env.ty rfl rfl (fun q hq => by cases hq) (.refl _) hval

theorem c_gasolierref03_isMinute (p0 : Int) : Ctr Try.prog 89 [.int .i64 (p0)] (.bool ((gasolierref03_isMinute p0))) := by
  obtain ⟨r, H⟩ : ∃ r, gasolierref03_isMinute p0 = r := ⟨_, rfl⟩
  rw [H]
  unfold gasolierref03_isMinute at H
  refine Ctr.of_body (N := 5) Try.func89 (by kernel_rfl) (c := _) rfl Try.ntmps89 rfl (fun w0 h0 hval => ?_)
  refine W.seq ?_
  refine W.region env [] [] rfl rfl rfl .nil .nil (At.keep (ts := [0]) (ids := []) rfl rfl ?_)
  refine At.thenC ?_
  refine W.seq ?_
  refine W.region env [] [⟨.bool ((gasolierref03_In p0 0 1439)), [], 0, []⟩] rfl rfl rfl .nil (.free (c_gasolierref03_In p0 0 1439) .nil) (At.keep (ts := [2]) (ids := []) rfl rfl ?_)
  refine At.thenC ?_
  refine W.ret ?_
  cases H
  exact At.ret env.ty rfl rfl (fun q hq => by cases hq) (.refl _) hval

theorem c_gasolierref03_asked (fuel : Nat) (p0 : Chart) (p1 : Int) (p2 : Int) {r : Int} (H : gasolierref03_asked fuel p0 p1 p2 = some r) : Ctr Try.prog 91 [.agg [.int .i64 (p0.Places), roL 7 enc_Way p0.Ways], .int .i64 (p1), .int .i64 (p2)] (.int .i64 (r)) := by
  unfold gasolierref03_asked at H
  refine Ctr.of_body (N := 19) Try.func91 (by kernel_rfl) (c := _) rfl Try.ntmps91 rfl (fun w0 h0 hval => ?_)
  refine W.seq ?_
  refine W.region env [] [] rfl rfl rfl .nil .nil (At.keep (ts := [1, 2, 3]) (ids := [3]) rfl rfl ?_)
  refine At.thenC ?_
  refine W.seq ?_
  refine W.seq ?_
  obtain ⟨y1, hy2, H⟩ := of_bindO H
  refine W.region env [] [⟨.int .i64 (y1), [], 0, []⟩] rfl rfl rfl .nil (.free (c_gasolierref03_Check fuel p0 hy2) .nil) (At.keep (ts := [1, 2, 3, 9]) (ids := [3]) rfl rfl ?_)
  refine At.thenC ?_
  refine W.cond rfl (fun hb3 => ?_) (fun hb3 => ?_)
  · have H := of_true H hb3
    refine W.seq ?_
    refine W.region env [] [] rfl rfl rfl .nil .nil (At.keep (ts := [6]) (ids := []) rfl rfl ?_)
    refine At.thenC ?_
    refine W.ret ?_
    refine At.rthen ?_
    cases H
    exact At.ret env.ty rfl rfl (fun q hq => by cases hq) (.refl _) hval
  · have H := of_false H hb3
    refine W.skip ?_
    refine At.thenC ?_
    refine W.seq ?_
    refine W.seq ?_
    obtain ⟨y4, hy5, H⟩ := of_bindO H
    refine W.region env [] [⟨.bool (y4), [], 0, []⟩, ⟨.bool ((gasolierref03_isMinute p2)), [], 0, []⟩] rfl rfl rfl (.cons (fun h => h) (.cons (fun h => h) (.cons (fun h => by rw [h]; rfl) .nil))) (.free (c_gasolierref03_isPlace p0 p1 hy5) (.on (fun hW => c_gasolierref03_isMinute p2) .nil)) (At.keep (ts := [18]) (ids := []) rfl rfl ?_)
    refine At.thenC ?_
    refine W.cond rfl (fun hb6 => ?_) (fun hb6 => ?_)
    · have H := of_true H hb6
      refine W.seq ?_
      refine W.region env [] [] rfl rfl rfl .nil .nil (At.keep (ts := [6]) (ids := []) rfl rfl ?_)
      refine At.thenC ?_
      refine W.ret ?_
      refine At.rthen ?_
      cases H
      exact At.ret env.ty rfl rfl (fun q hq => by cases hq) (.refl _) hval
    · have H := of_false H hb6
      refine W.skip ?_
      refine At.thenC ?_
      refine W.seq ?_
      refine W.region env [] [] rfl rfl rfl .nil .nil (At.keep (ts := [6]) (ids := []) rfl rfl ?_)
      refine At.thenC ?_
      refine W.ret ?_
      cases H
      exact At.ret env.ty rfl rfl (fun q hq => by cases hq) (.refl _) hval

theorem c_gasolierref03_trip (fuel : Nat) (p0 : Chart) (p1 : Trip) {r : Int} (H : gasolierref03_trip fuel p0 p1 = some r) : Ctr Try.prog 100 [.agg [.int .i64 (p0.Places), roL 7 enc_Way p0.Ways], .agg [.int .i64 (p1.From), .int .i64 (p1.To), .int .i64 (p1.At)]] (.int .i64 (r)) := by
  unfold gasolierref03_trip at H
  refine Ctr.of_body (N := 20) Try.func100 (by kernel_rfl) (c := _) rfl Try.ntmps100 rfl (fun w0 h0 hval => ?_)
  refine W.seq ?_
  refine W.region env [] [] rfl rfl rfl .nil .nil (At.keep (ts := [2, 3]) (ids := [2, 3]) rfl rfl ?_)
  refine At.thenC ?_
  refine W.seq ?_
  obtain ⟨y1, hy2, H⟩ := of_bindO H
  refine W.region env [] [⟨.int .i64 (y1), [], 0, []⟩] rfl rfl rfl .nil (.free (c_gasolierref03_asked fuel p0 p1.From p1.At hy2) .nil) (At.keep (ts := [2, 3, 5]) (ids := [2, 3]) rfl rfl ?_)
  refine At.thenC ?_
  refine W.seq ?_
  refine W.seq ?_
  refine W.region env [] [] rfl rfl rfl .nil .nil (At.keep (ts := [2, 3, 5, 13]) (ids := [2, 3]) rfl rfl ?_)
  refine At.thenC ?_
  refine W.cond rfl (fun hb3 => ?_) (fun hb3 => ?_)
  · have H := of_true H hb3
    refine W.seq ?_
    refine W.region env [] [] rfl rfl rfl .nil .nil (At.keep (ts := [4]) (ids := []) rfl rfl ?_)
    refine At.thenC ?_
    refine W.ret ?_
    refine At.rthen ?_
    cases H
    exact At.ret env.ty rfl rfl (fun q hq => by cases hq) (.refl _) hval
  · have H := of_false H hb3
    refine W.skip ?_
    refine At.thenC ?_
    refine W.seq ?_
    refine W.seq ?_
    obtain ⟨y4, hy5, H⟩ := of_bindO H
    refine W.region env [] [⟨.bool (y4), [], 0, []⟩] rfl rfl rfl .nil (.free (c_gasolierref03_isPlace p0 p1.To hy5) .nil) (At.keep (ts := [19]) (ids := []) rfl rfl ?_)
    refine At.thenC ?_
    refine W.cond rfl (fun hb6 => ?_) (fun hb6 => ?_)
    · have H := of_true H hb6
      refine W.seq ?_
      refine W.region env [] [] rfl rfl rfl .nil .nil (At.keep (ts := [4]) (ids := []) rfl rfl ?_)
      refine At.thenC ?_
      refine W.ret ?_
      refine At.rthen ?_
      cases H
      exact At.ret env.ty rfl rfl (fun q hq => by cases hq) (.refl _) hval
    · have H := of_false H hb6
      refine W.skip ?_
      refine At.thenC ?_
      refine W.seq ?_
      refine W.region env [] [] rfl rfl rfl .nil .nil (At.keep (ts := [4]) (ids := []) rfl rfl ?_)
      refine At.thenC ?_
      refine W.ret ?_
      cases H
      exact At.ret env.ty rfl rfl (fun q hq => by cases hq) (.refl _) hval

theorem c_gasolierref03_Least (fuel : Nat) (p0 : Chart) (p1 : Bool) {r : (List Int)} (H : gasolierref03_Least fuel p0 p1 = some r) : Ctr Try.prog 25 [.agg [.int .i64 (p0.Places), roL 7 enc_Way p0.Ways], .bool (p1)] (roL 1 enc_Int r) := by
  unfold gasolierref03_Least at H
  refine Ctr.of_body (N := 36) Try.func25 (by kernel_rfl) (c := _) rfl Try.ntmps25 rfl (fun w0 h0 hval => ?_)
  refine W.seq ?_
  refine W.region env [] [] rfl rfl rfl .nil .nil (At.keep (ts := [1, 2]) (ids := [2]) rfl rfl ?_)
  refine At.thenC ?_
  refine W.seq ?_
  refine W.region env [] [] rfl rfl rfl .nil .nil (At.keep (ts := [1, 2, 5]) (ids := [2]) rfl rfl ?_)
  refine At.thenC ?_
  refine W.seq ?_
  refine W.seq ?_
  refine W.region env [] [] rfl rfl rfl .nil .nil (At.keep (ts := [1, 2, 5, 6]) (ids := [2]) rfl rfl ?_)
  refine At.thenC ?_
  refine W.block ?_
  refine At.nilOwn 5 505 3 1 (e := fun i => enc_Int (([] : List Int).getD i default)) rfl rfl ?_
  refine At.keep (ts := [1, 2, 5, 6]) (ids := [2, 505]) rfl rfl ?_
  refine W.loopGo H (fun (s1 : Int × (List Int)) => [(1, .bool (p1)), (2, .lp 2 0), (5, .buf 505 (s1.2).length), (6, .int .i64 (s1.1))]) (fun (s1 : Int × (List Int)) => [(2, .cells [.int .i64 (p0.Places), roL 7 enc_Way p0.Ways]), (505, bufL 3 1 enc_Int s1.2)]) (.cons (.of_eq (by first | rfl | (simp; done) | omega | (simp; omega))) (.cons (.of_eq (by first | rfl | (simp; done) | omega | (simp; omega))) (.cons (.of_eq (by refine bufEq ?_; first | (simp [copyAt]; done) | omega | (simp [copyAt]; omega) | rfl)) (.cons (.of_eq (by first | rfl | (simp; done) | omega | (simp; omega))) .nil)))) (.cons (.of_eq (by first | rfl | (simp; done) | omega | (simp; omega))) (.cons (.of_eq (by first | rfl | (simp; done) | omega | (simp; omega))) .nil)) (fun k1 s1 H K0 hK1 => ?_)
  refine W.seq ?_
  refine W.seq ?_
  refine W.region env [] [] rfl rfl rfl .nil .nil (At.keep (ts := [1, 2, 5, 6, 11]) (ids := [2, 505]) rfl rfl ?_)
  refine At.thenC ?_
  refine W.cond rfl (fun hb2 => ?_) (fun hb2 => ?_)
  · have H := of_true H hb2
    refine W.skip ?_
    refine At.thenC ?_
    refine W.seq ?_
    refine W.block ?_
    refine W.seq ?_
    refine W.region env [] [] rfl rfl rfl .nil .nil (At.keep (ts := [1, 2, 5, 6, 14]) (ids := [2, 505]) rfl rfl ?_)
    refine At.thenC ?_
    refine W.cond rfl (fun hb3 => ?_) (fun hb3 => ?_)
    · have H := of_true H hb3
      obtain ⟨hc4, H⟩ := of_must H
      obtain ⟨hc5, H⟩ := of_must H
      refine W.region env [] [] rfl rfl rfl (.cons hc4 (.cons (⟨by first | rfl | (simp; done) | omega | (simp; omega), by have := hc5; first | simpa using this | (unfold room at this ⊢; simp at this ⊢; omega)⟩) .nil)) .nil (At.keep (ts := [1, 2, 5, 6]) (ids := [2, 505]) rfl rfl ?_)
      refine At.convM (.cons (.refl _) (.cons (y := bufL 3 1 enc_Int (s1.2 ++ ([(p0.Ways.getD (s1.1).toNat default).Takes.Hi] : List Int))) (BSim.seg (Seg.push (Seg.refl enc_Int _) (Seg.lit (f := enc_Int) (sz := 1) ([(p0.Ways.getD (s1.1).toNat default).Takes.Hi] : List Int) rfl rfl (fun _ => rfl)))) .nil)) ?_
      refine At.inb ?_
      refine At.thenC ?_
      obtain ⟨hc6, H⟩ := of_must H
      refine W.region env [] [] rfl rfl rfl (.cons hc6 .nil) .nil (At.keep (ts := [1, 2, 5, 6]) (ids := [2, 505]) rfl rfl ?_)
      refine At.thenK (At.keep (ts := [1, 2, 5, 6]) (ids := [2, 505]) rfl rfl ?_)
      exact At.conv (.cons (.of_eq (by first | rfl | (simp; done) | omega | (simp; omega))) (.cons (.of_eq (by first | rfl | (simp; done) | omega | (simp; omega))) (.cons (.of_eq (by refine bufEq ?_; first | (simp [copyAt]; done) | omega | (simp [copyAt]; omega) | rfl)) (.cons (.of_eq (by first | rfl | (simp; done) | omega | (simp; omega))) .nil)))) (.cons (.of_eq (by first | rfl | (simp; done) | omega | (simp; omega))) (.cons (.of_eq (by first | rfl | (simp; done) | omega | (simp; omega))) .nil)) (hK1 ((s1.1 + 1), (s1.2 ++ ([(p0.Ways.getD (s1.1).toNat default).Takes.Hi] : List Int))) H)
    · have H := of_false H hb3
      obtain ⟨hc7, H⟩ := of_must H
      obtain ⟨hc8, H⟩ := of_must H
      refine W.region env [] [] rfl rfl rfl (.cons hc7 (.cons (⟨by first | rfl | (simp; done) | omega | (simp; omega), by have := hc8; first | simpa using this | (unfold room at this ⊢; simp at this ⊢; omega)⟩) .nil)) .nil (At.keep (ts := [1, 2, 5, 6]) (ids := [2, 505]) rfl rfl ?_)
      refine At.convM (.cons (.refl _) (.cons (y := bufL 3 1 enc_Int (s1.2 ++ ([(p0.Ways.getD (s1.1).toNat default).Takes.Lo] : List Int))) (BSim.seg (Seg.push (Seg.refl enc_Int _) (Seg.lit (f := enc_Int) (sz := 1) ([(p0.Ways.getD (s1.1).toNat default).Takes.Lo] : List Int) rfl rfl (fun _ => rfl)))) .nil)) ?_
      refine At.inb ?_
      refine At.thenC ?_
      obtain ⟨hc9, H⟩ := of_must H
      refine W.region env [] [] rfl rfl rfl (.cons hc9 .nil) .nil (At.keep (ts := [1, 2, 5, 6]) (ids := [2, 505]) rfl rfl ?_)
      refine At.thenK (At.keep (ts := [1, 2, 5, 6]) (ids := [2, 505]) rfl rfl ?_)
      exact At.conv (.cons (.of_eq (by first | rfl | (simp; done) | omega | (simp; omega))) (.cons (.of_eq (by first | rfl | (simp; done) | omega | (simp; omega))) (.cons (.of_eq (by refine bufEq ?_; first | (simp [copyAt]; done) | omega | (simp [copyAt]; omega) | rfl)) (.cons (.of_eq (by first | rfl | (simp; done) | omega | (simp; omega))) .nil)))) (.cons (.of_eq (by first | rfl | (simp; done) | omega | (simp; omega))) (.cons (.of_eq (by first | rfl | (simp; done) | omega | (simp; omega))) .nil)) (hK1 ((s1.1 + 1), (s1.2 ++ ([(p0.Ways.getD (s1.1).toNat default).Takes.Lo] : List Int))) H)
  · have H := of_false H hb2
    refine W.exit ?_
    refine At.xthen ?_
    refine At.xthen ?_
    refine At.xhere ?_
    refine At.thenC ?_
    refine W.seq ?_
    refine W.region env [] [] rfl rfl rfl .nil .nil (At.keep (ts := [4]) (ids := [505]) rfl rfl ?_)
    refine At.thenC ?_
    refine W.ret ?_
    cases H
    exact At.ret env.ty rfl rfl (fun q hq => by cases hq; exact (by first | rfl | (simp; done) | omega | (simp; omega))) (.refl _) hval

theorem c_gasolierref03_begun (p0 : Way) (p1 : Int) {r : Int} (H : gasolierref03_begun p0 p1 = some r) : Ctr Try.prog 90 [.agg [.int .i64 (p0.From), .int .i64 (p0.To), .int .i64 (p0.Takes.Lo), .int .i64 (p0.Takes.Hi), .int .i64 (p0.Open.Lo), .int .i64 (p0.Open.Hi), .int .i64 (p0.Every)], .int .i64 (p1)] (.int .i64 (r)) := by
  unfold gasolierref03_begun at H
  refine Ctr.of_body (N := 39) Try.func90 (by kernel_rfl) (c := _) rfl Try.ntmps90 rfl (fun w0 h0 hval => ?_)
  refine W.seq ?_
  refine W.region env [] [] rfl rfl rfl .nil .nil (At.keep (ts := [1, 2]) (ids := [2]) rfl rfl ?_)
  refine At.thenC ?_
  refine W.seq ?_
  refine W.region env [] [] rfl rfl rfl .nil .nil (At.keep (ts := [2, 5]) (ids := [2]) rfl rfl ?_)
  refine At.thenC ?_
  refine W.seq ?_
  refine W.seq ?_
  refine W.region env [] [] rfl rfl rfl .nil .nil (At.keep (ts := [2, 5, 13]) (ids := [2]) rfl rfl ?_)
  refine At.thenC ?_
  refine W.joinC H (fun (s1 : Int) => [(2, .lp 2 0), (5, .int .i64 (s1))]) (fun (s1 : Int) => [(2, .cells [.int .i64 (p0.From), .int .i64 (p0.To), .int .i64 (p0.Takes.Lo), .int .i64 (p0.Takes.Hi), .int .i64 (p0.Open.Lo), .int .i64 (p0.Open.Hi), .int .i64 (p0.Every)])]) (fun s1 H => ?_) (fun k1 H hK1 => ?_)
  · refine W.seq ?_
    refine W.seq ?_
    refine W.region env [] [] rfl rfl rfl .nil .nil (At.keep (ts := [5, 37]) (ids := []) rfl rfl ?_)
    refine At.thenC ?_
    refine W.cond rfl (fun hb2 => ?_) (fun hb2 => ?_)
    · have H := of_true H hb2
      refine W.seq ?_
      refine W.region env [] [] rfl rfl rfl .nil .nil (At.keep (ts := [4]) (ids := []) rfl rfl ?_)
      refine At.thenC ?_
      refine W.ret ?_
      refine At.rthen ?_
      cases H
      exact At.ret env.ty rfl rfl (fun q hq => by cases hq) (.refl _) hval
    · have H := of_false H hb2
      refine W.skip ?_
      refine At.thenC ?_
      refine W.seq ?_
      refine W.region env [] [] rfl rfl rfl .nil .nil (At.keep (ts := [4]) (ids := []) rfl rfl ?_)
      refine At.thenC ?_
      refine W.ret ?_
      cases H
      exact At.ret env.ty rfl rfl (fun q hq => by cases hq) (.refl _) hval
  · refine W.cond rfl (fun hb3 => ?_) (fun hb3 => ?_)
    · have H := of_true H hb3
      obtain ⟨hc4, H⟩ := of_must H
      obtain ⟨hc5, H⟩ := of_must H
      obtain ⟨hc6, H⟩ := of_must H
      obtain ⟨hc7, H⟩ := of_must H
      obtain ⟨hc8, H⟩ := of_must H
      obtain ⟨hc9, H⟩ := of_must H
      refine W.region env [] [] rfl rfl rfl (.cons hc4 (.cons hc5 (.cons hc6 (.cons hc7 (.cons hc8 (.cons hc9 .nil)))))) .nil (At.keep (ts := [2, 5]) (ids := [2]) rfl rfl ?_)
      refine At.thenK (At.keep (ts := [2, 5]) (ids := [2]) rfl rfl ?_)
      exact At.conv (.cons (.of_eq (by first | rfl | (simp; done) | omega | (simp; omega))) (.cons (.of_eq (by first | rfl | (simp; done) | omega | (simp; omega))) .nil)) (.cons (.of_eq (by first | rfl | (simp; done) | omega | (simp; omega))) .nil) (hK1 (p0.Open.Lo + ((Int.tdiv ((((max p1 p0.Open.Lo) - p0.Open.Lo) + p0.Every) - 1) p0.Every) * p0.Every)) H)
    · have H := of_false H hb3
      refine W.skip ?_
      refine At.thenK (At.keep (ts := [2, 5]) (ids := [2]) rfl rfl ?_)
      exact At.conv (.cons (.of_eq (by first | rfl | (simp; done) | omega | (simp; omega))) (.cons (.of_eq (by first | rfl | (simp; done) | omega | (simp; omega))) .nil)) (.cons (.of_eq (by first | rfl | (simp; done) | omega | (simp; omega))) .nil) (hK1 (max p1 p0.Open.Lo) H)

theorem c_gasolierref03_Ends (p0 : Way) (p1 : Int) (p2 : Int) {r : Int} (H : gasolierref03_Ends p0 p1 p2 = some r) : Ctr Try.prog 98 [.agg [.int .i64 (p0.From), .int .i64 (p0.To), .int .i64 (p0.Takes.Lo), .int .i64 (p0.Takes.Hi), .int .i64 (p0.Open.Lo), .int .i64 (p0.Open.Hi), .int .i64 (p0.Every)], .int .i64 (p1), .int .i64 (p2)] (.int .i64 (r)) := by
  unfold gasolierref03_Ends at H
  refine Ctr.of_body (N := 22) Try.func98 (by kernel_rfl) (c := _) rfl Try.ntmps98 rfl (fun w0 h0 hval => ?_)
  refine W.seq ?_
  refine W.region env [] [] rfl rfl rfl .nil .nil (At.keep (ts := [1, 2, 3]) (ids := [3]) rfl rfl ?_)
  refine At.thenC ?_
  refine W.seq ?_
  obtain ⟨y1, hy2, H⟩ := of_bindO H
  refine W.region env [] [⟨.int .i64 (y1), [], 0, []⟩] rfl rfl rfl .nil (.free (c_gasolierref03_begun p0 p2 hy2) .nil) (At.keep (ts := [1, 7]) (ids := []) rfl rfl ?_)
  refine At.thenC ?_
  refine W.seq ?_
  refine W.seq ?_
  obtain ⟨hc3, H⟩ := of_must H
  refine W.region env [] [] rfl rfl rfl (.cons hc3 (.cons (fun h => h) (.cons (fun h => h) (.cons (fun h => h) (.cons (fun h => by rw [h]; rfl) .nil))))) .nil (At.keep (ts := [1, 7, 18]) (ids := []) rfl rfl ?_)
  refine At.thenC ?_
  refine W.cond rfl (fun hb4 => ?_) (fun hb4 => ?_)
  · have H := of_true H hb4
    refine W.seq ?_
    refine W.region env [] [] rfl rfl rfl .nil .nil (At.keep (ts := [6]) (ids := []) rfl rfl ?_)
    refine At.thenC ?_
    refine W.ret ?_
    refine At.rthen ?_
    cases H
    exact At.ret env.ty rfl rfl (fun q hq => by cases hq) (.refl _) hval
  · have H := of_false H hb4
    refine W.skip ?_
    refine At.thenC ?_
    refine W.seq ?_
    obtain ⟨hc5, H⟩ := of_must H
    refine W.region env [] [] rfl rfl rfl (.cons hc5 .nil) .nil (At.keep (ts := [6]) (ids := []) rfl rfl ?_)
    refine At.thenC ?_
    refine W.ret ?_
    cases H
    exact At.ret env.ty rfl rfl (fun q hq => by cases hq) (.refl _) hval

theorem c_gasolierref03_reached (fuel : Nat) (p0 : Chart) (p1 : (List Int)) (p2 : Trip) {r : (List Int)} (H : gasolierref03_reached fuel p0 p1 p2 = some r) : Ctr Try.prog 92 [.agg [.int .i64 (p0.Places), roL 7 enc_Way p0.Ways], roL 1 enc_Int p1, .agg [.int .i64 (p2.From), .int .i64 (p2.To), .int .i64 (p2.At)]] (roL 1 enc_Int r) := by
  unfold gasolierref03_reached at H
  refine Ctr.of_body (N := 86) Try.func92 (by kernel_rfl) (c := _) rfl Try.ntmps92 rfl (fun w0 h0 hval => ?_)
  refine W.seq ?_
  refine W.region env [] [] rfl rfl rfl .nil .nil (At.keep (ts := [1, 3, 5]) (ids := [3, 5]) rfl rfl ?_)
  refine At.thenC ?_
  refine W.seq ?_
  obtain ⟨hc1, H⟩ := of_must H
  refine W.region env [] [] rfl rfl rfl (.cons hc1 .nil) .nil (At.keep (ts := [1, 3, 5, 7]) (ids := [3, 5, 15]) rfl rfl ?_)
  refine At.convM (.cons (.refl _) (.cons (.refl _) (.cons (y := bufL 3 1 enc_Int (List.replicate (p0.Places).toNat (0 : Int))) (BSim.seg (Seg.made (f := enc_Int) 0 rfl)) .nil))) ?_
  refine At.thenC ?_
  refine W.seq ?_
  refine W.seq ?_
  refine W.region env [] [] rfl rfl rfl .nil .nil (At.keep (ts := [1, 3, 5, 7, 8]) (ids := [3, 5, 15]) rfl rfl ?_)
  refine At.thenC ?_
  refine W.block ?_
  refine At.keep (ts := [1, 3, 5, 7, 8]) (ids := [3, 5, 15]) rfl rfl ?_
  refine W.loopGo H (fun (s2 : Int × (List Int)) => [(1, roL 1 enc_Int p1), (3, .lp 3 0), (5, .lp 5 0), (7, .buf 15 (s2.2).length), (8, .int .i64 (s2.1))]) (fun (s2 : Int × (List Int)) => [(3, .cells [.int .i64 (p0.Places), roL 7 enc_Way p0.Ways]), (5, .cells [.int .i64 (p2.From), .int .i64 (p2.To), .int .i64 (p2.At)]), (15, bufL 3 1 enc_Int s2.2)]) (.cons (.of_eq (by first | rfl | (simp; done) | omega | (simp; omega))) (.cons (.of_eq (by first | rfl | (simp; done) | omega | (simp; omega))) (.cons (.of_eq (by first | rfl | (simp; done) | omega | (simp; omega))) (.cons (.of_eq (by refine bufEq ?_; first | (simp [copyAt]; done) | omega | (simp [copyAt]; omega) | rfl)) (.cons (.of_eq (by first | rfl | (simp; done) | omega | (simp; omega))) .nil))))) (.cons (.of_eq (by first | rfl | (simp; done) | omega | (simp; omega))) (.cons (.of_eq (by first | rfl | (simp; done) | omega | (simp; omega))) (.cons (.of_eq (by first | rfl | (simp; done) | omega | (simp; omega))) .nil))) (fun k2 s2 H K0 hK2 => ?_)
  refine W.seq ?_
  refine W.seq ?_
  refine W.region env [] [] rfl rfl rfl .nil .nil (At.keep (ts := [1, 3, 5, 7, 8, 19]) (ids := [3, 5, 15]) rfl rfl ?_)
  refine At.thenC ?_
  refine W.cond rfl (fun hb3 => ?_) (fun hb3 => ?_)
  · have H := of_true H hb3
    refine W.skip ?_
    refine At.thenC ?_
    refine W.seq ?_
    refine W.block ?_
    obtain ⟨hc4, H⟩ := of_must H
    refine W.region env [] [] rfl rfl rfl (.cons (⟨by first | rfl | (simp; done) | omega | (simp; omega), hc4⟩) (.cons (⟨by first | rfl | (simp; done) | omega | (simp; omega), (by have := hc4; omega)⟩) .nil)) .nil (At.keep (ts := [1, 3, 5, 7, 8]) (ids := [3, 5, 15]) rfl rfl ?_)
    refine At.convM (.cons (.refl _) (.cons (.refl _) (.cons (y := bufL 3 1 enc_Int (s2.2.set (s2.1).toNat (-1))) (BSim.seg (Seg.set (Seg.refl enc_Int _) (-1) rfl)) .nil))) ?_
    refine At.inb ?_
    refine At.thenC ?_
    obtain ⟨hc5, H⟩ := of_must H
    refine W.region env [] [] rfl rfl rfl (.cons hc5 .nil) .nil (At.keep (ts := [1, 3, 5, 7, 8]) (ids := [3, 5, 15]) rfl rfl ?_)
    refine At.thenK (At.keep (ts := [1, 3, 5, 7, 8]) (ids := [3, 5, 15]) rfl rfl ?_)
    exact At.conv (.cons (.of_eq (by first | rfl | (simp; done) | omega | (simp; omega))) (.cons (.of_eq (by first | rfl | (simp; done) | omega | (simp; omega))) (.cons (.of_eq (by first | rfl | (simp; done) | omega | (simp; omega))) (.cons (.of_eq (by refine bufEq ?_; first | (simp [copyAt]; done) | omega | (simp [copyAt]; omega) | rfl)) (.cons (.of_eq (by first | rfl | (simp; done) | omega | (simp; omega))) .nil))))) (.cons (.of_eq (by first | rfl | (simp; done) | omega | (simp; omega))) (.cons (.of_eq (by first | rfl | (simp; done) | omega | (simp; omega))) (.cons (.of_eq (by first | rfl | (simp; done) | omega | (simp; omega))) .nil))) (hK2 ((s2.1 + 1), (s2.2.set (s2.1).toNat (-1))) H)
  · have H := of_false H hb3
    refine W.exit ?_
    refine At.xthen ?_
    refine At.xthen ?_
    refine At.xhere ?_
    refine At.thenC ?_
    refine W.seq ?_
    obtain ⟨hc6, H⟩ := of_must H
    refine W.region env [] [] rfl rfl rfl (.cons (⟨by first | rfl | (simp; done) | omega | (simp; omega), hc6⟩) (.cons (⟨by first | rfl | (simp; done) | omega | (simp; omega), (by have := hc6; omega)⟩) .nil)) .nil (At.keep (ts := [1, 3, 7]) (ids := [3, 15]) rfl rfl ?_)
    refine At.convM (.cons (.refl _) (.cons (y := bufL 3 1 enc_Int (s2.2.set (p2.From).toNat p2.At)) (BSim.seg (Seg.set (Seg.refl enc_Int _) p2.At rfl)) .nil)) ?_
    refine At.thenC ?_
    refine W.seq ?_
    refine W.region env [] [] rfl rfl rfl .nil .nil (At.keep (ts := [1, 3, 7, 9]) (ids := [3, 15]) rfl rfl ?_)
    refine At.thenC ?_
    refine W.seq ?_
    refine W.block ?_
    refine At.keep (ts := [1, 3, 7, 9]) (ids := [3, 15]) rfl rfl ?_
    refine W.loopGo H (fun (s7 : Bool × (List Int)) => [(1, roL 1 enc_Int p1), (3, .lp 3 0), (7, .buf 15 (s7.2).length), (9, .bool (s7.1))]) (fun (s7 : Bool × (List Int)) => [(3, .cells [.int .i64 (p0.Places), roL 7 enc_Way p0.Ways]), (15, bufL 3 1 enc_Int s7.2)]) (.cons (.of_eq (by first | rfl | (simp; done) | omega | (simp; omega))) (.cons (.of_eq (by first | rfl | (simp; done) | omega | (simp; omega))) (.cons (.of_eq (by refine bufEq ?_; first | (simp [copyAt]; done) | omega | (simp [copyAt]; omega) | rfl)) (.cons (.of_eq (by first | rfl | (simp; done) | omega | (simp; omega))) .nil)))) (.cons (.of_eq (by first | rfl | (simp; done) | omega | (simp; omega))) (.cons (.of_eq (by first | rfl | (simp; done) | omega | (simp; omega))) .nil)) (fun k7 s7 H K0 hK7 => ?_)
    refine W.seq ?_
    refine W.seq ?_
    refine W.region env [] [] rfl rfl rfl .nil .nil (At.keep (ts := [1, 3, 7, 31]) (ids := [3, 15]) rfl rfl ?_)
    refine At.thenC ?_
    refine W.cond rfl (fun hb8 => ?_) (fun hb8 => ?_)
    · have H := of_true H hb8
      refine W.skip ?_
      refine At.thenC ?_
      refine W.block ?_
      refine W.seq ?_
      refine W.region env [] [] rfl rfl rfl .nil .nil (At.keep (ts := [1, 3, 7, 9]) (ids := [3, 15]) rfl rfl ?_)
      refine At.thenC ?_
      refine W.seq ?_
      refine W.region env [] [] rfl rfl rfl .nil .nil (At.keep (ts := [1, 3, 7, 9, 10]) (ids := [3, 15]) rfl rfl ?_)
      refine At.thenC ?_
      refine W.block ?_
      refine At.keep (ts := [1, 3, 7, 9, 10]) (ids := [3, 15]) rfl rfl ?_
      refine W.loopGo H (fun (s9 : Int × Bool × (List Int)) => [(1, roL 1 enc_Int p1), (3, .lp 3 0), (7, .buf 15 (s9.2.2).length), (9, .bool (s9.2.1)), (10, .int .i64 (s9.1))]) (fun (s9 : Int × Bool × (List Int)) => [(3, .cells [.int .i64 (p0.Places), roL 7 enc_Way p0.Ways]), (15, bufL 3 1 enc_Int s9.2.2)]) (.cons (.of_eq (by first | rfl | (simp; done) | omega | (simp; omega))) (.cons (.of_eq (by first | rfl | (simp; done) | omega | (simp; omega))) (.cons (.of_eq (by refine bufEq ?_; first | (simp [copyAt]; done) | omega | (simp [copyAt]; omega) | rfl)) (.cons (.of_eq (by first | rfl | (simp; done) | omega | (simp; omega))) (.cons (.of_eq (by first | rfl | (simp; done) | omega | (simp; omega))) .nil))))) (.cons (.of_eq (by first | rfl | (simp; done) | omega | (simp; omega))) (.cons (.of_eq (by first | rfl | (simp; done) | omega | (simp; omega))) .nil)) (fun k9 s9 H K0 hK9 => ?_)
      refine W.seq ?_
      refine W.seq ?_
      refine W.region env [] [] rfl rfl rfl .nil .nil (At.keep (ts := [1, 3, 7, 9, 10, 36]) (ids := [3, 15]) rfl rfl ?_)
      refine At.thenC ?_
      refine W.cond rfl (fun hb10 => ?_) (fun hb10 => ?_)
      · have H := of_true H hb10
        refine W.skip ?_
        refine At.thenC ?_
        refine W.seq ?_
        refine W.joinC H (fun (s11 : Bool × (List Int)) => [(1, roL 1 enc_Int p1), (3, .lp 3 0), (7, .buf 15 (s11.2).length), (9, .bool (s11.1)), (10, .int .i64 (s9.1))]) (fun (s11 : Bool × (List Int)) => [(3, .cells [.int .i64 (p0.Places), roL 7 enc_Way p0.Ways]), (15, bufL 3 1 enc_Int s11.2)]) (fun s11 H => ?_) (fun k11 H hK11 => ?_)
        · obtain ⟨hc12, H⟩ := of_must H
          refine W.region env [] [] rfl rfl rfl (.cons hc12 .nil) .nil (At.keep (ts := [1, 3, 7, 9, 10]) (ids := [3, 15]) rfl rfl ?_)
          refine At.thenK (At.keep (ts := [1, 3, 7, 9, 10]) (ids := [3, 15]) rfl rfl ?_)
          exact At.conv (.cons (.of_eq (by first | rfl | (simp; done) | omega | (simp; omega))) (.cons (.of_eq (by first | rfl | (simp; done) | omega | (simp; omega))) (.cons (.of_eq (by refine bufEq ?_; first | (simp [copyAt]; done) | omega | (simp [copyAt]; omega) | rfl)) (.cons (.of_eq (by first | rfl | (simp; done) | omega | (simp; omega))) (.cons (.of_eq (by first | rfl | (simp; done) | omega | (simp; omega))) .nil))))) (.cons (.of_eq (by first | rfl | (simp; done) | omega | (simp; omega))) (.cons (.of_eq (by first | rfl | (simp; done) | omega | (simp; omega))) .nil)) (hK9 ((s9.1 + 1), s11.1, s11.2) H)
        · refine W.block ?_
          refine W.seq ?_
          obtain ⟨hc13, H⟩ := of_must H
          refine W.region env [] [] rfl rfl rfl (.cons hc13 .nil) .nil (At.keep (ts := [1, 3, 7, 9, 10, 11]) (ids := [3, 11, 15]) rfl rfl ?_)
          refine At.thenC ?_
          refine W.seq ?_
          refine W.seq ?_
          obtain ⟨hc14, H⟩ := of_must H
          refine W.region env [] [] rfl rfl rfl (.cons (⟨by first | rfl | (simp; done) | omega | (simp; omega), hc14⟩) (.cons (⟨by first | rfl | (simp; done) | omega | (simp; omega), (by have := hc14; omega)⟩) .nil)) .nil (At.keep (ts := [1, 3, 7, 9, 10, 11, 49]) (ids := [3, 11, 15]) rfl rfl ?_)
          refine At.thenC ?_
          refine W.cond rfl (fun hb15 => ?_) (fun hb15 => ?_)
          · have H := of_true H hb15
            refine W.exit ?_
            refine At.xthen ?_
            refine At.xhere ?_
            refine At.thenK (At.keep (ts := [1, 3, 7, 9, 10]) (ids := [3, 15]) rfl rfl ?_)
            exact At.conv (.cons (.of_eq (by first | rfl | (simp; done) | omega | (simp; omega))) (.cons (.of_eq (by first | rfl | (simp; done) | omega | (simp; omega))) (.cons (.of_eq (by refine bufEq ?_; first | (simp [copyAt]; done) | omega | (simp [copyAt]; omega) | rfl)) (.cons (.of_eq (by first | rfl | (simp; done) | omega | (simp; omega))) (.cons (.of_eq (by first | rfl | (simp; done) | omega | (simp; omega))) .nil))))) (.cons (.of_eq (by first | rfl | (simp; done) | omega | (simp; omega))) (.cons (.of_eq (by first | rfl | (simp; done) | omega | (simp; omega))) .nil)) (hK11 (s9.2.1, s9.2.2) H)
          · have H := of_false H hb15
            refine W.skip ?_
            refine At.thenC ?_
            refine W.seq ?_
            obtain ⟨hc16, H⟩ := of_must H
            obtain ⟨hc17, H⟩ := of_must H
            obtain ⟨y18, hy19, H⟩ := of_bindO H
            refine W.region env [] [⟨.int .i64 (y18), [], 0, []⟩] rfl rfl rfl (.cons hc16 (.cons (⟨by first | rfl | (simp; done) | omega | (simp; omega), hc17⟩) (.cons (⟨by first | rfl | (simp; done) | omega | (simp; omega), (by have := hc17; omega)⟩) .nil))) (.free (c_gasolierref03_Ends (p0.Ways.getD (s9.1).toNat default) (p1.getD (s9.1).toNat default) (s9.2.2.getD ((p0.Ways.getD (s9.1).toNat default).From).toNat default) hy19) .nil) (At.keep (ts := [1, 3, 7, 9, 10, 11, 12]) (ids := [3, 11, 15]) rfl rfl ?_)
            refine At.thenC ?_
            refine W.seq ?_
            obtain ⟨hc20, H⟩ := of_must H
            obtain ⟨hc21, H⟩ := of_must H
            refine W.region env [] [] rfl rfl rfl (.cons (fun h => h) (.cons (fun hW => ⟨by first | rfl | (simp; done) | omega | (simp; omega), hc20 hW⟩) (.cons (fun h => h) (.cons (fun h => h) (.cons (fun hW => (⟨by first | rfl | (simp; done) | omega | (simp; omega), (by have := hc20 hW; omega)⟩)) (.cons (fun h => h) (.cons (fun h => h) (.cons (fun h => h) (.cons (fun h => h) (.cons (fun hW => ⟨by first | rfl | (simp; done) | omega | (simp; omega), hc21 hW⟩) (.cons (fun h => h) (.cons (fun h => h) (.cons (fun hW => (⟨by first | rfl | (simp; done) | omega | (simp; omega), (by have := hc21 hW; omega)⟩)) (.cons (fun h => h) (.cons (fun h => h) (.cons (fun h => h) (.cons (fun h => h) (.cons (fun hW h => by revert hW h; first | (simp +contextual; done) | grind) (.cons (fun h => h) .nil))))))))))))))))))) .nil (At.keep (ts := [1, 3, 7, 9, 10, 11, 12, 79]) (ids := [3, 11, 15]) rfl rfl ?_)
            refine At.thenC ?_
            refine W.cond rfl (fun hb22 => ?_) (fun hb22 => ?_)
            · have H := of_true H hb22
              refine W.seq ?_
              obtain ⟨hc23, H⟩ := of_must H
              refine W.region env [] [] rfl rfl rfl (.cons (⟨by first | rfl | (simp; done) | omega | (simp; omega), hc23⟩) (.cons (⟨by first | rfl | (simp; done) | omega | (simp; omega), (by have := hc23; omega)⟩) .nil)) .nil (At.keep (ts := [1, 3, 7, 10]) (ids := [3, 15]) rfl rfl ?_)
              refine At.convM (.cons (.refl _) (.cons (y := bufL 3 1 enc_Int (s9.2.2.set ((p0.Ways.getD (s9.1).toNat default).To).toNat y18)) (BSim.seg (Seg.set (Seg.refl enc_Int _) y18 rfl)) .nil)) ?_
              refine At.thenC ?_
              refine W.region env [] [] rfl rfl rfl .nil .nil (At.keep (ts := [1, 3, 7, 9, 10]) (ids := [3, 15]) rfl rfl ?_)
              refine At.inb ?_
              refine At.thenK (At.keep (ts := [1, 3, 7, 9, 10]) (ids := [3, 15]) rfl rfl ?_)
              exact At.conv (.cons (.of_eq (by first | rfl | (simp; done) | omega | (simp; omega))) (.cons (.of_eq (by first | rfl | (simp; done) | omega | (simp; omega))) (.cons (.of_eq (by refine bufEq ?_; first | (simp [copyAt]; done) | omega | (simp [copyAt]; omega) | rfl)) (.cons (.of_eq (by first | rfl | (simp; done) | omega | (simp; omega))) (.cons (.of_eq (by first | rfl | (simp; done) | omega | (simp; omega))) .nil))))) (.cons (.of_eq (by first | rfl | (simp; done) | omega | (simp; omega))) (.cons (.of_eq (by first | rfl | (simp; done) | omega | (simp; omega))) .nil)) (hK11 (true, (s9.2.2.set ((p0.Ways.getD (s9.1).toNat default).To).toNat y18)) H)
            · have H := of_false H hb22
              refine W.skip ?_
              refine At.inb ?_
              refine At.thenK (At.keep (ts := [1, 3, 7, 9, 10]) (ids := [3, 15]) rfl rfl ?_)
              exact At.conv (.cons (.of_eq (by first | rfl | (simp; done) | omega | (simp; omega))) (.cons (.of_eq (by first | rfl | (simp; done) | omega | (simp; omega))) (.cons (.of_eq (by refine bufEq ?_; first | (simp [copyAt]; done) | omega | (simp [copyAt]; omega) | rfl)) (.cons (.of_eq (by first | rfl | (simp; done) | omega | (simp; omega))) (.cons (.of_eq (by first | rfl | (simp; done) | omega | (simp; omega))) .nil))))) (.cons (.of_eq (by first | rfl | (simp; done) | omega | (simp; omega))) (.cons (.of_eq (by first | rfl | (simp; done) | omega | (simp; omega))) .nil)) (hK11 (s9.2.1, s9.2.2) H)
      · have H := of_false H hb10
        refine W.exit ?_
        refine At.xthen ?_
        refine At.xthen ?_
        refine At.xhere ?_
        refine At.inb ?_
        refine At.thenK (At.keep (ts := [1, 3, 7, 9]) (ids := [3, 15]) rfl rfl ?_)
        exact At.conv (.cons (.of_eq (by first | rfl | (simp; done) | omega | (simp; omega))) (.cons (.of_eq (by first | rfl | (simp; done) | omega | (simp; omega))) (.cons (.of_eq (by refine bufEq ?_; first | (simp [copyAt]; done) | omega | (simp [copyAt]; omega) | rfl)) (.cons (.of_eq (by first | rfl | (simp; done) | omega | (simp; omega))) .nil)))) (.cons (.of_eq (by first | rfl | (simp; done) | omega | (simp; omega))) (.cons (.of_eq (by first | rfl | (simp; done) | omega | (simp; omega))) .nil)) (hK7 (s9.2.1, s9.2.2) H)
    · have H := of_false H hb8
      refine W.exit ?_
      refine At.xthen ?_
      refine At.xthen ?_
      refine At.xhere ?_
      refine At.thenC ?_
      refine W.seq ?_
      refine W.region env [] [] rfl rfl rfl .nil .nil (At.keep (ts := [6]) (ids := [15]) rfl rfl ?_)
      refine At.thenC ?_
      refine W.ret ?_
      cases H
      exact At.ret env.ty rfl rfl (fun q hq => by cases hq; exact (by first | rfl | (simp; done) | omega | (simp; omega))) (.refl _) hval

theorem c_gasolierref03_PathError (fuel : Nat) (p0 : Chart) (p1 : Trip) {r : (Int × Int)} (H : gasolierref03_PathError fuel p0 p1 = some r) : Ctr Try.prog 50 [.agg [.int .i64 (p0.Places), roL 7 enc_Way p0.Ways], .agg [.int .i64 (p1.From), .int .i64 (p1.To), .int .i64 (p1.At)]] (.tup [.int .i64 (r.1), .int .i64 (r.2)]) := by
  unfold gasolierref03_PathError at H
  refine Ctr.of_body (N := 26) Try.func50 (by kernel_rfl) (c := _) rfl Try.ntmps50 rfl (fun w0 h0 hval => ?_)
  refine W.seq ?_
  refine W.region env [] [] rfl rfl rfl .nil .nil (At.keep (ts := [2, 3]) (ids := [2, 3]) rfl rfl ?_)
  refine At.thenC ?_
  refine W.seq ?_
  obtain ⟨y1, hy2, H⟩ := of_bindO H
  refine W.region env [] [⟨.int .i64 (y1), [], 0, []⟩] rfl rfl rfl .nil (.free (c_gasolierref03_trip fuel p0 p1 hy2) .nil) (At.keep (ts := [2, 3, 6]) (ids := [2, 3]) rfl rfl ?_)
  refine At.thenC ?_
  refine W.seq ?_
  refine W.seq ?_
  refine W.region env [] [] rfl rfl rfl .nil .nil (At.keep (ts := [2, 3, 6, 12]) (ids := [2, 3]) rfl rfl ?_)
  refine At.thenC ?_
  refine W.cond rfl (fun hb3 => ?_) (fun hb3 => ?_)
  · have H := of_true H hb3
    refine W.seq ?_
    refine W.region env [] [] rfl rfl rfl .nil .nil (At.keep (ts := [4, 5]) (ids := []) rfl rfl ?_)
    refine At.thenC ?_
    refine W.ret ?_
    refine At.rthen ?_
    cases H
    exact At.ret env.ty rfl rfl (fun q hq => by cases hq) (.refl _) hval
  · have H := of_false H hb3
    refine W.skip ?_
    refine At.thenC ?_
    refine W.seq ?_
    obtain ⟨y4, hy5, H⟩ := of_bindO H
    obtain ⟨y6, hy7, H⟩ := of_bindO H
    obtain ⟨hc8, H⟩ := of_must H
    refine W.region env [] [⟨roL 1 enc_Int y4, [], 0, []⟩, ⟨roL 1 enc_Int y6, [], 0, []⟩] rfl rfl rfl (.cons hc8 .nil) (.free (c_gasolierref03_Least fuel p0 true hy5) (.free (c_gasolierref03_reached fuel p0 y4 p1 hy7) .nil)) (At.keep (ts := [7]) (ids := []) rfl rfl ?_)
    refine At.thenC ?_
    refine W.seq ?_
    refine W.seq ?_
    refine W.region env [] [] rfl rfl rfl .nil .nil (At.keep (ts := [7, 24]) (ids := []) rfl rfl ?_)
    refine At.thenC ?_
    refine W.cond rfl (fun hb9 => ?_) (fun hb9 => ?_)
    · have H := of_true H hb9
      refine W.seq ?_
      refine W.region env [] [] rfl rfl rfl .nil .nil (At.keep (ts := [4, 5]) (ids := []) rfl rfl ?_)
      refine At.thenC ?_
      refine W.ret ?_
      refine At.rthen ?_
      cases H
      exact At.ret env.ty rfl rfl (fun q hq => by cases hq) (.refl _) hval
    · have H := of_false H hb9
      refine W.skip ?_
      refine At.thenC ?_
      refine W.seq ?_
      refine W.region env [] [] rfl rfl rfl .nil .nil (At.keep (ts := [4, 5]) (ids := []) rfl rfl ?_)
      refine At.thenC ?_
      refine W.ret ?_
      cases H
      exact At.ret env.ty rfl rfl (fun q hq => by cases hq) (.refl _) hval

theorem c_gasolierref03_CheckPath (fuel : Nat) (p0 : Chart) (p1 : gasolierref03_Going) {r : Int} (H : gasolierref03_CheckPath fuel p0 p1 = some r) : Ctr Try.prog 52 [.agg [.int .i64 (p0.Places), roL 7 enc_Way p0.Ways], .agg [.int .i64 (p1.Trip.From), .int .i64 (p1.Trip.To), .int .i64 (p1.Trip.At), roL 1 enc_Int p1.Path, .int .i64 (p1.By)]] (.int .i64 (r)) := by
  unfold gasolierref03_CheckPath at H
  refine Ctr.of_body (N := 83) Try.func52 (by kernel_rfl) (c := _) rfl Try.ntmps52 rfl (fun w0 h0 hval => ?_)
  refine W.seq ?_
  refine W.region env [] [] rfl rfl rfl .nil .nil (At.keep (ts := [2, 3]) (ids := [2, 3]) rfl rfl ?_)
  refine At.thenC ?_
  refine W.seq ?_
  obtain ⟨y1, hy2, H⟩ := of_bindO H
  refine W.region env [] [⟨.int .i64 (y1), [], 0, []⟩] rfl rfl rfl .nil (.free (c_gasolierref03_trip fuel p0 p1.Trip hy2) .nil) (At.keep (ts := [2, 3, 5]) (ids := [2, 3]) rfl rfl ?_)
  refine At.thenC ?_
  refine W.seq ?_
  refine W.seq ?_
  refine W.region env [] [] rfl rfl rfl .nil .nil (At.keep (ts := [2, 3, 5, 15]) (ids := [2, 3]) rfl rfl ?_)
  refine At.thenC ?_
  refine W.cond rfl (fun hb3 => ?_) (fun hb3 => ?_)
  · have H := of_true H hb3
    refine W.seq ?_
    refine W.region env [] [] rfl rfl rfl .nil .nil (At.keep (ts := [4]) (ids := []) rfl rfl ?_)
    refine At.thenC ?_
    refine W.ret ?_
    refine At.rthen ?_
    cases H
    exact At.ret env.ty rfl rfl (fun q hq => by cases hq) (.refl _) hval
  · have H := of_false H hb3
    refine W.skip ?_
    refine At.thenC ?_
    refine W.seq ?_
    refine W.region env [] [] rfl rfl rfl .nil .nil (At.keep (ts := [2, 3, 6]) (ids := [2, 3]) rfl rfl ?_)
    refine At.thenC ?_
    refine W.seq ?_
    refine W.region env [] [] rfl rfl rfl .nil .nil (At.keep (ts := [2, 3, 6, 7]) (ids := [2, 3]) rfl rfl ?_)
    refine At.thenC ?_
    refine W.seq ?_
    refine W.seq ?_
    refine W.region env [] [] rfl rfl rfl .nil .nil (At.keep (ts := [2, 3, 6, 7, 8]) (ids := [2, 3]) rfl rfl ?_)
    refine At.thenC ?_
    refine W.block ?_
    refine At.keep (ts := [2, 3, 6, 7, 8]) (ids := [2, 3]) rfl rfl ?_
    refine W.loopGo H (fun (s4 : Int × Int × Int) => [(2, .lp 2 0), (3, .lp 3 0), (6, .int .i64 (s4.1)), (7, .int .i64 (s4.2.1)), (8, .int .i64 (s4.2.2))]) (fun (s4 : Int × Int × Int) => [(2, .cells [.int .i64 (p0.Places), roL 7 enc_Way p0.Ways]), (3, .cells [.int .i64 (p1.Trip.From), .int .i64 (p1.Trip.To), .int .i64 (p1.Trip.At), roL 1 enc_Int p1.Path, .int .i64 (p1.By)])]) (.cons (.of_eq (by first | rfl | (simp; done) | omega | (simp; omega))) (.cons (.of_eq (by first | rfl | (simp; done) | omega | (simp; omega))) (.cons (.of_eq (by first | rfl | (simp; done) | omega | (simp; omega))) (.cons (.of_eq (by first | rfl | (simp; done) | omega | (simp; omega))) (.cons (.of_eq (by first | rfl | (simp; done) | omega | (simp; omega))) .nil))))) (.cons (.of_eq (by first | rfl | (simp; done) | omega | (simp; omega))) (.cons (.of_eq (by first | rfl | (simp; done) | omega | (simp; omega))) .nil)) (fun k4 s4 H K0 hK4 => ?_)
    refine W.seq ?_
    refine W.seq ?_
    refine W.region env [] [] rfl rfl rfl .nil .nil (At.keep (ts := [2, 3, 6, 7, 8, 27]) (ids := [2, 3]) rfl rfl ?_)
    refine At.thenC ?_
    refine W.cond rfl (fun hb5 => ?_) (fun hb5 => ?_)
    · have H := of_true H hb5
      refine W.skip ?_
      refine At.thenC ?_
      refine W.seq ?_
      refine W.block ?_
      refine W.seq ?_
      refine W.seq ?_
      obtain ⟨hc6, H⟩ := of_must H
      obtain ⟨hc7, H⟩ := of_must H
      obtain ⟨hc8, H⟩ := of_must H
      obtain ⟨hc9, H⟩ := of_must H
      refine W.region env [] [⟨.bool ((gasolierref03_In (p1.Path.getD (s4.2.2).toNat default) 0 (((p0.Ways.length : Nat) : Int) - 1))), [], 0, []⟩] rfl rfl rfl (.cons hc6 (.cons hc7 (.cons (fun h => h) (.cons (fun h => h) (.cons hc8 (.cons (fun h => h) (.cons (fun h => h) (.cons (fun h => h) (.cons hc9 (.cons (fun h => h) (.cons (fun h => h) (.cons (fun h => h) (.cons (fun h => h) (.cons (fun h => h) (.cons (fun h => h) (.cons (fun h => by rw [h]; rfl) .nil)))))))))))))))) (.free (c_gasolierref03_In (p1.Path.getD (s4.2.2).toNat default) 0 (((p0.Ways.length : Nat) : Int) - 1)) .nil) (At.keep (ts := [2, 3, 7, 8, 54]) (ids := [2, 3]) rfl rfl ?_)
      refine At.thenC ?_
      refine W.cond rfl (fun hb10 => ?_) (fun hb10 => ?_)
      · have H := of_true H hb10
        refine W.seq ?_
        refine W.region env [] [] rfl rfl rfl .nil .nil (At.keep (ts := [4]) (ids := []) rfl rfl ?_)
        refine At.thenC ?_
        refine W.ret ?_
        refine At.rthen ?_
        refine At.rinb ?_
        refine At.rthen ?_
        refine At.rthen ?_
        refine At.rinb ?_
        refine At.rthen ?_
        cases H
        exact At.ret env.ty rfl rfl (fun q hq => by cases hq) (.refl _) hval
      · have H := of_false H hb10
        refine W.skip ?_
        refine At.thenC ?_
        refine W.seq ?_
        obtain ⟨hc11, H⟩ := of_must H
        obtain ⟨hc12, H⟩ := of_must H
        refine W.region env [] [] rfl rfl rfl (.cons hc11 (.cons hc12 .nil)) .nil (At.keep (ts := [2, 3, 7, 8, 9]) (ids := [2, 3, 9]) rfl rfl ?_)
        refine At.thenC ?_
        refine W.seq ?_
        obtain ⟨y13, hy14, H⟩ := of_bindO H
        refine W.region env [] [⟨.int .i64 (y13), [], 0, []⟩] rfl rfl rfl .nil (.free (c_gasolierref03_Ends (p0.Ways.getD ((p1.Path.getD (s4.2.2).toNat default)).toNat default) ((p0.Ways.getD ((p1.Path.getD (s4.2.2).toNat default)).toNat default).Takes.Hi) s4.2.1 hy14) .nil) (At.keep (ts := [2, 3, 7, 8, 9]) (ids := [2, 3, 9]) rfl rfl ?_)
        refine At.thenC ?_
        refine W.seq ?_
        refine W.seq ?_
        refine W.region env [] [] rfl rfl rfl .nil .nil (At.keep (ts := [2, 3, 7, 8, 9, 71]) (ids := [2, 3, 9]) rfl rfl ?_)
        refine At.thenC ?_
        refine W.cond rfl (fun hb15 => ?_) (fun hb15 => ?_)
        · have H := of_true H hb15
          refine W.seq ?_
          refine W.region env [] [] rfl rfl rfl .nil .nil (At.keep (ts := [4]) (ids := []) rfl rfl ?_)
          refine At.thenC ?_
          refine W.ret ?_
          refine At.rthen ?_
          refine At.rinb ?_
          refine At.rthen ?_
          refine At.rthen ?_
          refine At.rinb ?_
          refine At.rthen ?_
          cases H
          exact At.ret env.ty rfl rfl (fun q hq => by cases hq) (.refl _) hval
        · have H := of_false H hb15
          refine W.skip ?_
          refine At.thenC ?_
          refine W.region env [] [] rfl rfl rfl .nil .nil (At.keep (ts := [2, 3, 6, 7, 8]) (ids := [2, 3]) rfl rfl ?_)
          refine At.inb ?_
          refine At.thenC ?_
          obtain ⟨hc16, H⟩ := of_must H
          refine W.region env [] [] rfl rfl rfl (.cons hc16 .nil) .nil (At.keep (ts := [2, 3, 6, 7, 8]) (ids := [2, 3]) rfl rfl ?_)
          refine At.thenK (At.keep (ts := [2, 3, 6, 7, 8]) (ids := [2, 3]) rfl rfl ?_)
          exact At.conv (.cons (.of_eq (by first | rfl | (simp; done) | omega | (simp; omega))) (.cons (.of_eq (by first | rfl | (simp; done) | omega | (simp; omega))) (.cons (.of_eq (by first | rfl | (simp; done) | omega | (simp; omega))) (.cons (.of_eq (by first | rfl | (simp; done) | omega | (simp; omega))) (.cons (.of_eq (by first | rfl | (simp; done) | omega | (simp; omega))) .nil))))) (.cons (.of_eq (by first | rfl | (simp; done) | omega | (simp; omega))) (.cons (.of_eq (by first | rfl | (simp; done) | omega | (simp; omega))) .nil)) (hK4 ((p0.Ways.getD ((p1.Path.getD (s4.2.2).toNat default)).toNat default).To, y13, (s4.2.2 + 1)) H)
    · have H := of_false H hb5
      refine W.exit ?_
      refine At.xthen ?_
      refine At.xthen ?_
      refine At.xhere ?_
      refine At.thenC ?_
      refine W.seq ?_
      refine W.seq ?_
      refine W.region env [] [] rfl rfl rfl .nil .nil (At.keep (ts := [3, 7, 78]) (ids := [3]) rfl rfl ?_)
      refine At.thenC ?_
      refine W.cond rfl (fun hb17 => ?_) (fun hb17 => ?_)
      · have H := of_true H hb17
        refine W.seq ?_
        refine W.region env [] [] rfl rfl rfl .nil .nil (At.keep (ts := [4]) (ids := []) rfl rfl ?_)
        refine At.thenC ?_
        refine W.ret ?_
        refine At.rthen ?_
        cases H
        exact At.ret env.ty rfl rfl (fun q hq => by cases hq) (.refl _) hval
      · have H := of_false H hb17
        refine W.skip ?_
        refine At.thenC ?_
        refine W.seq ?_
        refine W.seq ?_
        refine W.region env [] [] rfl rfl rfl .nil .nil (At.keep (ts := [82]) (ids := []) rfl rfl ?_)
        refine At.thenC ?_
        refine W.cond rfl (fun hb18 => ?_) (fun hb18 => ?_)
        · have H := of_true H hb18
          refine W.seq ?_
          refine W.region env [] [] rfl rfl rfl .nil .nil (At.keep (ts := [4]) (ids := []) rfl rfl ?_)
          refine At.thenC ?_
          refine W.ret ?_
          refine At.rthen ?_
          cases H
          exact At.ret env.ty rfl rfl (fun q hq => by cases hq) (.refl _) hval
        · have H := of_false H hb18
          refine W.skip ?_
          refine At.thenC ?_
          refine W.seq ?_
          refine W.region env [] [] rfl rfl rfl .nil .nil (At.keep (ts := [4]) (ids := []) rfl rfl ?_)
          refine At.thenC ?_
          refine W.ret ?_
          cases H
          exact At.ret env.ty rfl rfl (fun q hq => by cases hq) (.refl _) hval

theorem c_gasolierlaw03_RoundPaths (fuel : Nat) (p0 : Chart) (p1 : gasolierref03_Going) {r : Bool} (H : gasolierlaw03_RoundPaths fuel p0 p1 = some r) : Ctr Try.prog 11 [.agg [.int .i64 (p0.Places), roL 7 enc_Way p0.Ways], .agg [.int .i64 (p1.Trip.From), .int .i64 (p1.Trip.To), .int .i64 (p1.Trip.At), roL 1 enc_Int p1.Path, .int .i64 (p1.By)]] (.bool (r)) := by
  unfold gasolierlaw03_RoundPaths at H
  refine Ctr.of_body (N := 59) Try.func11 (by kernel_rfl) (c := _) rfl Try.ntmps11 rfl (fun w0 h0 hval => ?_)
  refine W.seq ?_
  refine W.region env [] [] rfl rfl rfl .nil .nil (At.keep (ts := [2, 3]) (ids := [2, 3]) rfl rfl ?_)
  refine At.thenC ?_
  refine W.seq ?_
  obtain ⟨y1, hy2, H⟩ := of_bindO H
  refine W.region env [] [⟨.bool (y1), [], 0, []⟩] rfl rfl rfl .nil (.free (c_gasolierlaw03_sane fuel hy2) .nil) (At.keep (ts := [2, 3, 5]) (ids := [2, 3]) rfl rfl ?_)
  refine At.thenC ?_
  refine W.seq ?_
  obtain ⟨y3, hy4, H⟩ := of_bindO H
  refine W.region env [] [⟨.tup [roL 1 enc_Int y3.1, .int .i64 (y3.2)], [], 0, []⟩] rfl rfl rfl .nil (.free (c_round_Path fuel p0 p1.Trip hy4) .nil) (At.keep (ts := [2, 3, 5, 6, 7]) (ids := [2, 3]) rfl rfl ?_)
  refine At.thenC ?_
  refine W.seq ?_
  obtain ⟨y5, hy6, H⟩ := of_bindO H
  refine W.region env [] [⟨.tup [.int .i64 (y5.1), .int .i64 (y5.2)], [], 0, []⟩] rfl rfl rfl .nil (.free (c_gasolierref03_PathError fuel p0 p1.Trip hy6) .nil) (At.keep (ts := [2, 3, 5, 6, 7, 8, 9]) (ids := [2, 3]) rfl rfl ?_)
  refine At.thenC ?_
  refine W.seq ?_
  refine W.seq ?_
  obtain ⟨y7, hy8, H⟩ := of_bindO H
  obtain ⟨y9, hy10, H⟩ := of_bindO H
  refine W.region env [] [⟨.int .i64 (y7), [], 0, []⟩, ⟨.int .i64 (y9), [], 0, []⟩] rfl rfl rfl (.cons (fun h => h) (.cons (fun h => h) (.cons (fun h => by rw [h]; rfl) (.cons (fun h => h) (.cons (fun h => h) (.cons (fun h => h) (.cons (fun h => h) (.cons (fun h => h) (.cons (fun h => h) (.cons (fun h => h) (.cons (fun h => h) (.cons (fun h => h) (.cons (fun h => h) (.cons (fun h => h) (.cons (fun h => by rw [h]; rfl) .nil))))))))))))))) (.on (fun hW => c_round_CheckPath p0 p1.Trip p1.Path p1.By (of_true hy8 hW)) (.on (fun hW => c_gasolierref03_CheckPath fuel p0 p1 (of_true hy10 hW)) .nil)) (At.keep (ts := [2, 3, 6, 8, 9, 45]) (ids := [2, 3]) rfl rfl ?_)
  refine At.thenC ?_
  refine W.cond rfl (fun hb11 => ?_) (fun hb11 => ?_)
  · have H := of_true H hb11
    refine W.seq ?_
    refine W.region env [] [] rfl rfl rfl .nil .nil (At.keep (ts := [4]) (ids := []) rfl rfl ?_)
    refine At.thenC ?_
    refine W.ret ?_
    refine At.rthen ?_
    cases H
    exact At.ret env.ty rfl rfl (fun q hq => by cases hq) (.refl _) hval
  · have H := of_false H hb11
    refine W.skip ?_
    refine At.thenC ?_
    refine W.seq ?_
    refine W.seq ?_
    refine W.region env [] [] rfl rfl rfl .nil .nil (At.keep (ts := [2, 3, 6, 8, 47]) (ids := [2, 3]) rfl rfl ?_)
    refine At.thenC ?_
    refine W.cond rfl (fun hb12 => ?_) (fun hb12 => ?_)
    · have H := of_true H hb12
      refine W.seq ?_
      refine W.region env [] [] rfl rfl rfl .nil .nil (At.keep (ts := [4]) (ids := []) rfl rfl ?_)
      refine At.thenC ?_
      refine W.ret ?_
      refine At.rthen ?_
      cases H
      exact At.ret env.ty rfl rfl (fun q hq => by cases hq) (.refl _) hval
    · have H := of_false H hb12
      refine W.skip ?_
      refine At.thenC ?_
      refine W.seq ?_
      obtain ⟨y13, hy14, H⟩ := of_bindO H
      refine W.region env [] [⟨.int .i64 (y13), [], 0, []⟩] rfl rfl rfl .nil (.free (c_gasolierref03_CheckPath fuel p0 (⟨p1.Trip, y3.1, y5.1⟩ : gasolierref03_Going) hy14) .nil) (At.keep (ts := [4]) (ids := []) rfl rfl ?_)
      refine At.thenC ?_
      refine W.ret ?_
      cases H
      exact At.ret env.ty rfl rfl (fun q hq => by cases hq) (.refl _) hval

end Go.Sp
