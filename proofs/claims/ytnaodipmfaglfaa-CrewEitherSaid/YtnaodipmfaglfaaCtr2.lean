/- Printed by gen.py: contracts, part 2. -/
import Derived.Test.YtnaodipmfaglfaaCtr1
set_option linter.all false
set_option maxRecDepth 100000
namespace Go.Sp
open Go Go.Av Go.Proofs

theorem co_slices_Delete_int (p0 : (List Int)) (p1 : Int) (p2 : Int) {r : (List Int)} (H : slices_Delete_int p0 p1 p2 = some r) : CtrO Try.prog 75 [.buf 700 (p0).length, .int .i64 (p1), .int .i64 (p2)] [(700, bufL 3 1 enc_Int p0)] (.buf 900 r.length) [(900, bufL 3 1 enc_Int r)] := by
  unfold slices_Delete_int at H
  refine CtrO.of_body (N := 33) Try.func75 (by kernel_rfl) (c := _) rfl Try.ntmps75 rfl (fun w0 h0 ρb hval hdom => ?_)
  refine W.rg env [0, 1, 2] [700] ?_
  obtain ⟨hc1, H⟩ := of_must H
  refine W.sr env [] [] [0, 1, 2] [700] rfl rfl rfl (.cons (by first | rfl | (simp; done) | omega | (simp; omega)) (.cons (⟨by first | rfl | (simp; done) | omega | (simp; omega), hc1⟩) .nil)) .nil ?_
  refine W.seq ?_
  refine W.rg env [0, 1, 2, 16] [700] ?_
  refine W.cond rfl (fun hb2 => ?_) (fun hb2 => ?_)
  · have H := of_true H hb2
    refine W.rg env [6] [700] ?_
    refine W.ret ?_
    refine At.rthen ?_
    cases H
    exact At.retK env.ty [700] 200 rfl rfl rfl rfl (.cons (.refl _) .nil) (.of_eq (by refine bufEq ?_; first | (simp [copyAt]; done) | omega | (simp [copyAt]; omega) | rfl)) hval hdom rfl
  · have H := of_false H hb2
    refine W.skip ?_
    refine At.thenC ?_
    refine W.sr env [] [] [0, 1, 2, 7] [700] rfl rfl rfl (.cons (by first | rfl | (simp; done) | omega | (simp; omega)) .nil) .nil ?_
    refine W.seq ?_
    obtain ⟨hc3, H⟩ := of_must H
    obtain ⟨hc4, H⟩ := of_must H
    obtain ⟨hc5, H⟩ := of_must H
    refine W.region env [] [] rfl rfl (by first | rfl | kernel_rfl) (.cons (⟨by first | rfl | (simp; done) | omega | (simp; omega), hc3⟩) (.cons (⟨by first | rfl | (simp; done) | omega | (simp; omega), hc4⟩) (.cons (⟨rfl, rfl, by omega, by omega, by omega⟩) .nil))) .nil (At.keep (ts := [0, 7]) (ids := [26]) rfl rfl ?_)
    refine At.convM (.cons (y := bufkL 3 1 p0.length enc_Int (p0.take ((p1).toNat) ++ p0.drop ((p2).toNat))) (BSim.kseg (Seg.moved (f := enc_Int) (l := p0) ((p1).toNat) ((p2).toNat) (by omega) (by omega))) .nil) ?_
    refine At.thenC ?_
    refine W.seq ?_
    obtain ⟨hc6, H⟩ := of_must H
    refine W.region env [] [] rfl rfl rfl (.cons (by first | rfl | (simp; done) | omega | (simp; omega)) (.cons (⟨by first | rfl | (simp; done) | omega | (simp; omega), hc6⟩) (.cons (⟨by first | rfl | (simp; done) | omega | (simp; omega), by first | rfl | (simp; done) | omega | (simp; omega), by first | omega | (simp; omega)⟩) .nil))) .nil (At.keep (ts := [0]) (ids := [26]) rfl rfl ?_)
    refine At.convM (.cons (y := bufkL 3 1 p0.length enc_Int (p0.take ((p1).toNat) ++ p0.drop ((p2).toNat))) (BSim.kseg (Seg.refl enc_Int _)) .nil) ?_
    refine At.thenC ?_
    refine W.rg env [6] [26] ?_
    refine W.ret ?_
    cases H
    exact At.retK env.ty [26] 874 rfl rfl rfl rfl (.cons (.bufk (.refl _)) .nil) (.of_eq (by refine bufEq ?_; first | (simp [copyAt]; done) | omega | (simp [copyAt]; omega) | rfl)) hval hdom rfl

theorem co_slices_Clone_int (p0 : (List Int)) {r : (List Int)} (H : slices_Clone_int p0 = some r) : CtrO Try.prog 76 [roL 1 enc_Int p0] [] (.buf 900 r.length) [(900, bufL 3 1 enc_Int r)] := by
  unfold slices_Clone_int at H
  refine CtrO.of_body (N := 8) Try.func76 (by kernel_rfl) (c := _) rfl Try.ntmps76 rfl (fun w0 h0 ρb hval hdom => ?_)
  refine W.rg env [0] [] ?_
  refine W.seq ?_
  refine W.rg env [0, 4] [] ?_
  refine W.condNz rfl (fun hz => ?_) ?_
  · obtain rfl : p0 = [] := List.length_eq_zero_iff.1 hz
    obtain ⟨hc1, H⟩ := of_must H
    refine W.rg env [2] [] ?_
    refine W.ret ?_
    refine At.rthen ?_
    cases H
    refine At.nilOwn 2 800 3 1 (e := fun i => enc_Int (([] : List Int).getD i default)) rfl rfl ?_
    exact At.retK env.ty [800] 100 rfl rfl rfl rfl (.cons (.refl _) .nil) (.of_eq (by refine bufEq ?_; first | (simp [copyAt]; done) | omega | (simp [copyAt]; omega) | rfl)) hval hdom rfl
  · refine W.skip ?_
    refine At.thenC ?_
    refine W.seq ?_
    obtain ⟨hc1, H⟩ := of_must H
    refine W.region env [5] [] rfl rfl rfl (.cons (⟨by first | rfl | (simp; done) | omega | (simp; omega), by have := hc1; first | simpa using this | (unfold room at this ⊢; simp at this ⊢; omega)⟩) .nil) .nil (At.keep (ts := [2]) (ids := [5]) rfl rfl ?_)
    refine At.convM (.cons (y := bufL 3 1 enc_Int (([] : List Int) ++ p0)) (BSim.seg (Seg.push (Seg.lit (f := enc_Int) (sz := 1) ([] : List Int) rfl rfl (fun _ => rfl)) (Seg.refl enc_Int p0))) .nil) ?_
    refine At.thenC ?_
    refine W.ret ?_
    cases H
    exact At.retK env.ty [5] 895 rfl rfl rfl rfl (.cons (.refl _) .nil) (.of_eq (by refine bufEq ?_; first | (simp [copyAt]; done) | omega | (simp [copyAt]; omega) | rfl)) hval hdom rfl

theorem c_crew_Short (fuel : Nat) (p0 : Crew) (p1 : (List (List Int))) {r : ((List Int) × Int)} (H : crew_Short fuel p0 p1 = some r) : Ctr Try.prog 31 [.agg [roL 4 enc_Task p0.Tasks, roL 1 enc_ListRange p0.Travel, roL 3 enc_Hand p0.Hands], roL 1 enc_ListInt p1] (.tup [roL 1 enc_Int r.1, .int .i64 (r.2)]) := by
  unfold crew_Short at H
  refine Ctr.of_body (N := 52) Try.func31 (by kernel_rfl) (c := _) rfl Try.ntmps31 rfl (fun w0 h0 hval => ?_)
  refine W.rg env [1, 2] [2] ?_
  refine W.seq ?_
  obtain ⟨y1, hy2, H⟩ := of_bindO H
  refine W.region env [] [⟨.tup [.po y1.1.isSome [roL 4 enc_Task ((y1.1.getD default).Crew.Tasks), roL 1 enc_ListRange ((y1.1.getD default).Crew.Travel), roL 3 enc_Hand ((y1.1.getD default).Crew.Hands), roL 1 enc_Int ((y1.1.getD default).next)], .int .i64 (y1.2)], [], 0, []⟩] rfl rfl rfl .nil (.free (c_crew_asked p0 p1 hy2) .nil) (At.keep (ts := [1, 6, 7]) (ids := []) rfl rfl ?_)
  refine At.thenC ?_
  refine W.seq ?_
  refine W.rg env [1, 6, 7, 19] [] ?_
  refine W.cond rfl (fun hb3 => ?_) (fun hb3 => ?_)
  · have H := of_true H hb3
    refine W.rg env [4, 5] [] ?_
    refine W.ret ?_
    refine At.rthen ?_
    cases H
    exact At.ret env.ty rfl rfl (fun q hq => by cases hq) (Sim.tupL (.cons (Sim.nil _ _) (.cons (.refl _) .nil))) hval
  · have H := of_false H hb3
    refine W.skip ?_
    refine At.thenC ?_
    refine W.rg env [8] [8] ?_
    refine W.seq ?_
    obtain ⟨y4, hy5, H⟩ := of_bindO H
    refine W.region env [] [⟨roL 1 enc_Int y4, [], 0, []⟩] rfl rfl rfl .nil (.free (c_crew_shift__indices (⟨y1.1, p1⟩ : crew_shift) hy5) .nil) (At.keep (ts := [8, 9]) (ids := [8]) rfl rfl ?_)
    refine At.thenC ?_
    refine W.seq ?_
    refine W.seq ?_
    obtain ⟨y6, hy7, H⟩ := of_bindO H
    obtain ⟨y8, hy9, H⟩ := of_bindO H
    refine W.region env [] [⟨roL 1 enc_Int y6, [], 0, []⟩, ⟨.bool (y8), [], 0, []⟩] rfl rfl (by kernel_rfl) .nil (.free (c_crew_shift__free (⟨y1.1, p1⟩ : crew_shift) hy7) (.free (c_crew_shift__all fuel (⟨y1.1, p1⟩ : crew_shift) y4 y6 hy9) .nil)) (At.keep (ts := [8, 9, 30]) (ids := [8]) rfl rfl ?_)
    refine At.thenC ?_
    refine W.cond rfl (fun hb10 => ?_) (fun hb10 => ?_)
    · have H := of_true H hb10
      refine W.rg env [4, 5] [] ?_
      refine W.ret ?_
      refine At.rthen ?_
      cases H
      exact At.ret env.ty rfl rfl (fun q hq => by cases hq) (Sim.tupL (.cons (Sim.nil _ _) (.cons (.refl _) .nil))) hval
    · have H := of_false H hb10
      refine W.skip ?_
      refine At.thenC ?_
      refine W.seq ?_
      obtain ⟨hc11, H⟩ := of_must H
      refine W.sr env [] [] [8, 9, 10] [8] rfl rfl rfl (.cons hc11 .nil) .nil ?_
      refine W.block ?_
      refine At.keep (ts := [8, 9, 10]) (ids := [8]) rfl rfl ?_
      refine W.loopGo H (fun (s12 : Int × (List Int)) => [(8, .lp 8 0), (9, roL 1 enc_Int s12.2), (10, .int .i64 (s12.1))]) (fun (s12 : Int × (List Int)) => [(8, .cells [.po y1.1.isSome [roL 4 enc_Task ((y1.1.getD default).Crew.Tasks), roL 1 enc_ListRange ((y1.1.getD default).Crew.Travel), roL 3 enc_Hand ((y1.1.getD default).Crew.Hands), roL 1 enc_Int ((y1.1.getD default).next)], roL 1 enc_ListInt p1])]) (.cons .q (.cons .q (.cons .qi .nil))) (.cons .q .nil) (fun k12 s12 H K0 hK12 => ?_)
      refine W.seq ?_
      refine W.rg env [8, 9, 10, 35] [8] ?_
      refine W.cond rfl (fun hb13 => ?_) (fun hb13 => ?_)
      · have H := of_true H hb13
        refine W.skip ?_
        refine At.thenC ?_
        refine W.seq ?_
        refine W.block ?_
        refine W.seq ?_
        obtain ⟨y14, hy15, H⟩ := of_bindO H
        obtain ⟨hc16, H⟩ := of_must H
        obtain ⟨y17, hy18, H⟩ := of_bindO H
        refine W.region env [] [⟨.buf 900 y14.length, [(900, bufL 3 1 enc_Int y14)], 40000, []⟩, ⟨.buf 900 y17.length, [(40900, .dead), (900, bufL 3 1 enc_Int y17)], 44000, []⟩] rfl rfl (by kernel_rfl) (.cons hc16 .nil) (.free ((Ctr.ofO (co_slices_Clone_int s12.2 hy15))) (.free (CtrO.sim (CtrO.at (co_slices_Delete_int y14 s12.1 (s12.1 + 1) hy18) rfl 40900) (.cons .qc (.cons (.refl _) (.cons (.refl _) .nil))) (.cons (.refl _) .nil)) .nil)) (At.keep (ts := [8, 9, 10, 11]) (ids := [8, 44900]) rfl rfl ?_)
        refine At.thenC ?_
        refine W.seq ?_
        obtain ⟨y19, hy20, H⟩ := of_bindO H
        obtain ⟨y21, hy22, H⟩ := of_bindO H
        refine W.region env [] [⟨roL 1 enc_Int y19, [], 0, []⟩, ⟨.bool (y21), [], 0, []⟩] rfl rfl (by kernel_rfl) (.cons (by first | rfl | (simp; done) | omega | (simp; omega)) .nil) (.free (c_crew_shift__free (⟨y1.1, p1⟩ : crew_shift) hy20) (.free (c_crew_shift__all fuel (⟨y1.1, p1⟩ : crew_shift) y17 y19 hy22) .nil)) (At.keep (ts := [8, 9, 10, 11, 49]) (ids := [8, 44900]) rfl rfl ?_)
        refine At.thenC ?_
        refine W.cond rfl (fun hb23 => ?_) (fun hb23 => ?_)
        · have H := of_true H hb23
          refine W.region env [] [] rfl rfl rfl .nil .nil (At.keep (ts := [8, 9, 10]) (ids := [8, 44900]) rfl rfl ?_)
          refine At.inb ?_
          refine At.thenC ?_
          obtain ⟨hc24, H⟩ := of_must H
          refine W.region env [] [] rfl rfl rfl (.cons hc24 .nil) .nil (At.keep (ts := [8, 9, 10]) (ids := [8, 44900]) rfl rfl ?_)
          refine At.freezeA 44900 (K := [8]) (ts := [8, 9, 10]) rfl rfl rfl rfl (.cons (by first | rfl | (simp; done) | omega | (simp; omega)) .nil) .nil (fun _ h => h) ?_
          refine At.thenK (At.keep (ts := [8, 9, 10]) (ids := [8]) rfl rfl ?_)
          exact At.conv (.cons .q (.cons .q (.cons .qi .nil))) (.cons .q .nil) (hK12 ((s12.1 - 1), y17) H)
        · have H := of_false H hb23
          refine W.skip ?_
          refine At.inb ?_
          refine At.thenC ?_
          obtain ⟨hc25, H⟩ := of_must H
          refine W.region env [] [] rfl rfl rfl (.cons hc25 .nil) .nil (At.keep (ts := [8, 9, 10]) (ids := [8]) rfl rfl ?_)
          refine At.thenK (At.keep (ts := [8, 9, 10]) (ids := [8]) rfl rfl ?_)
          exact At.conv (.cons .q (.cons .q (.cons .qi .nil))) (.cons .q .nil) (hK12 ((s12.1 - 1), s12.2) H)
      · have H := of_false H hb13
        refine W.exit ?_
        refine At.xthen ?_
        refine At.xthen ?_
        refine At.xhere ?_
        refine At.thenC ?_
        refine W.rg env [4, 5] [] ?_
        refine W.ret ?_
        cases H
        exact At.ret env.ty rfl rfl (fun q hq => by cases hq) (.refl _) hval

theorem co_slices_Delete_Task (p0 : (List Task)) (p1 : Int) (p2 : Int) {r : (List Task)} (H : slices_Delete_Task p0 p1 p2 = some r) : CtrO Try.prog 86 [.buf 700 (p0).length, .int .i64 (p1), .int .i64 (p2)] [(700, bufL 67 4 enc_Task p0)] (.buf 900 r.length) [(900, bufL 67 4 enc_Task r)] := by
  unfold slices_Delete_Task at H
  refine CtrO.of_body (N := 33) Try.func86 (by kernel_rfl) (c := _) rfl Try.ntmps86 rfl (fun w0 h0 ρb hval hdom => ?_)
  refine W.rg env [0, 1, 2] [700] ?_
  obtain ⟨hc1, H⟩ := of_must H
  refine W.sr env [] [] [0, 1, 2] [700] rfl rfl rfl (.cons (by first | rfl | (simp; done) | omega | (simp; omega)) (.cons (⟨by first | rfl | (simp; done) | omega | (simp; omega), hc1⟩) .nil)) .nil ?_
  refine W.seq ?_
  refine W.rg env [0, 1, 2, 16] [700] ?_
  refine W.cond rfl (fun hb2 => ?_) (fun hb2 => ?_)
  · have H := of_true H hb2
    refine W.rg env [6] [700] ?_
    refine W.ret ?_
    refine At.rthen ?_
    cases H
    exact At.retK env.ty [700] 200 rfl rfl rfl rfl (.cons (.refl _) .nil) (.of_eq (by refine bufEq ?_; first | (simp [copyAt]; done) | omega | (simp [copyAt]; omega) | rfl)) hval hdom rfl
  · have H := of_false H hb2
    refine W.skip ?_
    refine At.thenC ?_
    refine W.sr env [] [] [0, 1, 2, 7] [700] rfl rfl rfl (.cons (by first | rfl | (simp; done) | omega | (simp; omega)) .nil) .nil ?_
    refine W.seq ?_
    obtain ⟨hc3, H⟩ := of_must H
    obtain ⟨hc4, H⟩ := of_must H
    obtain ⟨hc5, H⟩ := of_must H
    refine W.region env [] [] rfl rfl (by first | rfl | kernel_rfl) (.cons (⟨by first | rfl | (simp; done) | omega | (simp; omega), hc3⟩) (.cons (⟨by first | rfl | (simp; done) | omega | (simp; omega), hc4⟩) (.cons (⟨rfl, rfl, by omega, by omega, by omega⟩) .nil))) .nil (At.keep (ts := [0, 7]) (ids := [26]) rfl rfl ?_)
    refine At.convM (.cons (y := bufkL 67 4 p0.length enc_Task (p0.take ((p1).toNat) ++ p0.drop ((p2).toNat))) (BSim.kseg (Seg.moved (f := enc_Task) (l := p0) ((p1).toNat) ((p2).toNat) (by omega) (by omega))) .nil) ?_
    refine At.thenC ?_
    refine W.seq ?_
    obtain ⟨hc6, H⟩ := of_must H
    refine W.region env [] [] rfl rfl rfl (.cons (by first | rfl | (simp; done) | omega | (simp; omega)) (.cons (⟨by first | rfl | (simp; done) | omega | (simp; omega), hc6⟩) (.cons (⟨by first | rfl | (simp; done) | omega | (simp; omega), by first | rfl | (simp; done) | omega | (simp; omega), by first | omega | (simp; omega)⟩) .nil))) .nil (At.keep (ts := [0]) (ids := [26]) rfl rfl ?_)
    refine At.convM (.cons (y := bufkL 67 4 p0.length enc_Task (p0.take ((p1).toNat) ++ p0.drop ((p2).toNat))) (BSim.kseg (Seg.refl enc_Task _)) .nil) ?_
    refine At.thenC ?_
    refine W.rg env [6] [26] ?_
    refine W.ret ?_
    cases H
    exact At.retK env.ty [26] 874 rfl rfl rfl rfl (.cons (.bufk (.refl _)) .nil) (.of_eq (by refine bufEq ?_; first | (simp [copyAt]; done) | omega | (simp [copyAt]; omega) | rfl)) hval hdom rfl

theorem co_slices_Clone_Task (p0 : (List Task)) {r : (List Task)} (H : slices_Clone_Task p0 = some r) : CtrO Try.prog 103 [roL 4 enc_Task p0] [] (.buf 900 r.length) [(900, bufL 67 4 enc_Task r)] := by
  unfold slices_Clone_Task at H
  refine CtrO.of_body (N := 8) Try.func103 (by kernel_rfl) (c := _) rfl Try.ntmps103 rfl (fun w0 h0 ρb hval hdom => ?_)
  refine W.rg env [0] [] ?_
  refine W.seq ?_
  refine W.rg env [0, 4] [] ?_
  refine W.condNz rfl (fun hz => ?_) ?_
  · obtain rfl : p0 = [] := List.length_eq_zero_iff.1 hz
    obtain ⟨hc1, H⟩ := of_must H
    refine W.rg env [2] [] ?_
    refine W.ret ?_
    refine At.rthen ?_
    cases H
    refine At.nilOwn 2 800 67 4 (e := fun i => enc_Task (([] : List Task).getD i default)) rfl rfl ?_
    exact At.retK env.ty [800] 100 rfl rfl rfl rfl (.cons (.refl _) .nil) (.of_eq (by refine bufEq ?_; first | (simp [copyAt]; done) | omega | (simp [copyAt]; omega) | rfl)) hval hdom rfl
  · refine W.skip ?_
    refine At.thenC ?_
    refine W.seq ?_
    obtain ⟨hc1, H⟩ := of_must H
    refine W.region env [5] [] rfl rfl rfl (.cons (⟨by first | rfl | (simp; done) | omega | (simp; omega), by have := hc1; first | simpa using this | (unfold room at this ⊢; simp at this ⊢; omega)⟩) .nil) .nil (At.keep (ts := [2]) (ids := [5]) rfl rfl ?_)
    refine At.convM (.cons (y := bufL 67 4 enc_Task (([] : List Task) ++ p0)) (BSim.seg (Seg.push (Seg.lit (f := enc_Task) (sz := 4) ([] : List Task) rfl rfl (fun _ => rfl)) (Seg.refl enc_Task p0))) .nil) ?_
    refine At.thenC ?_
    refine W.ret ?_
    cases H
    exact At.retK env.ty [5] 895 rfl rfl rfl rfl (.cons (.refl _) .nil) (.of_eq (by refine bufEq ?_; first | (simp [copyAt]; done) | omega | (simp [copyAt]; omega) | rfl)) hval hdom rfl

theorem co_crew_copied_o0_1_2 (p0 : Crew) {r : Crew} (H : crew_copied p0 = some r) : CtrO Try.prog 83 [.agg [roL 4 enc_Task p0.Tasks, roL 1 enc_ListRange p0.Travel, roL 3 enc_Hand p0.Hands]] [] (.agg [.buf 940 (r.Tasks).length, .buf 941 (r.Travel).length, .buf 942 (r.Hands).length]) [(940, bufL 67 4 enc_Task r.Tasks), (941, bufL 71 1 enc_ListRange r.Travel), (942, bufL 59 3 enc_Hand r.Hands)] := by
  unfold crew_copied at H
  refine CtrO.of_body (N := 29) Try.func83 (by kernel_rfl) (c := _) rfl Try.ntmps83 rfl (fun w0 h0 ρb hval hdom => ?_)
  refine W.rg env [1, 2] [1, 2] ?_
  refine W.seq ?_
  obtain ⟨y1, hy2, H⟩ := of_bindO H
  obtain ⟨y3, hy4, H⟩ := of_bindO H
  refine W.region env [] [⟨.buf 900 y1.length, [(900, bufL 67 4 enc_Task y1)], 9000, []⟩, ⟨.buf 900 y3.length, [(900, bufL 59 3 enc_Hand y3)], 12000, []⟩] rfl rfl (by kernel_rfl) .nil (.free ((Ctr.ofO (co_slices_Clone_Task p0.Tasks hy2))) (.free ((Ctr.ofO (co_slices_Clone_Hand p0.Hands hy4))) .nil)) (At.keep (ts := [1, 2, 3]) (ids := [1, 2, 3, 9900, 12900]) rfl rfl ?_)
  refine At.thenC ?_
  refine W.seq ?_
  refine W.rg env [2, 3, 14, 15, 16] [2, 3, 9900, 12900] ?_
  refine W.block ?_
  refine At.nilOwnCell 3 1 751 71 1 (e := fun i => enc_ListRange (([] : List (List Range)).getD i default)) rfl rfl rfl ?_
  refine At.keep (ts := [2, 3, 14, 15, 16]) (ids := [2, 3, 751, 9900, 12900]) rfl rfl ?_
  refine W.len (t := 14) rfl (fun (hn5 : p0.Travel.length ≤ maxLen) => ?_)
  refine W.rangeGo H (fun i5 (s5 : (List (List Range))) => [(2, .lp 2 0), (3, .lp 3 0), (14, roL 1 enc_ListRange p0.Travel), (15, .int .i64 (((p0.Travel.length : Nat) : Int))), (16, .int .i64 ((i5 : Int)))]) (fun i5 (s5 : (List (List Range))) => [(2, .cells [.nilS, .nilS, .nilS]), (3, .cells [.buf 9900 (y1).length, .buf 751 (s5).length, .buf 12900 (y3).length]), (751, bufL 71 1 enc_ListRange s5), (9900, bufL 67 4 enc_Task y1), (12900, bufL 59 3 enc_Hand y3)]) (.cons .q (.cons .q (.cons .q (.cons .qi (.cons .qi .nil))))) (.cons .q (.cons (BSim.cells (.cons .qc (.cons .qc (.cons .qc .nil)))) (.cons .q (.cons .q (.cons .q .nil))))) (fun k5 i5 s5 hle5 H1 H2 K0 hK5 => ?_)
  refine W.rg env [2, 3, 14, 15, 16, 17] [2, 3, 751, 9900, 12900] ?_
  refine W.seq ?_
  refine W.cond rfl (fun hb6 => ?_) (fun hb6 => ?_)
  · have hi5 : i5 < p0.Travel.length := by have := of_decide_eq_true hb6; omega
    have H := H1 hi5
    refine W.skip ?_
    refine At.thenC ?_
    refine W.seq ?_
    refine W.block ?_
    refine W.sr env [] [] [2, 3, 5, 14, 15, 16] [2, 3, 751, 9900, 12900] rfl rfl rfl (.cons (⟨by omega, by omega⟩ : 0 ≤ (i5 : Int) ∧ (i5 : Int) < ((p0.Travel.length : Nat) : Int)) .nil) .nil ?_
    obtain ⟨y7, hy8, H⟩ := of_bindO H
    obtain ⟨hc9, H⟩ := of_must H
    refine W.region env [] [⟨roL 2 enc_Range y7, [], 0, []⟩] rfl rfl (by kernel_rfl) (.cons (⟨by first | rfl | (simp; done) | omega | (simp; omega), by have := hc9; first | simpa using this | (unfold room at this ⊢; simp at this ⊢; omega)⟩) .nil) (.free (c_slices_Clone_Range (p0.Travel.getD i5 default) hy8) .nil) (At.keep (ts := [2, 3, 14, 15, 16]) (ids := [2, 3, 751, 9900, 12900]) rfl rfl ?_)
    refine At.convM (.cons (.refl _) (.cons (.refl _) (.cons (y := bufL 71 1 enc_ListRange (s5 ++ ([y7] : List (List Range)))) (BSim.seg (Seg.push (Seg.refl enc_ListRange _) (Seg.lit (f := enc_ListRange) (sz := 1) ([y7] : List (List Range)) rfl rfl (fun _ => rfl)))) (.cons (.refl _) (.cons (.refl _) .nil))))) ?_
    refine At.inb ?_
    refine At.thenC ?_
    refine W.region env [] [] rfl rfl rfl (.cons (by unfold inI; have := hn5; (try unfold maxLen at this); omega) .nil) .nil (At.keep (ts := [2, 3, 14, 15, 16]) (ids := [2, 3, 751, 9900, 12900]) rfl rfl ?_)
    refine At.thenK (At.keep (ts := [2, 3, 14, 15, 16]) (ids := [2, 3, 751, 9900, 12900]) rfl rfl ?_)
    exact At.conv (.cons .q (.cons .q (.cons .q (.cons .qi (.cons .qi .nil))))) (.cons .q (.cons (BSim.cells (.cons .qc (.cons .qc (.cons .qc .nil)))) (.cons .q (.cons .q (.cons .q .nil))))) (hK5 hi5 (s5 ++ ([y7] : List (List Range))) H)
  · have H := H2 (by have := of_decide_eq_false hb6; omega)
    refine W.exit ?_
    refine At.xthen ?_
    refine At.xthen ?_
    refine At.xhere ?_
    refine At.thenC ?_
    refine W.rg env [2] [2, 751, 9900, 12900] ?_
    refine W.ret ?_
    cases H
    refine At.ren [(9900, 940), (751, 941), (12900, 942)] (K := [2, 751, 9900, 12900]) (ts := [2]) rfl rfl rfl rfl rfl ?_
    exact At.retK env.ty [940, 941, 942] 0 rfl rfl rfl rfl (.cons (.refl _) (.cons (.refl _) (.cons (.refl _) .nil))) (Sim.aggL (.cons .qc (.cons .qc (.cons .qc .nil)))) hval hdom rfl

theorem c_crew_Moved (fuel : Nat) (p0 : Crew) {r : ((List Int) × Int)} (H : crew_Moved fuel p0 = some r) : Ctr Try.prog 38 [.agg [roL 4 enc_Task p0.Tasks, roL 1 enc_ListRange p0.Travel, roL 3 enc_Hand p0.Hands]] (.tup [roL 1 enc_Int r.1, .int .i64 (r.2)]) := by
  unfold crew_Moved at H
  refine Ctr.of_body (N := 52) Try.func38 (by kernel_rfl) (c := _) rfl Try.ntmps38 rfl (fun w0 h0 hval => ?_)
  refine W.rg env [1] [1] ?_
  refine W.seq ?_
  obtain ⟨y1, hy2, H⟩ := of_bindO H
  refine W.region env [] [⟨.tup [.int .i64 (y1.1), .int .i64 (y1.2)], [], 0, []⟩] rfl rfl rfl .nil (.free (c_crew_Count fuel p0 hy2) .nil) (At.keep (ts := [1, 4, 5]) (ids := [1]) rfl rfl ?_)
  refine At.thenC ?_
  refine W.seq ?_
  refine W.rg env [1, 4, 5, 18] [1] ?_
  refine W.cond rfl (fun hb3 => ?_) (fun hb3 => ?_)
  · have H := of_true H hb3
    refine W.rg env [2, 3] [] ?_
    refine W.ret ?_
    refine At.rthen ?_
    cases H
    exact At.ret env.ty rfl rfl (fun q hq => by cases hq) (Sim.tupL (.cons (Sim.nil _ _) (.cons (.refl _) .nil))) hval
  · have H := of_false H hb3
    refine W.skip ?_
    refine At.thenC ?_
    refine W.rg env [1, 4, 6] [1] ?_
    refine W.seq ?_
    refine W.rg env [1, 4, 6, 21, 22, 23] [1] ?_
    refine W.block ?_
    refine At.nilOwn 6 506 3 1 (e := fun i => enc_Int (([] : List Int).getD i default)) rfl rfl ?_
    refine At.keep (ts := [1, 4, 6, 21, 22, 23]) (ids := [1, 506]) rfl rfl ?_
    refine W.len (t := 21) rfl (fun (hn4 : p0.Tasks.length ≤ maxLen) => ?_)
    refine W.rangeGo H (fun i4 (s4 : (List Int)) => [(1, .lp 1 0), (4, .int .i64 (y1.1)), (6, .buf 506 (s4).length), (21, roL 4 enc_Task p0.Tasks), (22, .int .i64 (((p0.Tasks.length : Nat) : Int))), (23, .int .i64 ((i4 : Int)))]) (fun i4 (s4 : (List Int)) => [(1, .cells [roL 4 enc_Task p0.Tasks, roL 1 enc_ListRange p0.Travel, roL 3 enc_Hand p0.Hands]), (506, bufL 3 1 enc_Int s4)]) (.cons .q (.cons .qi (.cons .qb (.cons .q (.cons .qi (.cons .qi .nil)))))) (.cons .q (.cons .q .nil)) (fun k4 i4 s4 hle4 H1 H2 K0 hK4 => ?_)
    refine W.rg env [1, 4, 6, 21, 22, 23, 24] [1, 506] ?_
    refine W.seq ?_
    refine W.cond rfl (fun hb5 => ?_) (fun hb5 => ?_)
    · have hi4 : i4 < p0.Tasks.length := by have := of_decide_eq_true hb5; omega
      have H := H1 hi4
      refine W.skip ?_
      refine At.thenC ?_
      refine W.seq ?_
      refine W.block ?_
      refine W.sr env [] [] [1, 4, 6, 7, 8, 21, 22, 23] [1, 8, 506] rfl rfl rfl (.cons (⟨by omega, by omega⟩ : 0 ≤ (i4 : Int) ∧ (i4 : Int) < ((p0.Tasks.length : Nat) : Int)) .nil) .nil ?_
      refine W.seq ?_
      obtain ⟨y6, hy7, H⟩ := of_bindO H
      refine W.region env [] [⟨.agg [.buf 940 (y6.Tasks).length, .buf 941 (y6.Travel).length, .buf 942 (y6.Hands).length], [(940, bufL 67 4 enc_Task y6.Tasks), (941, bufL 71 1 enc_ListRange y6.Travel), (942, bufL 59 3 enc_Hand y6.Hands)], 30000, []⟩] rfl rfl (by kernel_rfl) .nil (.free ((Ctr.ofO (co_crew_copied_o0_1_2 p0 hy7))) .nil) (At.keep (ts := [1, 4, 6, 7, 8, 9, 21, 22, 23]) (ids := [1, 8, 9, 506, 30940, 30941, 30942]) rfl rfl ?_)
      refine At.thenC ?_
      refine W.seq ?_
      obtain ⟨y8, hy9, H⟩ := of_bindO H
      refine W.region env [] [⟨.buf 900 y8.length, [(30940, .dead), (900, bufL 67 4 enc_Task y8)], 36000, []⟩] rfl rfl (by kernel_rfl) (.cons (by unfold inI; have := hn4; (try unfold maxLen at this); omega) .nil) (.free (CtrO.sim (CtrO.at (co_slices_Delete_Task y6.Tasks (i4 : Int) ((i4 : Int) + 1) hy9) rfl 30940) (.cons .qc (.cons (.refl _) (.cons (.refl _) .nil))) (.cons (.refl _) .nil)) .nil) (At.keep (ts := [1, 4, 6, 8, 9, 21, 22, 23]) (ids := [1, 8, 9, 506, 30941, 30942, 36900]) rfl rfl ?_)
      refine At.thenC ?_
      refine W.seq ?_
      obtain ⟨y10, hy11, H⟩ := of_bindO H
      refine W.region env [] [⟨.tup [.int .i64 (y10.1), .int .i64 (y10.2)], [], 0, []⟩] rfl rfl rfl (.cons ⟨by first | rfl | (simp; done) | omega | (simp; omega), ⟨by first | rfl | (simp; done) | omega | (simp; omega), (by first | rfl | (simp; done) | omega | (simp; omega))⟩⟩ .nil) (.free (c_crew_Count fuel (⟨y8, y6.Travel, y6.Hands⟩ : Crew) hy11) .nil) (At.keep (ts := [1, 4, 6, 8, 10, 21, 22, 23]) (ids := [1, 8, 506]) rfl rfl ?_)
      refine At.thenC ?_
      refine W.rg env [1, 4, 6, 8, 21, 22, 23, 44] [1, 8, 506] ?_
      refine W.cond rfl (fun hb12 => ?_) (fun hb12 => ?_)
      · have H := of_true H hb12
        obtain ⟨hc13, H⟩ := of_must H
        refine W.region env [] [] rfl rfl rfl (.cons (⟨by first | rfl | (simp; done) | omega | (simp; omega), by have := hc13; first | simpa using this | (unfold room at this ⊢; simp at this ⊢; omega)⟩) .nil) .nil (At.keep (ts := [1, 4, 6, 21, 22, 23]) (ids := [1, 506]) rfl rfl ?_)
        refine At.convM (.cons (.refl _) (.cons (y := bufL 3 1 enc_Int (s4 ++ ([(p0.Tasks.getD i4 default).Lamp] : List Int))) (BSim.seg (Seg.push (Seg.refl enc_Int _) (Seg.lit (f := enc_Int) (sz := 1) ([(p0.Tasks.getD i4 default).Lamp] : List Int) rfl rfl (fun _ => rfl)))) .nil)) ?_
        refine At.inb ?_
        refine At.thenC ?_
        refine W.region env [] [] rfl rfl rfl (.cons (by unfold inI; have := hn4; (try unfold maxLen at this); omega) .nil) .nil (At.keep (ts := [1, 4, 6, 21, 22, 23]) (ids := [1, 506]) rfl rfl ?_)
        refine At.thenK (At.keep (ts := [1, 4, 6, 21, 22, 23]) (ids := [1, 506]) rfl rfl ?_)
        exact At.conv (.cons .q (.cons .qi (.cons .qb (.cons .q (.cons .qi (.cons .qi .nil)))))) (.cons .q (.cons .q .nil)) (hK4 hi4 (s4 ++ ([(p0.Tasks.getD i4 default).Lamp] : List Int)) H)
      · have H := of_false H hb12
        refine W.skip ?_
        refine At.inb ?_
        refine At.thenC ?_
        refine W.region env [] [] rfl rfl rfl (.cons (by unfold inI; have := hn4; (try unfold maxLen at this); omega) .nil) .nil (At.keep (ts := [1, 4, 6, 21, 22, 23]) (ids := [1, 506]) rfl rfl ?_)
        refine At.thenK (At.keep (ts := [1, 4, 6, 21, 22, 23]) (ids := [1, 506]) rfl rfl ?_)
        exact At.conv (.cons .q (.cons .qi (.cons .qb (.cons .q (.cons .qi (.cons .qi .nil)))))) (.cons .q (.cons .q .nil)) (hK4 hi4 s4 H)
    · have H := H2 (by have := of_decide_eq_false hb5; omega)
      refine W.exit ?_
      refine At.xthen ?_
      refine At.xthen ?_
      refine At.xhere ?_
      refine At.thenC ?_
      refine W.rg env [2, 3] [506] ?_
      refine W.ret ?_
      cases H
      exact At.ret env.ty rfl rfl (fun q hq => by cases hq; exact (by first | rfl | (simp; done) | omega | (simp; omega))) (.refl _) hval

theorem c_gasolierref01_Same (p0 : (List Int)) (p1 : (List Int)) {r : Bool} (H : gasolierref01_Same p0 p1 = some r) : Ctr Try.prog 13 [roL 1 enc_Int p0, roL 1 enc_Int p1] (.bool (r)) := by
  unfold gasolierref01_Same at H
  refine Ctr.of_body (N := 26) Try.func13 (by kernel_rfl) (c := _) rfl Try.ntmps13 rfl (fun w0 h0 hval => ?_)
  refine W.rg env [0, 1] [] ?_
  refine W.seq ?_
  refine W.rg env [0, 1, 10] [] ?_
  refine W.cond rfl (fun hb1 => ?_) (fun hb1 => ?_)
  · have H := of_true H hb1
    refine W.rg env [4] [] ?_
    refine W.ret ?_
    refine At.rthen ?_
    cases H
    exact At.ret env.ty rfl rfl (fun q hq => by cases hq) (.refl _) hval
  · have H := of_false H hb1
    refine W.skip ?_
    refine At.thenC ?_
    refine W.seq ?_
    refine W.rg env [0, 1, 12, 13] [] ?_
    refine W.block ?_
    refine At.keep (ts := [0, 1, 12, 13]) (ids := []) rfl rfl ?_
    refine W.len (t := 0) rfl (fun (hn2 : p0.length ≤ maxLen) => ?_)
    refine W.rangeGo H (fun i2 (s2 : Unit) => [(0, roL 1 enc_Int p0), (1, roL 1 enc_Int p1), (12, .int .i64 (((p0.length : Nat) : Int))), (13, .int .i64 ((i2 : Int)))]) (fun i2 (s2 : Unit) => []) (.cons .q (.cons .q (.cons .qi (.cons .qi .nil)))) .nil (fun k2 i2 s2 hle2 H1 H2 K0 hK2 => ?_)
    refine W.rg env [0, 1, 12, 13, 14] [] ?_
    refine W.seq ?_
    refine W.cond rfl (fun hb3 => ?_) (fun hb3 => ?_)
    · have hi2 : i2 < p0.length := by have := of_decide_eq_true hb3; omega
      have H := H1 hi2
      refine W.skip ?_
      refine At.thenC ?_
      refine W.seq ?_
      refine W.block ?_
      refine W.rg env [0, 1, 5, 12, 13] [] ?_
      obtain ⟨hc4, H⟩ := of_must H
      refine W.sr env [] [] [0, 1, 12, 13, 24] [] rfl rfl (by first | rfl | kernel_rfl) (.cons (⟨by omega, by omega⟩ : 0 ≤ (i2 : Int) ∧ (i2 : Int) < ((p0.length : Nat) : Int)) (.cons hc4 .nil)) .nil ?_
      refine W.cond rfl (fun hb5 => ?_) (fun hb5 => ?_)
      · have H := of_true H hb5
        refine W.rg env [4] [] ?_
        refine W.ret ?_
        refine At.rinb ?_
        refine At.rthen ?_
        refine At.rthen ?_
        refine At.rinb ?_
        refine At.rthen ?_
        cases H
        exact At.ret env.ty rfl rfl (fun q hq => by cases hq) (.refl _) hval
      · have H := of_false H hb5
        refine W.skip ?_
        refine At.inb ?_
        refine At.thenC ?_
        refine W.region env [] [] rfl rfl rfl (.cons (by unfold inI; have := hn2; (try unfold maxLen at this); omega) .nil) .nil (At.keep (ts := [0, 1, 12, 13]) (ids := []) rfl rfl ?_)
        refine At.thenK (At.keep (ts := [0, 1, 12, 13]) (ids := []) rfl rfl ?_)
        exact At.conv (.cons .q (.cons .q (.cons .qi (.cons .qi .nil)))) .nil (hK2 hi2 () H)
    · have H := H2 (by have := of_decide_eq_false hb3; omega)
      refine W.exit ?_
      refine At.xthen ?_
      refine At.xthen ?_
      refine At.xhere ?_
      refine At.thenC ?_
      refine W.rg env [4] [] ?_
      refine W.ret ?_
      cases H
      exact At.ret env.ty rfl rfl (fun q hq => by cases hq) (.refl _) hval

theorem c_crew_CheckRounds (p0 : Crew) (p1 : (List (List Int))) {r : Int} (H : crew_CheckRounds p0 p1 = some r) : Ctr Try.prog 26 [.agg [roL 4 enc_Task p0.Tasks, roL 1 enc_ListRange p0.Travel, roL 3 enc_Hand p0.Hands], roL 1 enc_ListInt p1] (.int .i64 (r)) := by
  unfold crew_CheckRounds at H
  refine Ctr.of_body (N := 14) Try.func26 (by kernel_rfl) (c := _) rfl Try.ntmps26 rfl (fun w0 h0 hval => ?_)
  refine W.rg env [1, 2] [2] ?_
  refine W.seq ?_
  obtain ⟨y1, hy2, H⟩ := of_bindO H
  refine W.region env [] [⟨.tup [.po y1.1.isSome [roL 4 enc_Task ((y1.1.getD default).Crew.Tasks), roL 1 enc_ListRange ((y1.1.getD default).Crew.Travel), roL 3 enc_Hand ((y1.1.getD default).Crew.Hands), roL 1 enc_Int ((y1.1.getD default).next)], .int .i64 (y1.2)], [], 0, []⟩] rfl rfl rfl .nil (.free (c_crew_asked p0 p1 hy2) .nil) (At.keep (ts := [6]) (ids := []) rfl rfl ?_)
  refine At.thenC ?_
  refine W.rg env [4] [] ?_
  refine W.ret ?_
  cases H
  exact At.ret env.ty rfl rfl (fun q hq => by cases hq) (.refl _) hval

theorem c_crew_CheckCut (p0 : Crew) (p1 : (List Int)) (p2 : Int) {r : Int} (H : crew_CheckCut p0 p1 p2 = some r) : Ctr Try.prog 27 [.agg [roL 4 enc_Task p0.Tasks, roL 1 enc_ListRange p0.Travel, roL 3 enc_Hand p0.Hands], roL 1 enc_Int p1, .int .i64 (p2)] (.int .i64 (r)) := by
  unfold crew_CheckCut at H
  refine Ctr.of_body (N := 87) Try.func27 (by kernel_rfl) (c := _) rfl Try.ntmps27 rfl (fun w0 h0 hval => ?_)
  refine W.rg env [1, 2, 3] [3] ?_
  refine W.seq ?_
  refine W.seq ?_
  obtain ⟨y1, hy2, H⟩ := of_bindO H
  refine W.region env [] [⟨.int .i64 (y1), [], 0, []⟩] rfl rfl rfl .nil (.free (c_crew_Check p0 hy2) .nil) (At.keep (ts := [1, 2, 3, 7]) (ids := [3]) rfl rfl ?_)
  refine At.thenC ?_
  refine W.rg env [1, 2, 3, 7, 16] [3] ?_
  refine W.cond rfl (fun hb3 => ?_) (fun hb3 => ?_)
  · have H := of_true H hb3
    refine W.rg env [6] [] ?_
    refine W.ret ?_
    refine At.rthen ?_
    cases H
    exact At.ret env.ty rfl rfl (fun q hq => by cases hq) (.refl _) hval
  · have H := of_false H hb3
    refine W.skip ?_
    refine At.thenC ?_
    refine W.seq ?_
    obtain ⟨y4, hy5, H⟩ := of_bindO H
    refine W.region env [] [⟨.po y4.isSome [roL 4 enc_Task ((y4.getD default).Crew.Tasks), roL 1 enc_ListRange ((y4.getD default).Crew.Travel), roL 3 enc_Hand ((y4.getD default).Crew.Hands), roL 1 enc_Int ((y4.getD default).next)], [], 0, []⟩] rfl rfl rfl .nil (.free (c_crew_newPlan p0 (fun x0 => some (crew_most x0)) 46 [] [] (fun x0 r h => by cases h; exact c_crew_most x0) hy5) .nil) (At.keep (ts := [1, 2, 8]) (ids := []) rfl rfl ?_)
    refine At.thenC ?_
    refine W.seq ?_
    refine W.rg env [1, 2, 8, 20, 21, 22] [] ?_
    refine W.block ?_
    refine At.keep (ts := [1, 2, 8, 20, 21, 22]) (ids := []) rfl rfl ?_
    refine W.len (t := 20) rfl (fun (hn6 : p1.length ≤ maxLen) => ?_)
    refine W.rangeGo H (fun i6 (s6 : Unit) => [(1, roL 1 enc_Int p1), (2, .int .i64 (p2)), (8, .po y4.isSome [roL 4 enc_Task ((y4.getD default).Crew.Tasks), roL 1 enc_ListRange ((y4.getD default).Crew.Travel), roL 3 enc_Hand ((y4.getD default).Crew.Hands), roL 1 enc_Int ((y4.getD default).next)]), (20, roL 1 enc_Int p1), (21, .int .i64 (((p1.length : Nat) : Int))), (22, .int .i64 ((i6 : Int)))]) (fun i6 (s6 : Unit) => []) (.cons .q (.cons .qi (.cons .q (.cons .q (.cons .qi (.cons .qi .nil)))))) .nil (fun k6 i6 s6 hle6 H1 H2 K0 hK6 => ?_)
    refine W.rg env [1, 2, 8, 20, 21, 22, 23] [] ?_
    refine W.seq ?_
    refine W.cond rfl (fun hb7 => ?_) (fun hb7 => ?_)
    · have hi6 : i6 < p1.length := by have := of_decide_eq_true hb7; omega
      have H := H1 hi6
      refine W.skip ?_
      refine At.thenC ?_
      refine W.seq ?_
      refine W.block ?_
      refine W.sr env [] [] [1, 2, 8, 9, 10, 20, 21, 22] [] rfl rfl rfl (.cons (⟨by omega, by omega⟩ : 0 ≤ (i6 : Int) ∧ (i6 : Int) < ((p1.length : Nat) : Int)) .nil) .nil ?_
      refine W.seq ?_
      obtain ⟨hc8, H⟩ := of_must H
      obtain ⟨hc9, H⟩ := of_must H
      obtain ⟨hc10, H⟩ := of_must H
      obtain ⟨hc11, H⟩ := of_must H
      refine W.sr env [] [⟨.bool ((crew_in (p1.getD i6 default) 0 (((((y4.getD default).next).length : Nat) : Int) - 1))), [], 0, []⟩] [1, 2, 8, 9, 10, 20, 21, 22, 48] [] rfl rfl rfl (.cons hc8 (.cons hc9 (.cons (fun h => h) (.cons (fun h => h) (.cons hc10 (.cons (fun h => h) (.cons hc11 (.cons (fun h => h) (.cons (fun h => h) (.cons (fun h => h) (.cons (fun h => h) (.cons (fun h => h) (.cons (fun h => h) (.cons (fun hW h => by revert hW h; first | (simp +contextual; done) | grind) (.cons (fun h => by rw [h]; rfl) .nil))))))))))))))) (.free (c_crew_in (p1.getD i6 default) 0 (((((y4.getD default).next).length : Nat) : Int) - 1)) .nil) ?_
      refine W.cond rfl (fun hb12 => ?_) (fun hb12 => ?_)
      · have H := of_true H hb12
        refine W.rg env [6] [] ?_
        refine W.ret ?_
        refine At.rthen ?_
        refine At.rinb ?_
        refine At.rthen ?_
        refine At.rthen ?_
        refine At.rinb ?_
        refine At.rthen ?_
        cases H
        exact At.ret env.ty rfl rfl (fun q hq => by cases hq) (.refl _) hval
      · have H := of_false H hb12
        refine W.skip ?_
        refine At.thenC ?_
        refine W.seq ?_
        obtain ⟨hc13, H⟩ := of_must H
        refine W.region env [] [] rfl rfl rfl (.cons hc13 .nil) .nil (At.keep (ts := [1, 2, 8, 10, 20, 21, 22, 51, 52, 53]) (ids := []) rfl rfl ?_)
        refine At.slot (t := 51) (v := roL 1 enc_Int (p1.take i6)) (Sim.seg (Seg.take enc_Int p1 i6 (by omega))) ?_
        refine At.thenC ?_
        refine W.block ?_
        refine At.keep (ts := [1, 2, 8, 10, 20, 21, 22, 51, 52, 53]) (ids := []) rfl rfl ?_
        refine W.len (t := 51) rfl (fun (hn14 : (p1.take i6).length ≤ maxLen) => ?_)
        refine W.rangeGo H (fun i14 (s14 : Unit) => [(1, roL 1 enc_Int p1), (2, .int .i64 (p2)), (8, .po y4.isSome [roL 4 enc_Task ((y4.getD default).Crew.Tasks), roL 1 enc_ListRange ((y4.getD default).Crew.Travel), roL 3 enc_Hand ((y4.getD default).Crew.Hands), roL 1 enc_Int ((y4.getD default).next)]), (10, .int .i64 ((p1.getD i6 default))), (20, roL 1 enc_Int p1), (21, .int .i64 (((p1.length : Nat) : Int))), (22, .int .i64 ((i6 : Int))), (51, roL 1 enc_Int (p1.take i6)), (52, .int .i64 ((((p1.take i6).length : Nat) : Int))), (53, .int .i64 ((i14 : Int)))]) (fun i14 (s14 : Unit) => []) (.cons .q (.cons .qi (.cons .q (.cons .qi (.cons .q (.cons .qi (.cons .qi (.cons .q (.cons .qi (.cons .qi .nil)))))))))) .nil (fun k14 i14 s14 hle14 H1 H2 K0 hK14 => ?_)
        refine W.rg env [1, 2, 8, 10, 20, 21, 22, 51, 52, 53, 54] [] ?_
        refine W.seq ?_
        refine W.cond rfl (fun hb15 => ?_) (fun hb15 => ?_)
        · have hi14 : i14 < (p1.take i6).length := by have := of_decide_eq_true hb15; omega
          have H := H1 hi14
          refine W.skip ?_
          refine At.thenC ?_
          refine W.seq ?_
          refine W.block ?_
          refine W.sr env [] [] [1, 2, 8, 10, 12, 20, 21, 22, 51, 52, 53] [] rfl rfl rfl (.cons (⟨by omega, by omega⟩ : 0 ≤ (i14 : Int) ∧ (i14 : Int) < (((p1.take i6).length : Nat) : Int)) .nil) .nil ?_
          obtain ⟨hc16, H⟩ := of_must H
          obtain ⟨hc17, H⟩ := of_must H
          obtain ⟨hc18, H⟩ := of_must H
          obtain ⟨hc19, H⟩ := of_must H
          obtain ⟨hc20, H⟩ := of_must H
          obtain ⟨hc21, H⟩ := of_must H
          obtain ⟨hc22, H⟩ := of_must H
          obtain ⟨hc23, H⟩ := of_must H
          refine W.sr env [] [] [1, 2, 8, 10, 20, 21, 22, 51, 52, 53, 80] [] rfl rfl rfl (.cons hc16 (.cons hc17 (.cons hc18 (.cons hc19 (.cons hc20 (.cons (fun h => h) (.cons (fun h => h) (.cons (fun h => h) (.cons hc21 (.cons (fun h => h) (.cons (fun h => h) (.cons (fun h => h) (.cons hc22 (.cons (fun h => h) (.cons (fun h => h) (.cons hc23 (.cons (fun h => h) (.cons (fun h => h) (.cons (fun h => by rw [h]; rfl) .nil))))))))))))))))))) .nil ?_
          refine W.cond rfl (fun hb24 => ?_) (fun hb24 => ?_)
          · have H := of_true H hb24
            refine W.rg env [6] [] ?_
            refine W.ret ?_
            refine At.rinb ?_
            refine At.rthen ?_
            refine At.rthen ?_
            refine At.rinb ?_
            refine At.rinb ?_
            refine At.rthen ?_
            refine At.rthen ?_
            refine At.rinb ?_
            refine At.rthen ?_
            cases H
            exact At.ret env.ty rfl rfl (fun q hq => by cases hq) (.refl _) hval
          · have H := of_false H hb24
            refine W.skip ?_
            refine At.inb ?_
            refine At.thenC ?_
            refine W.region env [] [] rfl rfl rfl (.cons (by unfold inI; have := hn14; (try unfold maxLen at this); omega) .nil) .nil (At.keep (ts := [1, 2, 8, 10, 20, 21, 22, 51, 52, 53]) (ids := []) rfl rfl ?_)
            refine At.thenK (At.keep (ts := [1, 2, 8, 10, 20, 21, 22, 51, 52, 53]) (ids := []) rfl rfl ?_)
            exact At.conv (.cons .q (.cons .qi (.cons .q (.cons .qi (.cons .q (.cons .qi (.cons .qi (.cons .q (.cons .qi (.cons .qi .nil)))))))))) .nil (hK14 hi14 () H)
        · have H := H2 (by have := of_decide_eq_false hb15; omega)
          refine W.exit ?_
          refine At.xthen ?_
          refine At.xthen ?_
          refine At.xhere ?_
          refine At.inb ?_
          refine At.thenC ?_
          refine W.region env [] [] rfl rfl rfl (.cons (by unfold inI; have := hn6; (try unfold maxLen at this); omega) .nil) .nil (At.keep (ts := [1, 2, 8, 20, 21, 22]) (ids := []) rfl rfl ?_)
          refine At.thenK (At.keep (ts := [1, 2, 8, 20, 21, 22]) (ids := []) rfl rfl ?_)
          exact At.conv (.cons .q (.cons .qi (.cons .q (.cons .q (.cons .qi (.cons .qi .nil)))))) .nil (hK6 hi6 () H)
    · have H := H2 (by have := of_decide_eq_false hb7; omega)
      refine W.exit ?_
      refine At.xthen ?_
      refine At.xthen ?_
      refine At.xhere ?_
      refine At.thenC ?_
      refine W.seq ?_
      refine W.rg env [86] [] ?_
      refine W.cond rfl (fun hb25 => ?_) (fun hb25 => ?_)
      · have H := of_true H hb25
        refine W.rg env [6] [] ?_
        refine W.ret ?_
        refine At.rthen ?_
        cases H
        exact At.ret env.ty rfl rfl (fun q hq => by cases hq) (.refl _) hval
      · have H := of_false H hb25
        refine W.skip ?_
        refine At.thenC ?_
        refine W.rg env [6] [] ?_
        refine W.ret ?_
        cases H
        exact At.ret env.ty rfl rfl (fun q hq => by cases hq) (.refl _) hval

theorem c_gasolierlaw04_sane (fuel : Nat) {r : Bool} (H : gasolierlaw04_sane fuel = some r) : Ctr Try.prog 14 [] (.bool (r)) := by
  unfold gasolierlaw04_sane at H
  refine Ctr.of_body (N := 164) Try.func14 (by kernel_rfl) (c := _) rfl Try.ntmps14 rfl (fun w0 h0 hval => ?_)
  refine W.rg env [] [] ?_
  refine W.sr env [] [⟨.agg [roL 4 enc_Task ((gasolierlaw04_team).Tasks), roL 1 enc_ListRange ((gasolierlaw04_team).Travel), roL 3 enc_Hand ((gasolierlaw04_team).Hands)], [], 0, []⟩] [1] [1] rfl rfl rfl .nil (.free (c_gasolierlaw04_team) .nil) ?_
  refine W.seq ?_
  refine W.region env [] [] rfl rfl rfl .nil .nil (At.keep (ts := [1, 2]) (ids := [1]) rfl rfl ?_)
  refine At.slot (t := 2) (v := roL 1 enc_ListInt ([([0, 2, 3] : List Int), ([1] : List Int)] : List (List Int))) (Sim.lit2 (f := enc_ListInt) ([([0, 2, 3] : List Int), ([1] : List Int)] : List (List Int)) (.cons (Sim.lit (f := enc_Int) ([0, 2, 3] : List Int) rfl rfl (fun _ => rfl)) (.cons (Sim.lit (f := enc_Int) ([1] : List Int) rfl rfl (fun _ => rfl)) .nil)) rfl rfl (fun _ => rfl)) ?_
  refine At.thenC ?_
  refine W.seq ?_
  obtain ⟨y1, hy2, H⟩ := of_bindO H
  refine W.region env [] [⟨.tup [.int .i64 (y1.1), .int .i64 (y1.2)], [], 0, []⟩] rfl rfl rfl .nil (.free (c_crew_Follows (gasolierlaw04_team) 0 1 hy2) .nil) (At.keep (ts := [1, 2, 3, 4]) (ids := [1]) rfl rfl ?_)
  refine At.thenC ?_
  refine W.seq ?_
  obtain ⟨y3, hy4, H⟩ := of_bindO H
  refine W.region env [] [⟨.tup [.int .i64 (y3.1), .int .i64 (y3.2)], [], 0, []⟩] rfl rfl rfl .nil (.free (c_crew_Count fuel (gasolierlaw04_team) hy4) .nil) (At.keep (ts := [1, 2, 3, 4, 5, 6]) (ids := [1]) rfl rfl ?_)
  refine At.thenC ?_
  refine W.seq ?_
  obtain ⟨y5, hy6, H⟩ := of_bindO H
  refine W.region env [] [⟨.tup [.agg [.int .i64 (y5.1.Lo), .int .i64 (y5.1.Hi)], .int .i64 (y5.2)], [], 0, []⟩] rfl rfl rfl .nil (.free (c_crew_Bounds fuel (gasolierlaw04_team) hy6) .nil) (At.keep (ts := [1, 2, 3, 4, 5, 6, 7, 8]) (ids := [1, 7]) rfl rfl ?_)
  refine At.thenC ?_
  refine W.seq ?_
  obtain ⟨y7, hy8, H⟩ := of_bindO H
  refine W.region env [] [⟨.tup [.int .i64 (y7.1), .int .i64 (y7.2)], [], 0, []⟩] rfl rfl rfl .nil (.free (c_crew_Slack fuel (gasolierlaw04_team) ([([0, 2, 3] : List Int), ([1] : List Int)] : List (List Int)) hy8) .nil) (At.keep (ts := [1, 2, 3, 4, 5, 6, 7, 8, 9, 10]) (ids := [1, 7]) rfl rfl ?_)
  refine At.thenC ?_
  refine W.seq ?_
  obtain ⟨y9, hy10, H⟩ := of_bindO H
  refine W.region env [] [⟨.tup [roL 1 enc_Int y9.1, .int .i64 (y9.2)], [], 0, []⟩] rfl rfl rfl .nil (.free (Ctr.sim (.cons (.refl _) (.cons (.refl _) (.cons (Sim.lit2 (f := enc_ListInt) ([([0, 24] : List Int), ([] : List Int)] : List (List Int)) (.cons (Sim.lit (f := enc_Int) ([0, 24] : List Int) rfl rfl (fun _ => rfl)) (.cons (Sim.lit (f := enc_Int) ([] : List Int) rfl rfl (fun _ => rfl)) .nil)) rfl rfl (fun _ => rfl)) .nil))) (c_crew_Late (gasolierlaw04_team) ([([0, 2, 3] : List Int), ([1] : List Int)] : List (List Int)) ([([0, 24] : List Int), ([] : List Int)] : List (List Int)) hy10)) .nil) (At.keep (ts := [1, 2, 3, 4, 5, 6, 7, 8, 9, 10, 11, 12]) (ids := [1, 7]) rfl rfl ?_)
  refine At.thenC ?_
  refine W.seq ?_
  obtain ⟨y11, hy12, H⟩ := of_bindO H
  refine W.region env [] [⟨.tup [roL 1 enc_Int y11.1, .int .i64 (y11.2)], [], 0, []⟩] rfl rfl rfl .nil (.free (c_crew_Assign fuel (gasolierlaw04_team) ([([0, 2, 3] : List Int), ([1] : List Int)] : List (List Int)) hy12) .nil) (At.keep (ts := [1, 2, 3, 4, 5, 6, 7, 8, 9, 10, 11, 12, 13, 14]) (ids := [1, 7]) rfl rfl ?_)
  refine At.thenC ?_
  refine W.seq ?_
  obtain ⟨y13, hy14, H⟩ := of_bindO H
  refine W.region env [] [⟨.tup [.agg [roL 4 enc_Task y13.1.Tasks, roL 1 enc_ListRange y13.1.Travel, roL 3 enc_Hand y13.1.Hands], .int .i64 (y13.2)], [], 0, []⟩] rfl rfl rfl .nil (.free (c_crew_Ill (gasolierlaw04_team) 8 315 hy14) .nil) (At.keep (ts := [1, 2, 3, 4, 5, 6, 7, 8, 9, 10, 11, 12, 13, 14, 15, 16]) (ids := [1, 7, 15]) rfl rfl ?_)
  refine At.thenC ?_
  refine W.seq ?_
  obtain ⟨y15, hy16, H⟩ := of_bindO H
  refine W.region env [] [⟨.tup [roL 1 enc_Int y15.1, .int .i64 (y15.2)], [], 0, []⟩] rfl rfl rfl .nil (.free (c_crew_Short fuel y13.1 ([([0, 2, 3] : List Int), ([1] : List Int)] : List (List Int)) hy16) .nil) (At.keep (ts := [1, 3, 4, 5, 6, 7, 8, 9, 10, 11, 12, 13, 14, 16, 17, 18]) (ids := [1, 7]) rfl rfl ?_)
  refine At.thenC ?_
  refine W.seq ?_
  obtain ⟨y17, hy18, H⟩ := of_bindO H
  refine W.region env [] [⟨.tup [roL 1 enc_Int y17.1, .int .i64 (y17.2)], [], 0, []⟩] rfl rfl rfl .nil (.free (c_crew_Moved fuel (gasolierlaw04_team) hy18) .nil) (At.keep (ts := [1, 3, 4, 5, 6, 7, 8, 9, 10, 11, 12, 13, 14, 16, 17, 18, 19, 20]) (ids := [1, 7]) rfl rfl ?_)
  refine At.thenC ?_
  refine W.sr env [] [] [1, 3, 5, 7, 9, 11, 13, 17, 19, 21] [1, 7] rfl rfl rfl (.cons (fun h => h) (.cons (fun h => h) (.cons (fun h => h) (.cons (fun h => h) (.cons (fun h => h) (.cons (fun h => h) (.cons (fun h => h) (.cons (fun h => h) (.cons (fun h => h) (.cons (fun h => h) (.cons (fun h => h) (.cons (fun h => h) (.cons (fun h => h) (.cons (fun h => h) (.cons (fun h => h) (.cons (fun h => h) .nil)))))))))))))))) .nil ?_
  refine W.seq ?_
  obtain ⟨y19, hy20, H⟩ := of_bindO H
  obtain ⟨y21, hy22, H⟩ := of_bindO H
  obtain ⟨y23, hy24, H⟩ := of_bindO H
  obtain ⟨y25, hy26, H⟩ := of_bindO H
  obtain ⟨y27, hy28, H⟩ := of_bindO H
  obtain ⟨y29, hy30, H⟩ := of_bindO H
  refine W.region env [] [⟨.bool (y19), [], 0, []⟩, ⟨.bool (y21), [], 0, []⟩, ⟨.bool (y23), [], 0, []⟩, ⟨.bool (y25), [], 0, []⟩, ⟨.int .i64 (y27), [], 0, []⟩, ⟨.int .i64 (y29), [], 0, []⟩] rfl rfl rfl (.cons (fun h => h) (.cons (fun h => h) (.cons (fun h => h) (.cons (fun h => h) (.cons (fun h => h) (.cons (fun h => h) (.cons (fun h => h) (.cons (fun h => h) (.cons (fun h => h) (.cons (fun h => h) (.cons (fun h => h) (.cons (fun h => h) (.cons (fun h => h) (.cons (fun h => h) (.cons (fun h => h) (.cons (fun h => h) (.cons (fun h => h) (.cons (fun h => h) (.cons (fun h => h) (.cons (fun h => h) (.cons (fun h => h) (.cons (fun h => h) (.cons (fun h => h) (.cons (fun h => h) (.cons (fun h => h) (.cons (fun h => h) (.cons (fun h => h) (.cons (fun h => h) (.cons (fun h => h) (.cons (fun h => h) (.cons (fun h => h) .nil))))))))))))))))))))))))))))))) (.on (fun hW => Ctr.sim (.cons (.refl _) (.cons (Sim.lit (f := enc_Int) ([3] : List Int) rfl rfl (fun _ => rfl)) .nil)) (c_gasolierref01_Same y9.1 ([3] : List Int) (of_true hy20 hW))) (.on (fun hW => Ctr.sim (.cons (.refl _) (.cons (Sim.lit (f := enc_Int) ([7, 8] : List Int) rfl rfl (fun _ => rfl)) .nil)) (c_gasolierref01_Same y11.1 ([7, 8] : List Int) (of_true hy22 hW))) (.on (fun hW => Ctr.sim (.cons (.refl _) (.cons (Sim.lit (f := enc_Int) ([0, 1] : List Int) rfl rfl (fun _ => rfl)) .nil)) (c_gasolierref01_Same y15.1 ([0, 1] : List Int) (of_true hy24 hW))) (.on (fun hW => Ctr.sim (.cons (.refl _) (.cons (Sim.lit (f := enc_Int) ([2] : List Int) rfl rfl (fun _ => rfl)) .nil)) (c_gasolierref01_Same y17.1 ([2] : List Int) (of_true hy26 hW))) (.on (fun hW => Ctr.sim (.cons (.refl _) (.cons (Sim.lit2 (f := enc_ListInt) ([([0, 1] : List Int), ([2, 3] : List Int)] : List (List Int)) (.cons (Sim.lit (f := enc_Int) ([0, 1] : List Int) rfl rfl (fun _ => rfl)) (.cons (Sim.lit (f := enc_Int) ([2, 3] : List Int) rfl rfl (fun _ => rfl)) .nil)) rfl rfl (fun _ => rfl)) .nil)) (c_crew_CheckRounds (gasolierlaw04_team) ([([0, 1] : List Int), ([2, 3] : List Int)] : List (List Int)) (of_true hy28 hW))) (.on (fun hW => Ctr.sim (.cons (.refl _) (.cons (Sim.lit (f := enc_Int) ([0, 1] : List Int) rfl rfl (fun _ => rfl)) (.cons (.refl _) .nil))) (c_crew_CheckCut (gasolierlaw04_team) ([0, 1] : List Int) 2 (of_true hy30 hW))) .nil)))))) (At.keep (ts := [0]) (ids := []) rfl rfl ?_)
  refine At.thenC ?_
  refine W.ret ?_
  cases H
  exact At.ret env.ty rfl rfl (fun q hq => by cases hq) (.refl _) hval

theorem c_crew_Rounds (fuel : Nat) (p0 : Crew) {r : ((List (List Int)) × Int)} (H : crew_Rounds fuel p0 = some r) : Ctr Try.prog 17 [.agg [roL 4 enc_Task p0.Tasks, roL 1 enc_ListRange p0.Travel, roL 3 enc_Hand p0.Hands]] (.tup [roL 1 enc_ListInt r.1, .int .i64 (r.2)]) := by
  unfold crew_Rounds at H
  refine Ctr.of_body (N := 49) Try.func17 (by kernel_rfl) (c := _) rfl Try.ntmps17 rfl (fun w0 h0 hval => ?_)
  refine W.rg env [1] [1] ?_
  refine W.seq ?_
  refine W.seq ?_
  obtain ⟨y1, hy2, H⟩ := of_bindO H
  refine W.region env [] [⟨.int .i64 (y1), [], 0, []⟩] rfl rfl rfl .nil (.free (c_crew_Check p0 hy2) .nil) (At.keep (ts := [1, 4]) (ids := [1]) rfl rfl ?_)
  refine At.thenC ?_
  refine W.rg env [1, 4, 14] [1] ?_
  refine W.cond rfl (fun hb3 => ?_) (fun hb3 => ?_)
  · have H := of_true H hb3
    refine W.rg env [2, 3] [] ?_
    refine W.ret ?_
    refine At.rthen ?_
    cases H
    exact At.ret env.ty rfl rfl (fun q hq => by cases hq) (Sim.tupL (.cons (Sim.nil _ _) (.cons (.refl _) .nil))) hval
  · have H := of_false H hb3
    refine W.skip ?_
    refine At.thenC ?_
    refine W.seq ?_
    obtain ⟨y4, hy5, H⟩ := of_bindO H
    obtain ⟨hc6, H⟩ := of_must H
    obtain ⟨y7, hy8, H⟩ := of_bindO H
    refine W.region env [] [⟨.po y4.isSome [roL 4 enc_Task ((y4.getD default).Crew.Tasks), roL 1 enc_ListRange ((y4.getD default).Crew.Travel), roL 3 enc_Hand ((y4.getD default).Crew.Hands), roL 1 enc_Int ((y4.getD default).next)], [], 0, []⟩, ⟨.tup [roL 1 enc_Int y7.1, roL 1 enc_Int y7.2], [], 0, []⟩] rfl rfl rfl .nil (.free (c_crew_newPlan p0 (fun x0 => some (crew_most x0)) 46 [] [] (fun x0 r h => by cases h; exact c_crew_most x0) hy5) (.free (Ctr.sim (.cons (Sim.rp_po hc6) .nil) (c_crew_plan__pair fuel (y4.getD default) hy8)) .nil)) (At.keep (ts := [5, 6]) (ids := []) rfl rfl ?_)
    refine At.thenC ?_
    refine W.rg env [5, 6, 7] [] ?_
    refine W.seq ?_
    refine W.rg env [5, 6, 7, 23, 24] [] ?_
    refine W.block ?_
    refine At.nilOwn 7 507 28 1 (e := fun i => enc_ListInt (([] : List (List Int)).getD i default)) rfl rfl ?_
    refine At.keep (ts := [5, 6, 7, 23, 24]) (ids := [507]) rfl rfl ?_
    refine W.len (t := 5) rfl (fun (hn9 : y7.1.length ≤ maxLen) => ?_)
    refine W.rangeGo H (fun i9 (s9 : (List (List Int))) => [(5, roL 1 enc_Int y7.1), (6, roL 1 enc_Int y7.2), (7, .buf 507 (s9).length), (23, .int .i64 (((y7.1.length : Nat) : Int))), (24, .int .i64 ((i9 : Int)))]) (fun i9 (s9 : (List (List Int))) => [(507, bufL 28 1 enc_ListInt s9)]) (.cons .q (.cons .q (.cons .qb (.cons .qi (.cons .qi .nil))))) (.cons .q .nil) (fun k9 i9 s9 hle9 H1 H2 K0 hK9 => ?_)
    refine W.rg env [5, 6, 7, 23, 24, 25] [507] ?_
    refine W.seq ?_
    refine W.cond rfl (fun hb10 => ?_) (fun hb10 => ?_)
    · have hi9 : i9 < y7.1.length := by have := of_decide_eq_true hb10; omega
      have H := H1 hi9
      refine W.skip ?_
      refine At.thenC ?_
      refine W.seq ?_
      refine W.block ?_
      refine W.rg env [5, 6, 7, 8, 23, 24] [507] ?_
      refine W.seq ?_
      refine W.sr env [] [] [5, 6, 7, 8, 23, 24, 31] [507] rfl rfl rfl (.cons (⟨by omega, by omega⟩ : 0 ≤ (i9 : Int) ∧ (i9 : Int) < ((y7.1.length : Nat) : Int)) .nil) .nil ?_
      refine W.cond rfl (fun hb11 => ?_) (fun hb11 => ?_)
      · have H := of_true H hb11
        refine W.exit ?_
        refine At.xthen ?_
        refine At.xhere ?_
        refine At.thenC ?_
        refine W.region env [] [] rfl rfl rfl (.cons (by unfold inI; have := hn9; (try unfold maxLen at this); omega) .nil) .nil (At.keep (ts := [5, 6, 7, 23, 24]) (ids := [507]) rfl rfl ?_)
        refine At.thenK (At.keep (ts := [5, 6, 7, 23, 24]) (ids := [507]) rfl rfl ?_)
        exact At.conv (.cons .q (.cons .q (.cons .qb (.cons .qi (.cons .qi .nil))))) (.cons .q .nil) (hK9 hi9 s9 H)
      · have H := of_false H hb11
        refine W.skip ?_
        refine At.thenC ?_
        refine W.rg env [5, 6, 7, 8, 9, 23, 24] [507] ?_
        refine W.seq ?_
        refine W.rg env [5, 6, 7, 9, 10, 23, 24] [507] ?_
        refine W.block ?_
        refine At.nilOwn 9 509 3 1 (e := fun i => enc_Int (([] : List Int).getD i default)) rfl rfl ?_
        refine At.keep (ts := [5, 6, 7, 9, 10, 23, 24]) (ids := [507, 509]) rfl rfl ?_
        refine W.loopGo H (fun (s12 : Int × (List Int)) => [(5, roL 1 enc_Int y7.1), (6, roL 1 enc_Int y7.2), (7, .buf 507 (s9).length), (9, .buf 509 (s12.2).length), (10, .int .i64 (s12.1)), (23, .int .i64 (((y7.1.length : Nat) : Int))), (24, .int .i64 ((i9 : Int)))]) (fun (s12 : Int × (List Int)) => [(507, bufL 28 1 enc_ListInt s9), (509, bufL 3 1 enc_Int s12.2)]) (.cons .q (.cons .q (.cons .qb (.cons .qb (.cons .qi (.cons .qi (.cons .qi .nil))))))) (.cons .q (.cons .q .nil)) (fun k12 s12 H K0 hK12 => ?_)
        refine W.seq ?_
        refine W.rg env [5, 6, 7, 9, 10, 23, 24, 34] [507, 509] ?_
        refine W.cond rfl (fun hb13 => ?_) (fun hb13 => ?_)
        · have H := of_true H hb13
          refine W.skip ?_
          refine At.thenC ?_
          refine W.seq ?_
          refine W.block ?_
          obtain ⟨hc14, H⟩ := of_must H
          refine W.region env [] [] rfl rfl rfl (.cons (⟨by first | rfl | (simp; done) | omega | (simp; omega), by have := hc14; first | simpa using this | (unfold room at this ⊢; simp at this ⊢; omega)⟩) .nil) .nil (At.keep (ts := [5, 6, 7, 9, 10, 23, 24]) (ids := [507, 509]) rfl rfl ?_)
          refine At.convM (.cons (.refl _) (.cons (y := bufL 3 1 enc_Int (s12.2 ++ ([s12.1] : List Int))) (BSim.seg (Seg.push (Seg.refl enc_Int _) (Seg.lit (f := enc_Int) (sz := 1) ([s12.1] : List Int) rfl rfl (fun _ => rfl)))) .nil)) ?_
          refine At.inb ?_
          refine At.thenC ?_
          obtain ⟨hc15, H⟩ := of_must H
          refine W.region env [] [] rfl rfl rfl (.cons hc15 .nil) .nil (At.keep (ts := [5, 6, 7, 9, 10, 23, 24]) (ids := [507, 509]) rfl rfl ?_)
          refine At.thenK (At.keep (ts := [5, 6, 7, 9, 10, 23, 24]) (ids := [507, 509]) rfl rfl ?_)
          exact At.conv (.cons .q (.cons .q (.cons .qb (.cons .qb (.cons .qi (.cons .qi (.cons .qi .nil))))))) (.cons .q (.cons .q .nil)) (hK12 ((y7.2.getD (s12.1).toNat default), (s12.2 ++ ([s12.1] : List Int))) H)
        · have H := of_false H hb13
          refine W.exit ?_
          refine At.xthen ?_
          refine At.xthen ?_
          refine At.xhere ?_
          refine At.thenC ?_
          refine At.freeze 9 509 (K := [507]) (ts := [5, 6, 7, 23, 24]) rfl rfl (by first | rfl | (simp; done) | omega | (simp; omega)) rfl rfl rfl (fun _ h => h) ?_
          obtain ⟨hc16, H⟩ := of_must H
          refine W.region env [] [] rfl rfl rfl (.cons (⟨by first | rfl | (simp; done) | omega | (simp; omega), by have := hc16; first | simpa using this | (unfold room at this ⊢; simp at this ⊢; omega)⟩) .nil) .nil (At.keep (ts := [5, 6, 7, 23, 24]) (ids := [507]) rfl rfl ?_)
          refine At.convM (.cons (y := bufL 28 1 enc_ListInt (s9 ++ ([s12.2] : List (List Int)))) (BSim.seg (Seg.push (Seg.refl enc_ListInt _) (Seg.lit (f := enc_ListInt) (sz := 1) ([s12.2] : List (List Int)) rfl rfl (fun _ => rfl)))) .nil) ?_
          refine At.inb ?_
          refine At.thenC ?_
          refine W.region env [] [] rfl rfl rfl (.cons (by unfold inI; have := hn9; (try unfold maxLen at this); omega) .nil) .nil (At.keep (ts := [5, 6, 7, 23, 24]) (ids := [507]) rfl rfl ?_)
          refine At.thenK (At.keep (ts := [5, 6, 7, 23, 24]) (ids := [507]) rfl rfl ?_)
          exact At.conv (.cons .q (.cons .q (.cons .qb (.cons .qi (.cons .qi .nil))))) (.cons .q .nil) (hK9 hi9 (s9 ++ ([s12.2] : List (List Int))) H)
    · have H := H2 (by have := of_decide_eq_false hb10; omega)
      refine W.exit ?_
      refine At.xthen ?_
      refine At.xthen ?_
      refine At.xhere ?_
      refine At.thenC ?_
      refine W.rg env [2, 3] [507] ?_
      refine W.ret ?_
      cases H
      exact At.ret env.ty rfl rfl (fun q hq => by cases hq; exact (by first | rfl | (simp; done) | omega | (simp; omega))) (.refl _) hval

theorem c_gasolierref04_follows (p0 : Crew) (p1 : Int) (p2 : Int) {r : Int} (H : gasolierref04_follows p0 p1 p2 = some r) : Ctr Try.prog 64 [.agg [roL 4 enc_Task p0.Tasks, roL 1 enc_ListRange p0.Travel, roL 3 enc_Hand p0.Hands], .int .i64 (p1), .int .i64 (p2)] (.int .i64 (r)) := by
  unfold gasolierref04_follows at H
  refine Ctr.of_body (N := 52) Try.func64 (by kernel_rfl) (c := _) rfl Try.ntmps64 rfl (fun w0 h0 hval => ?_)
  refine W.rg env [1, 2, 3] [3] ?_
  obtain ⟨hc1, H⟩ := of_must H
  refine W.sr env [] [] [2, 3, 7] [3, 7] rfl rfl rfl (.cons hc1 .nil) .nil ?_
  obtain ⟨hc2, H⟩ := of_must H
  refine W.sr env [] [] [3, 7, 8] [3, 7, 8] rfl rfl rfl (.cons hc2 .nil) .nil ?_
  obtain ⟨hc3, H⟩ := of_must H
  obtain ⟨hc4, H⟩ := of_must H
  refine W.sr env [] [] [7, 8, 9] [7, 8, 9] rfl rfl (by first | rfl | kernel_rfl) (.cons hc3 (.cons hc4 .nil)) .nil ?_
  refine W.seq ?_
  obtain ⟨hc5, H⟩ := of_must H
  obtain ⟨hc6, H⟩ := of_must H
  refine W.sr env [] [] [7, 8, 9, 40] [7, 8, 9] rfl rfl rfl (.cons hc5 (.cons hc6 .nil)) .nil ?_
  refine W.cond rfl (fun hb7 => ?_) (fun hb7 => ?_)
  · have H := of_true H hb7
    refine W.rg env [6] [] ?_
    refine W.ret ?_
    refine At.rthen ?_
    cases H
    exact At.ret env.ty rfl rfl (fun q hq => by cases hq) (.refl _) hval
  · have H := of_false H hb7
    refine W.skip ?_
    refine At.thenC ?_
    refine W.seq ?_
    obtain ⟨hc8, H⟩ := of_must H
    obtain ⟨hc9, H⟩ := of_must H
    refine W.sr env [] [] [51] [] rfl rfl rfl (.cons hc8 (.cons hc9 .nil)) .nil ?_
    refine W.cond rfl (fun hb10 => ?_) (fun hb10 => ?_)
    · have H := of_true H hb10
      refine W.rg env [6] [] ?_
      refine W.ret ?_
      refine At.rthen ?_
      cases H
      exact At.ret env.ty rfl rfl (fun q hq => by cases hq) (.refl _) hval
    · have H := of_false H hb10
      refine W.skip ?_
      refine At.thenC ?_
      refine W.rg env [6] [] ?_
      refine W.ret ?_
      cases H
      exact At.ret env.ty rfl rfl (fun q hq => by cases hq) (.refl _) hval

theorem c_gasolierref04_isRound (p0 : Crew) (p1 : (List Int)) {r : Bool} (H : gasolierref04_isRound p0 p1 = some r) : Ctr Try.prog 60 [.agg [roL 4 enc_Task p0.Tasks, roL 1 enc_ListRange p0.Travel, roL 3 enc_Hand p0.Hands], roL 1 enc_Int p1] (.bool (r)) := by
  unfold gasolierref04_isRound at H
  refine Ctr.of_body (N := 40) Try.func60 (by kernel_rfl) (c := _) rfl Try.ntmps60 rfl (fun w0 h0 hval => ?_)
  refine W.rg env [1, 2] [2] ?_
  refine W.seq ?_
  refine W.rg env [1, 2, 7, 8, 9] [2] ?_
  refine W.block ?_
  refine At.keep (ts := [1, 2, 7, 8, 9]) (ids := [2]) rfl rfl ?_
  refine W.len (t := 7) rfl (fun (hn1 : p1.length ≤ maxLen) => ?_)
  refine W.rangeGo H (fun i1 (s1 : Unit) => [(1, roL 1 enc_Int p1), (2, .lp 2 0), (7, roL 1 enc_Int p1), (8, .int .i64 (((p1.length : Nat) : Int))), (9, .int .i64 ((i1 : Int)))]) (fun i1 (s1 : Unit) => [(2, .cells [roL 4 enc_Task p0.Tasks, roL 1 enc_ListRange p0.Travel, roL 3 enc_Hand p0.Hands])]) (.cons .q (.cons .q (.cons .q (.cons .qi (.cons .qi .nil))))) (.cons .q .nil) (fun k1 i1 s1 hle1 H1 H2 K0 hK1 => ?_)
  refine W.rg env [1, 2, 7, 8, 9, 10] [2] ?_
  refine W.seq ?_
  refine W.cond rfl (fun hb2 => ?_) (fun hb2 => ?_)
  · have hi1 : i1 < p1.length := by have := of_decide_eq_true hb2; omega
    have H := H1 hi1
    refine W.skip ?_
    refine At.thenC ?_
    refine W.seq ?_
    refine W.block ?_
    refine W.sr env [] [] [1, 2, 5, 6, 7, 8, 9] [2] rfl rfl rfl (.cons (⟨by omega, by omega⟩ : 0 ≤ (i1 : Int) ∧ (i1 : Int) < ((p1.length : Nat) : Int)) .nil) .nil ?_
    refine W.seq ?_
    obtain ⟨hc3, H⟩ := of_must H
    obtain ⟨hc4, H⟩ := of_must H
    obtain ⟨hc5, H⟩ := of_must H
    obtain ⟨y6, hy7, H⟩ := of_bindO H
    refine W.region env [] [⟨.bool ((gasolierref01_Within (p1.getD i1 default) 0 (((p0.Tasks.length : Nat) : Int) - 1))), [], 0, []⟩, ⟨.int .i64 (y6), [], 0, []⟩] rfl rfl (by kernel_rfl) (.cons hc3 (.cons (fun h => h) (.cons (fun h => h) (.cons hc4 (.cons (fun h => h) (.cons hc5 (.cons (fun h => h) (.cons (fun h => h) (.cons (fun h => h) (.cons (fun h => h) (.cons (fun h => h) (.cons (fun h => h) (.cons (fun h => h) (.cons (fun h => h) (.cons (fun hW h => by revert hW h; first | (simp +contextual; done) | grind) (.cons (fun h => by rw [h]; rfl) .nil)))))))))))))))) (.free (c_gasolierref01_Within (p1.getD i1 default) 0 (((p0.Tasks.length : Nat) : Int) - 1)) (.on (fun hW => c_gasolierref04_follows p0 (p1.getD (((i1 : Int) - 1)).toNat default) (p1.getD i1 default) (of_true hy7 hW)) .nil)) (At.keep (ts := [1, 2, 7, 8, 9, 35]) (ids := [2]) rfl rfl ?_)
    refine At.thenC ?_
    refine W.cond rfl (fun hb8 => ?_) (fun hb8 => ?_)
    · have H := of_true H hb8
      refine W.rg env [4] [] ?_
      refine W.ret ?_
      refine At.rinb ?_
      refine At.rthen ?_
      refine At.rthen ?_
      refine At.rinb ?_
      refine At.rthen ?_
      cases H
      exact At.ret env.ty rfl rfl (fun q hq => by cases hq) (.refl _) hval
    · have H := of_false H hb8
      refine W.skip ?_
      refine At.inb ?_
      refine At.thenC ?_
      refine W.region env [] [] rfl rfl rfl (.cons (by unfold inI; have := hn1; (try unfold maxLen at this); omega) .nil) .nil (At.keep (ts := [1, 2, 7, 8, 9]) (ids := [2]) rfl rfl ?_)
      refine At.thenK (At.keep (ts := [1, 2, 7, 8, 9]) (ids := [2]) rfl rfl ?_)
      exact At.conv (.cons .q (.cons .q (.cons .q (.cons .qi (.cons .qi .nil))))) (.cons .q .nil) (hK1 hi1 () H)
  · have H := H2 (by have := of_decide_eq_false hb2; omega)
    refine W.exit ?_
    refine At.xthen ?_
    refine At.xthen ?_
    refine At.xhere ?_
    refine At.thenC ?_
    refine W.rg env [4] [] ?_
    refine W.ret ?_
    cases H
    exact At.ret env.ty rfl rfl (fun q hq => by cases hq) (.refl _) hval

theorem c_gasolierref04_CheckRounds (p0 : Crew) (p1 : (List (List Int))) {r : Int} (H : gasolierref04_CheckRounds p0 p1 = some r) : Ctr Try.prog 18 [.agg [roL 4 enc_Task p0.Tasks, roL 1 enc_ListRange p0.Travel, roL 3 enc_Hand p0.Hands], roL 1 enc_ListInt p1] (.int .i64 (r)) := by
  unfold gasolierref04_CheckRounds at H
  refine Ctr.of_body (N := 73) Try.func18 (by kernel_rfl) (c := _) rfl Try.ntmps18 rfl (fun w0 h0 hval => ?_)
  refine W.rg env [1, 2] [2] ?_
  refine W.seq ?_
  refine W.seq ?_
  obtain ⟨y1, hy2, H⟩ := of_bindO H
  refine W.region env [] [⟨.int .i64 (y1), [], 0, []⟩] rfl rfl rfl .nil (.free (c_gasolierref04_Check p0 hy2) .nil) (At.keep (ts := [1, 2, 5]) (ids := [2]) rfl rfl ?_)
  refine At.thenC ?_
  refine W.rg env [1, 2, 5, 16] [2] ?_
  refine W.cond rfl (fun hb3 => ?_) (fun hb3 => ?_)
  · have H := of_true H hb3
    refine W.rg env [4] [] ?_
    refine W.ret ?_
    refine At.rthen ?_
    cases H
    exact At.ret env.ty rfl rfl (fun q hq => by cases hq) (.refl _) hval
  · have H := of_false H hb3
    refine W.skip ?_
    refine At.thenC ?_
    refine W.seq ?_
    obtain ⟨hc4, H⟩ := of_must H
    refine W.region env [] [] rfl rfl rfl (.cons hc4 .nil) .nil (At.keep (ts := [1, 2, 6]) (ids := [2, 21]) rfl rfl ?_)
    refine At.convM (.cons (.refl _) (.cons (y := bufL 3 1 enc_Int (List.replicate (((p0.Tasks.length : Nat) : Int)).toNat (0 : Int))) (BSim.seg (Seg.made (f := enc_Int) 0 rfl)) .nil)) ?_
    refine At.thenC ?_
    refine W.seq ?_
    refine W.rg env [1, 2, 6, 22, 23, 24] [2, 21] ?_
    refine W.block ?_
    refine At.keep (ts := [1, 2, 6, 22, 23, 24]) (ids := [2, 21]) rfl rfl ?_
    refine W.len (t := 22) rfl (fun (hn5 : p1.length ≤ maxLen) => ?_)
    refine W.rangeGo H (fun i5 (s5 : (List Int)) => [(1, roL 1 enc_ListInt p1), (2, .lp 2 0), (6, .buf 21 (s5).length), (22, roL 1 enc_ListInt p1), (23, .int .i64 (((p1.length : Nat) : Int))), (24, .int .i64 ((i5 : Int)))]) (fun i5 (s5 : (List Int)) => [(2, .cells [roL 4 enc_Task p0.Tasks, roL 1 enc_ListRange p0.Travel, roL 3 enc_Hand p0.Hands]), (21, bufL 3 1 enc_Int s5)]) (.cons .q (.cons .q (.cons .qb (.cons .q (.cons .qi (.cons .qi .nil)))))) (.cons .q (.cons .q .nil)) (fun k5 i5 s5 hle5 H1 H2 K0 hK5 => ?_)
    refine W.rg env [1, 2, 6, 22, 23, 24, 25] [2, 21] ?_
    refine W.seq ?_
    refine W.cond rfl (fun hb6 => ?_) (fun hb6 => ?_)
    · have hi5 : i5 < p1.length := by have := of_decide_eq_true hb6; omega
      have H := H1 hi5
      refine W.skip ?_
      refine At.thenC ?_
      refine W.seq ?_
      refine W.block ?_
      refine W.sr env [] [] [1, 2, 6, 7, 8, 22, 23, 24] [2, 21] rfl rfl rfl (.cons (⟨by omega, by omega⟩ : 0 ≤ (i5 : Int) ∧ (i5 : Int) < ((p1.length : Nat) : Int)) .nil) .nil ?_
      refine W.seq ?_
      refine W.seq ?_
      obtain ⟨y7, hy8, H⟩ := of_bindO H
      obtain ⟨hc9, H⟩ := of_must H
      obtain ⟨hc10, H⟩ := of_must H
      obtain ⟨hc11, H⟩ := of_must H
      obtain ⟨hc12, H⟩ := of_must H
      refine W.region env [] [⟨.bool (y7), [], 0, []⟩] rfl rfl (by kernel_rfl) (.cons (fun h => h) (.cons (fun h => h) (.cons hc9 (.cons (fun h => h) (.cons hc10 (.cons (fun h => h) (.cons (fun h => h) (.cons (fun h => h) (.cons hc11 (.cons (fun h => h) (.cons (fun h => h) (.cons hc12 (.cons (fun h => h) (.cons (fun h => h) (.cons (fun h => h) (.cons (fun h => h) (.cons (fun h => h) (.cons (fun hW h => by revert hW h; first | (simp +contextual; done) | grind) (.cons (fun h => by rw [h]; rfl) .nil))))))))))))))))))) (.free (c_gasolierref04_isRound p0 (p1.getD i5 default) hy8) .nil) (At.keep (ts := [1, 2, 6, 8, 22, 23, 24, 49]) (ids := [2, 21]) rfl rfl ?_)
      refine At.thenC ?_
      refine W.cond rfl (fun hb13 => ?_) (fun hb13 => ?_)
      · have H := of_true H hb13
        refine W.rg env [4] [] ?_
        refine W.ret ?_
        refine At.rthen ?_
        refine At.rinb ?_
        refine At.rthen ?_
        refine At.rthen ?_
        refine At.rinb ?_
        refine At.rthen ?_
        cases H
        exact At.ret env.ty rfl rfl (fun q hq => by cases hq) (.refl _) hval
      · have H := of_false H hb13
        refine W.skip ?_
        refine At.thenC ?_
        refine W.rg env [1, 2, 6, 22, 23, 24, 50, 51, 52] [2, 21] ?_
        refine W.block ?_
        refine At.keep (ts := [1, 2, 6, 22, 23, 24, 50, 51, 52]) (ids := [2, 21]) rfl rfl ?_
        refine W.len (t := 50) rfl (fun (hn14 : (p1.getD i5 default).length ≤ maxLen) => ?_)
        refine W.rangeGo H (fun i14 (s14 : (List Int)) => [(1, roL 1 enc_ListInt p1), (2, .lp 2 0), (6, .buf 21 (s14).length), (22, roL 1 enc_ListInt p1), (23, .int .i64 (((p1.length : Nat) : Int))), (24, .int .i64 ((i5 : Int))), (50, roL 1 enc_Int (p1.getD i5 default)), (51, .int .i64 ((((p1.getD i5 default).length : Nat) : Int))), (52, .int .i64 ((i14 : Int)))]) (fun i14 (s14 : (List Int)) => [(2, .cells [roL 4 enc_Task p0.Tasks, roL 1 enc_ListRange p0.Travel, roL 3 enc_Hand p0.Hands]), (21, bufL 3 1 enc_Int s14)]) (.cons .q (.cons .q (.cons .qb (.cons .q (.cons .qi (.cons .qi (.cons .q (.cons .qi (.cons .qi .nil))))))))) (.cons .q (.cons .q .nil)) (fun k14 i14 s14 hle14 H1 H2 K0 hK14 => ?_)
        refine W.rg env [1, 2, 6, 22, 23, 24, 50, 51, 52, 53] [2, 21] ?_
        refine W.seq ?_
        refine W.cond rfl (fun hb15 => ?_) (fun hb15 => ?_)
        · have hi14 : i14 < (p1.getD i5 default).length := by have := of_decide_eq_true hb15; omega
          have H := H1 hi14
          refine W.skip ?_
          refine At.thenC ?_
          refine W.seq ?_
          refine W.block ?_
          refine W.sr env [] [] [1, 2, 6, 10, 22, 23, 24, 50, 51, 52] [2, 21] rfl rfl rfl (.cons (⟨by omega, by omega⟩ : 0 ≤ (i14 : Int) ∧ (i14 : Int) < (((p1.getD i5 default).length : Nat) : Int)) .nil) .nil ?_
          obtain ⟨hc16, H⟩ := of_must H
          obtain ⟨hc17, H⟩ := of_must H
          obtain ⟨hc18, H⟩ := of_must H
          refine W.region env [] [] rfl rfl rfl (.cons (⟨by first | rfl | (simp; done) | omega | (simp; omega), hc16⟩) (.cons (⟨by first | rfl | (simp; done) | omega | (simp; omega), (by have := hc16; first | omega | (simp only [List.length_set]; omega) | (simp only [Int.toNat_natCast] at *; omega) | (simp at this ⊢; omega))⟩) (.cons hc17 (.cons (⟨by first | rfl | (simp; done) | omega | (simp; omega), hc18⟩) (.cons (⟨by first | rfl | (simp; done) | omega | (simp; omega), (by have := hc18; first | omega | (simp only [List.length_set]; omega) | (simp only [Int.toNat_natCast] at *; omega) | (simp at this ⊢; omega))⟩) .nil))))) .nil (At.keep (ts := [1, 2, 6, 22, 23, 24, 50, 51, 52]) (ids := [2, 21]) rfl rfl ?_)
          refine At.convM (.cons (.refl _) (.cons (y := bufL 3 1 enc_Int (s14.set (((p1.getD i5 default).getD i14 default)).toNat ((s14.getD (((p1.getD i5 default).getD i14 default)).toNat default) + 1))) (BSim.seg (Seg.set (Seg.refl enc_Int _) ((s14.getD (((p1.getD i5 default).getD i14 default)).toNat default) + 1) rfl)) .nil)) ?_
          refine At.inb ?_
          refine At.thenC ?_
          refine W.region env [] [] rfl rfl rfl (.cons (by unfold inI; have := hn14; (try unfold maxLen at this); omega) .nil) .nil (At.keep (ts := [1, 2, 6, 22, 23, 24, 50, 51, 52]) (ids := [2, 21]) rfl rfl ?_)
          refine At.thenK (At.keep (ts := [1, 2, 6, 22, 23, 24, 50, 51, 52]) (ids := [2, 21]) rfl rfl ?_)
          exact At.conv (.cons .q (.cons .q (.cons .qb (.cons .q (.cons .qi (.cons .qi (.cons .q (.cons .qi (.cons .qi .nil))))))))) (.cons .q (.cons .q .nil)) (hK14 hi14 (s14.set (((p1.getD i5 default).getD i14 default)).toNat ((s14.getD (((p1.getD i5 default).getD i14 default)).toNat default) + 1)) H)
        · have H := H2 (by have := of_decide_eq_false hb15; omega)
          refine W.exit ?_
          refine At.xthen ?_
          refine At.xthen ?_
          refine At.xhere ?_
          refine At.inb ?_
          refine At.thenC ?_
          refine W.region env [] [] rfl rfl rfl (.cons (by unfold inI; have := hn5; (try unfold maxLen at this); omega) .nil) .nil (At.keep (ts := [1, 2, 6, 22, 23, 24]) (ids := [2, 21]) rfl rfl ?_)
          refine At.thenK (At.keep (ts := [1, 2, 6, 22, 23, 24]) (ids := [2, 21]) rfl rfl ?_)
          exact At.conv (.cons .q (.cons .q (.cons .qb (.cons .q (.cons .qi (.cons .qi .nil)))))) (.cons .q (.cons .q .nil)) (hK5 hi5 s14 H)
    · have H := H2 (by have := of_decide_eq_false hb6; omega)
      refine W.exit ?_
      refine At.xthen ?_
      refine At.xthen ?_
      refine At.xhere ?_
      refine At.thenC ?_
      refine W.seq ?_
      refine W.sr env [] [] [64, 65, 66] [21] rfl rfl rfl (.cons (by first | rfl | (simp; done) | omega | (simp; omega)) .nil) .nil ?_
      refine W.block ?_
      refine At.keep (ts := [64, 65, 66]) (ids := [21]) rfl rfl ?_
      obtain ⟨hn19, H⟩ := of_must H
      refine W.rangeGo H (fun i19 (s19 : Unit) => [(64, .buf 21 (s5).length), (65, .int .i64 (((s5.length : Nat) : Int))), (66, .int .i64 ((i19 : Int)))]) (fun i19 (s19 : Unit) => [(21, bufL 3 1 enc_Int s5)]) (.cons .qb (.cons .qi (.cons .qi .nil))) (.cons .q .nil) (fun k19 i19 s19 hle19 H1 H2 K0 hK19 => ?_)
      refine W.rg env [64, 65, 66, 67] [21] ?_
      refine W.seq ?_
      refine W.cond rfl (fun hb20 => ?_) (fun hb20 => ?_)
      · have hi19 : i19 < s5.length := by have := of_decide_eq_true hb20; omega
        have H := H1 hi19
        refine W.skip ?_
        refine At.thenC ?_
        refine W.seq ?_
        refine W.block ?_
        refine W.sr env [] [] [12, 64, 65, 66] [21] rfl rfl rfl (.cons (⟨by first | rfl | (simp; done) | omega | (simp; omega), (⟨by omega, by omega⟩ : 0 ≤ (i19 : Int) ∧ (i19 : Int) < ((s5.length : Nat) : Int))⟩) (.cons (⟨by first | rfl | (simp; done) | omega | (simp; omega), (by have := (⟨by omega, by omega⟩ : 0 ≤ (i19 : Int) ∧ (i19 : Int) < ((s5.length : Nat) : Int)); first | omega | (simp only [List.length_set]; omega) | (simp only [Int.toNat_natCast] at *; omega) | (simp at this ⊢; omega))⟩) .nil)) .nil ?_
        refine W.rg env [64, 65, 66, 71] [21] ?_
        refine W.cond rfl (fun hb21 => ?_) (fun hb21 => ?_)
        · have H := of_true H hb21
          refine W.rg env [4] [] ?_
          refine W.ret ?_
          refine At.rinb ?_
          refine At.rthen ?_
          refine At.rthen ?_
          refine At.rinb ?_
          refine At.rthen ?_
          cases H
          exact At.ret env.ty rfl rfl (fun q hq => by cases hq) (.refl _) hval
        · have H := of_false H hb21
          refine W.skip ?_
          refine At.inb ?_
          refine At.thenC ?_
          refine W.region env [] [] rfl rfl rfl (.cons (by unfold inI; have := hn19; (try unfold maxLen at this); omega) .nil) .nil (At.keep (ts := [64, 65, 66]) (ids := [21]) rfl rfl ?_)
          refine At.thenK (At.keep (ts := [64, 65, 66]) (ids := [21]) rfl rfl ?_)
          exact At.conv (.cons .qb (.cons .qi (.cons .qi .nil))) (.cons .q .nil) (hK19 hi19 () H)
      · have H := H2 (by have := of_decide_eq_false hb20; omega)
        refine W.exit ?_
        refine At.xthen ?_
        refine At.xthen ?_
        refine At.xhere ?_
        refine At.thenC ?_
        refine W.rg env [4] [] ?_
        refine W.ret ?_
        cases H
        exact At.ret env.ty rfl rfl (fun q hq => by cases hq) (.refl _) hval

theorem c_crew_CheckShort_1 (p0 : Int) (c0 : crew_plan) (c1 : Hand) (c2 : (List (List Int))) {r : Bool} (H : crew_CheckShort_1 p0 c0 c1 c2 = some r) : Ctr Try.prog 78 [.int .i64 (p0), .rp [.rp [roL 4 enc_Task c0.Crew.Tasks, roL 1 enc_ListRange c0.Crew.Travel, roL 3 enc_Hand c0.Crew.Hands, roL 1 enc_Int c0.next]], .rp [.int .i64 (c1.Id), .int .i64 (c1.From), .int .i64 (c1.To)], .rp [roL 1 enc_ListInt c2]] (.bool (r)) := by
  unfold crew_CheckShort_1 at H
  refine Ctr.of_body (N := 13) Try.func78 (by kernel_rfl) (c := _) rfl Try.ntmps78 rfl (fun w0 h0 hval => ?_)
  refine W.rg env [0, 1, 2, 3] [] ?_
  refine W.seq ?_
  obtain ⟨hc1, H⟩ := of_must H
  obtain ⟨y2, hy3, H⟩ := of_bindO H
  refine W.region env [] [⟨.bool (y2), [], 0, []⟩] rfl rfl (by kernel_rfl) (.cons hc1 .nil) (.free (c_crew_plan__able c0 c1 (c2.getD (p0).toNat default) hy3) .nil) (At.keep (ts := [5]) (ids := []) rfl rfl ?_)
  refine At.thenC ?_
  refine W.ret ?_
  cases H
  exact At.ret env.ty rfl rfl (fun q hq => by cases hq) (.refl _) hval

theorem c_crew_CheckShort (p0 : Crew) (p1 : (List (List Int))) (p2 : (List Int)) {r : Int} (H : crew_CheckShort p0 p1 p2 = some r) : Ctr Try.prog 32 [.agg [roL 4 enc_Task p0.Tasks, roL 1 enc_ListRange p0.Travel, roL 3 enc_Hand p0.Hands], roL 1 enc_ListInt p1, roL 1 enc_Int p2] (.int .i64 (r)) := by
  unfold crew_CheckShort at H
  refine Ctr.of_body (N := 67) Try.func32 (by kernel_rfl) (c := _) rfl Try.ntmps32 rfl (fun w0 h0 hval => ?_)
  refine W.rg env [2, 3, 4] [3, 4] ?_
  refine W.seq ?_
  obtain ⟨y1, hy2, H⟩ := of_bindO H
  refine W.region env [] [⟨.tup [.po y1.1.isSome [roL 4 enc_Task ((y1.1.getD default).Crew.Tasks), roL 1 enc_ListRange ((y1.1.getD default).Crew.Travel), roL 3 enc_Hand ((y1.1.getD default).Crew.Hands), roL 1 enc_Int ((y1.1.getD default).next)], .int .i64 (y1.2)], [], 0, []⟩] rfl rfl rfl .nil (.free (c_crew_asked p0 p1 hy2) .nil) (At.keep (ts := [2, 3, 4, 7, 8]) (ids := [3, 4, 7]) rfl rfl ?_)
  refine At.thenC ?_
  refine W.seq ?_
  refine W.rg env [2, 3, 4, 7, 8, 21] [3, 4, 7] ?_
  refine W.cond rfl (fun hb3 => ?_) (fun hb3 => ?_)
  · have H := of_true H hb3
    refine W.rg env [6] [] ?_
    refine W.ret ?_
    refine At.rthen ?_
    cases H
    exact At.ret env.ty rfl rfl (fun q hq => by cases hq) (.refl _) hval
  · have H := of_false H hb3
    refine W.skip ?_
    refine At.thenC ?_
    refine W.rg env [2, 3, 4, 7, 9] [3, 4, 7] ?_
    refine W.seq ?_
    refine W.rg env [2, 3, 4, 7, 9, 23, 24, 25] [3, 4, 7] ?_
    refine W.block ?_
    refine At.keep (ts := [2, 3, 4, 7, 9, 23, 24, 25]) (ids := [3, 4, 7]) rfl rfl ?_
    refine W.len (t := 23) rfl (fun (hn4 : p2.length ≤ maxLen) => ?_)
    refine W.rangeGo H (fun i4 (s4 : Unit) => [(2, roL 1 enc_Int p2), (3, .lp 3 0), (4, .lp 4 0), (7, .lp 7 0), (9, .int .i64 (0)), (23, roL 1 enc_Int p2), (24, .int .i64 (((p2.length : Nat) : Int))), (25, .int .i64 ((i4 : Int)))]) (fun i4 (s4 : Unit) => [(3, .cells [roL 4 enc_Task p0.Tasks, roL 1 enc_ListRange p0.Travel, roL 3 enc_Hand p0.Hands]), (4, .cells [roL 1 enc_ListInt p1]), (7, .cells [.po y1.1.isSome [roL 4 enc_Task ((y1.1.getD default).Crew.Tasks), roL 1 enc_ListRange ((y1.1.getD default).Crew.Travel), roL 3 enc_Hand ((y1.1.getD default).Crew.Hands), roL 1 enc_Int ((y1.1.getD default).next)]])]) (.cons .q (.cons .q (.cons .q (.cons .q (.cons .qi (.cons .q (.cons .qi (.cons .qi .nil)))))))) (.cons .q (.cons .q (.cons .q .nil))) (fun k4 i4 s4 hle4 H1 H2 K0 hK4 => ?_)
    refine W.rg env [2, 3, 4, 7, 9, 23, 24, 25, 26] [3, 4, 7] ?_
    refine W.seq ?_
    refine W.cond rfl (fun hb5 => ?_) (fun hb5 => ?_)
    · have hi4 : i4 < p2.length := by have := of_decide_eq_true hb5; omega
      have H := H1 hi4
      refine W.skip ?_
      refine At.thenC ?_
      refine W.seq ?_
      refine W.block ?_
      refine W.sr env [] [] [2, 3, 4, 7, 9, 10, 11, 23, 24, 25] [3, 4, 7] rfl rfl rfl (.cons (⟨by omega, by omega⟩ : 0 ≤ (i4 : Int) ∧ (i4 : Int) < ((p2.length : Nat) : Int)) .nil) .nil ?_
      obtain ⟨hc6, H⟩ := of_must H
      obtain ⟨hc7, H⟩ := of_must H
      obtain ⟨hc8, H⟩ := of_must H
      refine W.sr env [] [⟨.bool ((crew_in (p2.getD i4 default) 0 (((p1.length : Nat) : Int) - 1))), [], 0, []⟩] [2, 3, 4, 7, 9, 23, 24, 25, 48] [3, 4, 7] rfl rfl rfl (.cons hc6 (.cons (fun h => h) (.cons (fun h => h) (.cons hc7 (.cons (fun h => h) (.cons hc8 (.cons (fun h => h) (.cons (fun h => h) (.cons (fun h => h) (.cons (fun h => h) (.cons (fun h => h) (.cons (fun h => h) (.cons (fun hW h => by revert hW h; first | (simp +contextual; done) | grind) (.cons (fun h => by rw [h]; rfl) .nil)))))))))))))) (.free (c_crew_in (p2.getD i4 default) 0 (((p1.length : Nat) : Int) - 1)) .nil) ?_
      refine W.cond rfl (fun hb9 => ?_) (fun hb9 => ?_)
      · have H := of_true H hb9
        refine W.rg env [6] [] ?_
        refine W.ret ?_
        refine At.rinb ?_
        refine At.rthen ?_
        refine At.rthen ?_
        refine At.rinb ?_
        refine At.rthen ?_
        cases H
        exact At.ret env.ty rfl rfl (fun q hq => by cases hq) (.refl _) hval
      · have H := of_false H hb9
        refine W.skip ?_
        refine At.inb ?_
        refine At.thenC ?_
        refine W.region env [] [] rfl rfl rfl (.cons (by unfold inI; have := hn4; (try unfold maxLen at this); omega) .nil) .nil (At.keep (ts := [2, 3, 4, 7, 9, 23, 24, 25]) (ids := [3, 4, 7]) rfl rfl ?_)
        refine At.thenK (At.keep (ts := [2, 3, 4, 7, 9, 23, 24, 25]) (ids := [3, 4, 7]) rfl rfl ?_)
        exact At.conv (.cons .q (.cons .q (.cons .q (.cons .q (.cons .qi (.cons .q (.cons .qi (.cons .qi .nil)))))))) (.cons .q (.cons .q (.cons .q .nil))) (hK4 hi4 () H)
    · have H := H2 (by have := of_decide_eq_false hb5; omega)
      refine W.exit ?_
      refine At.xthen ?_
      refine At.xthen ?_
      refine At.xhere ?_
      refine At.thenC ?_
      refine W.seq ?_
      refine W.rg env [2, 4, 7, 9, 51, 52, 53] [4, 7] ?_
      refine W.block ?_
      refine At.keep (ts := [2, 4, 7, 9, 51, 52, 53]) (ids := [4, 7]) rfl rfl ?_
      refine W.len (t := 51) rfl (fun (hn10 : p0.Hands.length ≤ maxLen) => ?_)
      refine W.rangeGo H (fun i10 (s10 : Int) => [(2, roL 1 enc_Int p2), (4, .lp 4 0), (7, .lp 7 0), (9, .int .i64 (s10)), (51, roL 3 enc_Hand p0.Hands), (52, .int .i64 (((p0.Hands.length : Nat) : Int))), (53, .int .i64 ((i10 : Int)))]) (fun i10 (s10 : Int) => [(4, .cells [roL 1 enc_ListInt p1]), (7, .cells [.po y1.1.isSome [roL 4 enc_Task ((y1.1.getD default).Crew.Tasks), roL 1 enc_ListRange ((y1.1.getD default).Crew.Travel), roL 3 enc_Hand ((y1.1.getD default).Crew.Hands), roL 1 enc_Int ((y1.1.getD default).next)]])]) (.cons .q (.cons .q (.cons .q (.cons .qi (.cons .q (.cons .qi (.cons .qi .nil))))))) (.cons .q (.cons .q .nil)) (fun k10 i10 s10 hle10 H1 H2 K0 hK10 => ?_)
      refine W.rg env [2, 4, 7, 9, 51, 52, 53, 54] [4, 7] ?_
      refine W.seq ?_
      refine W.cond rfl (fun hb11 => ?_) (fun hb11 => ?_)
      · have hi10 : i10 < p0.Hands.length := by have := of_decide_eq_true hb11; omega
        have H := H1 hi10
        refine W.skip ?_
        refine At.thenC ?_
        refine W.seq ?_
        refine W.block ?_
        refine W.sr env [] [] [2, 4, 7, 9, 13, 51, 52, 53] [4, 7, 13] rfl rfl rfl (.cons (⟨by omega, by omega⟩ : 0 ≤ (i10 : Int) ∧ (i10 : Int) < ((p0.Hands.length : Nat) : Int)) .nil) .nil ?_
        refine W.seq ?_
        obtain ⟨hc12, H⟩ := of_must H
        obtain ⟨y13, hy14, H⟩ := of_bindO H
        refine W.region env [] [⟨.bool (y13), [], 0, []⟩] rfl rfl rfl .nil (.free (c_slices_ContainsFunc_int p2 (fun x0 => crew_CheckShort_1 x0 (y1.1.getD default) (p0.Hands.getD i10 default) p1) 78 [] ([.rp [.po y1.1.isSome [roL 4 enc_Task ((y1.1.getD default).Crew.Tasks), roL 1 enc_ListRange ((y1.1.getD default).Crew.Travel), roL 3 enc_Hand ((y1.1.getD default).Crew.Hands), roL 1 enc_Int ((y1.1.getD default).next)]], .rp [.int .i64 ((p0.Hands.getD i10 default).Id), .int .i64 ((p0.Hands.getD i10 default).From), .int .i64 ((p0.Hands.getD i10 default).To)], .rp [roL 1 enc_ListInt p1]]) (fun x0 r h => Ctr.sim (.cons (.refl _) (.cons (Sim.rp (.cons (Sim.rp_po hc12) .nil)) (.cons (.refl _) (.cons (.refl _) .nil)))) (c_crew_CheckShort_1 x0 (y1.1.getD default) (p0.Hands.getD i10 default) p1 h)) hy14) .nil) (At.keep (ts := [2, 4, 7, 9, 51, 52, 53, 59]) (ids := [4, 7]) rfl rfl ?_)
        refine At.thenC ?_
        refine W.cond rfl (fun hb15 => ?_) (fun hb15 => ?_)
        · have H := of_true H hb15
          obtain ⟨hc16, H⟩ := of_must H
          refine W.region env [] [] rfl rfl rfl (.cons hc16 .nil) .nil (At.keep (ts := [2, 4, 7, 9, 51, 52, 53]) (ids := [4, 7]) rfl rfl ?_)
          refine At.inb ?_
          refine At.thenC ?_
          refine W.region env [] [] rfl rfl rfl (.cons (by unfold inI; have := hn10; (try unfold maxLen at this); omega) .nil) .nil (At.keep (ts := [2, 4, 7, 9, 51, 52, 53]) (ids := [4, 7]) rfl rfl ?_)
          refine At.thenK (At.keep (ts := [2, 4, 7, 9, 51, 52, 53]) (ids := [4, 7]) rfl rfl ?_)
          exact At.conv (.cons .q (.cons .q (.cons .q (.cons .qi (.cons .q (.cons .qi (.cons .qi .nil))))))) (.cons .q (.cons .q .nil)) (hK10 hi10 (s10 + 1) H)
        · have H := of_false H hb15
          refine W.skip ?_
          refine At.inb ?_
          refine At.thenC ?_
          refine W.region env [] [] rfl rfl rfl (.cons (by unfold inI; have := hn10; (try unfold maxLen at this); omega) .nil) .nil (At.keep (ts := [2, 4, 7, 9, 51, 52, 53]) (ids := [4, 7]) rfl rfl ?_)
          refine At.thenK (At.keep (ts := [2, 4, 7, 9, 51, 52, 53]) (ids := [4, 7]) rfl rfl ?_)
          exact At.conv (.cons .q (.cons .q (.cons .q (.cons .qi (.cons .q (.cons .qi (.cons .qi .nil))))))) (.cons .q (.cons .q .nil)) (hK10 hi10 s10 H)
      · have H := H2 (by have := of_decide_eq_false hb11; omega)
        refine W.exit ?_
        refine At.xthen ?_
        refine At.xthen ?_
        refine At.xhere ?_
        refine At.thenC ?_
        refine W.seq ?_
        refine W.rg env [66] [] ?_
        refine W.cond rfl (fun hb17 => ?_) (fun hb17 => ?_)
        · have H := of_true H hb17
          refine W.rg env [6] [] ?_
          refine W.ret ?_
          refine At.rthen ?_
          cases H
          exact At.ret env.ty rfl rfl (fun q hq => by cases hq) (.refl _) hval
        · have H := of_false H hb17
          refine W.skip ?_
          refine At.thenC ?_
          refine W.rg env [6] [] ?_
          refine W.ret ?_
          cases H
          exact At.ret env.ty rfl rfl (fun q hq => by cases hq) (.refl _) hval

theorem c_crew_CheckAssign_1 (p0 : Hand) (c0 : Int) : Ctr Try.prog 80 [.agg [.int .i64 (p0.Id), .int .i64 (p0.From), .int .i64 (p0.To)], .rp [.int .i64 (c0)]] (.bool ((crew_CheckAssign_1 p0 c0))) := by
  obtain ⟨r, H⟩ : ∃ r, crew_CheckAssign_1 p0 c0 = r := ⟨_, rfl⟩
  rw [H]
  unfold crew_CheckAssign_1 at H
  refine Ctr.of_body (N := 8) Try.func80 (by kernel_rfl) (c := _) rfl Try.ntmps80 rfl (fun w0 h0 hval => ?_)
  refine W.rg env [1, 2] [2] ?_
  refine W.rg env [3] [] ?_
  refine W.ret ?_
  cases H
  exact At.ret env.ty rfl rfl (fun q hq => by cases hq) (.refl _) hval

theorem c_crew_CheckAssign (p0 : Crew) (p1 : (List (List Int))) (p2 : (List Int)) {r : Int} (H : crew_CheckAssign p0 p1 p2 = some r) : Ctr Try.prog 33 [.agg [roL 4 enc_Task p0.Tasks, roL 1 enc_ListRange p0.Travel, roL 3 enc_Hand p0.Hands], roL 1 enc_ListInt p1, roL 1 enc_Int p2] (.int .i64 (r)) := by
  unfold crew_CheckAssign at H
  refine Ctr.of_body (N := 61) Try.func33 (by kernel_rfl) (c := _) rfl Try.ntmps33 rfl (fun w0 h0 hval => ?_)
  refine W.rg env [1, 2, 3] [3] ?_
  refine W.seq ?_
  obtain ⟨y1, hy2, H⟩ := of_bindO H
  refine W.region env [] [⟨.tup [.po y1.1.isSome [roL 4 enc_Task ((y1.1.getD default).Crew.Tasks), roL 1 enc_ListRange ((y1.1.getD default).Crew.Travel), roL 3 enc_Hand ((y1.1.getD default).Crew.Hands), roL 1 enc_Int ((y1.1.getD default).next)], .int .i64 (y1.2)], [], 0, []⟩] rfl rfl rfl .nil (.free (c_crew_asked p0 p1 hy2) .nil) (At.keep (ts := [1, 2, 3, 7, 8]) (ids := [3]) rfl rfl ?_)
  refine At.thenC ?_
  refine W.seq ?_
  refine W.rg env [1, 2, 3, 7, 8, 19] [3] ?_
  refine W.cond rfl (fun hb3 => ?_) (fun hb3 => ?_)
  · have H := of_true H hb3
    refine W.rg env [6] [] ?_
    refine W.ret ?_
    refine At.rthen ?_
    cases H
    exact At.ret env.ty rfl rfl (fun q hq => by cases hq) (.refl _) hval
  · have H := of_false H hb3
    refine W.skip ?_
    refine At.thenC ?_
    refine W.seq ?_
    refine W.rg env [1, 2, 3, 7, 25] [3] ?_
    refine W.cond rfl (fun hb4 => ?_) (fun hb4 => ?_)
    · have H := of_true H hb4
      refine W.rg env [6] [] ?_
      refine W.ret ?_
      refine At.rthen ?_
      cases H
      exact At.ret env.ty rfl rfl (fun q hq => by cases hq) (.refl _) hval
    · have H := of_false H hb4
      refine W.skip ?_
      refine At.thenC ?_
      refine W.seq ?_
      refine W.rg env [1, 2, 3, 7, 26, 27, 28] [3] ?_
      refine W.block ?_
      refine At.keep (ts := [1, 2, 3, 7, 26, 27, 28]) (ids := [3]) rfl rfl ?_
      refine W.len (t := 26) rfl (fun (hn5 : p2.length ≤ maxLen) => ?_)
      refine W.rangeGo H (fun i5 (s5 : Unit) => [(1, roL 1 enc_ListInt p1), (2, roL 1 enc_Int p2), (3, .lp 3 0), (7, .po y1.1.isSome [roL 4 enc_Task ((y1.1.getD default).Crew.Tasks), roL 1 enc_ListRange ((y1.1.getD default).Crew.Travel), roL 3 enc_Hand ((y1.1.getD default).Crew.Hands), roL 1 enc_Int ((y1.1.getD default).next)]), (26, roL 1 enc_Int p2), (27, .int .i64 (((p2.length : Nat) : Int))), (28, .int .i64 ((i5 : Int)))]) (fun i5 (s5 : Unit) => [(3, .cells [roL 4 enc_Task p0.Tasks, roL 1 enc_ListRange p0.Travel, roL 3 enc_Hand p0.Hands])]) (.cons .q (.cons .q (.cons .q (.cons .q (.cons .q (.cons .qi (.cons .qi .nil))))))) (.cons .q .nil) (fun k5 i5 s5 hle5 H1 H2 K0 hK5 => ?_)
      refine W.rg env [1, 2, 3, 7, 26, 27, 28, 29] [3] ?_
      refine W.seq ?_
      refine W.cond rfl (fun hb6 => ?_) (fun hb6 => ?_)
      · have hi5 : i5 < p2.length := by have := of_decide_eq_true hb6; omega
        have H := H1 hi5
        refine W.skip ?_
        refine At.thenC ?_
        refine W.seq ?_
        refine W.block ?_
        refine W.sr env [] [] [1, 2, 3, 7, 9, 10, 26, 27, 28] [3, 10] rfl rfl rfl (.cons (⟨by omega, by omega⟩ : 0 ≤ (i5 : Int) ∧ (i5 : Int) < ((p2.length : Nat) : Int)) .nil) .nil ?_
        refine W.seq ?_
        obtain ⟨y7, hy8, H⟩ := of_bindO H
        refine W.region env [] [⟨.int .i64 (y7), [], 0, []⟩] rfl rfl rfl .nil (.free (c_slices_IndexFunc_Hand p0.Hands (fun x0 => some (crew_CheckAssign_1 x0 (p2.getD i5 default))) 80 [] ([.rp [.int .i64 ((p2.getD i5 default))]]) (fun x0 r h => by cases h; exact c_crew_CheckAssign_1 x0 (p2.getD i5 default)) hy8) .nil) (At.keep (ts := [1, 2, 3, 7, 9, 10, 11, 26, 27, 28]) (ids := [3, 10]) rfl rfl ?_)
        refine At.thenC ?_
        refine W.seq ?_
        obtain ⟨hc9, H⟩ := of_must H
        obtain ⟨y10, hy11, H⟩ := of_bindO H
        obtain ⟨hc12, H⟩ := of_must H
        obtain ⟨hc13, H⟩ := of_must H
        obtain ⟨hc14, H⟩ := of_must H
        obtain ⟨y15, hy16, H⟩ := of_bindO H
        refine W.region env [] [⟨.bool (y10), [], 0, []⟩, ⟨.bool (y15), [], 0, []⟩] rfl rfl (by kernel_rfl) (.cons hc9 (.cons (fun h => h) (.cons (fun h => h) (.cons (fun h => h) (.cons (fun h => h) (.cons (fun h => by rw [h]; rfl) (.cons (fun h => h) (.cons hc12 (.cons (fun h => h) (.cons (fun h => h) (.cons (fun h => h) (.cons hc13 (.cons (fun h => h) (.cons (fun h => h) (.cons (fun h => h) (.cons (fun h => h) (.cons (fun h => h) (.cons (fun h => h) (.cons (fun h => h) (.cons (fun h => by rw [h]; rfl) .nil)))))))))))))))))))) (.on (fun hW => Ctr.sim (.cons (Sim.seg (Seg.take enc_Int p2 i5 (by omega))) (.cons (.refl _) .nil)) (c_slices_Contains_int (p2.take i5) (p2.getD i5 default) (of_true hy11 hW))) (.on (fun hW => Ctr.sim (.cons (Sim.rp_po (hc14 hW)) (.cons (.refl _) (.cons (.refl _) .nil))) (c_crew_plan__able (y1.1.getD default) (p0.Hands.getD (y7).toNat default) (p1.getD i5 default) (of_true hy16 hW))) .nil)) (At.keep (ts := [1, 2, 3, 7, 26, 27, 28, 59]) (ids := [3]) rfl rfl ?_)
        refine At.thenC ?_
        refine W.cond rfl (fun hb17 => ?_) (fun hb17 => ?_)
        · have H := of_true H hb17
          refine W.rg env [6] [] ?_
          refine W.ret ?_
          refine At.rinb ?_
          refine At.rthen ?_
          refine At.rthen ?_
          refine At.rinb ?_
          refine At.rthen ?_
          cases H
          exact At.ret env.ty rfl rfl (fun q hq => by cases hq) (.refl _) hval
        · have H := of_false H hb17
          refine W.skip ?_
          refine At.inb ?_
          refine At.thenC ?_
          refine W.region env [] [] rfl rfl rfl (.cons (by unfold inI; have := hn5; (try unfold maxLen at this); omega) .nil) .nil (At.keep (ts := [1, 2, 3, 7, 26, 27, 28]) (ids := [3]) rfl rfl ?_)
          refine At.thenK (At.keep (ts := [1, 2, 3, 7, 26, 27, 28]) (ids := [3]) rfl rfl ?_)
          exact At.conv (.cons .q (.cons .q (.cons .q (.cons .q (.cons .q (.cons .qi (.cons .qi .nil))))))) (.cons .q .nil) (hK5 hi5 () H)
      · have H := H2 (by have := of_decide_eq_false hb6; omega)
        refine W.exit ?_
        refine At.xthen ?_
        refine At.xthen ?_
        refine At.xhere ?_
        refine At.thenC ?_
        refine W.rg env [6] [] ?_
        refine W.ret ?_
        cases H
        exact At.ret env.ty rfl rfl (fun q hq => by cases hq) (.refl _) hval

theorem c_crew_Able (p0 : Crew) (p1 : (List Int)) {r : ((List Int) × Int)} (H : crew_Able p0 p1 = some r) : Ctr Try.prog 81 [.agg [roL 4 enc_Task p0.Tasks, roL 1 enc_ListRange p0.Travel, roL 3 enc_Hand p0.Hands], roL 1 enc_Int p1] (.tup [roL 1 enc_Int r.1, .int .i64 (r.2)]) := by
  unfold crew_Able at H
  refine Ctr.of_body (N := 46) Try.func81 (by kernel_rfl) (c := _) rfl Try.ntmps81 rfl (fun w0 h0 hval => ?_)
  refine W.rg env [1, 2] [2] ?_
  refine W.seq ?_
  refine W.seq ?_
  obtain ⟨y1, hy2, H⟩ := of_bindO H
  refine W.region env [] [⟨.int .i64 (y1), [], 0, []⟩] rfl rfl rfl .nil (.free (c_crew_Check p0 hy2) .nil) (At.keep (ts := [1, 2, 6]) (ids := [2]) rfl rfl ?_)
  refine At.thenC ?_
  refine W.rg env [1, 2, 6, 15] [2] ?_
  refine W.cond rfl (fun hb3 => ?_) (fun hb3 => ?_)
  · have H := of_true H hb3
    refine W.rg env [4, 5] [] ?_
    refine W.ret ?_
    refine At.rthen ?_
    cases H
    exact At.ret env.ty rfl rfl (fun q hq => by cases hq) (Sim.tupL (.cons (Sim.nil _ _) (.cons (.refl _) .nil))) hval
  · have H := of_false H hb3
    refine W.skip ?_
    refine At.thenC ?_
    refine W.seq ?_
    obtain ⟨y4, hy5, H⟩ := of_bindO H
    refine W.region env [] [⟨.po y4.isSome [roL 4 enc_Task ((y4.getD default).Crew.Tasks), roL 1 enc_ListRange ((y4.getD default).Crew.Travel), roL 3 enc_Hand ((y4.getD default).Crew.Hands), roL 1 enc_Int ((y4.getD default).next)], [], 0, []⟩] rfl rfl rfl .nil (.free (c_crew_newPlan p0 (fun x0 => some (crew_most x0)) 46 [] [] (fun x0 r h => by cases h; exact c_crew_most x0) hy5) .nil) (At.keep (ts := [1, 7]) (ids := []) rfl rfl ?_)
    refine At.thenC ?_
    refine W.seq ?_
    refine W.seq ?_
    obtain ⟨hc6, H⟩ := of_must H
    obtain ⟨y7, hy8, H⟩ := of_bindO H
    refine W.region env [] [⟨.bool (y7), [], 0, []⟩] rfl rfl rfl .nil (.free (Ctr.sim (.cons (Sim.rp_po hc6) (.cons (.refl _) .nil)) (c_crew_plan__isRound (y4.getD default) p1 hy8)) .nil) (At.keep (ts := [1, 7, 22]) (ids := []) rfl rfl ?_)
    refine At.thenC ?_
    refine W.cond rfl (fun hb9 => ?_) (fun hb9 => ?_)
    · have H := of_true H hb9
      refine W.rg env [4, 5] [] ?_
      refine W.ret ?_
      refine At.rthen ?_
      cases H
      exact At.ret env.ty rfl rfl (fun q hq => by cases hq) (Sim.tupL (.cons (Sim.nil _ _) (.cons (.refl _) .nil))) hval
    · have H := of_false H hb9
      refine W.skip ?_
      refine At.thenC ?_
      refine W.rg env [1, 7, 8] [] ?_
      refine W.rg env [1, 7, 8, 9] [] ?_
      refine W.seq ?_
      obtain ⟨hc10, H⟩ := of_must H
      refine W.sr env [] [] [1, 8, 9, 29, 30, 31] [] rfl rfl rfl (.cons hc10 .nil) .nil ?_
      refine W.block ?_
      refine At.nilOwn 9 509 3 1 (e := fun i => enc_Int (([] : List Int).getD i default)) rfl rfl ?_
      refine At.keep (ts := [1, 8, 9, 29, 30, 31]) (ids := [509]) rfl rfl ?_
      refine W.len (t := 29) rfl (fun (hn11 : ((y4.getD default).Crew.Hands).length ≤ maxLen) => ?_)
      refine W.rangeGo H (fun i11 (s11 : (List Int)) => [(1, roL 1 enc_Int p1), (8, .fn (.func 73) [.po y4.isSome [roL 4 enc_Task ((y4.getD default).Crew.Tasks), roL 1 enc_ListRange ((y4.getD default).Crew.Travel), roL 3 enc_Hand ((y4.getD default).Crew.Hands), roL 1 enc_Int ((y4.getD default).next)]] []), (9, .buf 509 (s11).length), (29, roL 3 enc_Hand ((y4.getD default).Crew.Hands)), (30, .int .i64 (((((y4.getD default).Crew.Hands).length : Nat) : Int))), (31, .int .i64 ((i11 : Int)))]) (fun i11 (s11 : (List Int)) => [(509, bufL 3 1 enc_Int s11)]) (.cons .q (.cons .q (.cons .qb (.cons .q (.cons .qi (.cons .qi .nil)))))) (.cons .q .nil) (fun k11 i11 s11 hle11 H1 H2 K0 hK11 => ?_)
      refine W.rg env [1, 8, 9, 29, 30, 31, 32] [509] ?_
      refine W.seq ?_
      refine W.cond rfl (fun hb12 => ?_) (fun hb12 => ?_)
      · have hi11 : i11 < ((y4.getD default).Crew.Hands).length := by have := of_decide_eq_true hb12; omega
        have H := H1 hi11
        refine W.skip ?_
        refine At.thenC ?_
        refine W.seq ?_
        refine W.block ?_
        refine W.sr env [] [] [1, 8, 9, 11, 29, 30, 31] [11, 509] rfl rfl rfl (.cons (⟨by omega, by omega⟩ : 0 ≤ (i11 : Int) ∧ (i11 : Int) < ((((y4.getD default).Crew.Hands).length : Nat) : Int)) .nil) .nil ?_
        refine W.seq ?_
        obtain ⟨hc13, H⟩ := of_must H
        obtain ⟨y14, hy15, H⟩ := of_bindO H
        refine W.region env [] [⟨.bool (y14), [], 0, []⟩] rfl rfl rfl .nil (.free (Ctr.sim (.cons (Sim.rp_po hc13) (.cons (.refl _) (.cons (.refl _) .nil))) (c_crew_plan__able (y4.getD default) (((y4.getD default).Crew.Hands).getD i11 default) p1 hy15)) .nil) (At.keep (ts := [1, 8, 9, 11, 29, 30, 31, 38]) (ids := [11, 509]) rfl rfl ?_)
        refine At.thenC ?_
        refine W.cond rfl (fun hb16 => ?_) (fun hb16 => ?_)
        · have H := of_true H hb16
          obtain ⟨hc17, H⟩ := of_must H
          refine W.region env [] [] rfl rfl rfl (.cons (⟨by first | rfl | (simp; done) | omega | (simp; omega), by have := hc17; first | simpa using this | (unfold room at this ⊢; simp at this ⊢; omega)⟩) .nil) .nil (At.keep (ts := [1, 8, 9, 29, 30, 31]) (ids := [509]) rfl rfl ?_)
          refine At.convM (.cons (y := bufL 3 1 enc_Int (s11 ++ ([(((y4.getD default).Crew.Hands).getD i11 default).Id] : List Int))) (BSim.seg (Seg.push (Seg.refl enc_Int _) (Seg.lit (f := enc_Int) (sz := 1) ([(((y4.getD default).Crew.Hands).getD i11 default).Id] : List Int) rfl rfl (fun _ => rfl)))) .nil) ?_
          refine At.inb ?_
          refine At.thenC ?_
          refine W.region env [] [] rfl rfl rfl (.cons (by unfold inI; have := hn11; (try unfold maxLen at this); omega) .nil) .nil (At.keep (ts := [1, 8, 9, 29, 30, 31]) (ids := [509]) rfl rfl ?_)
          refine At.thenK (At.keep (ts := [1, 8, 9, 29, 30, 31]) (ids := [509]) rfl rfl ?_)
          exact At.conv (.cons .q (.cons .q (.cons .qb (.cons .q (.cons .qi (.cons .qi .nil)))))) (.cons .q .nil) (hK11 hi11 (s11 ++ ([(((y4.getD default).Crew.Hands).getD i11 default).Id] : List Int)) H)
        · have H := of_false H hb16
          refine W.skip ?_
          refine At.inb ?_
          refine At.thenC ?_
          refine W.region env [] [] rfl rfl rfl (.cons (by unfold inI; have := hn11; (try unfold maxLen at this); omega) .nil) .nil (At.keep (ts := [1, 8, 9, 29, 30, 31]) (ids := [509]) rfl rfl ?_)
          refine At.thenK (At.keep (ts := [1, 8, 9, 29, 30, 31]) (ids := [509]) rfl rfl ?_)
          exact At.conv (.cons .q (.cons .q (.cons .qb (.cons .q (.cons .qi (.cons .qi .nil)))))) (.cons .q .nil) (hK11 hi11 s11 H)
      · have H := H2 (by have := of_decide_eq_false hb12; omega)
        refine W.exit ?_
        refine At.xthen ?_
        refine At.xthen ?_
        refine At.xhere ?_
        refine At.thenC ?_
        refine W.rg env [4, 5] [509] ?_
        refine W.ret ?_
        cases H
        exact At.ret env.ty rfl rfl (fun q hq => by cases hq; exact (by first | rfl | (simp; done) | omega | (simp; omega))) (.refl _) hval

theorem c_gasolierref01_Put (fuel : Nat) (p0 : (List Int)) (p1 : Int) {r : (List Int)} (H : gasolierref01_Put fuel p0 p1 = some r) : Ctr Try.prog 50 [roL 1 enc_Int p0, .int .i64 (p1)] (roL 1 enc_Int r) := by
  unfold gasolierref01_Put at H
  refine Ctr.of_body (N := 45) Try.func50 (by kernel_rfl) (c := _) rfl Try.ntmps50 rfl (fun w0 h0 hval => ?_)
  refine W.rg env [0, 1] [] ?_
  refine W.rg env [0, 1, 5] [] ?_
  refine W.seq ?_
  refine W.block ?_
  refine At.keep (ts := [0, 1, 5]) (ids := []) rfl rfl ?_
  refine W.loopGo H (fun (s1 : Int) => [(0, roL 1 enc_Int p0), (1, .int .i64 (p1)), (5, .int .i64 (s1))]) (fun (s1 : Int) => []) (.cons .q (.cons .qi (.cons .qi .nil))) .nil (fun k1 s1 H K0 hK1 => ?_)
  refine W.seq ?_
  obtain ⟨hc2, H⟩ := of_must H
  refine W.sr env [] [] [0, 1, 5, 17] [] rfl rfl rfl (.cons hc2 (.cons (fun h => h) (.cons (fun h => h) (.cons (fun h => h) (.cons (fun h => h) (.cons (fun h => h) (.cons (fun h => h) .nil))))))) .nil ?_
  refine W.cond rfl (fun hb3 => ?_) (fun hb3 => ?_)
  · have H := of_true H hb3
    refine W.skip ?_
    refine At.thenC ?_
    refine W.block ?_
    obtain ⟨hc4, H⟩ := of_must H
    refine W.region env [] [] rfl rfl rfl (.cons hc4 .nil) .nil (At.keep (ts := [0, 1, 5]) (ids := []) rfl rfl ?_)
    refine At.inb ?_
    refine At.thenK (At.keep (ts := [0, 1, 5]) (ids := []) rfl rfl ?_)
    exact At.conv (.cons .q (.cons .qi (.cons .qi .nil))) .nil (hK1 (s1 + 1) H)
  · have H := of_false H hb3
    refine W.exit ?_
    refine At.xthen ?_
    refine At.xthen ?_
    refine At.xhere ?_
    refine At.thenC ?_
    refine W.seq ?_
    obtain ⟨hc5, H⟩ := of_must H
    refine W.sr env [] [] [0, 1, 5, 31] [] rfl rfl rfl (.cons hc5 (.cons (fun h => h) (.cons (fun h => h) (.cons (fun h => h) (.cons (fun h => h) (.cons (fun h => h) (.cons (fun h => h) .nil))))))) .nil ?_
    refine W.cond rfl (fun hb6 => ?_) (fun hb6 => ?_)
    · have H := of_true H hb6
      refine W.rg env [4] [] ?_
      refine W.ret ?_
      refine At.rthen ?_
      cases H
      exact At.ret env.ty rfl rfl (fun q hq => by cases hq) (.refl _) hval
    · have H := of_false H hb6
      refine W.skip ?_
      refine At.thenC ?_
      refine W.seq ?_
      obtain ⟨hc7, H⟩ := of_must H
      obtain ⟨hc8, H⟩ := of_must H
      obtain ⟨hc9, H⟩ := of_must H
      obtain ⟨hc10, H⟩ := of_must H
      obtain ⟨hc11, H⟩ := of_must H
      refine W.region env [33] [] rfl rfl (by first | rfl | kernel_rfl) (.cons hc7 (.cons (⟨by first | rfl | (simp; done) | omega | (simp; omega), by have := hc8; first | simpa using this | (unfold room at this ⊢; simp at this ⊢; omega)⟩) (.cons (⟨by first | rfl | (simp; done) | omega | (simp; omega), by have := hc9; first | simpa using this | (unfold room at this ⊢; simp at this ⊢; omega)⟩) (.cons hc10 (.cons (⟨by first | rfl | (simp; done) | omega | (simp; omega), by have := hc11; first | simpa using this | (unfold room at this ⊢; simp at this ⊢; omega)⟩) .nil))))) .nil (At.keep (ts := [4]) (ids := [33]) rfl rfl ?_)
      refine At.convM (.cons (y := bufL 3 1 enc_Int (((([] : List Int) ++ (p0.take (s1).toNat)) ++ ([p1] : List Int)) ++ (p0.drop (s1).toNat))) (BSim.seg (Seg.push (Seg.push (Seg.push (Seg.lit (f := enc_Int) (sz := 1) ([] : List Int) rfl rfl (fun _ => rfl)) (Seg.take enc_Int p0 ((s1).toNat) (by omega))) (Seg.lit (f := enc_Int) (sz := 1) ([p1] : List Int) rfl rfl (fun _ => rfl))) (Seg.drop enc_Int p0 ((s1).toNat)))) .nil) ?_
      refine At.thenC ?_
      refine W.ret ?_
      cases H
      exact At.ret env.ty rfl rfl (fun q hq => by cases hq; exact (by first | rfl | (simp; done) | omega | (simp; omega))) (.refl _) hval

theorem c_gasolierlaw04_hands (fuel : Nat) (p0 : Crew) (p1 : (List (List Int))) (p2 : (List Int)) {r : Bool} (H : gasolierlaw04_hands fuel p0 p1 p2 = some r) : Ctr Try.prog 34 [.agg [roL 4 enc_Task p0.Tasks, roL 1 enc_ListRange p0.Travel, roL 3 enc_Hand p0.Hands], roL 1 enc_ListInt p1, roL 1 enc_Int p2] (.bool (r)) := by
  unfold gasolierlaw04_hands at H
  refine Ctr.of_body (N := 56) Try.func34 (by kernel_rfl) (c := _) rfl Try.ntmps34 rfl (fun w0 h0 hval => ?_)
  refine W.rg env [1, 2, 3] [3] ?_
  refine W.rg env [1, 2, 3, 7] [3] ?_
  refine W.seq ?_
  refine W.rg env [1, 2, 3, 7, 14, 15, 16] [3] ?_
  refine W.block ?_
  refine At.keep (ts := [1, 2, 3, 7, 14, 15, 16]) (ids := [3]) rfl rfl ?_
  refine W.len (t := 14) rfl (fun (hn1 : p2.length ≤ maxLen) => ?_)
  refine W.rangeGo H (fun i1 (s1 : (List Int)) => [(1, roL 1 enc_ListInt p1), (2, roL 1 enc_Int p2), (3, .lp 3 0), (7, roL 1 enc_Int s1), (14, roL 1 enc_Int p2), (15, .int .i64 (((p2.length : Nat) : Int))), (16, .int .i64 ((i1 : Int)))]) (fun i1 (s1 : (List Int)) => [(3, .cells [roL 4 enc_Task p0.Tasks, roL 1 enc_ListRange p0.Travel, roL 3 enc_Hand p0.Hands])]) (.cons .q (.cons .q (.cons .q (.cons (Sim.nil _ _) (.cons .q (.cons .qi (.cons .qi .nil))))))) (.cons .q .nil) (fun k1 i1 s1 hle1 H1 H2 K0 hK1 => ?_)
  refine W.rg env [1, 2, 3, 7, 14, 15, 16, 17] [3] ?_
  refine W.seq ?_
  refine W.cond rfl (fun hb2 => ?_) (fun hb2 => ?_)
  · have hi1 : i1 < p2.length := by have := of_decide_eq_true hb2; omega
    have H := H1 hi1
    refine W.skip ?_
    refine At.thenC ?_
    refine W.seq ?_
    refine W.block ?_
    refine W.sr env [] [] [1, 2, 3, 7, 9, 14, 15, 16] [3] rfl rfl rfl (.cons (⟨by omega, by omega⟩ : 0 ≤ (i1 : Int) ∧ (i1 : Int) < ((p2.length : Nat) : Int)) .nil) .nil ?_
    refine W.seq ?_
    refine W.sr env [] [] [1, 2, 3, 7, 9, 14, 15, 16, 27] [3] rfl rfl rfl (.cons (fun h => h) (.cons (fun h => h) (.cons (fun h => h) (.cons (fun h => by rw [h]; rfl) .nil)))) .nil ?_
    refine W.cond rfl (fun hb3 => ?_) (fun hb3 => ?_)
    · have H := of_true H hb3
      refine W.rg env [6] [] ?_
      refine W.ret ?_
      refine At.rthen ?_
      refine At.rinb ?_
      refine At.rthen ?_
      refine At.rthen ?_
      refine At.rinb ?_
      refine At.rthen ?_
      cases H
      exact At.ret env.ty rfl rfl (fun q hq => by cases hq) (.refl _) hval
    · have H := of_false H hb3
      refine W.skip ?_
      refine At.thenC ?_
      refine W.seq ?_
      obtain ⟨hc4, H⟩ := of_must H
      obtain ⟨y5, hy6, H⟩ := of_bindO H
      refine W.region env [] [⟨.tup [roL 1 enc_Int y5.1, .int .i64 (y5.2)], [], 0, []⟩] rfl rfl (by kernel_rfl) (.cons hc4 .nil) (.free (c_crew_Able p0 (p1.getD ((p2.getD i1 default)).toNat default) hy6) .nil) (At.keep (ts := [1, 2, 3, 7, 10, 11, 14, 15, 16]) (ids := [3]) rfl rfl ?_)
      refine At.thenC ?_
      refine W.seq ?_
      refine W.rg env [1, 2, 3, 7, 10, 14, 15, 16, 38] [3] ?_
      refine W.cond rfl (fun hb7 => ?_) (fun hb7 => ?_)
      · have H := of_true H hb7
        refine W.rg env [6] [] ?_
        refine W.ret ?_
        refine At.rthen ?_
        refine At.rinb ?_
        refine At.rthen ?_
        refine At.rthen ?_
        refine At.rinb ?_
        refine At.rthen ?_
        cases H
        exact At.ret env.ty rfl rfl (fun q hq => by cases hq) (.refl _) hval
      · have H := of_false H hb7
        refine W.skip ?_
        refine At.thenC ?_
        refine W.rg env [1, 2, 3, 7, 14, 15, 16, 39, 40, 41] [3] ?_
        refine W.block ?_
        refine At.keep (ts := [1, 2, 3, 7, 14, 15, 16, 39, 40, 41]) (ids := [3]) rfl rfl ?_
        refine W.len (t := 39) rfl (fun (hn8 : y5.1.length ≤ maxLen) => ?_)
        refine W.rangeGo H (fun i8 (s8 : (List Int)) => [(1, roL 1 enc_ListInt p1), (2, roL 1 enc_Int p2), (3, .lp 3 0), (7, roL 1 enc_Int s8), (14, roL 1 enc_Int p2), (15, .int .i64 (((p2.length : Nat) : Int))), (16, .int .i64 ((i1 : Int))), (39, roL 1 enc_Int y5.1), (40, .int .i64 (((y5.1.length : Nat) : Int))), (41, .int .i64 ((i8 : Int)))]) (fun i8 (s8 : (List Int)) => [(3, .cells [roL 4 enc_Task p0.Tasks, roL 1 enc_ListRange p0.Travel, roL 3 enc_Hand p0.Hands])]) (.cons .q (.cons .q (.cons .q (.cons .q (.cons .q (.cons .qi (.cons .qi (.cons .q (.cons .qi (.cons .qi .nil)))))))))) (.cons .q .nil) (fun k8 i8 s8 hle8 H1 H2 K0 hK8 => ?_)
        refine W.rg env [1, 2, 3, 7, 14, 15, 16, 39, 40, 41, 42] [3] ?_
        refine W.seq ?_
        refine W.cond rfl (fun hb9 => ?_) (fun hb9 => ?_)
        · have hi8 : i8 < y5.1.length := by have := of_decide_eq_true hb9; omega
          have H := H1 hi8
          refine W.skip ?_
          refine At.thenC ?_
          refine W.seq ?_
          refine W.block ?_
          refine W.sr env [] [] [1, 2, 3, 7, 13, 14, 15, 16, 39, 40, 41] [3] rfl rfl rfl (.cons (⟨by omega, by omega⟩ : 0 ≤ (i8 : Int) ∧ (i8 : Int) < ((y5.1.length : Nat) : Int)) .nil) .nil ?_
          obtain ⟨y10, hy11, H⟩ := of_bindO H
          refine W.region env [] [⟨roL 1 enc_Int y10, [], 0, []⟩] rfl rfl rfl .nil (.free (c_gasolierref01_Put fuel s8 (y5.1.getD i8 default) hy11) .nil) (At.keep (ts := [1, 2, 3, 7, 14, 15, 16, 39, 40, 41]) (ids := [3]) rfl rfl ?_)
          refine At.inb ?_
          refine At.thenC ?_
          refine W.region env [] [] rfl rfl rfl (.cons (by unfold inI; have := hn8; (try unfold maxLen at this); omega) .nil) .nil (At.keep (ts := [1, 2, 3, 7, 14, 15, 16, 39, 40, 41]) (ids := [3]) rfl rfl ?_)
          refine At.thenK (At.keep (ts := [1, 2, 3, 7, 14, 15, 16, 39, 40, 41]) (ids := [3]) rfl rfl ?_)
          exact At.conv (.cons .q (.cons .q (.cons .q (.cons .q (.cons .q (.cons .qi (.cons .qi (.cons .q (.cons .qi (.cons .qi .nil)))))))))) (.cons .q .nil) (hK8 hi8 y10 H)
        · have H := H2 (by have := of_decide_eq_false hb9; omega)
          refine W.exit ?_
          refine At.xthen ?_
          refine At.xthen ?_
          refine At.xhere ?_
          refine At.inb ?_
          refine At.thenC ?_
          refine W.region env [] [] rfl rfl rfl (.cons (by unfold inI; have := hn1; (try unfold maxLen at this); omega) .nil) .nil (At.keep (ts := [1, 2, 3, 7, 14, 15, 16]) (ids := [3]) rfl rfl ?_)
          refine At.thenK (At.keep (ts := [1, 2, 3, 7, 14, 15, 16]) (ids := [3]) rfl rfl ?_)
          exact At.conv (.cons .q (.cons .q (.cons .q (.cons .q (.cons .q (.cons .qi (.cons .qi .nil))))))) (.cons .q .nil) (hK1 hi1 s8 H)
  · have H := H2 (by have := of_decide_eq_false hb2; omega)
    refine W.exit ?_
    refine At.xthen ?_
    refine At.xthen ?_
    refine At.xhere ?_
    refine At.thenC ?_
    obtain ⟨hc12, H⟩ := of_must H
    refine W.sr env [] [] [6] [] rfl rfl rfl (.cons hc12 .nil) .nil ?_
    refine W.ret ?_
    cases H
    exact At.ret env.ty rfl rfl (fun q hq => by cases hq) (.refl _) hval

theorem c_gasolierref01_Mod (p0 : Int) (p1 : Int) {r : Int} (H : gasolierref01_Mod p0 p1 = some r) : Ctr Try.prog 35 [.int .i64 (p0), .int .i64 (p1)] (.int .i64 (r)) := by
  unfold gasolierref01_Mod at H
  refine Ctr.of_body (N := 12) Try.func35 (by kernel_rfl) (c := _) rfl Try.ntmps35 rfl (fun w0 h0 hval => ?_)
  refine W.rg env [0, 1] [] ?_
  obtain ⟨hc1, H⟩ := of_must H
  obtain ⟨hc2, H⟩ := of_must H
  obtain ⟨hc3, H⟩ := of_must H
  refine W.sr env [] [] [4] [] rfl rfl rfl (.cons hc1 (.cons hc2 (.cons hc3 .nil))) .nil ?_
  refine W.ret ?_
  cases H
  exact At.ret env.ty rfl rfl (fun q hq => by cases hq) (.refl _) hval

theorem c_gasolierref01_Has (p0 : (List Int)) (p1 : Int) {r : Bool} (H : gasolierref01_Has p0 p1 = some r) : Ctr Try.prog 37 [roL 1 enc_Int p0, .int .i64 (p1)] (.bool (r)) := by
  unfold gasolierref01_Has at H
  refine Ctr.of_body (N := 17) Try.func37 (by kernel_rfl) (c := _) rfl Try.ntmps37 rfl (fun w0 h0 hval => ?_)
  refine W.rg env [0, 1] [] ?_
  refine W.seq ?_
  refine W.rg env [1, 7, 8, 9] [] ?_
  refine W.block ?_
  refine At.keep (ts := [1, 7, 8, 9]) (ids := []) rfl rfl ?_
  refine W.len (t := 7) rfl (fun (hn1 : p0.length ≤ maxLen) => ?_)
  refine W.rangeGo H (fun i1 (s1 : Unit) => [(1, .int .i64 (p1)), (7, roL 1 enc_Int p0), (8, .int .i64 (((p0.length : Nat) : Int))), (9, .int .i64 ((i1 : Int)))]) (fun i1 (s1 : Unit) => []) (.cons .qi (.cons .q (.cons .qi (.cons .qi .nil)))) .nil (fun k1 i1 s1 hle1 H1 H2 K0 hK1 => ?_)
  refine W.rg env [1, 7, 8, 9, 10] [] ?_
  refine W.seq ?_
  refine W.cond rfl (fun hb2 => ?_) (fun hb2 => ?_)
  · have hi1 : i1 < p0.length := by have := of_decide_eq_true hb2; omega
    have H := H1 hi1
    refine W.skip ?_
    refine At.thenC ?_
    refine W.seq ?_
    refine W.block ?_
    refine W.sr env [] [] [1, 6, 7, 8, 9] [] rfl rfl rfl (.cons (⟨by omega, by omega⟩ : 0 ≤ (i1 : Int) ∧ (i1 : Int) < ((p0.length : Nat) : Int)) .nil) .nil ?_
    refine W.rg env [1, 7, 8, 9, 15] [] ?_
    refine W.cond rfl (fun hb3 => ?_) (fun hb3 => ?_)
    · have H := of_true H hb3
      refine W.rg env [4] [] ?_
      refine W.ret ?_
      refine At.rinb ?_
      refine At.rthen ?_
      refine At.rthen ?_
      refine At.rinb ?_
      refine At.rthen ?_
      cases H
      exact At.ret env.ty rfl rfl (fun q hq => by cases hq) (.refl _) hval
    · have H := of_false H hb3
      refine W.skip ?_
      refine At.inb ?_
      refine At.thenC ?_
      refine W.region env [] [] rfl rfl rfl (.cons (by unfold inI; have := hn1; (try unfold maxLen at this); omega) .nil) .nil (At.keep (ts := [1, 7, 8, 9]) (ids := []) rfl rfl ?_)
      refine At.thenK (At.keep (ts := [1, 7, 8, 9]) (ids := []) rfl rfl ?_)
      exact At.conv (.cons .qi (.cons .q (.cons .qi (.cons .qi .nil)))) .nil (hK1 hi1 () H)
  · have H := H2 (by have := of_decide_eq_false hb2; omega)
    refine W.exit ?_
    refine At.xthen ?_
    refine At.xthen ?_
    refine At.xhere ?_
    refine At.thenC ?_
    refine W.rg env [4] [] ?_
    refine W.ret ?_
    cases H
    exact At.ret env.ty rfl rfl (fun q hq => by cases hq) (.refl _) hval

theorem c_gasolierlaw04_CrewEither (fuel : Nat) (p0 : Crew) (p1 : gasolierlaw04_Plan) (p2 : (Arr2 Int)) {r : Bool} (H : gasolierlaw04_CrewEither fuel p0 p1 p2 = some r) : Ctr Try.prog 7 [.agg [roL 4 enc_Task p0.Tasks, roL 1 enc_ListRange p0.Travel, roL 3 enc_Hand p0.Hands], .agg [roL 1 enc_ListInt p1.Rounds, roL 1 enc_Int p1.Cut, .int .i64 (p1.Size), roL 1 enc_ListInt p1.Walks, roL 1 enc_Int p1.Hands], .agg [.int .i64 (p2.x0), .int .i64 (p2.x1)]] (.bool (r)) := by
  unfold gasolierlaw04_CrewEither at H
  refine Ctr.of_body (N := 148) Try.func7 (by kernel_rfl) (c := _) rfl Try.ntmps7 rfl (fun w0 h0 hval => ?_)
  refine W.rg env [3, 4, 5] [3, 4, 5] ?_
  refine W.seq ?_
  refine W.seq ?_
  obtain ⟨y1, hy2, H⟩ := of_bindO H
  refine W.region env [] [⟨.int .i64 (y1), [], 0, []⟩] rfl rfl rfl .nil (.free (c_gasolierref04_Check p0 hy2) .nil) (At.keep (ts := [3, 4, 5, 20]) (ids := [3, 4, 5]) rfl rfl ?_)
  refine At.thenC ?_
  refine W.cond rfl (fun hb3 => ?_) (fun hb3 => ?_)
  · have H := of_true H hb3
    refine W.seq ?_
    obtain ⟨y4, hy5, H⟩ := of_bindO H
    obtain ⟨y6, hy7, H⟩ := of_bindO H
    refine W.region env [] [⟨.int .i64 (y4), [], 0, []⟩, ⟨.bool (y6), [], 0, []⟩] rfl rfl rfl (.cons (fun h => h) .nil) (.free (c_crew_Check p0 hy5) (.on (fun hW => c_gasolierlaw04_sane fuel (of_true hy7 hW)) .nil)) (At.keep (ts := [6]) (ids := []) rfl rfl ?_)
    refine At.thenC ?_
    refine W.ret ?_
    refine At.rthen ?_
    cases H
    exact At.ret env.ty rfl rfl (fun q hq => by cases hq) (.refl _) hval
  · have H := of_false H hb3
    refine W.skip ?_
    refine At.thenC ?_
    refine W.seq ?_
    obtain ⟨y8, hy9, H⟩ := of_bindO H
    refine W.region env [] [⟨.tup [roL 1 enc_ListInt y8.1, .int .i64 (y8.2)], [], 0, []⟩] rfl rfl rfl .nil (.free (c_crew_Rounds fuel p0 hy9) .nil) (At.keep (ts := [3, 4, 5, 7, 8]) (ids := [3, 4, 5]) rfl rfl ?_)
    refine At.thenC ?_
    refine W.seq ?_
    refine W.seq ?_
    obtain ⟨y10, hy11, H⟩ := of_bindO H
    refine W.region env [] [⟨.int .i64 (y10), [], 0, []⟩] rfl rfl rfl (.cons (fun h => h) (.cons (fun h => h) (.cons (fun h => h) (.cons (fun h => by rw [h]; rfl) .nil)))) (.on (fun hW => c_gasolierref04_CheckRounds p0 y8.1 (of_true hy11 hW)) .nil) (At.keep (ts := [3, 4, 5, 7, 39]) (ids := [3, 4, 5]) rfl rfl ?_)
    refine At.thenC ?_
    refine W.cond rfl (fun hb12 => ?_) (fun hb12 => ?_)
    · have H := of_true H hb12
      refine W.rg env [6] [] ?_
      refine W.ret ?_
      refine At.rthen ?_
      cases H
      exact At.ret env.ty rfl rfl (fun q hq => by cases hq) (.refl _) hval
    · have H := of_false H hb12
      refine W.skip ?_
      refine At.thenC ?_
      refine W.seq ?_
      obtain ⟨y13, hy14, H⟩ := of_bindO H
      refine W.region env [] [⟨.tup [roL 1 enc_Int y13.1, .int .i64 (y13.2)], [], 0, []⟩] rfl rfl rfl .nil (.free (c_crew_Assign fuel p0 y8.1 hy14) .nil) (At.keep (ts := [3, 4, 5, 7, 9, 10]) (ids := [3, 4, 5]) rfl rfl ?_)
      refine At.thenC ?_
      refine W.seq ?_
      obtain ⟨y15, hy16, H⟩ := of_bindO H
      refine W.region env [] [⟨.tup [roL 1 enc_Int y15.1, .int .i64 (y15.2)], [], 0, []⟩] rfl rfl rfl .nil (.free (c_crew_Short fuel p0 y8.1 hy16) .nil) (At.keep (ts := [3, 4, 5, 7, 9, 10, 11, 12]) (ids := [3, 4, 5]) rfl rfl ?_)
      refine At.thenC ?_
      refine W.seq ?_
      obtain ⟨y17, hy18, H⟩ := of_bindO H
      refine W.region env [] [⟨.int .i64 (y17), [], 0, []⟩] rfl rfl rfl .nil (.free (c_crew_CheckShort p0 y8.1 p1.Cut hy18) .nil) (At.keep (ts := [3, 4, 5, 7, 9, 10, 11, 12, 13]) (ids := [3, 4, 5]) rfl rfl ?_)
      refine At.thenC ?_
      refine W.seq ?_
      obtain ⟨y19, hy20, H⟩ := of_bindO H
      refine W.region env [] [⟨.int .i64 (y19), [], 0, []⟩] rfl rfl rfl .nil (.free (c_crew_CheckAssign p0 y8.1 p1.Hands hy20) .nil) (At.keep (ts := [3, 5, 7, 9, 10, 11, 12, 13, 14]) (ids := [3, 5]) rfl rfl ?_)
      refine At.thenC ?_
      refine W.seq ?_
      refine W.sr env [] [] [3, 5, 7, 9, 10, 11, 12, 13, 14, 67] [3, 5] rfl rfl rfl (.cons (fun h => h) .nil) .nil ?_
      refine W.cond rfl (fun hb21 => ?_) (fun hb21 => ?_)
      · have H := of_true H hb21
        refine W.rg env [6] [] ?_
        refine W.ret ?_
        refine At.rthen ?_
        cases H
        exact At.ret env.ty rfl rfl (fun q hq => by cases hq) (.refl _) hval
      · have H := of_false H hb21
        refine W.skip ?_
        refine At.thenC ?_
        refine W.seq ?_
        refine W.rg env [3, 5, 7, 9, 10, 11, 12, 13, 14, 69] [3, 5] ?_
        refine W.cond rfl (fun hb22 => ?_) (fun hb22 => ?_)
        · have H := of_true H hb22
          refine W.seq ?_
          obtain ⟨y23, hy24, H⟩ := of_bindO H
          obtain ⟨y25, hy26, H⟩ := of_bindO H
          obtain ⟨y27, hy28, H⟩ := of_bindO H
          refine W.region env [] [⟨.int .i64 (y23), [], 0, []⟩, ⟨.bool (y25), [], 0, []⟩, ⟨.bool (y27), [], 0, []⟩] rfl rfl rfl (.cons (fun h => h) (.cons (fun h => h) (.cons (fun h => h) (.cons (fun h => h) (.cons (fun h => h) (.cons (fun h => h) (.cons (fun h => h) (.cons (fun h => h) (.cons (fun h => h) (.cons (fun h => h) (.cons (fun h => h) (.cons (fun h => h) (.cons (fun h => h) (.cons (fun h => h) .nil)))))))))))))) (.on (fun hW => c_crew_CheckShort p0 y8.1 y15.1 (of_true hy24 hW)) (.on (fun hW => c_gasolierlaw04_hands fuel p0 y8.1 y15.1 (of_true hy26 hW)) (.on (fun hW => c_gasolierlaw04_sane fuel (of_true hy28 hW)) .nil))) (At.keep (ts := [6]) (ids := []) rfl rfl ?_)
          refine At.thenC ?_
          refine W.ret ?_
          refine At.rthen ?_
          cases H
          exact At.ret env.ty rfl rfl (fun q hq => by cases hq) (.refl _) hval
        · have H := of_false H hb22
          refine W.skip ?_
          refine At.thenC ?_
          refine W.seq ?_
          refine W.seq ?_
          obtain ⟨y29, hy30, H⟩ := of_bindO H
          refine W.region env [] [⟨.int .i64 (y29), [], 0, []⟩] rfl rfl rfl (.cons (fun h => by rw [h]; rfl) (.cons (fun h => h) (.cons (fun h => h) (.cons (fun h => h) (.cons (fun h => h) (.cons (fun h => by rw [h]; rfl) .nil)))))) (.on (fun hW => c_crew_CheckAssign p0 y8.1 y13.1 (of_true hy30 hW)) .nil) (At.keep (ts := [3, 5, 7, 9, 107]) (ids := [3, 5]) rfl rfl ?_)
          refine At.thenC ?_
          refine W.cond rfl (fun hb31 => ?_) (fun hb31 => ?_)
          · have H := of_true H hb31
            refine W.rg env [6] [] ?_
            refine W.ret ?_
            refine At.rthen ?_
            cases H
            exact At.ret env.ty rfl rfl (fun q hq => by cases hq) (.refl _) hval
          · have H := of_false H hb31
            refine W.skip ?_
            refine At.thenC ?_
            refine W.seq ?_
            refine W.rg env [3, 5, 7, 9, 111] [3, 5] ?_
            refine W.cond rfl (fun hb32 => ?_) (fun hb32 => ?_)
            · have H := of_true H hb32
              refine W.seq ?_
              obtain ⟨y33, hy34, H⟩ := of_bindO H
              refine W.region env [] [⟨.bool (y33), [], 0, []⟩] rfl rfl rfl .nil (.free (c_gasolierlaw04_sane fuel hy34) .nil) (At.keep (ts := [6]) (ids := []) rfl rfl ?_)
              refine At.thenC ?_
              refine W.ret ?_
              refine At.rthen ?_
              cases H
              exact At.ret env.ty rfl rfl (fun q hq => by cases hq) (.refl _) hval
            · have H := of_false H hb32
              refine W.skip ?_
              refine At.thenC ?_
              refine W.seq ?_
              obtain ⟨y35, hy36, H⟩ := of_bindO H
              obtain ⟨hc37, H⟩ := of_must H
              refine W.region env [] [⟨.int .i64 (y35), [], 0, []⟩] rfl rfl (by kernel_rfl) (.cons (by decide) (.cons hc37 .nil)) (.free (c_gasolierref01_Mod p2.x0 ((p0.Hands.length : Nat) : Int) hy36) .nil) (At.keep (ts := [3, 5, 7, 9, 15]) (ids := [3, 5, 15]) rfl rfl ?_)
              refine At.thenC ?_
              refine W.seq ?_
              obtain ⟨y38, hy39, H⟩ := of_bindO H
              obtain ⟨y40, hy41, H⟩ := of_bindO H
              refine W.region env [] [⟨.int .i64 (y38), [], 0, []⟩, ⟨.tup [.agg [roL 4 enc_Task y40.1.Tasks, roL 1 enc_ListRange y40.1.Travel, roL 3 enc_Hand y40.1.Hands], .int .i64 (y40.2)], [], 0, []⟩] rfl rfl (by kernel_rfl) (.cons (by decide) .nil) (.free (c_gasolierref01_Mod p2.x1 1440 hy39) (.free (c_crew_Ill p0 ((p0.Hands.getD (y35).toNat default).Id) y38 hy41) .nil)) (At.keep (ts := [7, 9, 15, 16, 17]) (ids := [15, 16]) rfl rfl ?_)
              refine At.thenC ?_
              refine W.seq ?_
              refine W.rg env [7, 9, 15, 16, 134] [15, 16] ?_
              refine W.cond rfl (fun hb42 => ?_) (fun hb42 => ?_)
              · have H := of_true H hb42
                refine W.rg env [6] [] ?_
                refine W.ret ?_
                refine At.rthen ?_
                cases H
                exact At.ret env.ty rfl rfl (fun q hq => by cases hq) (.refl _) hval
              · have H := of_false H hb42
                refine W.skip ?_
                refine At.thenC ?_
                refine W.seq ?_
                refine W.seq ?_
                obtain ⟨y43, hy44, H⟩ := of_bindO H
                obtain ⟨y45, hy46, H⟩ := of_bindO H
                refine W.region env [] [⟨.bool (y43), [], 0, []⟩, ⟨.int .i64 (y45), [], 0, []⟩] rfl rfl rfl (.cons (fun h => h) (.cons (fun h => h) (.cons (fun h => h) (.cons (fun h => h) (.cons (fun h => h) .nil))))) (.free (c_gasolierref01_Has y13.1 ((p0.Hands.getD (y35).toNat default).Id) hy44) (.on (fun hW => c_crew_CheckAssign y40.1 y8.1 y13.1 (of_true hy46 hW)) .nil)) (At.keep (ts := [146]) (ids := []) rfl rfl ?_)
                refine At.thenC ?_
                refine W.cond rfl (fun hb47 => ?_) (fun hb47 => ?_)
                · have H := of_true H hb47
                  refine W.rg env [6] [] ?_
                  refine W.ret ?_
                  refine At.rthen ?_
                  cases H
                  exact At.ret env.ty rfl rfl (fun q hq => by cases hq) (.refl _) hval
                · have H := of_false H hb47
                  refine W.skip ?_
                  refine At.thenC ?_
                  refine W.seq ?_
                  obtain ⟨y48, hy49, H⟩ := of_bindO H
                  refine W.region env [] [⟨.bool (y48), [], 0, []⟩] rfl rfl rfl .nil (.free (c_gasolierlaw04_sane fuel hy49) .nil) (At.keep (ts := [6]) (ids := []) rfl rfl ?_)
                  refine At.thenC ?_
                  refine W.ret ?_
                  cases H
                  exact At.ret env.ty rfl rfl (fun q hq => by cases hq) (.refl _) hval

end Go.Sp
