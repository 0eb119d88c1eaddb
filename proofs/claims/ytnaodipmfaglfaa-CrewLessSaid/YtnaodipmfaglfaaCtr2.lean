/- Printed by gen.py: contracts, part 2. -/
import Derived.Test.YtnaodipmfaglfaaCtr1
set_option linter.all false
set_option maxRecDepth 100000
set_option maxHeartbeats 1000000
namespace Go.Sp
open Go Go.Av Go.Proofs
theorem co_slices_Delete_int (p0 : (List Int)) (p1 : Int) (p2 : Int) {r : (List Int)} (H : slices_Delete_int p0 p1 p2 = some r) : CtrO Try.prog 75 [.buf 700 (p0).length, .int .i64 (p1), .int .i64 (p2)] [(700, bufL 3 1 enc_Int p0)] (.buf 900 r.length) [(900, bufL 3 1 enc_Int r)] := by
 unfold slices_Delete_int at H
 refine CtrO.of_body (N := 33) Try.func75 (by kernel_rfl) (c := _) rfl Try.ntmps75 rfl (fun w0 h0 ρb hval hdom => ?_)
 refine W.rg env [0, 1, 2] [700] ?_
 obtain ⟨hc1, H⟩ := of_must H
 refine W.sr env [] [] [0, 1, 2] [700] rfl rfl rfl (.cons (by first | rfl | (simp; done) | omega | (simp; omega)) (.cons (⟨by first | rfl | (simp; done) | omega | (simp; omega), hc1⟩) .nil)) .nil ?_
 refine W.seq ?_
 refine W.rg env [0, 1, 2, 16] [700] ?_
 refine W.cond rfl (fun hb2 => ?_) (fun hb2 => ?_)
 · have H := of_true H hb2
   refine W.rg env [6] [700] ?_
   refine W.ret ?_
   refine At.rthen ?_
   cases H
   exact At.retK env.ty [700] 200 rfl rfl rfl rfl (.cons (.refl _) .nil) (.of_eq (by refine bufEq ?_; first | (simp [copyAt]; done) | omega | (simp [copyAt]; omega) | rfl)) hval hdom rfl
 · have H := of_false H hb2
   refine W.skip ?_
   refine At.thenC ?_
   refine W.sr env [] [] [0, 1, 2, 7] [700] rfl rfl rfl (.cons (by first | rfl | (simp; done) | omega | (simp; omega)) .nil) .nil ?_
   refine W.seq ?_
   obtain ⟨hc3, H⟩ := of_must H
   obtain ⟨hc4, H⟩ := of_must H
   obtain ⟨hc5, H⟩ := of_must H
   refine W.region env [] [] rfl rfl (by first | rfl | kernel_rfl) (.cons (⟨by first | rfl | (simp; done) | omega | (simp; omega), hc3⟩) (.cons (⟨by first | rfl | (simp; done) | omega | (simp; omega), hc4⟩) (.cons (⟨rfl, rfl, by omega, by omega, by omega⟩) .nil))) .nil (At.keep (ts := [0, 7]) (ids := [26]) rfl rfl ?_)
   refine At.convM (.cons (y := bufkL 3 1 p0.length enc_Int (p0.take ((p1).toNat) ++ p0.drop ((p2).toNat))) (BSim.kseg (Seg.moved (f := enc_Int) (l := p0) ((p1).toNat) ((p2).toNat) (by omega) (by omega))) .nil) ?_
   refine At.thenC ?_
   refine W.seq ?_
   obtain ⟨hc6, H⟩ := of_must H
   refine W.region env [] [] rfl rfl rfl (.cons (by first | rfl | (simp; done) | omega | (simp; omega)) (.cons (⟨by first | rfl | (simp; done) | omega | (simp; omega), hc6⟩) (.cons (⟨by first | rfl | (simp; done) | omega | (simp; omega), by first | rfl | (simp; done) | omega | (simp; omega), by first | omega | (simp; omega)⟩) .nil))) .nil (At.keep (ts := [0]) (ids := [26]) rfl rfl ?_)
   refine At.convM (.cons (y := bufkL 3 1 p0.length enc_Int (p0.take ((p1).toNat) ++ p0.drop ((p2).toNat))) (BSim.kseg (Seg.refl enc_Int _)) .nil) ?_
   refine At.thenC ?_
   refine W.rg env [6] [26] ?_
   refine W.ret ?_
   cases H
   exact At.retK env.ty [26] 874 rfl rfl rfl rfl (.cons (.bufk (.refl _)) .nil) (.of_eq (by refine bufEq ?_; first | (simp [copyAt]; done) | omega | (simp [copyAt]; omega) | rfl)) hval hdom rfl
theorem co_slices_Clone_int (p0 : (List Int)) {r : (List Int)} (H : slices_Clone_int p0 = some r) : CtrO Try.prog 76 [roL 1 enc_Int p0] [] (.buf 900 r.length) [(900, bufL 3 1 enc_Int r)] := by
 unfold slices_Clone_int at H
 refine CtrO.of_body (N := 8) Try.func76 (by kernel_rfl) (c := _) rfl Try.ntmps76 rfl (fun w0 h0 ρb hval hdom => ?_)
 refine W.rg env [0] [] ?_
 refine W.seq ?_
 refine W.rg env [0, 4] [] ?_
 refine W.condNz rfl (fun hz => ?_) ?_
 · obtain rfl : p0 = [] := List.length_eq_zero_iff.1 hz
   obtain ⟨hc1, H⟩ := of_must H
   refine W.rg env [2] [] ?_
   refine W.ret ?_
   refine At.rthen ?_
   cases H
   refine At.nilOwn 2 800 3 1 (e := fun i => enc_Int (([] : List Int).getD i default)) rfl rfl ?_
   exact At.retK env.ty [800] 100 rfl rfl rfl rfl (.cons (.refl _) .nil) (.of_eq (by refine bufEq ?_; first | (simp [copyAt]; done) | omega | (simp [copyAt]; omega) | rfl)) hval hdom rfl
 · refine W.skip ?_
   refine At.thenC ?_
   refine W.seq ?_
   obtain ⟨hc1, H⟩ := of_must H
   refine W.region env [5] [] rfl rfl rfl (.cons (⟨by first | rfl | (simp; done) | omega | (simp; omega), by have := hc1; first | simpa using this | (unfold room at this ⊢; simp at this ⊢; omega)⟩) .nil) .nil (At.keep (ts := [2]) (ids := [5]) rfl rfl ?_)
   refine At.convM (.cons (y := bufL 3 1 enc_Int (([] : List Int) ++ p0)) (BSim.seg (Seg.push (Seg.lit (f := enc_Int) (sz := 1) ([] : List Int) rfl rfl (fun _ => rfl)) (Seg.refl enc_Int p0))) .nil) ?_
   refine At.thenC ?_
   refine W.ret ?_
   cases H
   exact At.retK env.ty [5] 895 rfl rfl rfl rfl (.cons (.refl _) .nil) (.of_eq (by refine bufEq ?_; first | (simp [copyAt]; done) | omega | (simp [copyAt]; omega) | rfl)) hval hdom rfl
theorem c_crew_Short (fuel : Nat) (p0 : Crew) (p1 : (List (List Int))) {r : ((List Int) × Int)} (H : crew_Short fuel p0 p1 = some r) : Ctr Try.prog 31 [.agg [roL 4 enc_Task p0.Tasks, roL 1 enc_ListRange p0.Travel, roL 3 enc_Hand p0.Hands], roL 1 enc_ListInt p1] (.tup [roL 1 enc_Int r.1, .int .i64 (r.2)]) := by
 unfold crew_Short at H
 refine Ctr.of_body (N := 52) Try.func31 (by kernel_rfl) (c := _) rfl Try.ntmps31 rfl (fun w0 h0 hval => ?_)
 refine W.rg env [1, 2] [2] ?_
 refine W.seq ?_
 obtain ⟨y1, hy2, H⟩ := of_bindO H
 refine W.region env [] [⟨.tup [.po y1.1.isSome [roL 4 enc_Task ((y1.1.getD default).Crew.Tasks), roL 1 enc_ListRange ((y1.1.getD default).Crew.Travel), roL 3 enc_Hand ((y1.1.getD default).Crew.Hands), roL 1 enc_Int ((y1.1.getD default).next)], .int .i64 (y1.2)], [], 0, []⟩] rfl rfl rfl .nil (.free (c_crew_asked p0 p1 hy2) .nil) (At.keep (ts := [1, 6, 7]) (ids := []) rfl rfl ?_)
 refine At.thenC ?_
 refine W.seq ?_
 refine W.rg env [1, 6, 7, 19] [] ?_
 refine W.cond rfl (fun hb3 => ?_) (fun hb3 => ?_)
 · have H := of_true H hb3
   refine W.rg env [4, 5] [] ?_
   refine W.ret ?_
   refine At.rthen ?_
   cases H
   exact At.ret env.ty rfl rfl (fun q hq => by cases hq) (Sim.tupL (.cons (Sim.nil _ _) (.cons (.refl _) .nil))) hval
 · have H := of_false H hb3
   refine W.skip ?_
   refine At.thenC ?_
   refine W.rg env [8] [8] ?_
   refine W.seq ?_
   obtain ⟨y4, hy5, H⟩ := of_bindO H
   refine W.region env [] [⟨roL 1 enc_Int y4, [], 0, []⟩] rfl rfl rfl .nil (.free (c_crew_shift__indices (⟨y1.1, p1⟩ : crew_shift) hy5) .nil) (At.keep (ts := [8, 9]) (ids := [8]) rfl rfl ?_)
   refine At.thenC ?_
   refine W.seq ?_
   refine W.seq ?_
   obtain ⟨y6, hy7, H⟩ := of_bindO H
   obtain ⟨y8, hy9, H⟩ := of_bindO H
   refine W.region env [] [⟨roL 1 enc_Int y6, [], 0, []⟩, ⟨.bool (y8), [], 0, []⟩] rfl rfl (by kernel_rfl) .nil (.free (c_crew_shift__free (⟨y1.1, p1⟩ : crew_shift) hy7) (.free (c_crew_shift__all fuel (⟨y1.1, p1⟩ : crew_shift) y4 y6 hy9) .nil)) (At.keep (ts := [8, 9, 30]) (ids := [8]) rfl rfl ?_)
   refine At.thenC ?_
   refine W.cond rfl (fun hb10 => ?_) (fun hb10 => ?_)
   · have H := of_true H hb10
     refine W.rg env [4, 5] [] ?_
     refine W.ret ?_
     refine At.rthen ?_
     cases H
     exact At.ret env.ty rfl rfl (fun q hq => by cases hq) (Sim.tupL (.cons (Sim.nil _ _) (.cons (.refl _) .nil))) hval
   · have H := of_false H hb10
     refine W.skip ?_
     refine At.thenC ?_
     refine W.seq ?_
     obtain ⟨hc11, H⟩ := of_must H
     refine W.sr env [] [] [8, 9, 10] [8] rfl rfl rfl (.cons hc11 .nil) .nil ?_
     refine W.block ?_
     refine At.keep (ts := [8, 9, 10]) (ids := [8]) rfl rfl ?_
     refine W.loopGo H (fun (s12 : Int × (List Int)) => [(8, .lp 8 0), (9, roL 1 enc_Int s12.2), (10, .int .i64 (s12.1))]) (fun (s12 : Int × (List Int)) => [(8, .cells [.po y1.1.isSome [roL 4 enc_Task ((y1.1.getD default).Crew.Tasks), roL 1 enc_ListRange ((y1.1.getD default).Crew.Travel), roL 3 enc_Hand ((y1.1.getD default).Crew.Hands), roL 1 enc_Int ((y1.1.getD default).next)], roL 1 enc_ListInt p1])]) (.cons .q (.cons .q (.cons .qi .nil))) (.cons .q .nil) (fun k12 s12 H K0 hK12 => ?_)
     refine W.seq ?_
     refine W.rg env [8, 9, 10, 35] [8] ?_
     refine W.cond rfl (fun hb13 => ?_) (fun hb13 => ?_)
     · have H := of_true H hb13
       refine W.skip ?_
       refine At.thenC ?_
       refine W.seq ?_
       refine W.block ?_
       refine W.seq ?_
       obtain ⟨y14, hy15, H⟩ := of_bindO H
       obtain ⟨hc16, H⟩ := of_must H
       obtain ⟨y17, hy18, H⟩ := of_bindO H
       refine W.region env [] [⟨.buf 900 y14.length, [(900, bufL 3 1 enc_Int y14)], 40000, []⟩, ⟨.buf 900 y17.length, [(40900, .dead), (900, bufL 3 1 enc_Int y17)], 44000, []⟩] rfl rfl (by kernel_rfl) (.cons hc16 .nil) (.free ((Ctr.ofO (co_slices_Clone_int s12.2 hy15))) (.free (CtrO.sim (CtrO.at (co_slices_Delete_int y14 s12.1 (s12.1 + 1) hy18) rfl 40900) (.cons .qc (.cons (.refl _) (.cons (.refl _) .nil))) (.cons (.refl _) .nil)) .nil)) (At.keep (ts := [8, 9, 10, 11]) (ids := [8, 44900]) rfl rfl ?_)
       refine At.thenC ?_
       refine W.seq ?_
       obtain ⟨y19, hy20, H⟩ := of_bindO H
       obtain ⟨y21, hy22, H⟩ := of_bindO H
       refine W.region env [] [⟨roL 1 enc_Int y19, [], 0, []⟩, ⟨.bool (y21), [], 0, []⟩] rfl rfl (by kernel_rfl) (.cons (by first | rfl | (simp; done) | omega | (simp; omega)) .nil) (.free (c_crew_shift__free (⟨y1.1, p1⟩ : crew_shift) hy20) (.free (c_crew_shift__all fuel (⟨y1.1, p1⟩ : crew_shift) y17 y19 hy22) .nil)) (At.keep (ts := [8, 9, 10, 11, 49]) (ids := [8, 44900]) rfl rfl ?_)
       refine At.thenC ?_
       refine W.cond rfl (fun hb23 => ?_) (fun hb23 => ?_)
       · have H := of_true H hb23
         refine W.region env [] [] rfl rfl rfl .nil .nil (At.keep (ts := [8, 9, 10]) (ids := [8, 44900]) rfl rfl ?_)
         refine At.inb ?_
         refine At.thenC ?_
         obtain ⟨hc24, H⟩ := of_must H
         refine W.region env [] [] rfl rfl rfl (.cons hc24 .nil) .nil (At.keep (ts := [8, 9, 10]) (ids := [8, 44900]) rfl rfl ?_)
         refine At.freezeA 44900 (K := [8]) (ts := [8, 9, 10]) rfl rfl rfl rfl (.cons (by first | rfl | (simp; done) | omega | (simp; omega)) .nil) .nil (fun _ h => h) ?_
         refine At.thenK (At.keep (ts := [8, 9, 10]) (ids := [8]) rfl rfl ?_)
         exact At.conv (.cons .q (.cons .q (.cons .qi .nil))) (.cons .q .nil) (hK12 ((s12.1 - 1), y17) H)
       · have H := of_false H hb23
         refine W.skip ?_
         refine At.inb ?_
         refine At.thenC ?_
         obtain ⟨hc25, H⟩ := of_must H
         refine W.region env [] [] rfl rfl rfl (.cons hc25 .nil) .nil (At.keep (ts := [8, 9, 10]) (ids := [8]) rfl rfl ?_)
         refine At.thenK (At.keep (ts := [8, 9, 10]) (ids := [8]) rfl rfl ?_)
         exact At.conv (.cons .q (.cons .q (.cons .qi .nil))) (.cons .q .nil) (hK12 ((s12.1 - 1), s12.2) H)
     · have H := of_false H hb13
       refine W.exit ?_
       refine At.xthen ?_
       refine At.xthen ?_
       refine At.xhere ?_
       refine At.thenC ?_
       refine W.rg env [4, 5] [] ?_
       refine W.ret ?_
       cases H
       exact At.ret env.ty rfl rfl (fun q hq => by cases hq) (.refl _) hval
theorem co_slices_Delete_Task (p0 : (List Task)) (p1 : Int) (p2 : Int) {r : (List Task)} (H : slices_Delete_Task p0 p1 p2 = some r) : CtrO Try.prog 86 [.buf 700 (p0).length, .int .i64 (p1), .int .i64 (p2)] [(700, bufL 67 4 enc_Task p0)] (.buf 900 r.length) [(900, bufL 67 4 enc_Task r)] := by
 unfold slices_Delete_Task at H
 refine CtrO.of_body (N := 33) Try.func86 (by kernel_rfl) (c := _) rfl Try.ntmps86 rfl (fun w0 h0 ρb hval hdom => ?_)
 refine W.rg env [0, 1, 2] [700] ?_
 obtain ⟨hc1, H⟩ := of_must H
 refine W.sr env [] [] [0, 1, 2] [700] rfl rfl rfl (.cons (by first | rfl | (simp; done) | omega | (simp; omega)) (.cons (⟨by first | rfl | (simp; done) | omega | (simp; omega), hc1⟩) .nil)) .nil ?_
 refine W.seq ?_
 refine W.rg env [0, 1, 2, 16] [700] ?_
 refine W.cond rfl (fun hb2 => ?_) (fun hb2 => ?_)
 · have H := of_true H hb2
   refine W.rg env [6] [700] ?_
   refine W.ret ?_
   refine At.rthen ?_
   cases H
   exact At.retK env.ty [700] 200 rfl rfl rfl rfl (.cons (.refl _) .nil) (.of_eq (by refine bufEq ?_; first | (simp [copyAt]; done) | omega | (simp [copyAt]; omega) | rfl)) hval hdom rfl
 · have H := of_false H hb2
   refine W.skip ?_
   refine At.thenC ?_
   refine W.sr env [] [] [0, 1, 2, 7] [700] rfl rfl rfl (.cons (by first | rfl | (simp; done) | omega | (simp; omega)) .nil) .nil ?_
   refine W.seq ?_
   obtain ⟨hc3, H⟩ := of_must H
   obtain ⟨hc4, H⟩ := of_must H
   obtain ⟨hc5, H⟩ := of_must H
   refine W.region env [] [] rfl rfl (by first | rfl | kernel_rfl) (.cons (⟨by first | rfl | (simp; done) | omega | (simp; omega), hc3⟩) (.cons (⟨by first | rfl | (simp; done) | omega | (simp; omega), hc4⟩) (.cons (⟨rfl, rfl, by omega, by omega, by omega⟩) .nil))) .nil (At.keep (ts := [0, 7]) (ids := [26]) rfl rfl ?_)
   refine At.convM (.cons (y := bufkL 67 4 p0.length enc_Task (p0.take ((p1).toNat) ++ p0.drop ((p2).toNat))) (BSim.kseg (Seg.moved (f := enc_Task) (l := p0) ((p1).toNat) ((p2).toNat) (by omega) (by omega))) .nil) ?_
   refine At.thenC ?_
   refine W.seq ?_
   obtain ⟨hc6, H⟩ := of_must H
   refine W.region env [] [] rfl rfl rfl (.cons (by first | rfl | (simp; done) | omega | (simp; omega)) (.cons (⟨by first | rfl | (simp; done) | omega | (simp; omega), hc6⟩) (.cons (⟨by first | rfl | (simp; done) | omega | (simp; omega), by first | rfl | (simp; done) | omega | (simp; omega), by first | omega | (simp; omega)⟩) .nil))) .nil (At.keep (ts := [0]) (ids := [26]) rfl rfl ?_)
   refine At.convM (.cons (y := bufkL 67 4 p0.length enc_Task (p0.take ((p1).toNat) ++ p0.drop ((p2).toNat))) (BSim.kseg (Seg.refl enc_Task _)) .nil) ?_
   refine At.thenC ?_
   refine W.rg env [6] [26] ?_
   refine W.ret ?_
   cases H
   exact At.retK env.ty [26] 874 rfl rfl rfl rfl (.cons (.bufk (.refl _)) .nil) (.of_eq (by refine bufEq ?_; first | (simp [copyAt]; done) | omega | (simp [copyAt]; omega) | rfl)) hval hdom rfl
theorem co_slices_Clone_Task (p0 : (List Task)) {r : (List Task)} (H : slices_Clone_Task p0 = some r) : CtrO Try.prog 103 [roL 4 enc_Task p0] [] (.buf 900 r.length) [(900, bufL 67 4 enc_Task r)] := by
 unfold slices_Clone_Task at H
 refine CtrO.of_body (N := 8) Try.func103 (by kernel_rfl) (c := _) rfl Try.ntmps103 rfl (fun w0 h0 ρb hval hdom => ?_)
 refine W.rg env [0] [] ?_
 refine W.seq ?_
 refine W.rg env [0, 4] [] ?_
 refine W.condNz rfl (fun hz => ?_) ?_
 · obtain rfl : p0 = [] := List.length_eq_zero_iff.1 hz
   obtain ⟨hc1, H⟩ := of_must H
   refine W.rg env [2] [] ?_
   refine W.ret ?_
   refine At.rthen ?_
   cases H
   refine At.nilOwn 2 800 67 4 (e := fun i => enc_Task (([] : List Task).getD i default)) rfl rfl ?_
   exact At.retK env.ty [800] 100 rfl rfl rfl rfl (.cons (.refl _) .nil) (.of_eq (by refine bufEq ?_; first | (simp [copyAt]; done) | omega | (simp [copyAt]; omega) | rfl)) hval hdom rfl
 · refine W.skip ?_
   refine At.thenC ?_
   refine W.seq ?_
   obtain ⟨hc1, H⟩ := of_must H
   refine W.region env [5] [] rfl rfl rfl (.cons (⟨by first | rfl | (simp; done) | omega | (simp; omega), by have := hc1; first | simpa using this | (unfold room at this ⊢; simp at this ⊢; omega)⟩) .nil) .nil (At.keep (ts := [2]) (ids := [5]) rfl rfl ?_)
   refine At.convM (.cons (y := bufL 67 4 enc_Task (([] : List Task) ++ p0)) (BSim.seg (Seg.push (Seg.lit (f := enc_Task) (sz := 4) ([] : List Task) rfl rfl (fun _ => rfl)) (Seg.refl enc_Task p0))) .nil) ?_
   refine At.thenC ?_
   refine W.ret ?_
   cases H
   exact At.retK env.ty [5] 895 rfl rfl rfl rfl (.cons (.refl _) .nil) (.of_eq (by refine bufEq ?_; first | (simp [copyAt]; done) | omega | (simp [copyAt]; omega) | rfl)) hval hdom rfl
theorem co_crew_copied_o0_1_2 (p0 : Crew) {r : Crew} (H : crew_copied p0 = some r) : CtrO Try.prog 83 [.agg [roL 4 enc_Task p0.Tasks, roL 1 enc_ListRange p0.Travel, roL 3 enc_Hand p0.Hands]] [] (.agg [.buf 940 (r.Tasks).length, .buf 941 (r.Travel).length, .buf 942 (r.Hands).length]) [(940, bufL 67 4 enc_Task r.Tasks), (941, bufL 71 1 enc_ListRange r.Travel), (942, bufL 59 3 enc_Hand r.Hands)] := by
 unfold crew_copied at H
 refine CtrO.of_body (N := 29) Try.func83 (by kernel_rfl) (c := _) rfl Try.ntmps83 rfl (fun w0 h0 ρb hval hdom => ?_)
 refine W.rg env [1, 2] [1, 2] ?_
 refine W.seq ?_
 obtain ⟨y1, hy2, H⟩ := of_bindO H
 obtain ⟨y3, hy4, H⟩ := of_bindO H
 refine W.region env [] [⟨.buf 900 y1.length, [(900, bufL 67 4 enc_Task y1)], 9000, []⟩, ⟨.buf 900 y3.length, [(900, bufL 59 3 enc_Hand y3)], 12000, []⟩] rfl rfl (by kernel_rfl) .nil (.free ((Ctr.ofO (co_slices_Clone_Task p0.Tasks hy2))) (.free ((Ctr.ofO (co_slices_Clone_Hand p0.Hands hy4))) .nil)) (At.keep (ts := [1, 2, 3]) (ids := [1, 2, 3, 9900, 12900]) rfl rfl ?_)
 refine At.thenC ?_
 refine W.seq ?_
 refine W.rg env [2, 3, 14, 15, 16] [2, 3, 9900, 12900] ?_
 refine W.block ?_
 refine At.nilOwnCell 3 1 751 71 1 (e := fun i => enc_ListRange (([] : List (List Range)).getD i default)) rfl rfl rfl ?_
 refine At.keep (ts := [2, 3, 14, 15, 16]) (ids := [2, 3, 751, 9900, 12900]) rfl rfl ?_
 refine W.len (t := 14) rfl (fun (hn5 : p0.Travel.length ≤ maxLen) => ?_)
 refine W.rangeGo H (fun i5 (s5 : (List (List Range))) => [(2, .lp 2 0), (3, .lp 3 0), (14, roL 1 enc_ListRange p0.Travel), (15, .int .i64 (((p0.Travel.length : Nat) : Int))), (16, .int .i64 ((i5 : Int)))]) (fun i5 (s5 : (List (List Range))) => [(2, .cells [.nilS, .nilS, .nilS]), (3, .cells [.buf 9900 (y1).length, .buf 751 (s5).length, .buf 12900 (y3).length]), (751, bufL 71 1 enc_ListRange s5), (9900, bufL 67 4 enc_Task y1), (12900, bufL 59 3 enc_Hand y3)]) (.cons .q (.cons .q (.cons .q (.cons .qi (.cons .qi .nil))))) (.cons .q (.cons (BSim.cells (.cons .qc (.cons .qc (.cons .qc .nil)))) (.cons .q (.cons .q (.cons .q .nil))))) (fun k5 i5 s5 hle5 H1 H2 K0 hK5 => ?_)
 refine W.rg env [2, 3, 14, 15, 16, 17] [2, 3, 751, 9900, 12900] ?_
 refine W.seq ?_
 refine W.cond rfl (fun hb6 => ?_) (fun hb6 => ?_)
 · have hi5 : i5 < p0.Travel.length := by have := of_decide_eq_true hb6; omega
   have H := H1 hi5
   refine W.skip ?_
   refine At.thenC ?_
   refine W.seq ?_
   refine W.block ?_
   refine W.sr env [] [] [2, 3, 5, 14, 15, 16] [2, 3, 751, 9900, 12900] rfl rfl rfl (.cons (⟨by omega, by omega⟩ : 0 ≤ (i5 : Int) ∧ (i5 : Int) < ((p0.Travel.length : Nat) : Int)) .nil) .nil ?_
   obtain ⟨y7, hy8, H⟩ := of_bindO H
   obtain ⟨hc9, H⟩ := of_must H
   refine W.region env [] [⟨roL 2 enc_Range y7, [], 0, []⟩] rfl rfl (by kernel_rfl) (.cons (⟨by first | rfl | (simp; done) | omega | (simp; omega), by have := hc9; first | simpa using this | (unfold room at this ⊢; simp at this ⊢; omega)⟩) .nil) (.free (c_slices_Clone_Range (p0.Travel.getD i5 default) hy8) .nil) (At.keep (ts := [2, 3, 14, 15, 16]) (ids := [2, 3, 751, 9900, 12900]) rfl rfl ?_)
   refine At.convM (.cons (.refl _) (.cons (.refl _) (.cons (y := bufL 71 1 enc_ListRange (s5 ++ ([y7] : List (List Range)))) (BSim.seg (Seg.push (Seg.refl enc_ListRange _) (Seg.lit (f := enc_ListRange) (sz := 1) ([y7] : List (List Range)) rfl rfl (fun _ => rfl)))) (.cons (.refl _) (.cons (.refl _) .nil))))) ?_
   refine At.inb ?_
   refine At.thenC ?_
   refine W.region env [] [] rfl rfl rfl (.cons (by unfold inI; have := hn5; (try unfold maxLen at this); omega) .nil) .nil (At.keep (ts := [2, 3, 14, 15, 16]) (ids := [2, 3, 751, 9900, 12900]) rfl rfl ?_)
   refine At.thenK (At.keep (ts := [2, 3, 14, 15, 16]) (ids := [2, 3, 751, 9900, 12900]) rfl rfl ?_)
   exact At.conv (.cons .q (.cons .q (.cons .q (.cons .qi (.cons .qi .nil))))) (.cons .q (.cons (BSim.cells (.cons .qc (.cons .qc (.cons .qc .nil)))) (.cons .q (.cons .q (.cons .q .nil))))) (hK5 hi5 (s5 ++ ([y7] : List (List Range))) H)
 · have H := H2 (by have := of_decide_eq_false hb6; omega)
   refine W.exit ?_
   refine At.xthen ?_
   refine At.xthen ?_
   refine At.xhere ?_
   refine At.thenC ?_
   refine W.rg env [2] [2, 751, 9900, 12900] ?_
   refine W.ret ?_
   cases H
   refine At.ren [(9900, 940), (751, 941), (12900, 942)] (K := [2, 751, 9900, 12900]) (ts := [2]) rfl rfl rfl rfl rfl ?_
   exact At.retK env.ty [940, 941, 942] 0 rfl rfl rfl rfl (.cons (.refl _) (.cons (.refl _) (.cons (.refl _) .nil))) (Sim.aggL (.cons .qc (.cons .qc (.cons .qc .nil)))) hval hdom rfl
theorem c_crew_Moved (fuel : Nat) (p0 : Crew) {r : ((List Int) × Int)} (H : crew_Moved fuel p0 = some r) : Ctr Try.prog 38 [.agg [roL 4 enc_Task p0.Tasks, roL 1 enc_ListRange p0.Travel, roL 3 enc_Hand p0.Hands]] (.tup [roL 1 enc_Int r.1, .int .i64 (r.2)]) := by
 unfold crew_Moved at H
 refine Ctr.of_body (N := 52) Try.func38 (by kernel_rfl) (c := _) rfl Try.ntmps38 rfl (fun w0 h0 hval => ?_)
 refine W.rg env [1] [1] ?_
 refine W.seq ?_
 obtain ⟨y1, hy2, H⟩ := of_bindO H
 refine W.region env [] [⟨.tup [.int .i64 (y1.1), .int .i64 (y1.2)], [], 0, []⟩] rfl rfl rfl .nil (.free (c_crew_Count fuel p0 hy2) .nil) (At.keep (ts := [1, 4, 5]) (ids := [1]) rfl rfl ?_)
 refine At.thenC ?_
 refine W.seq ?_
 refine W.rg env [1, 4, 5, 18] [1] ?_
 refine W.cond rfl (fun hb3 => ?_) (fun hb3 => ?_)
 · have H := of_true H hb3
   refine W.rg env [2, 3] [] ?_
   refine W.ret ?_
   refine At.rthen ?_
   cases H
   exact At.ret env.ty rfl rfl (fun q hq => by cases hq) (Sim.tupL (.cons (Sim.nil _ _) (.cons (.refl _) .nil))) hval
 · have H := of_false H hb3
   refine W.skip ?_
   refine At.thenC ?_
   refine W.rg env [1, 4, 6] [1] ?_
   refine W.seq ?_
   refine W.rg env [1, 4, 6, 21, 22, 23] [1] ?_
   refine W.block ?_
   refine At.nilOwn 6 506 3 1 (e := fun i => enc_Int (([] : List Int).getD i default)) rfl rfl ?_
   refine At.keep (ts := [1, 4, 6, 21, 22, 23]) (ids := [1, 506]) rfl rfl ?_
   refine W.len (t := 21) rfl (fun (hn4 : p0.Tasks.length ≤ maxLen) => ?_)
   refine W.rangeGo H (fun i4 (s4 : (List Int)) => [(1, .lp 1 0), (4, .int .i64 (y1.1)), (6, .buf 506 (s4).length), (21, roL 4 enc_Task p0.Tasks), (22, .int .i64 (((p0.Tasks.length : Nat) : Int))), (23, .int .i64 ((i4 : Int)))]) (fun i4 (s4 : (List Int)) => [(1, .cells [roL 4 enc_Task p0.Tasks, roL 1 enc_ListRange p0.Travel, roL 3 enc_Hand p0.Hands]), (506, bufL 3 1 enc_Int s4)]) (.cons .q (.cons .qi (.cons .qb (.cons .q (.cons .qi (.cons .qi .nil)))))) (.cons .q (.cons .q .nil)) (fun k4 i4 s4 hle4 H1 H2 K0 hK4 => ?_)
   refine W.rg env [1, 4, 6, 21, 22, 23, 24] [1, 506] ?_
   refine W.seq ?_
   refine W.cond rfl (fun hb5 => ?_) (fun hb5 => ?_)
   · have hi4 : i4 < p0.Tasks.length := by have := of_decide_eq_true hb5; omega
     have H := H1 hi4
     refine W.skip ?_
     refine At.thenC ?_
     refine W.seq ?_
     refine W.block ?_
     refine W.sr env [] [] [1, 4, 6, 7, 8, 21, 22, 23] [1, 8, 506] rfl rfl rfl (.cons (⟨by omega, by omega⟩ : 0 ≤ (i4 : Int) ∧ (i4 : Int) < ((p0.Tasks.length : Nat) : Int)) .nil) .nil ?_
     refine W.seq ?_
     obtain ⟨y6, hy7, H⟩ := of_bindO H
     refine W.region env [] [⟨.agg [.buf 940 (y6.Tasks).length, .buf 941 (y6.Travel).length, .buf 942 (y6.Hands).length], [(940, bufL 67 4 enc_Task y6.Tasks), (941, bufL 71 1 enc_ListRange y6.Travel), (942, bufL 59 3 enc_Hand y6.Hands)], 30000, []⟩] rfl rfl (by kernel_rfl) .nil (.free ((Ctr.ofO (co_crew_copied_o0_1_2 p0 hy7))) .nil) (At.keep (ts := [1, 4, 6, 7, 8, 9, 21, 22, 23]) (ids := [1, 8, 9, 506, 30940, 30941, 30942]) rfl rfl ?_)
     refine At.thenC ?_
     refine W.seq ?_
     obtain ⟨y8, hy9, H⟩ := of_bindO H
     refine W.region env [] [⟨.buf 900 y8.length, [(30940, .dead), (900, bufL 67 4 enc_Task y8)], 36000, []⟩] rfl rfl (by kernel_rfl) (.cons (by unfold inI; have := hn4; (try unfold maxLen at this); omega) .nil) (.free (CtrO.sim (CtrO.at (co_slices_Delete_Task y6.Tasks (i4 : Int) ((i4 : Int) + 1) hy9) rfl 30940) (.cons .qc (.cons (.refl _) (.cons (.refl _) .nil))) (.cons (.refl _) .nil)) .nil) (At.keep (ts := [1, 4, 6, 8, 9, 21, 22, 23]) (ids := [1, 8, 9, 506, 30941, 30942, 36900]) rfl rfl ?_)
     refine At.thenC ?_
     refine W.seq ?_
     obtain ⟨y10, hy11, H⟩ := of_bindO H
     refine W.region env [] [⟨.tup [.int .i64 (y10.1), .int .i64 (y10.2)], [], 0, []⟩] rfl rfl rfl (.cons ⟨by first | rfl | (simp; done) | omega | (simp; omega), ⟨by first | rfl | (simp; done) | omega | (simp; omega), (by first | rfl | (simp; done) | omega | (simp; omega))⟩⟩ .nil) (.free (c_crew_Count fuel (⟨y8, y6.Travel, y6.Hands⟩ : Crew) hy11) .nil) (At.keep (ts := [1, 4, 6, 8, 10, 21, 22, 23]) (ids := [1, 8, 506]) rfl rfl ?_)
     refine At.thenC ?_
     refine W.rg env [1, 4, 6, 8, 21, 22, 23, 44] [1, 8, 506] ?_
     refine W.cond rfl (fun hb12 => ?_) (fun hb12 => ?_)
     · have H := of_true H hb12
       obtain ⟨hc13, H⟩ := of_must H
       refine W.region env [] [] rfl rfl rfl (.cons (⟨by first | rfl | (simp; done) | omega | (simp; omega), by have := hc13; first | simpa using this | (unfold room at this ⊢; simp at this ⊢; omega)⟩) .nil) .nil (At.keep (ts := [1, 4, 6, 21, 22, 23]) (ids := [1, 506]) rfl rfl ?_)
       refine At.convM (.cons (.refl _) (.cons (y := bufL 3 1 enc_Int (s4 ++ ([(p0.Tasks.getD i4 default).Lamp] : List Int))) (BSim.seg (Seg.push (Seg.refl enc_Int _) (Seg.lit (f := enc_Int) (sz := 1) ([(p0.Tasks.getD i4 default).Lamp] : List Int) rfl rfl (fun _ => rfl)))) .nil)) ?_
       refine At.inb ?_
       refine At.thenC ?_
       refine W.region env [] [] rfl rfl rfl (.cons (by unfold inI; have := hn4; (try unfold maxLen at this); omega) .nil) .nil (At.keep (ts := [1, 4, 6, 21, 22, 23]) (ids := [1, 506]) rfl rfl ?_)
       refine At.thenK (At.keep (ts := [1, 4, 6, 21, 22, 23]) (ids := [1, 506]) rfl rfl ?_)
       exact At.conv (.cons .q (.cons .qi (.cons .qb (.cons .q (.cons .qi (.cons .qi .nil)))))) (.cons .q (.cons .q .nil)) (hK4 hi4 (s4 ++ ([(p0.Tasks.getD i4 default).Lamp] : List Int)) H)
     · have H := of_false H hb12
       refine W.skip ?_
       refine At.inb ?_
       refine At.thenC ?_
       refine W.region env [] [] rfl rfl rfl (.cons (by unfold inI; have := hn4; (try unfold maxLen at this); omega) .nil) .nil (At.keep (ts := [1, 4, 6, 21, 22, 23]) (ids := [1, 506]) rfl rfl ?_)
       refine At.thenK (At.keep (ts := [1, 4, 6, 21, 22, 23]) (ids := [1, 506]) rfl rfl ?_)
       exact At.conv (.cons .q (.cons .qi (.cons .qb (.cons .q (.cons .qi (.cons .qi .nil)))))) (.cons .q (.cons .q .nil)) (hK4 hi4 s4 H)
   · have H := H2 (by have := of_decide_eq_false hb5; omega)
     refine W.exit ?_
     refine At.xthen ?_
     refine At.xthen ?_
     refine At.xhere ?_
     refine At.thenC ?_
     refine W.rg env [2, 3] [506] ?_
     refine W.ret ?_
     cases H
     exact At.ret env.ty rfl rfl (fun q hq => by cases hq; exact (by first | rfl | (simp; done) | omega | (simp; omega))) (.refl _) hval
theorem c_gasolierref01_Same (p0 : (List Int)) (p1 : (List Int)) {r : Bool} (H : gasolierref01_Same p0 p1 = some r) : Ctr Try.prog 13 [roL 1 enc_Int p0, roL 1 enc_Int p1] (.bool (r)) := by
 unfold gasolierref01_Same at H
 refine Ctr.of_body (N := 26) Try.func13 (by kernel_rfl) (c := _) rfl Try.ntmps13 rfl (fun w0 h0 hval => ?_)
 refine W.rg env [0, 1] [] ?_
 refine W.seq ?_
 refine W.rg env [0, 1, 10] [] ?_
 refine W.cond rfl (fun hb1 => ?_) (fun hb1 => ?_)
 · have H := of_true H hb1
   refine W.rg env [4] [] ?_
   refine W.ret ?_
   refine At.rthen ?_
   cases H
   exact At.ret env.ty rfl rfl (fun q hq => by cases hq) (.refl _) hval
 · have H := of_false H hb1
   refine W.skip ?_
   refine At.thenC ?_
   refine W.seq ?_
   refine W.rg env [0, 1, 12, 13] [] ?_
   refine W.block ?_
   refine At.keep (ts := [0, 1, 12, 13]) (ids := []) rfl rfl ?_
   refine W.len (t := 0) rfl (fun (hn2 : p0.length ≤ maxLen) => ?_)
   refine W.rangeGo H (fun i2 (s2 : Unit) => [(0, roL 1 enc_Int p0), (1, roL 1 enc_Int p1), (12, .int .i64 (((p0.length : Nat) : Int))), (13, .int .i64 ((i2 : Int)))]) (fun i2 (s2 : Unit) => []) (.cons .q (.cons .q (.cons .qi (.cons .qi .nil)))) .nil (fun k2 i2 s2 hle2 H1 H2 K0 hK2 => ?_)
   refine W.rg env [0, 1, 12, 13, 14] [] ?_
   refine W.seq ?_
   refine W.cond rfl (fun hb3 => ?_) (fun hb3 => ?_)
   · have hi2 : i2 < p0.length := by have := of_decide_eq_true hb3; omega
     have H := H1 hi2
     refine W.skip ?_
     refine At.thenC ?_
     refine W.seq ?_
     refine W.block ?_
     refine W.rg env [0, 1, 5, 12, 13] [] ?_
     obtain ⟨hc4, H⟩ := of_must H
     refine W.sr env [] [] [0, 1, 12, 13, 24] [] rfl rfl (by first | rfl | kernel_rfl) (.cons (⟨by omega, by omega⟩ : 0 ≤ (i2 : Int) ∧ (i2 : Int) < ((p0.length : Nat) : Int)) (.cons hc4 .nil)) .nil ?_
     refine W.cond rfl (fun hb5 => ?_) (fun hb5 => ?_)
     · have H := of_true H hb5
       refine W.rg env [4] [] ?_
       refine W.ret ?_
       refine At.rinb ?_
       refine At.rthen ?_
       refine At.rthen ?_
       refine At.rinb ?_
       refine At.rthen ?_
       cases H
       exact At.ret env.ty rfl rfl (fun q hq => by cases hq) (.refl _) hval
     · have H := of_false H hb5
       refine W.skip ?_
       refine At.inb ?_
       refine At.thenC ?_
       refine W.region env [] [] rfl rfl rfl (.cons (by unfold inI; have := hn2; (try unfold maxLen at this); omega) .nil) .nil (At.keep (ts := [0, 1, 12, 13]) (ids := []) rfl rfl ?_)
       refine At.thenK (At.keep (ts := [0, 1, 12, 13]) (ids := []) rfl rfl ?_)
       exact At.conv (.cons .q (.cons .q (.cons .qi (.cons .qi .nil)))) .nil (hK2 hi2 () H)
   · have H := H2 (by have := of_decide_eq_false hb3; omega)
     refine W.exit ?_
     refine At.xthen ?_
     refine At.xthen ?_
     refine At.xhere ?_
     refine At.thenC ?_
     refine W.rg env [4] [] ?_
     refine W.ret ?_
     cases H
     exact At.ret env.ty rfl rfl (fun q hq => by cases hq) (.refl _) hval
theorem c_crew_CheckRounds (p0 : Crew) (p1 : (List (List Int))) {r : Int} (H : crew_CheckRounds p0 p1 = some r) : Ctr Try.prog 26 [.agg [roL 4 enc_Task p0.Tasks, roL 1 enc_ListRange p0.Travel, roL 3 enc_Hand p0.Hands], roL 1 enc_ListInt p1] (.int .i64 (r)) := by
 unfold crew_CheckRounds at H
 refine Ctr.of_body (N := 14) Try.func26 (by kernel_rfl) (c := _) rfl Try.ntmps26 rfl (fun w0 h0 hval => ?_)
 refine W.rg env [1, 2] [2] ?_
 refine W.seq ?_
 obtain ⟨y1, hy2, H⟩ := of_bindO H
 refine W.region env [] [⟨.tup [.po y1.1.isSome [roL 4 enc_Task ((y1.1.getD default).Crew.Tasks), roL 1 enc_ListRange ((y1.1.getD default).Crew.Travel), roL 3 enc_Hand ((y1.1.getD default).Crew.Hands), roL 1 enc_Int ((y1.1.getD default).next)], .int .i64 (y1.2)], [], 0, []⟩] rfl rfl rfl .nil (.free (c_crew_asked p0 p1 hy2) .nil) (At.keep (ts := [6]) (ids := []) rfl rfl ?_)
 refine At.thenC ?_
 refine W.rg env [4] [] ?_
 refine W.ret ?_
 cases H
 exact At.ret env.ty rfl rfl (fun q hq => by cases hq) (.refl _) hval
theorem c_crew_CheckCut (p0 : Crew) (p1 : (List Int)) (p2 : Int) {r : Int} (H : crew_CheckCut p0 p1 p2 = some r) : Ctr Try.prog 27 [.agg [roL 4 enc_Task p0.Tasks, roL 1 enc_ListRange p0.Travel, roL 3 enc_Hand p0.Hands], roL 1 enc_Int p1, .int .i64 (p2)] (.int .i64 (r)) := by
 unfold crew_CheckCut at H
 refine Ctr.of_body (N := 87) Try.func27 (by kernel_rfl) (c := _) rfl Try.ntmps27 rfl (fun w0 h0 hval => ?_)
 refine W.rg env [1, 2, 3] [3] ?_
 refine W.seq ?_
 refine W.seq ?_
 obtain ⟨y1, hy2, H⟩ := of_bindO H
 refine W.region env [] [⟨.int .i64 (y1), [], 0, []⟩] rfl rfl rfl .nil (.free (c_crew_Check p0 hy2) .nil) (At.keep (ts := [1, 2, 3, 7]) (ids := [3]) rfl rfl ?_)
 refine At.thenC ?_
 refine W.rg env [1, 2, 3, 7, 16] [3] ?_
 refine W.cond rfl (fun hb3 => ?_) (fun hb3 => ?_)
 · have H := of_true H hb3
   refine W.rg env [6] [] ?_
   refine W.ret ?_
   refine At.rthen ?_
   cases H
   exact At.ret env.ty rfl rfl (fun q hq => by cases hq) (.refl _) hval
 · have H := of_false H hb3
   refine W.skip ?_
   refine At.thenC ?_
   refine W.seq ?_
   obtain ⟨y4, hy5, H⟩ := of_bindO H
   refine W.region env [] [⟨.po y4.isSome [roL 4 enc_Task ((y4.getD default).Crew.Tasks), roL 1 enc_ListRange ((y4.getD default).Crew.Travel), roL 3 enc_Hand ((y4.getD default).Crew.Hands), roL 1 enc_Int ((y4.getD default).next)], [], 0, []⟩] rfl rfl rfl .nil (.free (c_crew_newPlan p0 (fun x0 => some (crew_most x0)) 46 [] [] (fun x0 r h => by cases h; exact c_crew_most x0) hy5) .nil) (At.keep (ts := [1, 2, 8]) (ids := []) rfl rfl ?_)
   refine At.thenC ?_
   refine W.seq ?_
   refine W.rg env [1, 2, 8, 20, 21, 22] [] ?_
   refine W.block ?_
   refine At.keep (ts := [1, 2, 8, 20, 21, 22]) (ids := []) rfl rfl ?_
   refine W.len (t := 20) rfl (fun (hn6 : p1.length ≤ maxLen) => ?_)
   refine W.rangeGo H (fun i6 (s6 : Unit) => [(1, roL 1 enc_Int p1), (2, .int .i64 (p2)), (8, .po y4.isSome [roL 4 enc_Task ((y4.getD default).Crew.Tasks), roL 1 enc_ListRange ((y4.getD default).Crew.Travel), roL 3 enc_Hand ((y4.getD default).Crew.Hands), roL 1 enc_Int ((y4.getD default).next)]), (20, roL 1 enc_Int p1), (21, .int .i64 (((p1.length : Nat) : Int))), (22, .int .i64 ((i6 : Int)))]) (fun i6 (s6 : Unit) => []) (.cons .q (.cons .qi (.cons .q (.cons .q (.cons .qi (.cons .qi .nil)))))) .nil (fun k6 i6 s6 hle6 H1 H2 K0 hK6 => ?_)
   refine W.rg env [1, 2, 8, 20, 21, 22, 23] [] ?_
   refine W.seq ?_
   refine W.cond rfl (fun hb7 => ?_) (fun hb7 => ?_)
   · have hi6 : i6 < p1.length := by have := of_decide_eq_true hb7; omega
     have H := H1 hi6
     refine W.skip ?_
     refine At.thenC ?_
     refine W.seq ?_
     refine W.block ?_
     refine W.sr env [] [] [1, 2, 8, 9, 10, 20, 21, 22] [] rfl rfl rfl (.cons (⟨by omega, by omega⟩ : 0 ≤ (i6 : Int) ∧ (i6 : Int) < ((p1.length : Nat) : Int)) .nil) .nil ?_
     refine W.seq ?_
     obtain ⟨hc8, H⟩ := of_must H
     obtain ⟨hc9, H⟩ := of_must H
     obtain ⟨hc10, H⟩ := of_must H
     obtain ⟨hc11, H⟩ := of_must H
     refine W.sr env [] [⟨.bool ((crew_in (p1.getD i6 default) 0 (((((y4.getD default).next).length : Nat) : Int) - 1))), [], 0, []⟩] [1, 2, 8, 9, 10, 20, 21, 22, 48] [] rfl rfl rfl (.cons hc8 (.cons hc9 (.cons (fun h => h) (.cons (fun h => h) (.cons hc10 (.cons (fun h => h) (.cons hc11 (.cons (fun h => h) (.cons (fun h => h) (.cons (fun h => h) (.cons (fun h => h) (.cons (fun h => h) (.cons (fun h => h) (.cons (fun hW h => by revert hW h; first | (simp +contextual; done) | grind) (.cons (fun h => by rw [h]; rfl) .nil))))))))))))))) (.free (c_crew_in (p1.getD i6 default) 0 (((((y4.getD default).next).length : Nat) : Int) - 1)) .nil) ?_
     refine W.cond rfl (fun hb12 => ?_) (fun hb12 => ?_)
     · have H := of_true H hb12
       refine W.rg env [6] [] ?_
       refine W.ret ?_
       refine At.rthen ?_
       refine At.rinb ?_
       refine At.rthen ?_
       refine At.rthen ?_
       refine At.rinb ?_
       refine At.rthen ?_
       cases H
       exact At.ret env.ty rfl rfl (fun q hq => by cases hq) (.refl _) hval
     · have H := of_false H hb12
       refine W.skip ?_
       refine At.thenC ?_
       refine W.seq ?_
       obtain ⟨hc13, H⟩ := of_must H
       refine W.region env [] [] rfl rfl rfl (.cons hc13 .nil) .nil (At.keep (ts := [1, 2, 8, 10, 20, 21, 22, 51, 52, 53]) (ids := []) rfl rfl ?_)
       refine At.slot (t := 51) (v := roL 1 enc_Int (p1.take i6)) (Sim.seg (Seg.take enc_Int p1 i6 (by omega))) ?_
       refine At.thenC ?_
       refine W.block ?_
       refine At.keep (ts := [1, 2, 8, 10, 20, 21, 22, 51, 52, 53]) (ids := []) rfl rfl ?_
       refine W.len (t := 51) rfl (fun (hn14 : (p1.take i6).length ≤ maxLen) => ?_)
       refine W.rangeGo H (fun i14 (s14 : Unit) => [(1, roL 1 enc_Int p1), (2, .int .i64 (p2)), (8, .po y4.isSome [roL 4 enc_Task ((y4.getD default).Crew.Tasks), roL 1 enc_ListRange ((y4.getD default).Crew.Travel), roL 3 enc_Hand ((y4.getD default).Crew.Hands), roL 1 enc_Int ((y4.getD default).next)]), (10, .int .i64 ((p1.getD i6 default))), (20, roL 1 enc_Int p1), (21, .int .i64 (((p1.length : Nat) : Int))), (22, .int .i64 ((i6 : Int))), (51, roL 1 enc_Int (p1.take i6)), (52, .int .i64 ((((p1.take i6).length : Nat) : Int))), (53, .int .i64 ((i14 : Int)))]) (fun i14 (s14 : Unit) => []) (.cons .q (.cons .qi (.cons .q (.cons .qi (.cons .q (.cons .qi (.cons .qi (.cons .q (.cons .qi (.cons .qi .nil)))))))))) .nil (fun k14 i14 s14 hle14 H1 H2 K0 hK14 => ?_)
       refine W.rg env [1, 2, 8, 10, 20, 21, 22, 51, 52, 53, 54] [] ?_
       refine W.seq ?_
       refine W.cond rfl (fun hb15 => ?_) (fun hb15 => ?_)
       · have hi14 : i14 < (p1.take i6).length := by have := of_decide_eq_true hb15; omega
         have H := H1 hi14
         refine W.skip ?_
         refine At.thenC ?_
         refine W.seq ?_
         refine W.block ?_
         refine W.sr env [] [] [1, 2, 8, 10, 12, 20, 21, 22, 51, 52, 53] [] rfl rfl rfl (.cons (⟨by omega, by omega⟩ : 0 ≤ (i14 : Int) ∧ (i14 : Int) < (((p1.take i6).length : Nat) : Int)) .nil) .nil ?_
         obtain ⟨hc16, H⟩ := of_must H
         obtain ⟨hc17, H⟩ := of_must H
         obtain ⟨hc18, H⟩ := of_must H
         obtain ⟨hc19, H⟩ := of_must H
         obtain ⟨hc20, H⟩ := of_must H
         obtain ⟨hc21, H⟩ := of_must H
         obtain ⟨hc22, H⟩ := of_must H
         obtain ⟨hc23, H⟩ := of_must H
         refine W.sr env [] [] [1, 2, 8, 10, 20, 21, 22, 51, 52, 53, 80] [] rfl rfl rfl (.cons hc16 (.cons hc17 (.cons hc18 (.cons hc19 (.cons hc20 (.cons (fun h => h) (.cons (fun h => h) (.cons (fun h => h) (.cons hc21 (.cons (fun h => h) (.cons (fun h => h) (.cons (fun h => h) (.cons hc22 (.cons (fun h => h) (.cons (fun h => h) (.cons hc23 (.cons (fun h => h) (.cons (fun h => h) (.cons (fun h => by rw [h]; rfl) .nil))))))))))))))))))) .nil ?_
         refine W.cond rfl (fun hb24 => ?_) (fun hb24 => ?_)
         · have H := of_true H hb24
           refine W.rg env [6] [] ?_
           refine W.ret ?_
           refine At.rinb ?_
           refine At.rthen ?_
           refine At.rthen ?_
           refine At.rinb ?_
           refine At.rinb ?_
           refine At.rthen ?_
           refine At.rthen ?_
           refine At.rinb ?_
           refine At.rthen ?_
           cases H
           exact At.ret env.ty rfl rfl (fun q hq => by cases hq) (.refl _) hval
         · have H := of_false H hb24
           refine W.skip ?_
           refine At.inb ?_
           refine At.thenC ?_
           refine W.region env [] [] rfl rfl rfl (.cons (by unfold inI; have := hn14; (try unfold maxLen at this); omega) .nil) .nil (At.keep (ts := [1, 2, 8, 10, 20, 21, 22, 51, 52, 53]) (ids := []) rfl rfl ?_)
           refine At.thenK (At.keep (ts := [1, 2, 8, 10, 20, 21, 22, 51, 52, 53]) (ids := []) rfl rfl ?_)
           exact At.conv (.cons .q (.cons .qi (.cons .q (.cons .qi (.cons .q (.cons .qi (.cons .qi (.cons .q (.cons .qi (.cons .qi .nil)))))))))) .nil (hK14 hi14 () H)
       · have H := H2 (by have := of_decide_eq_false hb15; omega)
         refine W.exit ?_
         refine At.xthen ?_
         refine At.xthen ?_
         refine At.xhere ?_
         refine At.inb ?_
         refine At.thenC ?_
         refine W.region env [] [] rfl rfl rfl (.cons (by unfold inI; have := hn6; (try unfold maxLen at this); omega) .nil) .nil (At.keep (ts := [1, 2, 8, 20, 21, 22]) (ids := []) rfl rfl ?_)
         refine At.thenK (At.keep (ts := [1, 2, 8, 20, 21, 22]) (ids := []) rfl rfl ?_)
         exact At.conv (.cons .q (.cons .qi (.cons .q (.cons .q (.cons .qi (.cons .qi .nil)))))) .nil (hK6 hi6 () H)
   · have H := H2 (by have := of_decide_eq_false hb7; omega)
     refine W.exit ?_
     refine At.xthen ?_
     refine At.xthen ?_
     refine At.xhere ?_
     refine At.thenC ?_
     refine W.seq ?_
     refine W.rg env [86] [] ?_
     refine W.cond rfl (fun hb25 => ?_) (fun hb25 => ?_)
     · have H := of_true H hb25
       refine W.rg env [6] [] ?_
       refine W.ret ?_
       refine At.rthen ?_
       cases H
       exact At.ret env.ty rfl rfl (fun q hq => by cases hq) (.refl _) hval
     · have H := of_false H hb25
       refine W.skip ?_
       refine At.thenC ?_
       refine W.rg env [6] [] ?_
       refine W.ret ?_
       cases H
       exact At.ret env.ty rfl rfl (fun q hq => by cases hq) (.refl _) hval
theorem c_gasolierlaw04_sane (fuel : Nat) {r : Bool} (H : gasolierlaw04_sane fuel = some r) : Ctr Try.prog 14 [] (.bool (r)) := by
 unfold gasolierlaw04_sane at H
 refine Ctr.of_body (N := 164) Try.func14 (by kernel_rfl) (c := _) rfl Try.ntmps14 rfl (fun w0 h0 hval => ?_)
 refine W.rg env [] [] ?_
 refine W.sr env [] [⟨.agg [roL 4 enc_Task ((gasolierlaw04_team).Tasks), roL 1 enc_ListRange ((gasolierlaw04_team).Travel), roL 3 enc_Hand ((gasolierlaw04_team).Hands)], [], 0, []⟩] [1] [1] rfl rfl rfl .nil (.free (c_gasolierlaw04_team) .nil) ?_
 refine W.seq ?_
 refine W.region env [] [] rfl rfl rfl .nil .nil (At.keep (ts := [1, 2]) (ids := [1]) rfl rfl ?_)
 refine At.slot (t := 2) (v := roL 1 enc_ListInt ([([0, 2, 3] : List Int), ([1] : List Int)] : List (List Int))) (Sim.lit2 (f := enc_ListInt) ([([0, 2, 3] : List Int), ([1] : List Int)] : List (List Int)) (.cons (Sim.lit (f := enc_Int) ([0, 2, 3] : List Int) rfl rfl (fun _ => rfl)) (.cons (Sim.lit (f := enc_Int) ([1] : List Int) rfl rfl (fun _ => rfl)) .nil)) rfl rfl (fun _ => rfl)) ?_
 refine At.thenC ?_
 refine W.seq ?_
 obtain ⟨y1, hy2, H⟩ := of_bindO H
 refine W.region env [] [⟨.tup [.int .i64 (y1.1), .int .i64 (y1.2)], [], 0, []⟩] rfl rfl rfl .nil (.free (c_crew_Follows (gasolierlaw04_team) 0 1 hy2) .nil) (At.keep (ts := [1, 2, 3, 4]) (ids := [1]) rfl rfl ?_)
 refine At.thenC ?_
 refine W.seq ?_
 obtain ⟨y3, hy4, H⟩ := of_bindO H
 refine W.region env [] [⟨.tup [.int .i64 (y3.1), .int .i64 (y3.2)], [], 0, []⟩] rfl rfl rfl .nil (.free (c_crew_Count fuel (gasolierlaw04_team) hy4) .nil) (At.keep (ts := [1, 2, 3, 4, 5, 6]) (ids := [1]) rfl rfl ?_)
 refine At.thenC ?_
 refine W.seq ?_
 obtain ⟨y5, hy6, H⟩ := of_bindO H
 refine W.region env [] [⟨.tup [.agg [.int .i64 (y5.1.Lo), .int .i64 (y5.1.Hi)], .int .i64 (y5.2)], [], 0, []⟩] rfl rfl rfl .nil (.free (c_crew_Bounds fuel (gasolierlaw04_team) hy6) .nil) (At.keep (ts := [1, 2, 3, 4, 5, 6, 7, 8]) (ids := [1, 7]) rfl rfl ?_)
 refine At.thenC ?_
 refine W.seq ?_
 obtain ⟨y7, hy8, H⟩ := of_bindO H
 refine W.region env [] [⟨.tup [.int .i64 (y7.1), .int .i64 (y7.2)], [], 0, []⟩] rfl rfl rfl .nil (.free (c_crew_Slack fuel (gasolierlaw04_team) ([([0, 2, 3] : List Int), ([1] : List Int)] : List (List Int)) hy8) .nil) (At.keep (ts := [1, 2, 3, 4, 5, 6, 7, 8, 9, 10]) (ids := [1, 7]) rfl rfl ?_)
 refine At.thenC ?_
 refine W.seq ?_
 obtain ⟨y9, hy10, H⟩ := of_bindO H
 refine W.region env [] [⟨.tup [roL 1 enc_Int y9.1, .int .i64 (y9.2)], [], 0, []⟩] rfl rfl rfl .nil (.free (Ctr.sim (.cons (.refl _) (.cons (.refl _) (.cons (Sim.lit2 (f := enc_ListInt) ([([0, 24] : List Int), ([] : List Int)] : List (List Int)) (.cons (Sim.lit (f := enc_Int) ([0, 24] : List Int) rfl rfl (fun _ => rfl)) (.cons (Sim.lit (f := enc_Int) ([] : List Int) rfl rfl (fun _ => rfl)) .nil)) rfl rfl (fun _ => rfl)) .nil))) (c_crew_Late (gasolierlaw04_team) ([([0, 2, 3] : List Int), ([1] : List Int)] : List (List Int)) ([([0, 24] : List Int), ([] : List Int)] : List (List Int)) hy10)) .nil) (At.keep (ts := [1, 2, 3, 4, 5, 6, 7, 8, 9, 10, 11, 12]) (ids := [1, 7]) rfl rfl ?_)
 refine At.thenC ?_
 refine W.seq ?_
 obtain ⟨y11, hy12, H⟩ := of_bindO H
 refine W.region env [] [⟨.tup [roL 1 enc_Int y11.1, .int .i64 (y11.2)], [], 0, []⟩] rfl rfl rfl .nil (.free (c_crew_Assign fuel (gasolierlaw04_team) ([([0, 2, 3] : List Int), ([1] : List Int)] : List (List Int)) hy12) .nil) (At.keep (ts := [1, 2, 3, 4, 5, 6, 7, 8, 9, 10, 11, 12, 13, 14]) (ids := [1, 7]) rfl rfl ?_)
 refine At.thenC ?_
 refine W.seq ?_
 obtain ⟨y13, hy14, H⟩ := of_bindO H
 refine W.region env [] [⟨.tup [.agg [roL 4 enc_Task y13.1.Tasks, roL 1 enc_ListRange y13.1.Travel, roL 3 enc_Hand y13.1.Hands], .int .i64 (y13.2)], [], 0, []⟩] rfl rfl rfl .nil (.free (c_crew_Ill (gasolierlaw04_team) 8 315 hy14) .nil) (At.keep (ts := [1, 2, 3, 4, 5, 6, 7, 8, 9, 10, 11, 12, 13, 14, 15, 16]) (ids := [1, 7, 15]) rfl rfl ?_)
 refine At.thenC ?_
 refine W.seq ?_
 obtain ⟨y15, hy16, H⟩ := of_bindO H
 refine W.region env [] [⟨.tup [roL 1 enc_Int y15.1, .int .i64 (y15.2)], [], 0, []⟩] rfl rfl rfl .nil (.free (c_crew_Short fuel y13.1 ([([0, 2, 3] : List Int), ([1] : List Int)] : List (List Int)) hy16) .nil) (At.keep (ts := [1, 3, 4, 5, 6, 7, 8, 9, 10, 11, 12, 13, 14, 16, 17, 18]) (ids := [1, 7]) rfl rfl ?_)
 refine At.thenC ?_
 refine W.seq ?_
 obtain ⟨y17, hy18, H⟩ := of_bindO H
 refine W.region env [] [⟨.tup [roL 1 enc_Int y17.1, .int .i64 (y17.2)], [], 0, []⟩] rfl rfl rfl .nil (.free (c_crew_Moved fuel (gasolierlaw04_team) hy18) .nil) (At.keep (ts := [1, 3, 4, 5, 6, 7, 8, 9, 10, 11, 12, 13, 14, 16, 17, 18, 19, 20]) (ids := [1, 7]) rfl rfl ?_)
 refine At.thenC ?_
 refine W.sr env [] [] [1, 3, 5, 7, 9, 11, 13, 17, 19, 21] [1, 7] rfl rfl rfl (.cons (fun h => h) (.cons (fun h => h) (.cons (fun h => h) (.cons (fun h => h) (.cons (fun h => h) (.cons (fun h => h) (.cons (fun h => h) (.cons (fun h => h) (.cons (fun h => h) (.cons (fun h => h) (.cons (fun h => h) (.cons (fun h => h) (.cons (fun h => h) (.cons (fun h => h) (.cons (fun h => h) (.cons (fun h => h) .nil)))))))))))))))) .nil ?_
 refine W.seq ?_
 obtain ⟨y19, hy20, H⟩ := of_bindO H
 obtain ⟨y21, hy22, H⟩ := of_bindO H
 obtain ⟨y23, hy24, H⟩ := of_bindO H
 obtain ⟨y25, hy26, H⟩ := of_bindO H
 obtain ⟨y27, hy28, H⟩ := of_bindO H
 obtain ⟨y29, hy30, H⟩ := of_bindO H
 refine W.region env [] [⟨.bool (y19), [], 0, []⟩, ⟨.bool (y21), [], 0, []⟩, ⟨.bool (y23), [], 0, []⟩, ⟨.bool (y25), [], 0, []⟩, ⟨.int .i64 (y27), [], 0, []⟩, ⟨.int .i64 (y29), [], 0, []⟩] rfl rfl rfl (.cons (fun h => h) (.cons (fun h => h) (.cons (fun h => h) (.cons (fun h => h) (.cons (fun h => h) (.cons (fun h => h) (.cons (fun h => h) (.cons (fun h => h) (.cons (fun h => h) (.cons (fun h => h) (.cons (fun h => h) (.cons (fun h => h) (.cons (fun h => h) (.cons (fun h => h) (.cons (fun h => h) (.cons (fun h => h) (.cons (fun h => h) (.cons (fun h => h) (.cons (fun h => h) (.cons (fun h => h) (.cons (fun h => h) (.cons (fun h => h) (.cons (fun h => h) (.cons (fun h => h) (.cons (fun h => h) (.cons (fun h => h) (.cons (fun h => h) (.cons (fun h => h) (.cons (fun h => h) (.cons (fun h => h) (.cons (fun h => h) .nil))))))))))))))))))))))))))))))) (.on (fun hW => Ctr.sim (.cons (.refl _) (.cons (Sim.lit (f := enc_Int) ([3] : List Int) rfl rfl (fun _ => rfl)) .nil)) (c_gasolierref01_Same y9.1 ([3] : List Int) (of_true hy20 hW))) (.on (fun hW => Ctr.sim (.cons (.refl _) (.cons (Sim.lit (f := enc_Int) ([7, 8] : List Int) rfl rfl (fun _ => rfl)) .nil)) (c_gasolierref01_Same y11.1 ([7, 8] : List Int) (of_true hy22 hW))) (.on (fun hW => Ctr.sim (.cons (.refl _) (.cons (Sim.lit (f := enc_Int) ([0, 1] : List Int) rfl rfl (fun _ => rfl)) .nil)) (c_gasolierref01_Same y15.1 ([0, 1] : List Int) (of_true hy24 hW))) (.on (fun hW => Ctr.sim (.cons (.refl _) (.cons (Sim.lit (f := enc_Int) ([2] : List Int) rfl rfl (fun _ => rfl)) .nil)) (c_gasolierref01_Same y17.1 ([2] : List Int) (of_true hy26 hW))) (.on (fun hW => Ctr.sim (.cons (.refl _) (.cons (Sim.lit2 (f := enc_ListInt) ([([0, 1] : List Int), ([2, 3] : List Int)] : List (List Int)) (.cons (Sim.lit (f := enc_Int) ([0, 1] : List Int) rfl rfl (fun _ => rfl)) (.cons (Sim.lit (f := enc_Int) ([2, 3] : List Int) rfl rfl (fun _ => rfl)) .nil)) rfl rfl (fun _ => rfl)) .nil)) (c_crew_CheckRounds (gasolierlaw04_team) ([([0, 1] : List Int), ([2, 3] : List Int)] : List (List Int)) (of_true hy28 hW))) (.on (fun hW => Ctr.sim (.cons (.refl _) (.cons (Sim.lit (f := enc_Int) ([0, 1] : List Int) rfl rfl (fun _ => rfl)) (.cons (.refl _) .nil))) (c_crew_CheckCut (gasolierlaw04_team) ([0, 1] : List Int) 2 (of_true hy30 hW))) .nil)))))) (At.keep (ts := [0]) (ids := []) rfl rfl ?_)
 refine At.thenC ?_
 refine W.ret ?_
 cases H
 exact At.ret env.ty rfl rfl (fun q hq => by cases hq) (.refl _) hval
theorem c_gasolierref01_Mod (p0 : Int) (p1 : Int) {r : Int} (H : gasolierref01_Mod p0 p1 = some r) : Ctr Try.prog 35 [.int .i64 (p0), .int .i64 (p1)] (.int .i64 (r)) := by
 unfold gasolierref01_Mod at H
 refine Ctr.of_body (N := 12) Try.func35 (by kernel_rfl) (c := _) rfl Try.ntmps35 rfl (fun w0 h0 hval => ?_)
 refine W.rg env [0, 1] [] ?_
 obtain ⟨hc1, H⟩ := of_must H
 obtain ⟨hc2, H⟩ := of_must H
 obtain ⟨hc3, H⟩ := of_must H
 refine W.sr env [] [] [4] [] rfl rfl rfl (.cons hc1 (.cons hc2 (.cons hc3 .nil))) .nil ?_
 refine W.ret ?_
 cases H
 exact At.ret env.ty rfl rfl (fun q hq => by cases hq) (.refl _) hval
theorem c_slices_IndexFunc_Task (p0 : (List Task)) (p1 : Task → Option Bool) (p1_g : Nat) (p1_a p1_b : List AV) (p1_h : ∀ x0 r, p1 x0 = some r → Ctr Try.prog p1_g (p1_a ++ ([.agg [.int .i64 (x0.Lamp), .int .i64 (x0.Place), .int .i64 (x0.At), .int .i64 (x0.Serve)]] ++ p1_b)) (.bool (r))) {r : Int} (H : slices_IndexFunc_Task p0 p1 = some r) : Ctr Try.prog 106 [roL 4 enc_Task p0, .clo (.func p1_g) p1_a p1_b] (.int .i64 (r)) := by
 unfold slices_IndexFunc_Task at H
 refine Ctr.of_body (N := 19) Try.func106 (by kernel_rfl) (c := _) rfl Try.ntmps106 rfl (fun w0 h0 hval => ?_)
 refine W.rg env [0, 1] [] ?_
 refine W.seq ?_
 refine W.rg env [0, 1, 7, 8] [] ?_
 refine W.block ?_
 refine At.keep (ts := [0, 1, 7, 8]) (ids := []) rfl rfl ?_
 refine W.len (t := 0) rfl (fun (hn1 : p0.length ≤ maxLen) => ?_)
 refine W.rangeGo H (fun i1 (s1 : Unit) => [(0, roL 4 enc_Task p0), (1, .clo (.func p1_g) p1_a p1_b), (7, .int .i64 (((p0.length : Nat) : Int))), (8, .int .i64 ((i1 : Int)))]) (fun i1 (s1 : Unit) => []) (.cons .q (.cons .q (.cons .qi (.cons .qi .nil)))) .nil (fun k1 i1 s1 hle1 H1 H2 K0 hK1 => ?_)
 refine W.rg env [0, 1, 7, 8, 9] [] ?_
 refine W.seq ?_
 refine W.cond rfl (fun hb2 => ?_) (fun hb2 => ?_)
 · have hi1 : i1 < p0.length := by have := of_decide_eq_true hb2; omega
   have H := H1 hi1
   refine W.skip ?_
   refine At.thenC ?_
   refine W.seq ?_
   refine W.block ?_
   refine W.rg env [0, 1, 5, 7, 8] [] ?_
   refine W.seq ?_
   obtain ⟨y3, hy4, H⟩ := of_bindO H
   refine W.region env [] [⟨.bool (y3), [], 0, []⟩] rfl rfl rfl (.cons (⟨by omega, by omega⟩ : 0 ≤ (i1 : Int) ∧ (i1 : Int) < ((p0.length : Nat) : Int)) .nil) (.free (p1_h (p0.getD i1 default) _ hy4) .nil) (At.keep (ts := [0, 1, 5, 7, 8, 16]) (ids := []) rfl rfl ?_)
   refine At.thenC ?_
   refine W.cond rfl (fun hb5 => ?_) (fun hb5 => ?_)
   · have H := of_true H hb5
     refine W.rg env [4] [] ?_
     refine W.ret ?_
     refine At.rinb ?_
     refine At.rthen ?_
     refine At.rthen ?_
     refine At.rinb ?_
     refine At.rthen ?_
     cases H
     exact At.ret env.ty rfl rfl (fun q hq => by cases hq) (.refl _) hval
   · have H := of_false H hb5
     refine W.skip ?_
     refine At.inb ?_
     refine At.thenC ?_
     refine W.region env [] [] rfl rfl rfl (.cons (by unfold inI; have := hn1; (try unfold maxLen at this); omega) .nil) .nil (At.keep (ts := [0, 1, 7, 8]) (ids := []) rfl rfl ?_)
     refine At.thenK (At.keep (ts := [0, 1, 7, 8]) (ids := []) rfl rfl ?_)
     exact At.conv (.cons .q (.cons .q (.cons .qi (.cons .qi .nil)))) .nil (hK1 hi1 () H)
 · have H := H2 (by have := of_decide_eq_false hb2; omega)
   refine W.exit ?_
   refine At.xthen ?_
   refine At.xthen ?_
   refine At.xhere ?_
   refine At.thenC ?_
   refine W.rg env [4] [] ?_
   refine W.ret ?_
   cases H
   exact At.ret env.ty rfl rfl (fun q hq => by cases hq) (.refl _) hval
theorem co_slices_DeleteFunc_Task (fuel : Nat) (p0 : (List Task)) (p1 : Task → Option Bool) (p1_g : Nat) (p1_a p1_b : List AV) (p1_h : ∀ x0 r, p1 x0 = some r → Ctr Try.prog p1_g (p1_a ++ ([.agg [.int .i64 (x0.Lamp), .int .i64 (x0.Place), .int .i64 (x0.At), .int .i64 (x0.Serve)]] ++ p1_b)) (.bool (r))) {r : (List Task)} (H : slices_DeleteFunc_Task fuel p0 p1 = some r) : CtrO Try.prog 87 [.buf 700 (p0).length, .clo (.func p1_g) p1_a p1_b] [(700, bufL 67 4 enc_Task p0)] (.buf 900 r.length) [(900, bufL 67 4 enc_Task r)] := by
 unfold slices_DeleteFunc_Task at H
 refine CtrO.of_body (N := 42) Try.func87 (by kernel_rfl) (c := _) rfl Try.ntmps87 rfl (fun w0 h0 ρb hval hdom => ?_)
 refine W.rg env [0, 1] [700] ?_
 refine W.seq ?_
 obtain ⟨y1, hy2, H⟩ := of_bindO H
 refine W.region env [] [⟨.int .i64 (y1), [], 0, []⟩] rfl rfl rfl (.cons (by first | rfl | (simp; done) | omega | (simp; omega)) .nil) (.free (c_slices_IndexFunc_Task p0 p1 p1_g p1_a p1_b p1_h hy2) .nil) (At.keep (ts := [0, 1, 5]) (ids := [700]) rfl rfl ?_)
 refine At.thenC ?_
 refine W.seq ?_
 refine W.rg env [0, 1, 5, 12] [700] ?_
 refine W.cond rfl (fun hb3 => ?_) (fun hb3 => ?_)
 · have H := of_true H hb3
   refine W.rg env [4] [700] ?_
   refine W.ret ?_
   refine At.rthen ?_
   cases H
   exact At.retK env.ty [700] 200 rfl rfl rfl rfl (.cons (.refl _) .nil) (.of_eq (by refine bufEq ?_; first | (simp [copyAt]; done) | omega | (simp [copyAt]; omega) | rfl)) hval hdom rfl
 · have H := of_false H hb3
   refine W.skip ?_
   refine At.thenC ?_
   refine W.seq ?_
   obtain ⟨hc4, H⟩ := of_must H
   refine W.sr env [] [] [0, 1, 5, 6] [700] rfl rfl rfl (.cons hc4 .nil) .nil ?_
   refine W.block ?_
   refine At.keep (ts := [0, 1, 5, 6]) (ids := [700]) rfl rfl ?_
   refine W.loopGo H (fun (s5 : Int × Int × (List Task)) => [(0, .buf 700 (s5.2.2).length), (1, .clo (.func p1_g) p1_a p1_b), (5, .int .i64 (s5.1)), (6, .int .i64 (s5.2.1))]) (fun (s5 : Int × Int × (List Task)) => [(700, bufL 67 4 enc_Task s5.2.2)]) (.cons .qb (.cons .q (.cons .qi (.cons .qi .nil)))) (.cons .q .nil) (fun k5 s5 H K0 hK5 => ?_)
   refine W.seq ?_
   refine W.sr env [] [] [0, 1, 5, 6, 19] [700] rfl rfl rfl (.cons (by first | rfl | (simp; done) | omega | (simp; omega)) .nil) .nil ?_
   refine W.cond rfl (fun hb6 => ?_) (fun hb6 => ?_)
   · have H := of_true H hb6
     refine W.skip ?_
     refine At.thenC ?_
     refine W.seq ?_
     refine W.block ?_
     obtain ⟨hc7, H⟩ := of_must H
     refine W.sr env [] [] [0, 1, 5, 6, 7] [7, 700] rfl rfl rfl (.cons (⟨by first | rfl | (simp; done) | omega | (simp; omega), hc7⟩) (.cons (⟨by first | rfl | (simp; done) | omega | (simp; omega), (by have := hc7; first | omega | (simp only [List.length_set]; omega) | (simp only [Int.toNat_natCast] at *; omega) | (simp at this ⊢; omega))⟩) .nil)) .nil ?_
     refine W.seq ?_
     obtain ⟨y8, hy9, H⟩ := of_bindO H
     refine W.region env [] [⟨.bool (y8), [], 0, []⟩] rfl rfl rfl .nil (.free (p1_h (s5.2.2.getD (s5.2.1).toNat default) _ hy9) .nil) (At.keep (ts := [0, 1, 5, 6, 7, 29]) (ids := [7, 700]) rfl rfl ?_)
     refine At.thenC ?_
     refine W.cond rfl (fun hb10 => ?_) (fun hb10 => ?_)
     · have H := of_true H hb10
       refine W.seq ?_
       obtain ⟨hc11, H⟩ := of_must H
       refine W.region env [] [] rfl rfl rfl (.cons (⟨by first | rfl | (simp; done) | omega | (simp; omega), hc11⟩) (.cons (⟨by first | rfl | (simp; done) | omega | (simp; omega), (by have := hc11; first | omega | (simp only [List.length_set]; omega) | (simp only [Int.toNat_natCast] at *; omega) | (simp at this ⊢; omega))⟩) .nil)) .nil (At.keep (ts := [0, 1, 5, 6]) (ids := [700]) rfl rfl ?_)
       refine At.convM (.cons (y := bufL 67 4 enc_Task (s5.2.2.set (s5.1).toNat (s5.2.2.getD (s5.2.1).toNat default))) (BSim.seg (Seg.set (Seg.refl enc_Task _) (s5.2.2.getD (s5.2.1).toNat default) rfl)) .nil) ?_
       refine At.thenC ?_
       obtain ⟨hc12, H⟩ := of_must H
       refine W.region env [] [] rfl rfl rfl (.cons hc12 .nil) .nil (At.keep (ts := [0, 1, 5, 6]) (ids := [700]) rfl rfl ?_)
       refine At.inb ?_
       refine At.thenC ?_
       obtain ⟨hc13, H⟩ := of_must H
       refine W.region env [] [] rfl rfl rfl (.cons hc13 .nil) .nil (At.keep (ts := [0, 1, 5, 6]) (ids := [700]) rfl rfl ?_)
       refine At.thenK (At.keep (ts := [0, 1, 5, 6]) (ids := [700]) rfl rfl ?_)
       exact At.conv (.cons .qb (.cons .q (.cons .qi (.cons .qi .nil)))) (.cons .q .nil) (hK5 ((s5.1 + 1), (s5.2.1 + 1), (s5.2.2.set (s5.1).toNat (s5.2.2.getD (s5.2.1).toNat default))) H)
     · have H := of_false H hb10
       refine W.skip ?_
       refine At.inb ?_
       refine At.thenC ?_
       obtain ⟨hc14, H⟩ := of_must H
       refine W.region env [] [] rfl rfl rfl (.cons hc14 .nil) .nil (At.keep (ts := [0, 1, 5, 6]) (ids := [700]) rfl rfl ?_)
       refine At.thenK (At.keep (ts := [0, 1, 5, 6]) (ids := [700]) rfl rfl ?_)
       exact At.conv (.cons .qb (.cons .q (.cons .qi (.cons .qi .nil)))) (.cons .q .nil) (hK5 (s5.1, (s5.2.1 + 1), s5.2.2) H)
   · have H := of_false H hb6
     refine W.exit ?_
     refine At.xthen ?_
     refine At.xthen ?_
     refine At.xhere ?_
     refine At.thenC ?_
     refine W.seq ?_
     obtain ⟨hc15, H⟩ := of_must H
     refine W.region env [] [] rfl rfl rfl (.cons (⟨by first | rfl | (simp; done) | omega | (simp; omega), hc15⟩) (.cons (⟨by first | rfl | (simp; done) | omega | (simp; omega), (by have := hc15; omega), (by have := hc15; omega)⟩) .nil)) .nil (At.keep (ts := [0, 5]) (ids := [700]) rfl rfl ?_)
     refine At.convM (.cons (y := bufL 67 4 enc_Task (copyAt s5.2.2 ((s5.1).toNat) (s5.2.2.length - (s5.1).toNat) (fun _ => (⟨0, 0, 0, 0⟩ : Task)))) (BSim.seg (Seg.cleared (a := (s5.1).toNat) (b := s5.2.2.length) (Seg.refl enc_Task _) (⟨0, 0, 0, 0⟩ : Task) rfl (by have := hc15; omega))) .nil) ?_
     refine At.thenC ?_
     obtain ⟨hc16, H⟩ := of_must H
     refine W.sr env [] [] [4] [700] rfl rfl rfl (.cons (⟨by first | rfl | (simp [length_copyAt]; done) | (simp [length_copyAt]; omega), hc16⟩) .nil) .nil ?_
     refine W.ret ?_
     cases H
     refine At.shrink 4 700 850 (K := []) (ts := []) rfl rfl (by first | rfl | (simp; done) | omega | (simp; omega)) (by have := hc16; omega) rfl rfl rfl rfl ?_
     refine At.convM (.cons (y := bufL 67 4 enc_Task ((copyAt s5.2.2 ((s5.1).toNat) (s5.2.2.length - (s5.1).toNat) (fun _ => (⟨0, 0, 0, 0⟩ : Task))).take ((s5.1).toNat))) (BSim.seg (Seg.first (Seg.refl enc_Task _) (by have := hc16; omega))) .nil) ?_
     exact At.retK env.ty [850] 50 rfl rfl rfl rfl (.cons (.refl _) .nil) (.of_eq (by refine bufEq ?_; first | (simp [copyAt]; done) | omega | (simp [copyAt]; omega) | rfl)) hval hdom rfl
theorem c_crew_After_1 (p0 : Task) (c0 : Int) : Ctr Try.prog 88 [.agg [.int .i64 (p0.Lamp), .int .i64 (p0.Place), .int .i64 (p0.At), .int .i64 (p0.Serve)], .rp [.int .i64 (c0)]] (.bool ((crew_After_1 p0 c0))) := by
 obtain ⟨r, H⟩ : ∃ r, crew_After_1 p0 c0 = r := ⟨_, rfl⟩
 rw [H]
 unfold crew_After_1 at H
 refine Ctr.of_body (N := 8) Try.func88 (by kernel_rfl) (c := _) rfl Try.ntmps88 rfl (fun w0 h0 hval => ?_)
 refine W.rg env [1, 2] [2] ?_
 refine W.rg env [3] [] ?_
 refine W.ret ?_
 cases H
 exact At.ret env.ty rfl rfl (fun q hq => by cases hq) (.refl _) hval
theorem c_crew_After (fuel : Nat) (p0 : Crew) (p1 : Int) {r : (Crew × Int)} (H : crew_After fuel p0 p1 = some r) : Ctr Try.prog 39 [.agg [roL 4 enc_Task p0.Tasks, roL 1 enc_ListRange p0.Travel, roL 3 enc_Hand p0.Hands], .int .i64 (p1)] (.tup [.agg [roL 4 enc_Task r.1.Tasks, roL 1 enc_ListRange r.1.Travel, roL 3 enc_Hand r.1.Hands], .int .i64 (r.2)]) := by
 unfold crew_After at H
 refine Ctr.of_body (N := 26) Try.func39 (by kernel_rfl) (c := _) rfl Try.ntmps39 rfl (fun w0 h0 hval => ?_)
 refine W.rg env [2, 3, 4] [2, 3, 4] ?_
 refine W.seq ?_
 refine W.seq ?_
 obtain ⟨y1, hy2, H⟩ := of_bindO H
 refine W.region env [] [⟨.int .i64 (y1), [], 0, []⟩] rfl rfl rfl .nil (.free (c_crew_Check p0 hy2) .nil) (At.keep (ts := [2, 3, 4, 6]) (ids := [2, 3, 4]) rfl rfl ?_)
 refine At.thenC ?_
 refine W.rg env [2, 3, 4, 6, 11] [2, 3, 4] ?_
 refine W.cond rfl (fun hb3 => ?_) (fun hb3 => ?_)
 · have H := of_true H hb3
   refine W.rg env [4, 5] [4] ?_
   refine W.ret ?_
   refine At.rthen ?_
   cases H
   exact At.ret env.ty rfl rfl (fun q hq => by cases hq) (Sim.tupL (.cons (Sim.aggL (.cons (Sim.nil _ _) (.cons (Sim.nil _ _) (.cons (Sim.nil _ _) .nil)))) (.cons (.refl _) .nil))) hval
 · have H := of_false H hb3
   refine W.skip ?_
   refine At.thenC ?_
   refine W.seq ?_
   refine W.sr env [] [⟨.bool ((crew_isMinute p1)), [], 0, []⟩] [2, 3, 4, 16] [2, 3, 4] rfl rfl rfl .nil (.free (c_crew_isMinute p1) .nil) ?_
   refine W.cond rfl (fun hb4 => ?_) (fun hb4 => ?_)
   · have H := of_true H hb4
     refine W.rg env [4, 5] [4] ?_
     refine W.ret ?_
     refine At.rthen ?_
     cases H
     exact At.ret env.ty rfl rfl (fun q hq => by cases hq) (Sim.tupL (.cons (Sim.aggL (.cons (Sim.nil _ _) (.cons (Sim.nil _ _) (.cons (Sim.nil _ _) .nil)))) (.cons (.refl _) .nil))) hval
   · have H := of_false H hb4
     refine W.skip ?_
     refine At.thenC ?_
     refine W.seq ?_
     obtain ⟨y5, hy6, H⟩ := of_bindO H
     refine W.region env [] [⟨.agg [.buf 940 (y5.Tasks).length, .buf 941 (y5.Travel).length, .buf 942 (y5.Hands).length], [(940, bufL 67 4 enc_Task y5.Tasks), (941, bufL 71 1 enc_ListRange y5.Travel), (942, bufL 59 3 enc_Hand y5.Hands)], 20000, []⟩] rfl rfl (by kernel_rfl) .nil (.free ((Ctr.ofO (co_crew_copied_o0_1_2 p0 hy6))) .nil) (At.keep (ts := [3, 4, 7]) (ids := [3, 4, 7, 20940, 20941, 20942]) rfl rfl ?_)
     refine At.thenC ?_
     refine W.seq ?_
     refine At.freezeC 3 (K := [4, 7, 20940, 20941, 20942]) (ts := [3, 4, 7]) rfl rfl rfl rfl rfl (fun _ h => h) ?_
     obtain ⟨y7, hy8, H⟩ := of_bindO H
     refine W.region env [] [⟨.buf 900 y7.length, [(20940, .dead), (900, bufL 67 4 enc_Task y7)], 24000, []⟩] rfl rfl (by kernel_rfl) .nil (.free (CtrO.sim (CtrO.at (co_slices_DeleteFunc_Task fuel y5.Tasks (fun x0 => some (crew_After_1 x0 p1)) 88 [] ([.rp [.int .i64 (p1)]]) (fun x0 r h => by cases h; exact c_crew_After_1 x0 p1) hy8) rfl 20940) (.cons .qc (.cons (Sim.fnClo rfl) .nil)) (.cons (.refl _) .nil)) .nil) (At.keep (ts := [4, 7]) (ids := [4, 7, 20941, 20942, 24900]) rfl rfl ?_)
     refine At.thenC ?_
     refine W.rg env [4, 5] [4, 20941, 20942, 24900] ?_
     refine W.ret ?_
     cases H
     exact At.ret env.ty rfl rfl (fun q hq => by cases hq; exact ⟨by first | rfl | (simp; done) | omega | (simp; omega), ⟨by first | rfl | (simp; done) | omega | (simp; omega), (by first | rfl | (simp; done) | omega | (simp; omega))⟩⟩) (.refl _) hval
theorem c_slices_BinarySearchFunc_int (fuel : Nat) (p0 : (List Task)) (p1 : Int) (p2 : Task → Int → Option Int) (p2_g : Nat) (p2_a p2_b : List AV) (p2_h : ∀ x0 x1 r, p2 x0 x1 = some r → Ctr Try.prog p2_g (p2_a ++ ([.agg [.int .i64 (x0.Lamp), .int .i64 (x0.Place), .int .i64 (x0.At), .int .i64 (x0.Serve)], .int .i64 (x1)] ++ p2_b)) (.int .i64 (r))) {r : (Int × Bool)} (H : slices_BinarySearchFunc_int fuel p0 p1 p2 = some r) : Ctr Try.prog 107 [roL 4 enc_Task p0, .int .i64 (p1), .clo (.func p2_g) p2_a p2_b] (.tup [.int .i64 (r.1), .bool (r.2)]) := by
 unfold slices_BinarySearchFunc_int at H
 refine Ctr.of_body (N := 49) Try.func107 (by kernel_rfl) (c := _) rfl Try.ntmps107 rfl (fun w0 h0 hval => ?_)
 refine W.rg env [0, 1, 2] [] ?_
 refine W.rg env [0, 1, 2, 8] [] ?_
 refine W.rg env [0, 1, 2, 8, 9, 10] [] ?_
 refine W.seq ?_
 refine W.block ?_
 refine At.keep (ts := [0, 1, 2, 8, 9, 10]) (ids := []) rfl rfl ?_
 refine W.loopGo H (fun (s1 : Int × Int) => [(0, roL 4 enc_Task p0), (1, .int .i64 (p1)), (2, .clo (.func p2_g) p2_a p2_b), (8, .int .i64 (((p0.length : Nat) : Int))), (9, .int .i64 (s1.2)), (10, .int .i64 (s1.1))]) (fun (s1 : Int × Int) => []) (.cons .q (.cons .qi (.cons .q (.cons .qi (.cons .qi (.cons .qi .nil)))))) .nil (fun k1 s1 H K0 hK1 => ?_)
 refine W.seq ?_
 refine W.rg env [0, 1, 2, 8, 9, 10, 17] [] ?_
 refine W.cond rfl (fun hb2 => ?_) (fun hb2 => ?_)
 · have H := of_true H hb2
   refine W.skip ?_
   refine At.thenC ?_
   refine W.block ?_
   obtain ⟨hc3, H⟩ := of_must H
   obtain ⟨hc4, H⟩ := of_must H
   obtain ⟨hc5, H⟩ := of_must H
   refine W.sr env [] [] [0, 1, 2, 8, 9, 10, 11] [] rfl rfl rfl (.cons hc3 (.cons hc4 (.cons (by decide) (.cons hc5 .nil)))) .nil ?_
   refine W.seq ?_
   obtain ⟨hc6, H⟩ := of_must H
   obtain ⟨y7, hy8, H⟩ := of_bindO H
   refine W.region env [] [⟨.int .i64 (y7), [], 0, []⟩] rfl rfl rfl (.cons hc6 .nil) (.free (p2_h (p0.getD ((Int.fdiv (s1.2 + s1.1) (2 ^ (1 : Int).toNat))).toNat default) p1 _ hy8) .nil) (At.keep (ts := [0, 1, 2, 8, 9, 10, 11, 31]) (ids := []) rfl rfl ?_)
   refine At.thenC ?_
   refine W.cond rfl (fun hb9 => ?_) (fun hb9 => ?_)
   · have H := of_true H hb9
     obtain ⟨hc10, H⟩ := of_must H
     refine W.region env [] [] rfl rfl rfl (.cons hc10 .nil) .nil (At.keep (ts := [0, 1, 2, 8, 9, 10]) (ids := []) rfl rfl ?_)
     refine At.inb ?_
     refine At.thenK (At.keep (ts := [0, 1, 2, 8, 9, 10]) (ids := []) rfl rfl ?_)
     exact At.conv (.cons .q (.cons .qi (.cons .q (.cons .qi (.cons .qi (.cons .qi .nil)))))) .nil (hK1 (s1.1, ((Int.fdiv (s1.2 + s1.1) (2 ^ (1 : Int).toNat)) + 1)) H)
   · have H := of_false H hb9
     refine W.region env [] [] rfl rfl rfl .nil .nil (At.keep (ts := [0, 1, 2, 8, 9, 10]) (ids := []) rfl rfl ?_)
     refine At.inb ?_
     refine At.thenK (At.keep (ts := [0, 1, 2, 8, 9, 10]) (ids := []) rfl rfl ?_)
     exact At.conv (.cons .q (.cons .qi (.cons .q (.cons .qi (.cons .qi (.cons .qi .nil)))))) .nil (hK1 ((Int.fdiv (s1.2 + s1.1) (2 ^ (1 : Int).toNat)), s1.2) H)
 · have H := of_false H hb2
   refine W.exit ?_
   refine At.xthen ?_
   refine At.xthen ?_
   refine At.xhere ?_
   refine At.thenC ?_
   refine W.seq ?_
   obtain ⟨hc11, H⟩ := of_must H
   obtain ⟨y12, hy13, H⟩ := of_bindO H
   refine W.region env [] [⟨.int .i64 (y12), [], 0, []⟩] rfl rfl rfl (.cons hc11 (.cons (fun h => h) (.cons (fun h => h) (.cons (fun h => h) (.cons (fun h => h) (.cons (fun h => h) (.cons (fun h => h) (.cons (fun h => h) (.cons (fun h => h) .nil))))))))) (.on (fun hW => p2_h (p0.getD (s1.2).toNat default) p1 _ (of_true hy13 hW)) .nil) (At.keep (ts := [6, 7]) (ids := []) rfl rfl ?_)
   refine At.thenC ?_
   refine W.ret ?_
   cases H
   exact At.ret env.ty rfl rfl (fun q hq => by cases hq) (.refl _) hval
theorem c_cmp_isNaN_int (p0 : Int) : Ctr Try.prog 123 [.int .i64 (p0)] (.bool ((cmp_isNaN_int p0))) := by
 obtain ⟨r, H⟩ : ∃ r, cmp_isNaN_int p0 = r := ⟨_, rfl⟩
 rw [H]
 unfold cmp_isNaN_int at H
 refine Ctr.of_body (N := 6) Try.func123 (by kernel_rfl) (c := _) rfl Try.ntmps123 rfl (fun w0 h0 hval => ?_)
 refine W.rg env [0] [] ?_
 refine W.rg env [2] [] ?_
 refine W.ret ?_
 cases H
 exact At.ret env.ty rfl rfl (fun q hq => by cases hq) (.refl _) hval
theorem c_cmp_Compare_int (p0 : Int) (p1 : Int) : Ctr Try.prog 109 [.int .i64 (p0), .int .i64 (p1)] (.int .i64 ((cmp_Compare_int p0 p1))) := by
 obtain ⟨r, H⟩ : ∃ r, cmp_Compare_int p0 p1 = r := ⟨_, rfl⟩
 rw [H]
 unfold cmp_Compare_int at H
 refine Ctr.of_body (N := 20) Try.func109 (by kernel_rfl) (c := _) rfl Try.ntmps109 rfl (fun w0 h0 hval => ?_)
 refine W.rg env [0, 1] [] ?_
 refine W.sr env [] [⟨.bool ((cmp_isNaN_int p0)), [], 0, []⟩] [0, 1, 5] [] rfl rfl rfl .nil (.free (c_cmp_isNaN_int p0) .nil) ?_
 refine W.sr env [] [⟨.bool ((cmp_isNaN_int p1)), [], 0, []⟩] [0, 1, 5, 6] [] rfl rfl rfl .nil (.free (c_cmp_isNaN_int p1) .nil) ?_
 refine W.seq ?_
 refine W.rg env [0, 1, 6, 11] [] ?_
 refine W.cond rfl (fun hb1 => ?_) (fun hb1 => ?_)
 · have H := of_true H hb1
   refine W.seq ?_
   refine W.rg env [12] [] ?_
   refine W.cond rfl (fun hb2 => ?_) (fun hb2 => ?_)
   · have H := of_true H hb2
     refine W.rg env [4] [] ?_
     refine W.ret ?_
     refine At.rthen ?_
     refine At.rthen ?_
     cases H
     exact At.ret env.ty rfl rfl (fun q hq => by cases hq) (.refl _) hval
   · have H := of_false H hb2
     refine W.skip ?_
     refine At.thenC ?_
     refine W.rg env [4] [] ?_
     refine W.ret ?_
     refine At.rthen ?_
     cases H
     exact At.ret env.ty rfl rfl (fun q hq => by cases hq) (.refl _) hval
 · have H := of_false H hb1
   refine W.skip ?_
   refine At.thenC ?_
   refine W.seq ?_
   refine W.rg env [0, 1, 13] [] ?_
   refine W.cond rfl (fun hb3 => ?_) (fun hb3 => ?_)
   · have H := of_true H hb3
     refine W.rg env [4] [] ?_
     refine W.ret ?_
     refine At.rthen ?_
     cases H
     exact At.ret env.ty rfl rfl (fun q hq => by cases hq) (.refl _) hval
   · have H := of_false H hb3
     refine W.skip ?_
     refine At.thenC ?_
     refine W.seq ?_
     refine W.rg env [0, 1, 16] [] ?_
     refine W.cond rfl (fun hb4 => ?_) (fun hb4 => ?_)
     · have H := of_true H hb4
       refine W.rg env [4] [] ?_
       refine W.ret ?_
       refine At.rthen ?_
       cases H
       exact At.ret env.ty rfl rfl (fun q hq => by cases hq) (.refl _) hval
     · have H := of_false H hb4
       refine W.skip ?_
       refine At.thenC ?_
       refine W.seq ?_
       refine W.rg env [19] [] ?_
       refine W.cond rfl (fun hb5 => ?_) (fun hb5 => ?_)
       · have H := of_true H hb5
         refine W.rg env [4] [] ?_
         refine W.ret ?_
         refine At.rthen ?_
         cases H
         exact At.ret env.ty rfl rfl (fun q hq => by cases hq) (.refl _) hval
       · have H := of_false H hb5
         refine W.skip ?_
         refine At.thenC ?_
         refine W.rg env [4] [] ?_
         refine W.ret ?_
         cases H
         exact At.ret env.ty rfl rfl (fun q hq => by cases hq) (.refl _) hval
theorem c_crew_find_1 (p0 : Task) (p1 : Int) : Ctr Try.prog 108 [.agg [.int .i64 (p0.Lamp), .int .i64 (p0.Place), .int .i64 (p0.At), .int .i64 (p0.Serve)], .int .i64 (p1)] (.int .i64 ((crew_find_1 p0 p1))) := by
 obtain ⟨r, H⟩ : ∃ r, crew_find_1 p0 p1 = r := ⟨_, rfl⟩
 rw [H]
 unfold crew_find_1 at H
 refine Ctr.of_body (N := 9) Try.func108 (by kernel_rfl) (c := _) rfl Try.ntmps108 rfl (fun w0 h0 hval => ?_)
 refine W.rg env [1, 2] [2] ?_
 refine W.sr env [] [⟨.int .i64 ((cmp_Compare_int p0.Lamp p1)), [], 0, []⟩] [4] [] rfl rfl rfl .nil (.free (c_cmp_Compare_int p0.Lamp p1) .nil) ?_
 refine W.ret ?_
 cases H
 exact At.ret env.ty rfl rfl (fun q hq => by cases hq) (.refl _) hval
theorem c_crew_find (fuel : Nat) (p0 : Crew) (p1 : Int) {r : (Int × Bool)} (H : crew_find fuel p0 p1 = some r) : Ctr Try.prog 89 [.agg [roL 4 enc_Task p0.Tasks, roL 1 enc_ListRange p0.Travel, roL 3 enc_Hand p0.Hands], .int .i64 (p1)] (.tup [.int .i64 (r.1), .bool (r.2)]) := by
 unfold crew_find at H
 refine Ctr.of_body (N := 12) Try.func89 (by kernel_rfl) (c := _) rfl Try.ntmps89 rfl (fun w0 h0 hval => ?_)
 refine W.rg env [1, 2] [2] ?_
 refine W.seq ?_
 obtain ⟨y1, hy2, H⟩ := of_bindO H
 refine W.region env [] [⟨.tup [.int .i64 (y1.1), .bool (y1.2)], [], 0, []⟩] rfl rfl rfl .nil (.free (c_slices_BinarySearchFunc_int fuel p0.Tasks p1 (fun x0 x1 => some (crew_find_1 x0 x1)) 108 [] [] (fun x0 x1 r h => by cases h; exact c_crew_find_1 x0 x1) hy2) .nil) (At.keep (ts := [4, 5]) (ids := []) rfl rfl ?_)
 refine At.thenC ?_
 refine W.ret ?_
 cases H
 exact At.ret env.ty rfl rfl (fun q hq => by cases hq) (.refl _) hval
theorem c_crew_Without (fuel : Nat) (p0 : Crew) (p1 : Int) {r : (Crew × Int)} (H : crew_Without fuel p0 p1 = some r) : Ctr Try.prog 40 [.agg [roL 4 enc_Task p0.Tasks, roL 1 enc_ListRange p0.Travel, roL 3 enc_Hand p0.Hands], .int .i64 (p1)] (.tup [.agg [roL 4 enc_Task r.1.Tasks, roL 1 enc_ListRange r.1.Travel, roL 3 enc_Hand r.1.Hands], .int .i64 (r.2)]) := by
 unfold crew_Without at H
 refine Ctr.of_body (N := 35) Try.func40 (by kernel_rfl) (c := _) rfl Try.ntmps40 rfl (fun w0 h0 hval => ?_)
 refine W.rg env [1, 2, 4] [2, 4] ?_
 refine W.seq ?_
 refine W.seq ?_
 obtain ⟨y1, hy2, H⟩ := of_bindO H
 refine W.region env [] [⟨.int .i64 (y1), [], 0, []⟩] rfl rfl rfl .nil (.free (c_crew_Check p0 hy2) .nil) (At.keep (ts := [1, 2, 4, 6]) (ids := [2, 4]) rfl rfl ?_)
 refine At.thenC ?_
 refine W.rg env [1, 2, 4, 6, 13] [2, 4] ?_
 refine W.cond rfl (fun hb3 => ?_) (fun hb3 => ?_)
 · have H := of_true H hb3
   refine W.rg env [4, 5] [4] ?_
   refine W.ret ?_
   refine At.rthen ?_
   cases H
   exact At.ret env.ty rfl rfl (fun q hq => by cases hq) (Sim.tupL (.cons (Sim.aggL (.cons (Sim.nil _ _) (.cons (Sim.nil _ _) (.cons (Sim.nil _ _) .nil)))) (.cons (.refl _) .nil))) hval
 · have H := of_false H hb3
   refine W.skip ?_
   refine At.thenC ?_
   refine W.seq ?_
   obtain ⟨y4, hy5, H⟩ := of_bindO H
   refine W.region env [] [⟨.tup [.int .i64 (y4.1), .bool (y4.2)], [], 0, []⟩] rfl rfl rfl .nil (.free (c_crew_find fuel p0 p1 hy5) .nil) (At.keep (ts := [2, 4, 7, 8]) (ids := [2, 4]) rfl rfl ?_)
   refine At.thenC ?_
   refine W.seq ?_
   refine W.rg env [2, 4, 7, 23] [2, 4] ?_
   refine W.cond rfl (fun hb6 => ?_) (fun hb6 => ?_)
   · have H := of_true H hb6
     refine W.rg env [4, 5] [4] ?_
     refine W.ret ?_
     refine At.rthen ?_
     cases H
     exact At.ret env.ty rfl rfl (fun q hq => by cases hq) (Sim.tupL (.cons (Sim.aggL (.cons (Sim.nil _ _) (.cons (Sim.nil _ _) (.cons (Sim.nil _ _) .nil)))) (.cons (.refl _) .nil))) hval
   · have H := of_false H hb6
     refine W.skip ?_
     refine At.thenC ?_
     refine W.seq ?_
     obtain ⟨y7, hy8, H⟩ := of_bindO H
     refine W.region env [] [⟨.agg [.buf 940 (y7.Tasks).length, .buf 941 (y7.Travel).length, .buf 942 (y7.Hands).length], [(940, bufL 67 4 enc_Task y7.Tasks), (941, bufL 71 1 enc_ListRange y7.Travel), (942, bufL 59 3 enc_Hand y7.Hands)], 27000, []⟩] rfl rfl (by kernel_rfl) .nil (.free ((Ctr.ofO (co_crew_copied_o0_1_2 p0 hy8))) .nil) (At.keep (ts := [4, 7, 9]) (ids := [4, 9, 27940, 27941, 27942]) rfl rfl ?_)
     refine At.thenC ?_
     refine W.seq ?_
     obtain ⟨hc9, H⟩ := of_must H
     obtain ⟨y10, hy11, H⟩ := of_bindO H
     refine W.region env [] [⟨.buf 900 y10.length, [(27940, .dead), (900, bufL 67 4 enc_Task y10)], 33000, []⟩] rfl rfl (by kernel_rfl) (.cons hc9 .nil) (.free (CtrO.sim (CtrO.at (co_slices_Delete_Task y7.Tasks y4.1 (y4.1 + 1) hy11) rfl 27940) (.cons .qc (.cons (.refl _) (.cons (.refl _) .nil))) (.cons (.refl _) .nil)) .nil) (At.keep (ts := [4, 9]) (ids := [4, 9, 27941, 27942, 33900]) rfl rfl ?_)
     refine At.thenC ?_
     refine W.rg env [4, 5] [4, 27941, 27942, 33900] ?_
     refine W.ret ?_
     cases H
     exact At.ret env.ty rfl rfl (fun q hq => by cases hq; exact ⟨by first | rfl | (simp; done) | omega | (simp; omega), ⟨by first | rfl | (simp; done) | omega | (simp; omega), (by first | rfl | (simp; done) | omega | (simp; omega))⟩⟩) (.refl _) hval
theorem cl_slices_Insert_Task (p0 : List Task) (p1 : Int) (p2 : Task) {r : List Task} (H : slices_Insert_Task p0 p1 p2 = some r) : CtrO Try.prog 90 [.buf 700 p0.length, .int .i64 p1, .buf 701 1] [(700, bufL 67 4 enc_Task p0), (701, bufL 67 4 enc_Task [p2])] (.buf 900 r.length) [(701, bufL 67 4 enc_Task [p2]), (700, .dead), (900, bufL 67 4 enc_Task r)] := by
 unfold slices_Insert_Task at H
 obtain ⟨h1, H⟩ := of_must H
 obtain ⟨h2, H⟩ := of_must H
 cases H
 exact insert_ctr (Go.Av.enters_of Try.func90 (by kernel_rfl) (c := _) rfl) insw_Try_90 insv_Try_90 (by kernel_rfl) (by kernel_rfl) (env.ty 67 _ rfl) rfl (by decide) enc_Task p0 p1 p2 h1 h2
theorem c_crew_With (fuel : Nat) (p0 : Crew) (p1 : Task) {r : (Crew × Int)} (H : crew_With fuel p0 p1 = some r) : Ctr Try.prog 41 [.agg [roL 4 enc_Task p0.Tasks, roL 1 enc_ListRange p0.Travel, roL 3 enc_Hand p0.Hands], .agg [.int .i64 (p1.Lamp), .int .i64 (p1.Place), .int .i64 (p1.At), .int .i64 (p1.Serve)]] (.tup [.agg [roL 4 enc_Task r.1.Tasks, roL 1 enc_ListRange r.1.Travel, roL 3 enc_Hand r.1.Hands], .int .i64 (r.2)]) := by
 unfold crew_With at H
 refine Ctr.of_body (N := 55) Try.func41 (by kernel_rfl) (c := _) rfl Try.ntmps41 rfl (fun w0 h0 hval => ?_)
 refine W.rg env [2, 3, 4] [2, 3, 4] ?_
 refine W.seq ?_
 refine W.seq ?_
 obtain ⟨y1, hy2, H⟩ := of_bindO H
 refine W.region env [] [⟨.int .i64 (y1), [], 0, []⟩] rfl rfl rfl .nil (.free (c_crew_Check p0 hy2) .nil) (At.keep (ts := [2, 3, 4, 6]) (ids := [2, 3, 4]) rfl rfl ?_)
 refine At.thenC ?_
 refine W.rg env [2, 3, 4, 6, 13] [2, 3, 4] ?_
 refine W.cond rfl (fun hb3 => ?_) (fun hb3 => ?_)
 · have H := of_true H hb3
   refine W.rg env [4, 5] [4] ?_
   refine W.ret ?_
   refine At.rthen ?_
   cases H
   exact At.ret env.ty rfl rfl (fun q hq => by cases hq) (Sim.tupL (.cons (Sim.aggL (.cons (Sim.nil _ _) (.cons (Sim.nil _ _) (.cons (Sim.nil _ _) .nil)))) (.cons (.refl _) .nil))) hval
 · have H := of_false H hb3
   refine W.skip ?_
   refine At.thenC ?_
   refine W.seq ?_
   obtain ⟨y4, hy5, H⟩ := of_bindO H
   refine W.region env [] [⟨.tup [.int .i64 (y4.1), .bool (y4.2)], [], 0, []⟩] rfl rfl rfl .nil (.free (c_crew_find fuel p0 p1.Lamp hy5) .nil) (At.keep (ts := [2, 3, 4, 7, 8]) (ids := [2, 3, 4]) rfl rfl ?_)
   refine At.thenC ?_
   refine W.seq ?_
   refine W.block ?_
   refine W.sr env [] [⟨.int .i64 ((crew_CheckTask p1)), [], 0, []⟩] [2, 3, 4, 7, 23] [2, 3, 4] rfl rfl rfl (.cons (fun h => h) (.cons (fun h => h) (.cons (fun h => h) (.cons (fun h => h) (.cons (fun h => h) (.cons (fun h => by rw [h]; rfl) (.cons (fun h => by rw [h]; rfl) .nil))))))) (.free (c_crew_CheckTask p1) .nil) ?_
   refine W.cond rfl (fun hb6 => ?_) (fun hb6 => ?_)
   · have H := of_true H hb6
     refine W.rg env [4, 5] [4] ?_
     refine W.ret ?_
     refine At.rinb ?_
     refine At.rthen ?_
     cases H
     exact At.ret env.ty rfl rfl (fun q hq => by cases hq) (Sim.tupL (.cons (Sim.aggL (.cons (Sim.nil _ _) (.cons (Sim.nil _ _) (.cons (Sim.nil _ _) .nil)))) (.cons (.refl _) .nil))) hval
   · have H := of_false H hb6
     refine W.rg env [2, 3, 4, 7, 39] [2, 3, 4] ?_
     refine W.cond rfl (fun hb7 => ?_) (fun hb7 => ?_)
     · have H := of_true H hb7
       refine W.rg env [4, 5] [4] ?_
       refine W.ret ?_
       refine At.rinb ?_
       refine At.rthen ?_
       cases H
       exact At.ret env.ty rfl rfl (fun q hq => by cases hq) (Sim.tupL (.cons (Sim.aggL (.cons (Sim.nil _ _) (.cons (Sim.nil _ _) (.cons (Sim.nil _ _) .nil)))) (.cons (.refl _) .nil))) hval
     · have H := of_false H hb7
       refine W.skip ?_
       refine At.inb ?_
       refine At.thenC ?_
       refine W.seq ?_
       obtain ⟨y8, hy9, H⟩ := of_bindO H
       refine W.region env [] [⟨.agg [.buf 940 (y8.Tasks).length, .buf 941 (y8.Travel).length, .buf 942 (y8.Hands).length], [(940, bufL 67 4 enc_Task y8.Tasks), (941, bufL 71 1 enc_ListRange y8.Travel), (942, bufL 59 3 enc_Hand y8.Hands)], 47000, []⟩] rfl rfl (by kernel_rfl) .nil (.free ((Ctr.ofO (co_crew_copied_o0_1_2 p0 hy9))) .nil) (At.keep (ts := [3, 4, 7, 9]) (ids := [3, 4, 9, 47940, 47941, 47942]) rfl rfl ?_)
       refine At.thenC ?_
       refine W.seq ?_
       obtain ⟨y10, hy11, H⟩ := of_bindO H
       refine W.region env [51] [⟨.buf 53900 y10.length, [(51, bufL 67 4 enc_Task ([p1] : List Task)), (47940, .dead), (53900, bufL 67 4 enc_Task y10)], 0, [47940, 51]⟩] rfl rfl (by kernel_rfl) .nil (.free (CtrO.sim (CtrO.ren (cl_slices_Insert_Task y8.Tasks y4.1 p1 hy11) [(700, 47940), (701, 51), (900, 53900)]) (.cons .qc (.cons (.refl _) (.cons .qc .nil))) (.cons (.refl _) (.cons (BSim.seg (Seg.lit (f := enc_Task) (sz := 4) ([p1] : List Task) rfl rfl (fun _ => rfl))) .nil))) .nil) (At.keep (ts := [4, 9]) (ids := [4, 9, 47941, 47942, 53900]) rfl rfl ?_)
       refine At.thenC ?_
       refine W.rg env [4, 5] [4, 47941, 47942, 53900] ?_
       refine W.ret ?_
       cases H
       exact At.ret env.ty rfl rfl (fun q hq => by cases hq; exact ⟨by first | rfl | (simp; done) | omega | (simp; omega), ⟨by first | rfl | (simp; done) | omega | (simp; omega), (by first | rfl | (simp; done) | omega | (simp; omega))⟩⟩) (.refl _) hval
theorem c_gasolierref04_SameCrew (p0 : Crew) (p1 : Crew) {r : Bool} (H : gasolierref04_SameCrew p0 p1 = some r) : Ctr Try.prog 42 [.agg [roL 4 enc_Task p0.Tasks, roL 1 enc_ListRange p0.Travel, roL 3 enc_Hand p0.Hands], .agg [roL 4 enc_Task p1.Tasks, roL 1 enc_ListRange p1.Travel, roL 3 enc_Hand p1.Hands]] (.bool (r)) := by
 unfold gasolierref04_SameCrew at H
 refine Ctr.of_body (N := 117) Try.func42 (by kernel_rfl) (c := _) rfl Try.ntmps42 rfl (fun w0 h0 hval => ?_)
 refine W.rg env [2, 3] [2, 3] ?_
 refine W.seq ?_
 refine W.sr env [] [] [2, 3, 33] [2, 3] rfl rfl rfl (.cons (fun h => h) (.cons (fun h => h) (.cons (fun h => h) (.cons (fun h => h) (.cons (fun h => h) (.cons (fun h => h) (.cons (fun h => by rw [h]; rfl) (.cons (fun h => h) (.cons (fun h => h) (.cons (fun h => h) (.cons (fun h => h) (.cons (fun h => h) (.cons (fun h => h) (.cons (fun h => by rw [h]; rfl) .nil)))))))))))))) .nil ?_
 refine W.cond rfl (fun hb1 => ?_) (fun hb1 => ?_)
 · have H := of_true H hb1
   refine W.rg env [4] [] ?_
   refine W.ret ?_
   refine At.rthen ?_
   cases H
   exact At.ret env.ty rfl rfl (fun q hq => by cases hq) (.refl _) hval
 · have H := of_false H hb1
   refine W.skip ?_
   refine At.thenC ?_
   refine W.seq ?_
   refine W.rg env [2, 3, 36, 37] [2, 3] ?_
   refine W.block ?_
   refine At.keep (ts := [2, 3, 36, 37]) (ids := [2, 3]) rfl rfl ?_
   obtain ⟨hn2, H⟩ := of_must H
   refine W.rangeGo H (fun i2 (s2 : Unit) => [(2, .lp 2 0), (3, .lp 3 0), (36, .int .i64 (((p0.Tasks.length : Nat) : Int))), (37, .int .i64 ((i2 : Int)))]) (fun i2 (s2 : Unit) => [(2, .cells [roL 4 enc_Task p0.Tasks, roL 1 enc_ListRange p0.Travel, roL 3 enc_Hand p0.Hands]), (3, .cells [roL 4 enc_Task p1.Tasks, roL 1 enc_ListRange p1.Travel, roL 3 enc_Hand p1.Hands])]) (.cons .q (.cons .q (.cons .qi (.cons .qi .nil)))) (.cons .q (.cons .q .nil)) (fun k2 i2 s2 hle2 H1 H2 K0 hK2 => ?_)
   refine W.rg env [2, 3, 36, 37, 38] [2, 3] ?_
   refine W.seq ?_
   refine W.cond rfl (fun hb3 => ?_) (fun hb3 => ?_)
   · have hi2 : i2 < p0.Tasks.length := by have := of_decide_eq_true hb3; omega
     have H := H1 hi2
     refine W.skip ?_
     refine At.thenC ?_
     refine W.seq ?_
     refine W.block ?_
     refine W.rg env [2, 3, 5, 36, 37] [2, 3] ?_
     obtain ⟨hc4, H⟩ := of_must H
     refine W.sr env [] [] [2, 3, 36, 37, 50] [2, 3] rfl rfl (by first | rfl | kernel_rfl) (.cons (⟨by omega, by omega⟩ : 0 ≤ (i2 : Int) ∧ (i2 : Int) < ((p0.Tasks.length : Nat) : Int)) (.cons hc4 .nil)) .nil ?_
     refine W.cond rfl (fun hb5 => ?_) (fun hb5 => ?_)
     · have H := of_true H hb5
       refine W.rg env [4] [] ?_
       refine W.ret ?_
       refine At.rinb ?_
       refine At.rthen ?_
       refine At.rthen ?_
       refine At.rinb ?_
       refine At.rthen ?_
       cases H
       exact At.ret env.ty rfl rfl (fun q hq => by cases hq) (.refl _) hval
     · have H := of_false H hb5
       refine W.skip ?_
       refine At.inb ?_
       refine At.thenC ?_
       refine W.region env [] [] rfl rfl rfl (.cons (by unfold inI; have := hn2; (try unfold maxLen at this); omega) .nil) .nil (At.keep (ts := [2, 3, 36, 37]) (ids := [2, 3]) rfl rfl ?_)
       refine At.thenK (At.keep (ts := [2, 3, 36, 37]) (ids := [2, 3]) rfl rfl ?_)
       exact At.conv (.cons .q (.cons .q (.cons .qi (.cons .qi .nil)))) (.cons .q (.cons .q .nil)) (hK2 hi2 () H)
   · have H := H2 (by have := of_decide_eq_false hb3; omega)
     refine W.exit ?_
     refine At.xthen ?_
     refine At.xthen ?_
     refine At.xhere ?_
     refine At.thenC ?_
     refine W.seq ?_
     refine W.rg env [2, 3, 54, 55] [2, 3] ?_
     refine W.block ?_
     refine At.keep (ts := [2, 3, 54, 55]) (ids := [2, 3]) rfl rfl ?_
     obtain ⟨hn6, H⟩ := of_must H
     refine W.rangeGo H (fun i6 (s6 : Unit) => [(2, .lp 2 0), (3, .lp 3 0), (54, .int .i64 (((p0.Hands.length : Nat) : Int))), (55, .int .i64 ((i6 : Int)))]) (fun i6 (s6 : Unit) => [(2, .cells [roL 4 enc_Task p0.Tasks, roL 1 enc_ListRange p0.Travel, roL 3 enc_Hand p0.Hands]), (3, .cells [roL 4 enc_Task p1.Tasks, roL 1 enc_ListRange p1.Travel, roL 3 enc_Hand p1.Hands])]) (.cons .q (.cons .q (.cons .qi (.cons .qi .nil)))) (.cons .q (.cons .q .nil)) (fun k6 i6 s6 hle6 H1 H2 K0 hK6 => ?_)
     refine W.rg env [2, 3, 54, 55, 56] [2, 3] ?_
     refine W.seq ?_
     refine W.cond rfl (fun hb7 => ?_) (fun hb7 => ?_)
     · have hi6 : i6 < p0.Hands.length := by have := of_decide_eq_true hb7; omega
       have H := H1 hi6
       refine W.skip ?_
       refine At.thenC ?_
       refine W.seq ?_
       refine W.block ?_
       refine W.rg env [2, 3, 6, 54, 55] [2, 3] ?_
       obtain ⟨hc8, H⟩ := of_must H
       refine W.sr env [] [] [2, 3, 54, 55, 68] [2, 3] rfl rfl (by first | rfl | kernel_rfl) (.cons (⟨by omega, by omega⟩ : 0 ≤ (i6 : Int) ∧ (i6 : Int) < ((p0.Hands.length : Nat) : Int)) (.cons hc8 .nil)) .nil ?_
       refine W.cond rfl (fun hb9 => ?_) (fun hb9 => ?_)
       · have H := of_true H hb9
         refine W.rg env [4] [] ?_
         refine W.ret ?_
         refine At.rinb ?_
         refine At.rthen ?_
         refine At.rthen ?_
         refine At.rinb ?_
         refine At.rthen ?_
         cases H
         exact At.ret env.ty rfl rfl (fun q hq => by cases hq) (.refl _) hval
       · have H := of_false H hb9
         refine W.skip ?_
         refine At.inb ?_
         refine At.thenC ?_
         refine W.region env [] [] rfl rfl rfl (.cons (by unfold inI; have := hn6; (try unfold maxLen at this); omega) .nil) .nil (At.keep (ts := [2, 3, 54, 55]) (ids := [2, 3]) rfl rfl ?_)
         refine At.thenK (At.keep (ts := [2, 3, 54, 55]) (ids := [2, 3]) rfl rfl ?_)
         exact At.conv (.cons .q (.cons .q (.cons .qi (.cons .qi .nil)))) (.cons .q (.cons .q .nil)) (hK6 hi6 () H)
     · have H := H2 (by have := of_decide_eq_false hb7; omega)
       refine W.exit ?_
       refine At.xthen ?_
       refine At.xthen ?_
       refine At.xhere ?_
       refine At.thenC ?_
       refine W.seq ?_
       refine W.rg env [2, 3, 72, 73] [2, 3] ?_
       refine W.block ?_
       refine At.keep (ts := [2, 3, 72, 73]) (ids := [2, 3]) rfl rfl ?_
       obtain ⟨hn10, H⟩ := of_must H
       refine W.rangeGo H (fun i10 (s10 : Unit) => [(2, .lp 2 0), (3, .lp 3 0), (72, .int .i64 (((p0.Travel.length : Nat) : Int))), (73, .int .i64 ((i10 : Int)))]) (fun i10 (s10 : Unit) => [(2, .cells [roL 4 enc_Task p0.Tasks, roL 1 enc_ListRange p0.Travel, roL 3 enc_Hand p0.Hands]), (3, .cells [roL 4 enc_Task p1.Tasks, roL 1 enc_ListRange p1.Travel, roL 3 enc_Hand p1.Hands])]) (.cons .q (.cons .q (.cons .qi (.cons .qi .nil)))) (.cons .q (.cons .q .nil)) (fun k10 i10 s10 hle10 H1 H2 K0 hK10 => ?_)
       refine W.rg env [2, 3, 72, 73, 74] [2, 3] ?_
       refine W.seq ?_
       refine W.cond rfl (fun hb11 => ?_) (fun hb11 => ?_)
       · have hi10 : i10 < p0.Travel.length := by have := of_decide_eq_true hb11; omega
         have H := H1 hi10
         refine W.skip ?_
         refine At.thenC ?_
         refine W.seq ?_
         refine W.block ?_
         refine W.rg env [2, 3, 7, 72, 73] [2, 3] ?_
         refine W.seq ?_
         obtain ⟨hc12, H⟩ := of_must H
         refine W.sr env [] [] [2, 3, 7, 72, 73, 88] [2, 3] rfl rfl (by first | rfl | kernel_rfl) (.cons (⟨by omega, by omega⟩ : 0 ≤ (i10 : Int) ∧ (i10 : Int) < ((p0.Travel.length : Nat) : Int)) (.cons hc12 .nil)) .nil ?_
         refine W.cond rfl (fun hb13 => ?_) (fun hb13 => ?_)
         · have H := of_true H hb13
           refine W.rg env [4] [] ?_
           refine W.ret ?_
           refine At.rthen ?_
           refine At.rinb ?_
           refine At.rthen ?_
           refine At.rthen ?_
           refine At.rinb ?_
           refine At.rthen ?_
           cases H
           exact At.ret env.ty rfl rfl (fun q hq => by cases hq) (.refl _) hval
         · have H := of_false H hb13
           refine W.skip ?_
           refine At.thenC ?_
           refine W.sr env [] [] [2, 3, 7, 72, 73, 94, 95] [2, 3] rfl rfl rfl (.cons (⟨by omega, by omega⟩ : 0 ≤ (i10 : Int) ∧ (i10 : Int) < ((p0.Travel.length : Nat) : Int)) .nil) .nil ?_
           refine W.block ?_
           refine At.keep (ts := [2, 3, 7, 72, 73, 94, 95]) (ids := [2, 3]) rfl rfl ?_
           obtain ⟨hn14, H⟩ := of_must H
           refine W.rangeGo H (fun i14 (s14 : Unit) => [(2, .lp 2 0), (3, .lp 3 0), (7, .int .i64 ((i10 : Int))), (72, .int .i64 (((p0.Travel.length : Nat) : Int))), (73, .int .i64 ((i10 : Int))), (94, .int .i64 ((((p0.Travel.getD i10 default).length : Nat) : Int))), (95, .int .i64 ((i14 : Int)))]) (fun i14 (s14 : Unit) => [(2, .cells [roL 4 enc_Task p0.Tasks, roL 1 enc_ListRange p0.Travel, roL 3 enc_Hand p0.Hands]), (3, .cells [roL 4 enc_Task p1.Tasks, roL 1 enc_ListRange p1.Travel, roL 3 enc_Hand p1.Hands])]) (.cons .q (.cons .q (.cons .qi (.cons .qi (.cons .qi (.cons .qi (.cons .qi .nil))))))) (.cons .q (.cons .q .nil)) (fun k14 i14 s14 hle14 H1 H2 K0 hK14 => ?_)
           refine W.rg env [2, 3, 7, 72, 73, 94, 95, 96] [2, 3] ?_
           refine W.seq ?_
           refine W.cond rfl (fun hb15 => ?_) (fun hb15 => ?_)
           · have hi14 : i14 < (p0.Travel.getD i10 default).length := by have := of_decide_eq_true hb15; omega
             have H := H1 hi14
             refine W.skip ?_
             refine At.thenC ?_
             refine W.seq ?_
             refine W.block ?_
             refine W.rg env [2, 3, 7, 8, 72, 73, 94, 95] [2, 3] ?_
             obtain ⟨hc16, H⟩ := of_must H
             obtain ⟨hc17, H⟩ := of_must H
             refine W.sr env [] [] [2, 3, 7, 72, 73, 94, 95, 114] [2, 3] rfl rfl (by first | rfl | kernel_rfl) (.cons (⟨by omega, by omega⟩ : 0 ≤ (i10 : Int) ∧ (i10 : Int) < ((p0.Travel.length : Nat) : Int)) (.cons (⟨by omega, by omega⟩ : 0 ≤ (i14 : Int) ∧ (i14 : Int) < (((p0.Travel.getD i10 default).length : Nat) : Int)) (.cons hc16 (.cons hc17 .nil)))) .nil ?_
             refine W.cond rfl (fun hb18 => ?_) (fun hb18 => ?_)
             · have H := of_true H hb18
               refine W.rg env [4] [] ?_
               refine W.ret ?_
               refine At.rinb ?_
               refine At.rthen ?_
               refine At.rthen ?_
               refine At.rinb ?_
               refine At.rinb ?_
               refine At.rthen ?_
               refine At.rthen ?_
               refine At.rinb ?_
               refine At.rthen ?_
               cases H
               exact At.ret env.ty rfl rfl (fun q hq => by cases hq) (.refl _) hval
             · have H := of_false H hb18
               refine W.skip ?_
               refine At.inb ?_
               refine At.thenC ?_
               refine W.region env [] [] rfl rfl rfl (.cons (by unfold inI; have := hn14; (try unfold maxLen at this); omega) .nil) .nil (At.keep (ts := [2, 3, 7, 72, 73, 94, 95]) (ids := [2, 3]) rfl rfl ?_)
               refine At.thenK (At.keep (ts := [2, 3, 7, 72, 73, 94, 95]) (ids := [2, 3]) rfl rfl ?_)
               exact At.conv (.cons .q (.cons .q (.cons .qi (.cons .qi (.cons .qi (.cons .qi (.cons .qi .nil))))))) (.cons .q (.cons .q .nil)) (hK14 hi14 () H)
           · have H := H2 (by have := of_decide_eq_false hb15; omega)
             refine W.exit ?_
             refine At.xthen ?_
             refine At.xthen ?_
             refine At.xhere ?_
             refine At.inb ?_
             refine At.thenC ?_
             refine W.region env [] [] rfl rfl rfl (.cons (by unfold inI; have := hn10; (try unfold maxLen at this); omega) .nil) .nil (At.keep (ts := [2, 3, 72, 73]) (ids := [2, 3]) rfl rfl ?_)
             refine At.thenK (At.keep (ts := [2, 3, 72, 73]) (ids := [2, 3]) rfl rfl ?_)
             exact At.conv (.cons .q (.cons .q (.cons .qi (.cons .qi .nil)))) (.cons .q (.cons .q .nil)) (hK10 hi10 () H)
       · have H := H2 (by have := of_decide_eq_false hb11; omega)
         refine W.exit ?_
         refine At.xthen ?_
         refine At.xthen ?_
         refine At.xhere ?_
         refine At.thenC ?_
         refine W.rg env [4] [] ?_
         refine W.ret ?_
         cases H
         exact At.ret env.ty rfl rfl (fun q hq => by cases hq) (.refl _) hval
theorem c_gasolierref01_Has (p0 : (List Int)) (p1 : Int) {r : Bool} (H : gasolierref01_Has p0 p1 = some r) : Ctr Try.prog 37 [roL 1 enc_Int p0, .int .i64 (p1)] (.bool (r)) := by
 unfold gasolierref01_Has at H
 refine Ctr.of_body (N := 17) Try.func37 (by kernel_rfl) (c := _) rfl Try.ntmps37 rfl (fun w0 h0 hval => ?_)
 refine W.rg env [0, 1] [] ?_
 refine W.seq ?_
 refine W.rg env [1, 7, 8, 9] [] ?_
 refine W.block ?_
 refine At.keep (ts := [1, 7, 8, 9]) (ids := []) rfl rfl ?_
 refine W.len (t := 7) rfl (fun (hn1 : p0.length ≤ maxLen) => ?_)
 refine W.rangeGo H (fun i1 (s1 : Unit) => [(1, .int .i64 (p1)), (7, roL 1 enc_Int p0), (8, .int .i64 (((p0.length : Nat) : Int))), (9, .int .i64 ((i1 : Int)))]) (fun i1 (s1 : Unit) => []) (.cons .qi (.cons .q (.cons .qi (.cons .qi .nil)))) .nil (fun k1 i1 s1 hle1 H1 H2 K0 hK1 => ?_)
 refine W.rg env [1, 7, 8, 9, 10] [] ?_
 refine W.seq ?_
 refine W.cond rfl (fun hb2 => ?_) (fun hb2 => ?_)
 · have hi1 : i1 < p0.length := by have := of_decide_eq_true hb2; omega
   have H := H1 hi1
   refine W.skip ?_
   refine At.thenC ?_
   refine W.seq ?_
   refine W.block ?_
   refine W.sr env [] [] [1, 6, 7, 8, 9] [] rfl rfl rfl (.cons (⟨by omega, by omega⟩ : 0 ≤ (i1 : Int) ∧ (i1 : Int) < ((p0.length : Nat) : Int)) .nil) .nil ?_
   refine W.rg env [1, 7, 8, 9, 15] [] ?_
   refine W.cond rfl (fun hb3 => ?_) (fun hb3 => ?_)
   · have H := of_true H hb3
     refine W.rg env [4] [] ?_
     refine W.ret ?_
     refine At.rinb ?_
     refine At.rthen ?_
     refine At.rthen ?_
     refine At.rinb ?_
     refine At.rthen ?_
     cases H
     exact At.ret env.ty rfl rfl (fun q hq => by cases hq) (.refl _) hval
   · have H := of_false H hb3
     refine W.skip ?_
     refine At.inb ?_
     refine At.thenC ?_
     refine W.region env [] [] rfl rfl rfl (.cons (by unfold inI; have := hn1; (try unfold maxLen at this); omega) .nil) .nil (At.keep (ts := [1, 7, 8, 9]) (ids := []) rfl rfl ?_)
     refine At.thenK (At.keep (ts := [1, 7, 8, 9]) (ids := []) rfl rfl ?_)
     exact At.conv (.cons .qi (.cons .q (.cons .qi (.cons .qi .nil)))) .nil (hK1 hi1 () H)
 · have H := H2 (by have := of_decide_eq_false hb2; omega)
   refine W.exit ?_
   refine At.xthen ?_
   refine At.xthen ?_
   refine At.xhere ?_
   refine At.thenC ?_
   refine W.rg env [4] [] ?_
   refine W.ret ?_
   cases H
   exact At.ret env.ty rfl rfl (fun q hq => by cases hq) (.refl _) hval
theorem c_gasolierref04_Copy (p0 : Crew) {r : Crew} (H : gasolierref04_Copy p0 = some r) : Ctr Try.prog 43 [.agg [roL 4 enc_Task p0.Tasks, roL 1 enc_ListRange p0.Travel, roL 3 enc_Hand p0.Hands]] (.agg [roL 4 enc_Task r.Tasks, roL 1 enc_ListRange r.Travel, roL 3 enc_Hand r.Hands]) := by
 unfold gasolierref04_Copy at H
 refine Ctr.of_body (N := 32) Try.func43 (by kernel_rfl) (c := _) rfl Try.ntmps43 rfl (fun w0 h0 hval => ?_)
 refine W.rg env [1, 2] [1, 2] ?_
 refine W.seq ?_
 obtain ⟨hc1, H⟩ := of_must H
 obtain ⟨hc2, H⟩ := of_must H
 refine W.region env [6, 10] [] rfl rfl (by first | rfl | kernel_rfl) (.cons (⟨by first | rfl | (simp; done) | omega | (simp; omega), by have := hc1; first | simpa using this | (unfold room at this ⊢; simp at this ⊢; omega)⟩) (.cons (⟨by first | rfl | (simp; done) | omega | (simp; omega), by have := hc2; first | simpa using this | (unfold room at this ⊢; simp at this ⊢; omega)⟩) .nil)) .nil (At.keep (ts := [1, 2, 3]) (ids := [1, 2, 3, 6, 10]) rfl rfl ?_)
 refine At.convM (.cons (.refl _) (.cons (.refl _) (.cons (.refl _) (.cons (y := bufL 67 4 enc_Task (([] : List Task) ++ p0.Tasks)) (BSim.seg (Seg.push (Seg.lit (f := enc_Task) (sz := 4) ([] : List Task) rfl rfl (fun _ => rfl)) (Seg.refl enc_Task p0.Tasks))) (.cons (y := bufL 59 3 enc_Hand (([] : List Hand) ++ p0.Hands)) (BSim.seg (Seg.push (Seg.lit (f := enc_Hand) (sz := 3) ([] : List Hand) rfl rfl (fun _ => rfl)) (Seg.refl enc_Hand p0.Hands))) .nil))))) ?_
 refine At.thenC ?_
 refine W.seq ?_
 refine W.rg env [2, 3, 16, 17, 18] [2, 3, 6, 10] ?_
 refine W.block ?_
 refine At.nilOwnCell 3 1 751 71 1 (e := fun i => enc_ListRange (([] : List (List Range)).getD i default)) rfl rfl rfl ?_
 refine At.keep (ts := [2, 3, 16, 17, 18]) (ids := [2, 3, 6, 10, 751]) rfl rfl ?_
 refine W.len (t := 16) rfl (fun (hn3 : p0.Travel.length ≤ maxLen) => ?_)
 refine W.rangeGo H (fun i3 (s3 : (List (List Range))) => [(2, .lp 2 0), (3, .lp 3 0), (16, roL 1 enc_ListRange p0.Travel), (17, .int .i64 (((p0.Travel.length : Nat) : Int))), (18, .int .i64 ((i3 : Int)))]) (fun i3 (s3 : (List (List Range))) => [(2, .cells [.nilS, .nilS, .nilS]), (3, .cells [.buf 6 ((([] : List Task) ++ p0.Tasks)).length, .buf 751 (s3).length, .buf 10 ((([] : List Hand) ++ p0.Hands)).length]), (6, bufL 67 4 enc_Task (([] : List Task) ++ p0.Tasks)), (10, bufL 59 3 enc_Hand (([] : List Hand) ++ p0.Hands)), (751, bufL 71 1 enc_ListRange s3)]) (.cons .q (.cons .q (.cons .q (.cons .qi (.cons .qi .nil))))) (.cons .q (.cons (BSim.cells (.cons .qc (.cons .qc (.cons .qc .nil)))) (.cons .q (.cons .q (.cons .q .nil))))) (fun k3 i3 s3 hle3 H1 H2 K0 hK3 => ?_)
 refine W.rg env [2, 3, 16, 17, 18, 19] [2, 3, 6, 10, 751] ?_
 refine W.seq ?_
 refine W.cond rfl (fun hb4 => ?_) (fun hb4 => ?_)
 · have hi3 : i3 < p0.Travel.length := by have := of_decide_eq_true hb4; omega
   have H := H1 hi3
   refine W.skip ?_
   refine At.thenC ?_
   refine W.seq ?_
   refine W.block ?_
   refine W.sr env [] [] [2, 3, 5, 16, 17, 18] [2, 3, 6, 10, 751] rfl rfl rfl (.cons (⟨by omega, by omega⟩ : 0 ≤ (i3 : Int) ∧ (i3 : Int) < ((p0.Travel.length : Nat) : Int)) .nil) .nil ?_
   obtain ⟨hc5, H⟩ := of_must H
   obtain ⟨hc6, H⟩ := of_must H
   refine W.region env [24, 16777242] [] rfl rfl (by first | rfl | kernel_rfl) (.cons (⟨(by first | rfl | (simp; done) | omega | (simp; omega)), (⟨by first | rfl | (simp; done) | omega | (simp; omega), by have := hc5; first | simpa using this | (unfold room at this ⊢; simp at this ⊢; omega)⟩)⟩) (.cons (⟨by first | rfl | (simp; done) | omega | (simp; omega), by have := hc6; first | simpa using this | (unfold room at this ⊢; simp at this ⊢; omega)⟩) .nil)) .nil (At.keep (ts := [2, 3, 16, 17, 18]) (ids := [2, 3, 6, 10, 751]) rfl rfl ?_)
   refine At.convM (.cons (.refl _) (.cons (.refl _) (.cons (.refl _) (.cons (.refl _) (.cons (y := bufL 71 1 enc_ListRange (s3 ++ ([(([] : List Range) ++ (p0.Travel.getD i3 default))] : List (List Range)))) (BSim.pushS (f := enc_ListRange) (sz := 1) (Seg.refl enc_ListRange _) ([(([] : List Range) ++ (p0.Travel.getD i3 default))] : List (List Range)) (.cons (Sim.seg (Seg.push (Seg.lit (f := enc_Range) (sz := 2) ([] : List Range) rfl rfl (fun _ => rfl)) (Seg.refl enc_Range (p0.Travel.getD i3 default)))) .nil) rfl rfl (fun _ => rfl)) .nil))))) ?_
   refine At.inb ?_
   refine At.thenC ?_
   refine W.region env [] [] rfl rfl rfl (.cons (by unfold inI; have := hn3; (try unfold maxLen at this); omega) .nil) .nil (At.keep (ts := [2, 3, 16, 17, 18]) (ids := [2, 3, 6, 10, 751]) rfl rfl ?_)
   refine At.thenK (At.keep (ts := [2, 3, 16, 17, 18]) (ids := [2, 3, 6, 10, 751]) rfl rfl ?_)
   exact At.conv (.cons .q (.cons .q (.cons .q (.cons .qi (.cons .qi .nil))))) (.cons .q (.cons (BSim.cells (.cons .qc (.cons .qc (.cons .qc .nil)))) (.cons .q (.cons .q (.cons .q .nil))))) (hK3 hi3 (s3 ++ ([(([] : List Range) ++ (p0.Travel.getD i3 default))] : List (List Range))) H)
 · have H := H2 (by have := of_decide_eq_false hb4; omega)
   refine W.exit ?_
   refine At.xthen ?_
   refine At.xthen ?_
   refine At.xhere ?_
   refine At.thenC ?_
   refine W.rg env [2] [2, 6, 10, 751] ?_
   refine W.ret ?_
   cases H
   exact At.ret env.ty rfl rfl (fun q hq => by cases hq; exact ⟨by first | rfl | (simp; done) | omega | (simp; omega), ⟨by first | rfl | (simp; done) | omega | (simp; omega), (by first | rfl | (simp; done) | omega | (simp; omega))⟩⟩) (.refl _) hval
theorem co_gasolierref04_Copy_o0_1g_2 (p0 : Crew) {r : Crew} (H : gasolierref04_Copy p0 = some r) : CtrO Try.prog 43 [.agg [roL 4 enc_Task p0.Tasks, roL 1 enc_ListRange p0.Travel, roL 3 enc_Hand p0.Hands]] [] (.agg [.buf 940 (r.Tasks).length, .gb 941 (r.Travel).length, .buf 942 (r.Hands).length]) [(940, bufL 67 4 enc_Task r.Tasks), (941, gridL 71 49 2 enc_Range r.Travel), (942, bufL 59 3 enc_Hand r.Hands)] := by
 unfold gasolierref04_Copy at H
 refine CtrO.of_body (N := 32) Try.func43 (by kernel_rfl) (c := _) rfl Try.ntmps43 rfl (fun w0 h0 ρb hval hdom => ?_)
 refine W.rg env [1, 2] [1, 2] ?_
 refine W.seq ?_
 obtain ⟨hc1, H⟩ := of_must H
 obtain ⟨hc2, H⟩ := of_must H
 refine W.region env [6, 10] [] rfl rfl (by first | rfl | kernel_rfl) (.cons (⟨by first | rfl | (simp; done) | omega | (simp; omega), by have := hc1; first | simpa using this | (unfold room at this ⊢; simp at this ⊢; omega)⟩) (.cons (⟨by first | rfl | (simp; done) | omega | (simp; omega), by have := hc2; first | simpa using this | (unfold room at this ⊢; simp at this ⊢; omega)⟩) .nil)) .nil (At.keep (ts := [1, 2, 3]) (ids := [1, 2, 3, 6, 10]) rfl rfl ?_)
 refine At.convM (.cons (.refl _) (.cons (.refl _) (.cons (.refl _) (.cons (y := bufL 67 4 enc_Task (([] : List Task) ++ p0.Tasks)) (BSim.seg (Seg.push (Seg.lit (f := enc_Task) (sz := 4) ([] : List Task) rfl rfl (fun _ => rfl)) (Seg.refl enc_Task p0.Tasks))) (.cons (y := bufL 59 3 enc_Hand (([] : List Hand) ++ p0.Hands)) (BSim.seg (Seg.push (Seg.lit (f := enc_Hand) (sz := 3) ([] : List Hand) rfl rfl (fun _ => rfl)) (Seg.refl enc_Hand p0.Hands))) .nil))))) ?_
 refine At.thenC ?_
 refine W.seq ?_
 refine W.rg env [2, 3, 16, 17, 18] [2, 3, 6, 10] ?_
 refine W.block ?_
 refine At.nilOwnCellG 3 1 751 71 49 2 (e := fun i j => enc_Range ((([] : List (List Range)).getD i []).getD j default)) (m := fun i => (([] : List (List Range)).getD i []).length) rfl rfl rfl ?_
 refine At.keep (ts := [2, 3, 16, 17, 18]) (ids := [2, 3, 6, 10, 751]) rfl rfl ?_
 refine W.len (t := 16) rfl (fun (hn3 : p0.Travel.length ≤ maxLen) => ?_)
 refine W.rangeGo H (fun i3 (s3 : (List (List Range))) => [(2, .lp 2 0), (3, .lp 3 0), (16, roL 1 enc_ListRange p0.Travel), (17, .int .i64 (((p0.Travel.length : Nat) : Int))), (18, .int .i64 ((i3 : Int)))]) (fun i3 (s3 : (List (List Range))) => [(2, .cells [.nilS, .nilS, .nilS]), (3, .cells [.buf 6 ((([] : List Task) ++ p0.Tasks)).length, .gb 751 (s3).length, .buf 10 ((([] : List Hand) ++ p0.Hands)).length]), (6, bufL 67 4 enc_Task (([] : List Task) ++ p0.Tasks)), (10, bufL 59 3 enc_Hand (([] : List Hand) ++ p0.Hands)), (751, gridL 71 49 2 enc_Range s3)]) (.cons .q (.cons .q (.cons .q (.cons .qi (.cons .qi .nil))))) (.cons .q (.cons (BSim.cells (.cons .qc (.cons (.of_eq (by refine gbEq ?_; first | rfl | (simp; done) | omega | (simp; omega))) (.cons .qc .nil)))) (.cons .q (.cons .q (.cons .q .nil))))) (fun k3 i3 s3 hle3 H1 H2 K0 hK3 => ?_)
 refine W.rg env [2, 3, 16, 17, 18, 19] [2, 3, 6, 10, 751] ?_
 refine W.seq ?_
 refine W.cond rfl (fun hb4 => ?_) (fun hb4 => ?_)
 · have hi3 : i3 < p0.Travel.length := by have := of_decide_eq_true hb4; omega
   have H := H1 hi3
   refine W.skip ?_
   refine At.thenC ?_
   refine W.seq ?_
   refine W.block ?_
   refine W.sr env [] [] [2, 3, 5, 16, 17, 18] [2, 3, 6, 10, 751] rfl rfl rfl (.cons (⟨by omega, by omega⟩ : 0 ≤ (i3 : Int) ∧ (i3 : Int) < ((p0.Travel.length : Nat) : Int)) .nil) .nil ?_
   obtain ⟨hc5, H⟩ := of_must H
   obtain ⟨hc6, H⟩ := of_must H
   refine W.region env [24, 27] [] rfl rfl (by first | rfl | kernel_rfl) (.cons (⟨by first | rfl | (simp; done) | omega | (simp; omega), by have := hc5; first | simpa using this | (unfold room at this ⊢; simp at this ⊢; omega)⟩) (.cons (by first | rfl | (simp; done) | omega | (simp; omega)) (.cons (⟨by first | rfl | (simp; done) | omega | (simp; omega), by first | rfl | (simp; done) | omega | (simp; omega), by simp, by have := hc6; first | simpa using this | (unfold room at this ⊢; simp at this ⊢; omega)⟩) .nil))) .nil (At.keep (ts := [2, 3, 16, 17, 18]) (ids := [2, 3, 6, 10, 751]) rfl rfl ?_)
   refine At.convM (.cons (.refl _) (.cons (.refl _) (.cons (.refl _) (.cons (.refl _) (.cons (y := gridL 71 49 2 enc_Range (s3 ++ ([(([] : List Range) ++ (p0.Travel.getD i3 default))] : List (List Range)))) (BSim.gseg (GSeg.push (GSeg.refl enc_Range _) (GSeg.one (Seg.push (Seg.lit (f := enc_Range) (sz := 2) ([] : List Range) rfl rfl (fun _ => rfl)) (Seg.refl enc_Range (p0.Travel.getD i3 default)))))) .nil))))) ?_
   refine At.inb ?_
   refine At.thenC ?_
   refine W.region env [] [] rfl rfl rfl (.cons (by unfold inI; have := hn3; (try unfold maxLen at this); omega) .nil) .nil (At.keep (ts := [2, 3, 16, 17, 18]) (ids := [2, 3, 6, 10, 751]) rfl rfl ?_)
   refine At.thenK (At.keep (ts := [2, 3, 16, 17, 18]) (ids := [2, 3, 6, 10, 751]) rfl rfl ?_)
   exact At.conv (.cons .q (.cons .q (.cons .q (.cons .qi (.cons .qi .nil))))) (.cons .q (.cons (BSim.cells (.cons .qc (.cons (.of_eq (by refine gbEq ?_; first | rfl | (simp; done) | omega | (simp; omega))) (.cons .qc .nil)))) (.cons .q (.cons .q (.cons .q .nil))))) (hK3 hi3 (s3 ++ ([(([] : List Range) ++ (p0.Travel.getD i3 default))] : List (List Range))) H)
 · have H := H2 (by have := of_decide_eq_false hb4; omega)
   refine W.exit ?_
   refine At.xthen ?_
   refine At.xthen ?_
   refine At.xhere ?_
   refine At.thenC ?_
   refine W.rg env [2] [2, 6, 10, 751] ?_
   refine W.ret ?_
   cases H
   refine At.ren [(6, 940), (751, 941), (10, 942)] (K := [2, 6, 10, 751]) (ts := [2]) rfl rfl rfl rfl rfl ?_
   exact At.retK env.ty [940, 941, 942] 0 rfl rfl rfl rfl (.cons (.refl _) (.cons (.refl _) (.cons (.refl _) .nil))) (Sim.aggL (.cons .qc (.cons (.of_eq (by refine gbEq ?_; first | rfl | (simp; done) | omega | (simp; omega))) (.cons .qc .nil)))) hval hdom rfl
theorem c_gasolierlaw04_CrewLess (fuel : Nat) (p0 : Crew) (p1 : (Arr3 Int)) {r : Bool} (H : gasolierlaw04_CrewLess fuel p0 p1 = some r) : Ctr Try.prog 8 [.agg [roL 4 enc_Task p0.Tasks, roL 1 enc_ListRange p0.Travel, roL 3 enc_Hand p0.Hands], .agg [.int .i64 (p1.x0), .int .i64 (p1.x1), .int .i64 (p1.x2)]] (.bool (r)) := by
 unfold gasolierlaw04_CrewLess at H
 refine Ctr.of_body (N := 228) Try.func8 (by kernel_rfl) (c := _) rfl Try.ntmps8 rfl (fun w0 h0 hval => ?_)
 refine W.rg env [2, 3] [2, 3] ?_
 refine W.seq ?_
 refine W.seq ?_
 obtain ⟨y1, hy2, H⟩ := of_bindO H
 refine W.region env [] [⟨.int .i64 (y1), [], 0, []⟩] rfl rfl rfl .nil (.free (c_gasolierref04_Check p0 hy2) .nil) (At.keep (ts := [2, 3, 28]) (ids := [2, 3]) rfl rfl ?_)
 refine At.thenC ?_
 refine W.cond rfl (fun hb3 => ?_) (fun hb3 => ?_)
 · have H := of_true H hb3
   refine W.seq ?_
   obtain ⟨y4, hy5, H⟩ := of_bindO H
   obtain ⟨y6, hy7, H⟩ := of_bindO H
   refine W.region env [] [⟨.int .i64 (y4), [], 0, []⟩, ⟨.bool (y6), [], 0, []⟩] rfl rfl rfl (.cons (fun h => h) .nil) (.free (c_crew_Check p0 hy5) (.on (fun hW => c_gasolierlaw04_sane 20000 (of_true hy7 hW)) .nil)) (At.keep (ts := [4]) (ids := []) rfl rfl ?_)
   refine At.thenC ?_
   refine W.ret ?_
   refine At.rthen ?_
   cases H
   exact At.ret env.ty rfl rfl (fun q hq => by cases hq) (.refl _) hval
 · have H := of_false H hb3
   refine W.skip ?_
   refine At.thenC ?_
   refine W.seq ?_
   obtain ⟨y8, hy9, H⟩ := of_bindO H
   refine W.region env [] [⟨.tup [.agg [.int .i64 (y8.1.Lo), .int .i64 (y8.1.Hi)], .int .i64 (y8.2)], [], 0, []⟩] rfl rfl rfl .nil (.free (c_crew_Bounds fuel p0 hy9) .nil) (At.keep (ts := [2, 3, 5, 6]) (ids := [2, 3, 5]) rfl rfl ?_)
   refine At.thenC ?_
   refine W.seq ?_
   obtain ⟨y10, hy11, H⟩ := of_bindO H
   refine W.region env [] [⟨.tup [roL 1 enc_Int y10.1, .int .i64 (y10.2)], [], 0, []⟩] rfl rfl rfl .nil (.free (c_crew_Moved fuel p0 hy11) .nil) (At.keep (ts := [2, 3, 5, 6, 7, 8]) (ids := [2, 3, 5]) rfl rfl ?_)
   refine At.thenC ?_
   refine W.seq ?_
   obtain ⟨y12, hy13, H⟩ := of_bindO H
   obtain ⟨y14, hy15, H⟩ := of_bindO H
   refine W.region env [] [⟨.int .i64 (y12), [], 0, []⟩, ⟨.tup [.agg [roL 4 enc_Task y14.1.Tasks, roL 1 enc_ListRange y14.1.Travel, roL 3 enc_Hand y14.1.Hands], .int .i64 (y14.2)], [], 0, []⟩] rfl rfl (by kernel_rfl) (.cons (by decide) .nil) (.free (c_gasolierref01_Mod p1.x1 1440 hy13) (.free (c_crew_After fuel p0 y12 hy15) .nil)) (At.keep (ts := [2, 3, 5, 6, 7, 8, 9, 10]) (ids := [2, 3, 5, 9]) rfl rfl ?_)
   refine At.thenC ?_
   refine W.seq ?_
   obtain ⟨y16, hy17, H⟩ := of_bindO H
   refine W.region env [] [⟨.tup [.int .i64 (y16.1), .int .i64 (y16.2)], [], 0, []⟩] rfl rfl rfl .nil (.free (c_crew_Count fuel y14.1 hy17) .nil) (At.keep (ts := [2, 3, 5, 6, 7, 8, 10, 11, 12]) (ids := [2, 3, 5]) rfl rfl ?_)
   refine At.thenC ?_
   refine W.seq ?_
   refine W.sr env [] [] [2, 3, 5, 7, 84] [2, 3, 5] rfl rfl rfl (.cons (fun h => h) (.cons (fun h => by rw [h]; rfl) (.cons (fun h => h) (.cons (fun h => by rw [h]; rfl) (.cons (fun h => h) (.cons (fun h => by rw [h]; rfl) (.cons (fun h => h) (.cons (fun h => h) (.cons (fun h => h) (.cons (fun h => by rw [h]; rfl) (.cons (fun h => h) (.cons (fun h => h) (.cons (fun h => h) (.cons (fun h => h) (.cons (fun h => by rw [h]; rfl) .nil))))))))))))))) .nil ?_
   refine W.cond rfl (fun hb18 => ?_) (fun hb18 => ?_)
   · have H := of_true H hb18
     refine W.rg env [4] [] ?_
     refine W.ret ?_
     refine At.rthen ?_
     cases H
     exact At.ret env.ty rfl rfl (fun q hq => by cases hq) (.refl _) hval
   · have H := of_false H hb18
     refine W.skip ?_
     refine At.thenC ?_
     refine W.seq ?_
     refine W.rg env [2, 3, 5, 7, 88] [2, 3, 5] ?_
     refine W.joinC H (fun (s19 : Unit) => [(2, .lp 2 0), (3, .lp 3 0), (5, .lp 5 0)]) (fun (s19 : Unit) => [(2, .cells [roL 4 enc_Task p0.Tasks, roL 1 enc_ListRange p0.Travel, roL 3 enc_Hand p0.Hands]), (3, .cells [.int .i64 (p1.x0), .int .i64 (p1.x1), .int .i64 (p1.x2)]), (5, .cells [.int .i64 (y8.1.Lo), .int .i64 (y8.1.Hi)])]) (fun s19 H => ?_) (fun k19 H hK19 => ?_)
     · refine W.seq ?_
       obtain ⟨y20, hy21, H⟩ := of_bindO H
       refine W.region env [] [⟨.agg [.buf 940 (y20.Tasks).length, .gb 941 (y20.Travel).length, .buf 942 (y20.Hands).length], [(940, bufL 67 4 enc_Task y20.Tasks), (941, gridL 71 49 2 enc_Range y20.Travel), (942, bufL 59 3 enc_Hand y20.Hands)], 159000, []⟩] rfl rfl (by kernel_rfl) .nil (.free ((Ctr.ofO (co_gasolierref04_Copy_o0_1g_2 p0 hy21))) .nil) (At.keep (ts := [3, 5, 20]) (ids := [3, 5, 20, 159940, 159941, 159942]) rfl rfl ?_)
       refine At.thenC ?_
       refine W.seq ?_
       refine W.sr env [] [] [3, 5, 20, 161, 162] [3, 5, 20, 159940, 159941, 159942] rfl rfl rfl (.cons (by first | rfl | (simp; done) | omega | (simp; omega)) .nil) .nil ?_
       refine W.block ?_
       refine At.keep (ts := [3, 5, 20, 161, 162]) (ids := [3, 5, 20, 159940, 159941, 159942]) rfl rfl ?_
       obtain ⟨hn22, H⟩ := of_must H
       refine W.rangeGo H (fun i22 (s22 : (List (List Range))) => [(3, .lp 3 0), (5, .lp 5 0), (20, .lp 20 0), (161, .int .i64 (((y20.Travel.length : Nat) : Int))), (162, .int .i64 ((i22 : Int)))]) (fun i22 (s22 : (List (List Range))) => [(3, .cells [.int .i64 (p1.x0), .int .i64 (p1.x1), .int .i64 (p1.x2)]), (5, .cells [.int .i64 (y8.1.Lo), .int .i64 (y8.1.Hi)]), (20, .cells [.buf 159940 (y20.Tasks).length, .gb 159941 (s22).length, .buf 159942 (y20.Hands).length]), (159940, bufL 67 4 enc_Task y20.Tasks), (159941, gridL 71 49 2 enc_Range s22), (159942, bufL 59 3 enc_Hand y20.Hands)]) (.cons .q (.cons .q (.cons .q (.cons .qi (.cons .qi .nil))))) (.cons .q (.cons .q (.cons (BSim.cells (.cons .qc (.cons (.of_eq (by refine gbEq ?_; first | rfl | (simp; done) | omega | (simp; omega))) (.cons .qc .nil)))) (.cons .q (.cons .q (.cons .q .nil)))))) (fun k22 i22 s22 hle22 H1 H2 K0 hK22 => ?_)
       refine W.rg env [3, 5, 20, 161, 162, 163] [3, 5, 20, 159940, 159941, 159942] ?_
       refine W.seq ?_
       refine W.cond rfl (fun hb23 => ?_) (fun hb23 => ?_)
       · have hi22 : i22 < y20.Travel.length := by have := of_decide_eq_true hb23; omega
         have H := H1 hi22
         refine W.skip ?_
         refine At.thenC ?_
         refine W.seq ?_
         refine W.block ?_
         refine W.rg env [3, 5, 20, 21, 161, 162] [3, 5, 20, 159940, 159941, 159942] ?_
         obtain ⟨hc24, H⟩ := of_must H
         refine W.sr env [] [] [3, 5, 20, 21, 161, 162, 170, 171] [3, 5, 20, 159940, 159941, 159942] rfl rfl rfl (.cons (⟨by first | rfl | (simp; done) | omega | (simp; omega), hc24⟩) (.cons (⟨by first | rfl | (simp; done) | omega | (simp; omega), (by have := hc24; first | omega | (simp at this ⊢; omega))⟩) (.cons (⟨by first | rfl | (simp; done) | omega | (simp; omega), (by have := hc24; first | omega | (simp at this ⊢; omega))⟩) .nil))) .nil ?_
         refine W.block ?_
         refine At.keep (ts := [3, 5, 20, 21, 161, 162, 170, 171]) (ids := [3, 5, 20, 159940, 159941, 159942]) rfl rfl ?_
         obtain ⟨hn25, H⟩ := of_must H
         refine W.rangeGo H (fun i25 (s25 : (List (List Range))) => [(3, .lp 3 0), (5, .lp 5 0), (20, .lp 20 0), (21, .int .i64 ((i22 : Int))), (161, .int .i64 (((y20.Travel.length : Nat) : Int))), (162, .int .i64 ((i22 : Int))), (170, .int .i64 (((((s22.getD i22 []).length) : Nat) : Int))), (171, .int .i64 ((i25 : Int)))]) (fun i25 (s25 : (List (List Range))) => [(3, .cells [.int .i64 (p1.x0), .int .i64 (p1.x1), .int .i64 (p1.x2)]), (5, .cells [.int .i64 (y8.1.Lo), .int .i64 (y8.1.Hi)]), (20, .cells [.buf 159940 (y20.Tasks).length, .gb 159941 (s25).length, .buf 159942 (y20.Hands).length]), (159940, bufL 67 4 enc_Task y20.Tasks), (159941, gridL 71 49 2 enc_Range s25), (159942, bufL 59 3 enc_Hand y20.Hands)]) (.cons .q (.cons .q (.cons .q (.cons .qi (.cons .qi (.cons .qi (.cons .qi (.cons .qi .nil)))))))) (.cons .q (.cons .q (.cons (BSim.cells (.cons .qc (.cons (.of_eq (by refine gbEq ?_; first | rfl | (simp; done) | omega | (simp; omega))) (.cons .qc .nil)))) (.cons .q (.cons .q (.cons .q .nil)))))) (fun k25 i25 s25 hle25 H1 H2 K0 hK25 => ?_)
         refine W.rg env [3, 5, 20, 21, 161, 162, 170, 171, 172] [3, 5, 20, 159940, 159941, 159942] ?_
         refine W.seq ?_
         refine W.cond rfl (fun hb26 => ?_) (fun hb26 => ?_)
         · have hi25 : i25 < ((s22.getD i22 []).length) := by have := of_decide_eq_true hb26; omega
           have H := H1 hi25
           refine W.skip ?_
           refine At.thenC ?_
           refine W.seq ?_
           refine W.block ?_
           refine W.rg env [3, 5, 20, 21, 22, 161, 162, 170, 171] [3, 5, 20, 159940, 159941, 159942] ?_
           obtain ⟨hc27, H⟩ := of_must H
           obtain ⟨hc28, H⟩ := of_must H
           refine W.sr env [] [] [3, 5, 20, 21, 22, 23, 161, 162, 170, 171] [3, 5, 20, 23, 159940, 159941, 159942] rfl rfl rfl (.cons (⟨by first | rfl | (simp; done) | omega | (simp; omega), hc27⟩) (.cons (⟨by first | rfl | (simp; done) | omega | (simp; omega), (by have := hc27; first | omega | (simp at this ⊢; omega))⟩) (.cons (⟨by first | rfl | (simp; done) | omega | (simp; omega), (by have := hc27; first | omega | (simp at this ⊢; omega)), hc28⟩) (.cons (⟨by first | rfl | (simp; done) | omega | (simp; omega), (by have := hc27; first | omega | (simp at this ⊢; omega)), (by have := hc28; first | omega | (simp at this ⊢; omega))⟩) .nil)))) .nil ?_
           obtain ⟨hc29, H⟩ := of_must H
           obtain ⟨hc30, H⟩ := of_must H
           obtain ⟨y31, hy32, H⟩ := of_bindO H
           obtain ⟨hc33, H⟩ := of_must H
           obtain ⟨hc34, H⟩ := of_must H
           obtain ⟨hc35, H⟩ := of_must H
           refine W.region env [] [⟨.int .i64 (y31), [], 0, []⟩] rfl rfl (by kernel_rfl) (.cons (⟨by first | rfl | (simp; done) | omega | (simp; omega), hc29⟩) (.cons (⟨by first | rfl | (simp; done) | omega | (simp; omega), (by have := hc29; first | omega | (simp at this ⊢; omega))⟩) (.cons hc30 (.cons (by decide) (.cons hc33 (.cons hc34 (.cons (⟨by first | rfl | (simp; done) | omega | (simp; omega), (by have := hc29; first | omega | (simp at this ⊢; omega)), hc35⟩) (.cons (⟨by first | rfl | (simp; done) | omega | (simp; omega), (by have := hc29; first | omega | (simp at this ⊢; omega)), (by have := hc35; first | omega | (simp at this ⊢; omega))⟩) .nil)))))))) (.free (c_gasolierref01_Mod p1.x2 2 hy32) .nil) (At.keep (ts := [3, 5, 20, 21, 161, 162, 170, 171]) (ids := [3, 5, 20, 159940, 159941, 159942]) rfl rfl ?_)
           refine At.convM (.cons (.refl _) (.cons (.refl _) (.cons (.refl _) (.cons (.refl _) (.cons (y := gridL 71 49 2 enc_Range (s25.set i22 ((s25.getD i22 []).set i25 (⟨((s25.getD i22 []).getD i25 default).Lo, (((s25.getD i22 []).getD i25 default).Hi - ((((s25.getD i22 []).getD i25 default).Hi - ((s25.getD i22 []).getD i25 default).Lo) * y31))⟩ : Range)))) (BSim.gseg (GSeg.setAt (i := i22) (j := i25) (GSeg.refl enc_Range _) (⟨((s25.getD i22 []).getD i25 default).Lo, (((s25.getD i22 []).getD i25 default).Hi - ((((s25.getD i22 []).getD i25 default).Hi - ((s25.getD i22 []).getD i25 default).Lo) * y31))⟩ : Range) rfl)) (.cons (.refl _) .nil)))))) ?_
           refine At.inb ?_
           refine At.thenC ?_
           refine W.region env [] [] rfl rfl rfl (.cons (by unfold inI; have := hn25; (try unfold maxLen at this); omega) .nil) .nil (At.keep (ts := [3, 5, 20, 21, 161, 162, 170, 171]) (ids := [3, 5, 20, 159940, 159941, 159942]) rfl rfl ?_)
           refine At.thenK (At.keep (ts := [3, 5, 20, 21, 161, 162, 170, 171]) (ids := [3, 5, 20, 159940, 159941, 159942]) rfl rfl ?_)
           exact At.conv (.cons .q (.cons .q (.cons .q (.cons .qi (.cons .qi (.cons .qi (.cons .qi (.cons .qi .nil)))))))) (.cons .q (.cons .q (.cons (BSim.cells (.cons .qc (.cons (.of_eq (by refine gbEq ?_; first | rfl | (simp; done) | omega | (simp; omega))) (.cons .qc .nil)))) (.cons .q (.cons .q (.cons .q .nil)))))) (hK25 hi25 (s25.set i22 ((s25.getD i22 []).set i25 (⟨((s25.getD i22 []).getD i25 default).Lo, (((s25.getD i22 []).getD i25 default).Hi - ((((s25.getD i22 []).getD i25 default).Hi - ((s25.getD i22 []).getD i25 default).Lo) * y31))⟩ : Range))) H)
         · have H := H2 (by have := of_decide_eq_false hb26; omega)
           refine W.exit ?_
           refine At.xthen ?_
           refine At.xthen ?_
           refine At.xhere ?_
           refine At.inb ?_
           refine At.thenC ?_
           refine W.region env [] [] rfl rfl rfl (.cons (by unfold inI; have := hn22; (try unfold maxLen at this); omega) .nil) .nil (At.keep (ts := [3, 5, 20, 161, 162]) (ids := [3, 5, 20, 159940, 159941, 159942]) rfl rfl ?_)
           refine At.thenK (At.keep (ts := [3, 5, 20, 161, 162]) (ids := [3, 5, 20, 159940, 159941, 159942]) rfl rfl ?_)
           exact At.conv (.cons .q (.cons .q (.cons .q (.cons .qi (.cons .qi .nil))))) (.cons .q (.cons .q (.cons (BSim.cells (.cons .qc (.cons (.of_eq (by refine gbEq ?_; first | rfl | (simp; done) | omega | (simp; omega))) (.cons .qc .nil)))) (.cons .q (.cons .q (.cons .q .nil)))))) (hK22 hi22 s25 H)
       · have H := H2 (by have := of_decide_eq_false hb23; omega)
         refine W.exit ?_
         refine At.xthen ?_
         refine At.xthen ?_
         refine At.xhere ?_
         refine At.thenC ?_
         refine W.seq ?_
         obtain ⟨y36, hy37, H⟩ := of_bindO H
         refine W.region env [] [⟨.tup [.agg [.int .i64 (y36.1.Lo), .int .i64 (y36.1.Hi)], .int .i64 (y36.2)], [], 0, []⟩] rfl rfl rfl (.cons ⟨by first | rfl | (simp; done) | omega | (simp; omega), ⟨by first | rfl | (simp; done) | omega | (simp; omega), (by first | rfl | (simp; done) | omega | (simp; omega))⟩⟩ .nil) (.free (c_crew_Bounds fuel (⟨y20.Tasks, s22, y20.Hands⟩ : Crew) hy37) .nil) (At.keep (ts := [5, 24, 25]) (ids := [5, 24]) rfl rfl ?_)
         refine At.thenC ?_
         refine W.seq ?_
         obtain ⟨y38, hy39, H⟩ := of_bindO H
         refine W.region env [] [⟨.bool (y38), [], 0, []⟩] rfl rfl rfl (.cons (fun h => h) (.cons (fun h => h) (.cons (fun h => h) (.cons (fun h => h) (.cons (fun h => h) (.cons (fun h => h) (.cons (fun h => h) (.cons (fun h => h) (.cons (fun h => h) (.cons (fun h => h) (.cons (fun h => h) .nil))))))))))) (.on (fun hW => c_gasolierlaw04_sane 20000 (of_true hy39 hW)) .nil) (At.keep (ts := [4]) (ids := []) rfl rfl ?_)
         refine At.thenC ?_
         refine W.ret ?_
         cases H
         exact At.ret env.ty rfl rfl (fun q hq => by cases hq) (.refl _) hval
     · refine W.cond rfl (fun hb40 => ?_) (fun hb40 => ?_)
       · have H := of_true H hb40
         refine W.seq ?_
         obtain ⟨y41, hy42, H⟩ := of_bindO H
         obtain ⟨hc43, H⟩ := of_must H
         refine W.region env [] [⟨.int .i64 (y41), [], 0, []⟩] rfl rfl (by kernel_rfl) (.cons (by decide) (.cons hc43 .nil)) (.free (c_gasolierref01_Mod p1.x0 ((p0.Tasks.length : Nat) : Int) hy42) .nil) (At.keep (ts := [2, 3, 5, 7, 13]) (ids := [2, 3, 5, 13]) rfl rfl ?_)
         refine At.thenC ?_
         refine W.seq ?_
         obtain ⟨y44, hy45, H⟩ := of_bindO H
         refine W.region env [] [⟨.tup [.agg [roL 4 enc_Task y44.1.Tasks, roL 1 enc_ListRange y44.1.Travel, roL 3 enc_Hand y44.1.Hands], .int .i64 (y44.2)], [], 0, []⟩] rfl rfl rfl .nil (.free (c_crew_Without fuel p0 ((p0.Tasks.getD (y41).toNat default).Lamp) hy45) .nil) (At.keep (ts := [2, 3, 5, 7, 13, 14, 15]) (ids := [2, 3, 5, 13, 14]) rfl rfl ?_)
         refine At.thenC ?_
         refine W.seq ?_
         obtain ⟨y46, hy47, H⟩ := of_bindO H
         refine W.region env [] [⟨.tup [.int .i64 (y46.1), .int .i64 (y46.2)], [], 0, []⟩] rfl rfl rfl .nil (.free (c_crew_Count fuel y44.1 hy47) .nil) (At.keep (ts := [2, 3, 5, 7, 13, 14, 15, 16, 17]) (ids := [2, 3, 5, 13, 14]) rfl rfl ?_)
         refine At.thenC ?_
         refine W.seq ?_
         obtain ⟨y48, hy49, H⟩ := of_bindO H
         refine W.region env [] [⟨.tup [.agg [roL 4 enc_Task y48.1.Tasks, roL 1 enc_ListRange y48.1.Travel, roL 3 enc_Hand y48.1.Hands], .int .i64 (y48.2)], [], 0, []⟩] rfl rfl rfl .nil (.free (c_crew_With fuel y44.1 (p0.Tasks.getD (y41).toNat default) hy49) .nil) (At.keep (ts := [2, 3, 5, 7, 13, 15, 16, 17, 18, 19]) (ids := [2, 3, 5, 13, 18]) rfl rfl ?_)
         refine At.thenC ?_
         refine W.seq ?_
         obtain ⟨y50, hy51, H⟩ := of_bindO H
         obtain ⟨hc52, H⟩ := of_must H
         obtain ⟨y53, hy54, H⟩ := of_bindO H
         refine W.region env [] [⟨.bool (y50), [], 0, []⟩, ⟨.bool (y53), [], 0, []⟩] rfl rfl (by kernel_rfl) (.cons (fun h => h) (.cons (fun h => by rw [h]; rfl) (.cons (fun h => h) (.cons (fun h => by rw [h]; rfl) (.cons (fun h => h) (.cons (fun h => h) (.cons (fun h => h) (.cons (fun h => by rw [h]; rfl) (.cons (fun h => h) (.cons (fun h => h) (.cons (fun h => h) (.cons (fun h => by rw [h]; rfl) (.cons (fun h => h) (.cons hc52 (.cons (fun h => h) (.cons (fun h => h) (.cons (fun h => h) (.cons (fun h => by rw [h]; rfl) (.cons (fun h => h) (.cons (fun h => h) (.cons (fun h => h) (.cons (fun h => h) (.cons (fun h => h) (.cons (fun h => h) (.cons (fun h => h) (.cons (fun h => h) (.cons (fun h => by rw [h]; rfl) .nil))))))))))))))))))))))))))) (.on (fun hW => c_gasolierref04_SameCrew y48.1 p0 (of_true hy51 hW)) (.on (fun hW => c_gasolierref01_Has y10.1 ((p0.Tasks.getD (y41).toNat default).Lamp) (of_true hy54 hW)) .nil)) (At.keep (ts := [2, 3, 5, 156]) (ids := [2, 3, 5]) rfl rfl ?_)
         refine At.thenC ?_
         refine W.cond rfl (fun hb55 => ?_) (fun hb55 => ?_)
         · have H := of_true H hb55
           refine W.rg env [4] [] ?_
           refine W.ret ?_
           refine At.rthen ?_
           cases H
           exact At.ret env.ty rfl rfl (fun q hq => by cases hq) (.refl _) hval
         · have H := of_false H hb55
           refine W.skip ?_
           refine At.thenK (At.keep (ts := [2, 3, 5]) (ids := [2, 3, 5]) rfl rfl ?_)
           exact At.conv (.cons .q (.cons .q (.cons .q .nil))) (.cons .q (.cons .q (.cons .q .nil))) (hK19 () H)
       · have H := of_false H hb40
         refine W.skip ?_
         refine At.thenK (At.keep (ts := [2, 3, 5]) (ids := [2, 3, 5]) rfl rfl ?_)
         exact At.conv (.cons .q (.cons .q (.cons .q .nil))) (.cons .q (.cons .q (.cons .q .nil))) (hK19 () H)
end Go.Sp
