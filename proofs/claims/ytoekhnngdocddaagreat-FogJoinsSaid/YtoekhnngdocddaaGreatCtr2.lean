/- Printed by gen.py: contracts, part 2. -/
import Derived.Test.YtoekhnngdocddaaGreatCtr1
set_option linter.all false
set_option maxRecDepth 100000
set_option maxHeartbeats 1000000
namespace Go.Sp
open Go Go.Av Go.Proofs
theorem co_slices_Delete_int (p0 : (List Int)) (p1 : Int) (p2 : Int) {r : (List Int)} (H : slices_Delete_int p0 p1 p2 = some r) : CtrO Tryz.prog 89 [.buf 700 (p0).length, .int .i64 (p1), .int .i64 (p2)] [(700, bufL 3 1 enc_Int p0)] (.buf 900 r.length) [(900, bufL 3 1 enc_Int r)] := by
 unfold slices_Delete_int at H
 refine CtrO.of_body (N := 33) Tryz.func89 (by kernel_rfl) (c := _) rfl Tryz.ntmps89 rfl (fun w0 h0 ρb hval hdom => ?_)
 refine W.rg env [0, 1, 2] [700] ?_
 obtain ⟨hc1, H⟩ := of_must H
 refine W.sr env [] [] [0, 1, 2] [700] rfl rfl rfl (.cons (by first | rfl | (simp; done) | omega | (simp; omega)) (.cons (⟨by first | rfl | (simp; done) | omega | (simp; omega), hc1⟩) .nil)) .nil ?_
 refine W.seq ?_
 refine W.rg env [0, 1, 2, 16] [700] ?_
 refine W.cond rfl (fun hb2 => ?_) (fun hb2 => ?_)
 · have H := of_true H hb2
   refine W.rg env [6] [700] ?_
   refine W.ret ?_
   refine At.rthen ?_
   cases H
   exact At.retK env.ty [700] 200 rfl rfl rfl rfl (.cons (.refl _) .nil) (.of_eq (by refine bufEq ?_; first | (simp [copyAt]; done) | omega | (simp [copyAt]; omega) | rfl)) hval hdom rfl
 · have H := of_false H hb2
   refine W.skip ?_
   refine At.thenC ?_
   refine W.sr env [] [] [0, 1, 2, 7] [700] rfl rfl rfl (.cons (by first | rfl | (simp; done) | omega | (simp; omega)) .nil) .nil ?_
   refine W.seq ?_
   obtain ⟨hc3, H⟩ := of_must H
   obtain ⟨hc4, H⟩ := of_must H
   obtain ⟨hc5, H⟩ := of_must H
   refine W.region env [] [] rfl rfl (by first | rfl | kernel_rfl) (.cons (⟨by first | rfl | (simp; done) | omega | (simp; omega), hc3⟩) (.cons (⟨by first | rfl | (simp; done) | omega | (simp; omega), hc4⟩) (.cons (⟨rfl, rfl, by omega, by omega, by omega⟩) .nil))) .nil (At.keep (ts := [0, 7]) (ids := [26]) rfl rfl ?_)
   refine At.convM (.cons (y := bufkL 3 1 p0.length enc_Int (p0.take ((p1).toNat) ++ p0.drop ((p2).toNat))) (BSim.kseg (Seg.moved (f := enc_Int) (l := p0) ((p1).toNat) ((p2).toNat) (by omega) (by omega))) .nil) ?_
   refine At.thenC ?_
   refine W.seq ?_
   obtain ⟨hc6, H⟩ := of_must H
   refine W.region env [] [] rfl rfl rfl (.cons (by first | rfl | (simp; done) | omega | (simp; omega)) (.cons (⟨by first | rfl | (simp; done) | omega | (simp; omega), hc6⟩) (.cons (⟨by first | rfl | (simp; done) | omega | (simp; omega), by first | rfl | (simp; done) | omega | (simp; omega), by first | omega | (simp; omega)⟩) .nil))) .nil (At.keep (ts := [0]) (ids := [26]) rfl rfl ?_)
   refine At.convM (.cons (y := bufkL 3 1 p0.length enc_Int (p0.take ((p1).toNat) ++ p0.drop ((p2).toNat))) (BSim.kseg (Seg.refl enc_Int _)) .nil) ?_
   refine At.thenC ?_
   refine W.rg env [6] [26] ?_
   refine W.ret ?_
   cases H
   exact At.retK env.ty [26] 874 rfl rfl rfl rfl (.cons (.bufk (.refl _)) .nil) (.of_eq (by refine bufEq ?_; first | (simp [copyAt]; done) | omega | (simp [copyAt]; omega) | rfl)) hval hdom rfl
theorem co_slices_Clone_int (p0 : (List Int)) {r : (List Int)} (H : slices_Clone_int p0 = some r) : CtrO Tryz.prog 90 [roL 1 enc_Int p0] [] (.buf 900 r.length) [(900, bufL 3 1 enc_Int r)] := by
 unfold slices_Clone_int at H
 refine CtrO.of_body (N := 8) Tryz.func90 (by kernel_rfl) (c := _) rfl Tryz.ntmps90 rfl (fun w0 h0 ρb hval hdom => ?_)
 refine W.rg env [0] [] ?_
 refine W.seq ?_
 refine W.rg env [0, 4] [] ?_
 refine W.condNz rfl (fun hz => ?_) ?_
 · obtain rfl : p0 = [] := List.length_eq_zero_iff.1 hz
   obtain ⟨hc1, H⟩ := of_must H
   refine W.rg env [2] [] ?_
   refine W.ret ?_
   refine At.rthen ?_
   cases H
   refine At.nilOwn 2 800 3 1 (e := fun i => enc_Int (([] : List Int).getD i default)) rfl rfl ?_
   exact At.retK env.ty [800] 100 rfl rfl rfl rfl (.cons (.refl _) .nil) (.of_eq (by refine bufEq ?_; first | (simp [copyAt]; done) | omega | (simp [copyAt]; omega) | rfl)) hval hdom rfl
 · refine W.skip ?_
   refine At.thenC ?_
   refine W.seq ?_
   obtain ⟨hc1, H⟩ := of_must H
   refine W.region env [5] [] rfl rfl rfl (.cons (⟨by first | rfl | (simp; done) | omega | (simp; omega), by have := hc1; first | simpa using this | (unfold room at this ⊢; simp at this ⊢; omega)⟩) .nil) .nil (At.keep (ts := [2]) (ids := [5]) rfl rfl ?_)
   refine At.convM (.cons (y := bufL 3 1 enc_Int (([] : List Int) ++ p0)) (BSim.seg (Seg.push (Seg.lit (f := enc_Int) (sz := 1) ([] : List Int) rfl rfl (fun _ => rfl)) (Seg.refl enc_Int p0))) .nil) ?_
   refine At.thenC ?_
   refine W.ret ?_
   cases H
   exact At.retK env.ty [5] 895 rfl rfl rfl rfl (.cons (.refl _) .nil) (.of_eq (by refine bufEq ?_; first | (simp [copyAt]; done) | omega | (simp [copyAt]; omega) | rfl)) hval hdom rfl
theorem c_fog_Short (fuel : Nat) (p0 : (List Node)) (p1 : (List Runner)) (p2 : Int) {r : ((List Int) × Int)} (H : fog_Short fuel p0 p1 p2 = some r) : Ctr Tryz.prog 26 [roL 8 enc_Node p0, roL 2 enc_Runner p1, .int .i64 (p2)] (.tup [roL 1 enc_Int r.1, .int .i64 (r.2)]) := by
 unfold fog_Short at H
 refine Ctr.of_body (N := 62) Tryz.func26 (by kernel_rfl) (c := _) rfl Tryz.ntmps26 rfl (fun w0 h0 hval => ?_)
 refine W.rg env [0, 1, 2] [] ?_
 refine W.seq ?_
 obtain ⟨y1, hy2, H⟩ := of_bindO H
 refine W.region env [] [⟨.tup [.agg [.bool (y1.1.Test), .int .i64 (y1.1.District), .int .i64 (y1.1.Minute), .int .i64 (y1.1.Limit), .int .i64 (y1.1.Yes), .int .i64 (y1.1.No), .int .i64 (y1.1.Maybe), roL 2 enc_Send y1.1.Sends], .int .i64 (y1.2)], [], 0, []⟩] rfl rfl rfl .nil (.free (c_fog_leaf p0 p1 p2 hy2) .nil) (At.keep (ts := [1, 8, 9]) (ids := [8]) rfl rfl ?_)
 refine At.thenC ?_
 refine W.seq ?_
 refine W.rg env [1, 8, 9, 23] [8] ?_
 refine W.cond rfl (fun hb3 => ?_) (fun hb3 => ?_)
 · have H := of_true H hb3
   refine W.rg env [6, 7] [] ?_
   refine W.ret ?_
   refine At.rthen ?_
   cases H
   exact At.ret env.ty rfl rfl (fun q hq => by cases hq) (Sim.tupL (.cons (Sim.nil _ _) (.cons (.refl _) .nil))) hval
 · have H := of_false H hb3
   refine W.skip ?_
   refine At.thenC ?_
   refine W.rg env [1, 8, 10] [8] ?_
   refine W.seq ?_
   refine W.rg env [1, 8, 10, 26, 27, 28] [8] ?_
   refine W.block ?_
   refine At.nilOwn 10 510 3 1 (e := fun i => enc_Int (([] : List Int).getD i default)) rfl rfl ?_
   refine At.keep (ts := [1, 8, 10, 26, 27, 28]) (ids := [8, 510]) rfl rfl ?_
   refine W.len (t := 26) rfl (fun (hn4 : y1.1.Sends.length ≤ maxLen) => ?_)
   refine W.rangeGo H (fun i4 (s4 : (List Int)) => [(1, roL 2 enc_Runner p1), (8, .lp 8 0), (10, .buf 510 (s4).length), (26, roL 2 enc_Send y1.1.Sends), (27, .int .i64 (((y1.1.Sends.length : Nat) : Int))), (28, .int .i64 ((i4 : Int)))]) (fun i4 (s4 : (List Int)) => [(8, .cells [.bool (y1.1.Test), .int .i64 (y1.1.District), .int .i64 (y1.1.Minute), .int .i64 (y1.1.Limit), .int .i64 (y1.1.Yes), .int .i64 (y1.1.No), .int .i64 (y1.1.Maybe), roL 2 enc_Send y1.1.Sends]), (510, bufL 3 1 enc_Int s4)]) (.cons .q (.cons .q (.cons .qb (.cons .q (.cons .qi (.cons .qi .nil)))))) (.cons .q (.cons .q .nil)) (fun k4 i4 s4 hle4 H1 H2 K0 hK4 => ?_)
   refine W.rg env [1, 8, 10, 26, 27, 28, 29] [8, 510] ?_
   refine W.seq ?_
   refine W.cond rfl (fun hb5 => ?_) (fun hb5 => ?_)
   · have hi4 : i4 < y1.1.Sends.length := by have := of_decide_eq_true hb5; omega
     have H := H1 hi4
     refine W.skip ?_
     refine At.thenC ?_
     refine W.seq ?_
     refine W.block ?_
     refine W.sr env [] [] [1, 8, 10, 12, 26, 27, 28] [8, 12, 510] rfl rfl rfl (.cons (⟨by omega, by omega⟩ : 0 ≤ (i4 : Int) ∧ (i4 : Int) < ((y1.1.Sends.length : Nat) : Int)) .nil) .nil ?_
     obtain ⟨hc6, H⟩ := of_must H
     refine W.region env [] [] rfl rfl rfl (.cons (⟨by first | rfl | (simp; done) | omega | (simp; omega), by have := hc6; first | simpa using this | (unfold room at this ⊢; simp at this ⊢; omega)⟩) .nil) .nil (At.keep (ts := [1, 8, 10, 26, 27, 28]) (ids := [8, 510]) rfl rfl ?_)
     refine At.convM (.cons (.refl _) (.cons (y := bufL 3 1 enc_Int (s4 ++ ([(y1.1.Sends.getD i4 default).District] : List Int))) (BSim.seg (Seg.push (Seg.refl enc_Int _) (Seg.lit (f := enc_Int) (sz := 1) ([(y1.1.Sends.getD i4 default).District] : List Int) rfl rfl (fun _ => rfl)))) .nil)) ?_
     refine At.inb ?_
     refine At.thenC ?_
     refine W.region env [] [] rfl rfl rfl (.cons (by unfold inI; have := hn4; (try unfold maxLen at this); omega) .nil) .nil (At.keep (ts := [1, 8, 10, 26, 27, 28]) (ids := [8, 510]) rfl rfl ?_)
     refine At.thenK (At.keep (ts := [1, 8, 10, 26, 27, 28]) (ids := [8, 510]) rfl rfl ?_)
     exact At.conv (.cons .q (.cons .q (.cons .qb (.cons .q (.cons .qi (.cons .qi .nil)))))) (.cons .q (.cons .q .nil)) (hK4 hi4 (s4 ++ ([(y1.1.Sends.getD i4 default).District] : List Int)) H)
   · have H := H2 (by have := of_decide_eq_false hb5; omega)
     refine W.exit ?_
     refine At.xthen ?_
     refine At.xthen ?_
     refine At.xhere ?_
     refine At.thenC ?_
     refine W.seq ?_
     refine W.seq ?_
     obtain ⟨y7, hy8, H⟩ := of_bindO H
     refine W.region env [] [⟨.bool (y7), [], 0, []⟩] rfl rfl rfl (.cons (by first | rfl | (simp; done) | omega | (simp; omega)) .nil) (.free (c_fog_some y1.1 p1 s4 hy8) .nil) (At.keep (ts := [1, 8, 10, 42]) (ids := [8, 510]) rfl rfl ?_)
     refine At.thenC ?_
     refine W.cond rfl (fun hb9 => ?_) (fun hb9 => ?_)
     · have H := of_true H hb9
       refine W.rg env [6, 7] [] ?_
       refine W.ret ?_
       refine At.rthen ?_
       cases H
       exact At.ret env.ty rfl rfl (fun q hq => by cases hq) (Sim.tupL (.cons (Sim.nil _ _) (.cons (.refl _) .nil))) hval
     · have H := of_false H hb9
       refine W.skip ?_
       refine At.thenC ?_
       refine W.seq ?_
       obtain ⟨hc10, H⟩ := of_must H
       refine W.sr env [] [] [1, 8, 10, 13] [8, 510] rfl rfl rfl (.cons (by first | rfl | (simp; done) | omega | (simp; omega)) (.cons hc10 .nil)) .nil ?_
       refine W.block ?_
       refine At.freezeA 510 (K := [8]) (ts := [1, 8, 10, 13]) rfl rfl rfl rfl (.cons (by first | rfl | (simp; done) | omega | (simp; omega)) .nil) .nil (fun _ h => h) ?_
       refine At.keep (ts := [1, 8, 10, 13]) (ids := [8]) rfl rfl ?_
       refine W.loopGo H (fun (s11 : Int × (List Int)) => [(1, roL 2 enc_Runner p1), (8, .lp 8 0), (10, roL 1 enc_Int s11.2), (13, .int .i64 (s11.1))]) (fun (s11 : Int × (List Int)) => [(8, .cells [.bool (y1.1.Test), .int .i64 (y1.1.District), .int .i64 (y1.1.Minute), .int .i64 (y1.1.Limit), .int .i64 (y1.1.Yes), .int .i64 (y1.1.No), .int .i64 (y1.1.Maybe), roL 2 enc_Send y1.1.Sends])]) (.cons .q (.cons .q (.cons .q (.cons .qi .nil)))) (.cons .q .nil) (fun k11 s11 H K0 hK11 => ?_)
       refine W.seq ?_
       refine W.rg env [1, 8, 10, 13, 47] [8] ?_
       refine W.cond rfl (fun hb12 => ?_) (fun hb12 => ?_)
       · have H := of_true H hb12
         refine W.skip ?_
         refine At.thenC ?_
         refine W.seq ?_
         refine W.block ?_
         refine W.seq ?_
         obtain ⟨y13, hy14, H⟩ := of_bindO H
         obtain ⟨hc15, H⟩ := of_must H
         obtain ⟨y16, hy17, H⟩ := of_bindO H
         refine W.region env [] [⟨.buf 900 y13.length, [(900, bufL 3 1 enc_Int y13)], 52000, []⟩, ⟨.buf 900 y16.length, [(52900, .dead), (900, bufL 3 1 enc_Int y16)], 56000, []⟩] rfl rfl (by kernel_rfl) (.cons hc15 .nil) (.free ((Ctr.ofO (co_slices_Clone_int s11.2 hy14))) (.free (CtrO.sim (CtrO.at (co_slices_Delete_int y13 s11.1 (s11.1 + 1) hy17) rfl 52900) (.cons .qc (.cons (.refl _) (.cons (.refl _) .nil))) (.cons (.refl _) .nil)) .nil)) (At.keep (ts := [1, 8, 10, 13, 14]) (ids := [8, 56900]) rfl rfl ?_)
         refine At.thenC ?_
         refine W.seq ?_
         obtain ⟨y18, hy19, H⟩ := of_bindO H
         refine W.region env [] [⟨.bool (y18), [], 0, []⟩] rfl rfl rfl (.cons (by first | rfl | (simp; done) | omega | (simp; omega)) .nil) (.free (c_fog_some y1.1 p1 y16 hy19) .nil) (At.keep (ts := [1, 8, 10, 13, 14, 59]) (ids := [8, 56900]) rfl rfl ?_)
         refine At.thenC ?_
         refine W.cond rfl (fun hb20 => ?_) (fun hb20 => ?_)
         · have H := of_true H hb20
           refine W.region env [] [] rfl rfl rfl .nil .nil (At.keep (ts := [1, 8, 10, 13]) (ids := [8, 56900]) rfl rfl ?_)
           refine At.inb ?_
           refine At.thenC ?_
           obtain ⟨hc21, H⟩ := of_must H
           refine W.region env [] [] rfl rfl rfl (.cons hc21 .nil) .nil (At.keep (ts := [1, 8, 10, 13]) (ids := [8, 56900]) rfl rfl ?_)
           refine At.freezeA 56900 (K := [8]) (ts := [1, 8, 10, 13]) rfl rfl rfl rfl (.cons (by first | rfl | (simp; done) | omega | (simp; omega)) .nil) .nil (fun _ h => h) ?_
           refine At.thenK (At.keep (ts := [1, 8, 10, 13]) (ids := [8]) rfl rfl ?_)
           exact At.conv (.cons .q (.cons .q (.cons .q (.cons .qi .nil)))) (.cons .q .nil) (hK11 ((s11.1 - 1), y16) H)
         · have H := of_false H hb20
           refine W.skip ?_
           refine At.inb ?_
           refine At.thenC ?_
           obtain ⟨hc22, H⟩ := of_must H
           refine W.region env [] [] rfl rfl rfl (.cons hc22 .nil) .nil (At.keep (ts := [1, 8, 10, 13]) (ids := [8]) rfl rfl ?_)
           refine At.thenK (At.keep (ts := [1, 8, 10, 13]) (ids := [8]) rfl rfl ?_)
           exact At.conv (.cons .q (.cons .q (.cons .q (.cons .qi .nil)))) (.cons .q .nil) (hK11 ((s11.1 - 1), s11.2) H)
       · have H := of_false H hb12
         refine W.exit ?_
         refine At.xthen ?_
         refine At.xthen ?_
         refine At.xhere ?_
         refine At.thenC ?_
         refine W.rg env [6, 7] [] ?_
         refine W.ret ?_
         cases H
         exact At.ret env.ty rfl rfl (fun q hq => by cases hq) (.refl _) hval
theorem c_fog_Moved_1 (p0 : Report) (c0 : Int) : Ctr Tryz.prog 65 [.agg [.int .i64 (p0.Source), .int .i64 (p0.District), .int .i64 (p0.Night), .int .i64 (p0.From), .int .i64 (p0.To), .int .i64 (p0.Sight.Lo), .int .i64 (p0.Sight.Hi), .int .i64 (p0.Known), .int .i64 (p0.Until)], .rp [.int .i64 (c0)]] (.bool ((fog_Moved_1 p0 c0))) := by
 obtain ⟨r, H⟩ : ∃ r, fog_Moved_1 p0 c0 = r := ⟨_, rfl⟩
 rw [H]
 unfold fog_Moved_1 at H
 refine Ctr.of_body (N := 8) Tryz.func65 (by kernel_rfl) (c := _) rfl Tryz.ntmps65 rfl (fun w0 h0 hval => ?_)
 refine W.rg env [1, 2] [2] ?_
 refine W.rg env [3] [] ?_
 refine W.ret ?_
 cases H
 exact At.ret env.ty rfl rfl (fun q hq => by cases hq) (.refl _) hval
theorem co_slices_Delete_Report (p0 : (List Report)) (p1 : Int) (p2 : Int) {r : (List Report)} (H : slices_Delete_Report p0 p1 p2 = some r) : CtrO Tryz.prog 66 [.buf 700 (p0).length, .int .i64 (p1), .int .i64 (p2)] [(700, bufL 90 9 enc_Report p0)] (.buf 900 r.length) [(900, bufL 90 9 enc_Report r)] := by
 unfold slices_Delete_Report at H
 refine CtrO.of_body (N := 33) Tryz.func66 (by kernel_rfl) (c := _) rfl Tryz.ntmps66 rfl (fun w0 h0 ρb hval hdom => ?_)
 refine W.rg env [0, 1, 2] [700] ?_
 obtain ⟨hc1, H⟩ := of_must H
 refine W.sr env [] [] [0, 1, 2] [700] rfl rfl rfl (.cons (by first | rfl | (simp; done) | omega | (simp; omega)) (.cons (⟨by first | rfl | (simp; done) | omega | (simp; omega), hc1⟩) .nil)) .nil ?_
 refine W.seq ?_
 refine W.rg env [0, 1, 2, 16] [700] ?_
 refine W.cond rfl (fun hb2 => ?_) (fun hb2 => ?_)
 · have H := of_true H hb2
   refine W.rg env [6] [700] ?_
   refine W.ret ?_
   refine At.rthen ?_
   cases H
   exact At.retK env.ty [700] 200 rfl rfl rfl rfl (.cons (.refl _) .nil) (.of_eq (by refine bufEq ?_; first | (simp [copyAt]; done) | omega | (simp [copyAt]; omega) | rfl)) hval hdom rfl
 · have H := of_false H hb2
   refine W.skip ?_
   refine At.thenC ?_
   refine W.sr env [] [] [0, 1, 2, 7] [700] rfl rfl rfl (.cons (by first | rfl | (simp; done) | omega | (simp; omega)) .nil) .nil ?_
   refine W.seq ?_
   obtain ⟨hc3, H⟩ := of_must H
   obtain ⟨hc4, H⟩ := of_must H
   obtain ⟨hc5, H⟩ := of_must H
   refine W.region env [] [] rfl rfl (by first | rfl | kernel_rfl) (.cons (⟨by first | rfl | (simp; done) | omega | (simp; omega), hc3⟩) (.cons (⟨by first | rfl | (simp; done) | omega | (simp; omega), hc4⟩) (.cons (⟨rfl, rfl, by omega, by omega, by omega⟩) .nil))) .nil (At.keep (ts := [0, 7]) (ids := [26]) rfl rfl ?_)
   refine At.convM (.cons (y := bufkL 90 9 p0.length enc_Report (p0.take ((p1).toNat) ++ p0.drop ((p2).toNat))) (BSim.kseg (Seg.moved (f := enc_Report) (l := p0) ((p1).toNat) ((p2).toNat) (by omega) (by omega))) .nil) ?_
   refine At.thenC ?_
   refine W.seq ?_
   obtain ⟨hc6, H⟩ := of_must H
   refine W.region env [] [] rfl rfl rfl (.cons (by first | rfl | (simp; done) | omega | (simp; omega)) (.cons (⟨by first | rfl | (simp; done) | omega | (simp; omega), hc6⟩) (.cons (⟨by first | rfl | (simp; done) | omega | (simp; omega), by first | rfl | (simp; done) | omega | (simp; omega), by first | omega | (simp; omega)⟩) .nil))) .nil (At.keep (ts := [0]) (ids := [26]) rfl rfl ?_)
   refine At.convM (.cons (y := bufkL 90 9 p0.length enc_Report (p0.take ((p1).toNat) ++ p0.drop ((p2).toNat))) (BSim.kseg (Seg.refl enc_Report _)) .nil) ?_
   refine At.thenC ?_
   refine W.rg env [6] [26] ?_
   refine W.ret ?_
   cases H
   exact At.retK env.ty [26] 874 rfl rfl rfl rfl (.cons (.bufk (.refl _)) .nil) (.of_eq (by refine bufEq ?_; first | (simp [copyAt]; done) | omega | (simp [copyAt]; omega) | rfl)) hval hdom rfl
theorem c_fog_Moved (fuel : Nat) (p0 : (List Node)) (p1 : (List Report)) (p2 : Int) (p3 : Int) (p4 : Int) {r : (Bool × (List Int) × Int)} (H : fog_Moved fuel p0 p1 p2 p3 p4 = some r) : Ctr Tryz.prog 12 [roL 8 enc_Node p0, roL 9 enc_Report p1, .int .i64 (p2), .int .i64 (p3), .int .i64 (p4)] (.tup [.bool (r.1), roL 1 enc_Int r.2.1, .int .i64 (r.2.2)]) := by
 unfold fog_Moved at H
 refine Ctr.of_body (N := 119) Tryz.func12 (by kernel_rfl) (c := _) rfl Tryz.ntmps12 rfl (fun w0 h0 hval => ?_)
 refine W.rg env [0, 1, 3, 4, 7] [7] ?_
 refine W.seq ?_
 refine W.seq ?_
 obtain ⟨y1, hy2, H⟩ := of_bindO H
 refine W.region env [] [⟨.int .i64 (y1), [], 0, []⟩] rfl rfl rfl .nil (.free (c_fog_asked p0 p1 p3 p4 hy2) .nil) (At.keep (ts := [0, 1, 3, 4, 7, 13]) (ids := [7]) rfl rfl ?_)
 refine At.thenC ?_
 refine W.rg env [0, 1, 3, 4, 7, 13, 32] [7] ?_
 refine W.cond rfl (fun hb3 => ?_) (fun hb3 => ?_)
 · have H := of_true H hb3
   refine W.rg env [10, 11, 12] [] ?_
   refine W.ret ?_
   refine At.rthen ?_
   cases H
   exact At.ret env.ty rfl rfl (fun q hq => by cases hq) (Sim.tupL (.cons (.refl _) (.cons (Sim.nil _ _) (.cons (.refl _) .nil)))) hval
 · have H := of_false H hb3
   refine W.skip ?_
   refine At.thenC ?_
   refine W.seq ?_
   obtain ⟨y4, hy5, H⟩ := of_bindO H
   refine W.region env [] [⟨.int .i64 (y4), [], 0, []⟩] rfl rfl rfl .nil (.free (c_slices_IndexFunc_Report p1 (fun x0 => some (fog_Moved_1 x0 p2)) 65 [] ([.rp [.int .i64 (p2)]]) (fun x0 r h => by cases h; exact c_fog_Moved_1 x0 p2) hy5) .nil) (At.keep (ts := [0, 1, 3, 4, 14]) (ids := []) rfl rfl ?_)
   refine At.thenC ?_
   refine W.seq ?_
   refine W.rg env [0, 1, 3, 4, 14, 38] [] ?_
   refine W.cond rfl (fun hb6 => ?_) (fun hb6 => ?_)
   · have H := of_true H hb6
     refine W.rg env [10, 11, 12] [] ?_
     refine W.ret ?_
     refine At.rthen ?_
     cases H
     exact At.ret env.ty rfl rfl (fun q hq => by cases hq) (Sim.tupL (.cons (.refl _) (.cons (Sim.nil _ _) (.cons (.refl _) .nil)))) hval
   · have H := of_false H hb6
     refine W.skip ?_
     refine At.thenC ?_
     refine W.seq ?_
     obtain ⟨y7, hy8, H⟩ := of_bindO H
     obtain ⟨hc9, H⟩ := of_must H
     obtain ⟨y10, hy11, H⟩ := of_bindO H
     refine W.region env [] [⟨.buf 900 y7.length, [(900, bufL 90 9 enc_Report y7)], 41000, []⟩, ⟨.buf 900 y10.length, [(41900, .dead), (900, bufL 90 9 enc_Report y10)], 45000, []⟩] rfl rfl (by kernel_rfl) (.cons hc9 .nil) (.free ((Ctr.ofO (co_slices_Clone_Report p1 hy8))) (.free (CtrO.sim (CtrO.at (co_slices_Delete_Report y7 y4 (y4 + 1) hy11) rfl 41900) (.cons .qc (.cons (.refl _) (.cons (.refl _) .nil))) (.cons (.refl _) .nil)) .nil)) (At.keep (ts := [0, 1, 3, 4, 14, 15]) (ids := [45900]) rfl rfl ?_)
     refine At.thenC ?_
     refine W.seq ?_
     refine At.freezeA 45900 (K := []) (ts := [0, 1, 3, 4, 14, 15]) rfl rfl rfl rfl (.cons (by first | rfl | (simp; done) | omega | (simp; omega)) .nil) .nil (fun _ h => h) ?_
     obtain ⟨y12, hy13, H⟩ := of_bindO H
     obtain ⟨y14, hy15, H⟩ := of_bindO H
     refine W.region env [] [⟨roL 1 enc_Int y12, [], 0, []⟩, ⟨roL 1 enc_Int y14, [], 0, []⟩] rfl rfl rfl .nil (.free (c_fog_path fuel p0 p1 p3 hy13) (.free (c_fog_path fuel p0 y10 p3 hy15) .nil)) (At.keep (ts := [1, 3, 4, 14, 15, 16, 17]) (ids := []) rfl rfl ?_)
     refine At.thenC ?_
     refine W.seq ?_
     obtain ⟨hc16, H⟩ := of_must H
     obtain ⟨y17, hy18, H⟩ := of_bindO H
     obtain ⟨hc19, H⟩ := of_must H
     obtain ⟨y20, hy21, H⟩ := of_bindO H
     refine W.region env [] [⟨roL 9 enc_Report y17, [], 0, []⟩, ⟨roL 9 enc_Report y20, [], 0, []⟩] rfl rfl (by kernel_rfl) (.cons hc16 (.cons hc19 .nil)) (.free (c_fog_see fuel p1 ((p1.getD (y4).toNat default).District) p3 p4 hy18) (.free (c_fog_see fuel y10 ((p1.getD (y4).toNat default).District) p3 p4 hy21) .nil)) (At.keep (ts := [16, 17, 18, 19]) (ids := []) rfl rfl ?_)
     refine At.thenC ?_
     refine W.seq ?_
     obtain ⟨y22, hy23, H⟩ := of_bindO H
     refine W.region env [] [⟨.tup [roL 1 enc_Int y22.1, .bool (y22.2)], [], 0, []⟩] rfl rfl rfl .nil (.free (c_fog_view__pair y17 hy23) .nil) (At.keep (ts := [16, 17, 18, 19, 21]) (ids := []) rfl rfl ?_)
     refine At.thenC ?_
     refine W.seq ?_
     obtain ⟨y24, hy25, H⟩ := of_bindO H
     refine W.region env [] [⟨.tup [roL 1 enc_Int y24.1, .bool (y24.2)], [], 0, []⟩] rfl rfl rfl .nil (.free (c_fog_view__pair y20 hy25) .nil) (At.keep (ts := [16, 17, 18, 19, 21, 23]) (ids := []) rfl rfl ?_)
     refine At.thenC ?_
     refine W.rg env [16, 17, 18, 19, 21, 23, 24] [] ?_
     refine W.seq ?_
     refine W.rg env [16, 17, 18, 19, 21, 23, 24, 81] [] ?_
     refine W.block ?_
     refine At.nilOwn 24 524 3 1 (e := fun i => enc_Int (([] : List Int).getD i default)) rfl rfl ?_
     refine At.keep (ts := [16, 17, 18, 19, 21, 23, 24, 81]) (ids := [524]) rfl rfl ?_
     have hn26 : 1440 ≤ 9223372036854775807 := by decide
     refine W.rangeGo H (fun i26 (s26 : (List Int)) => [(16, roL 1 enc_Int y12), (17, roL 1 enc_Int y14), (18, roL 9 enc_Report y17), (19, roL 9 enc_Report y20), (21, .bool (y22.2)), (23, .bool (y24.2)), (24, .buf 524 (s26).length), (81, .int .i64 ((i26 : Int)))]) (fun i26 (s26 : (List Int)) => [(524, bufL 3 1 enc_Int s26)]) (.cons .q (.cons .q (.cons .q (.cons .q (.cons .q (.cons .q (.cons .qb (.cons .qi .nil)))))))) (.cons .q .nil) (fun k26 i26 s26 hle26 H1 H2 K0 hK26 => ?_)
     refine W.rg env [16, 17, 18, 19, 21, 23, 24, 81, 82] [524] ?_
     refine W.seq ?_
     refine W.cond rfl (fun hb27 => ?_) (fun hb27 => ?_)
     · have hi26 : i26 < 1440 := by have := of_decide_eq_true hb27; omega
       have H := H1 hi26
       refine W.skip ?_
       refine At.thenC ?_
       refine W.seq ?_
       refine W.block ?_
       refine W.rg env [16, 17, 18, 19, 21, 23, 24, 25, 81] [524] ?_
       refine W.seq ?_
       obtain ⟨y28, hy29, H⟩ := of_bindO H
       obtain ⟨y30, hy31, H⟩ := of_bindO H
       refine W.region env [] [⟨.agg [.int .i64 (y28.Lo), .int .i64 (y28.Hi)], [], 0, []⟩, ⟨.agg [.int .i64 (y30.Lo), .int .i64 (y30.Hi)], [], 0, []⟩] rfl rfl rfl (.cons (fun h => h) (.cons (fun h => h) (.cons (fun h => h) (.cons (fun h => h) (.cons (fun h => h) (.cons (fun h => h) (.cons (fun h => h) (.cons (fun h => h) (.cons (fun h => h) (.cons (fun hW h => by revert hW h; first | (simp +contextual; done) | grind) (.cons (fun h => by rw [h]; rfl) .nil))))))))))) (.on (fun hW => c_fog_view__sight y17 (i26 : Int) (of_true hy29 hW)) (.on (fun hW => c_fog_view__sight y20 (i26 : Int) (of_true hy31 hW)) .nil)) (At.keep (ts := [16, 17, 18, 19, 21, 23, 24, 25, 81, 99]) (ids := [524]) rfl rfl ?_)
       refine At.thenC ?_
       refine W.cond rfl (fun hb32 => ?_) (fun hb32 => ?_)
       · have H := of_true H hb32
         obtain ⟨hc33, H⟩ := of_must H
         refine W.region env [] [] rfl rfl rfl (.cons (⟨by first | rfl | (simp; done) | omega | (simp; omega), by have := hc33; first | simpa using this | (unfold room at this ⊢; simp at this ⊢; omega)⟩) .nil) .nil (At.keep (ts := [16, 17, 18, 19, 21, 23, 24, 81]) (ids := [524]) rfl rfl ?_)
         refine At.convM (.cons (y := bufL 3 1 enc_Int (s26 ++ ([(i26 : Int)] : List Int))) (BSim.seg (Seg.push (Seg.refl enc_Int _) (Seg.lit (f := enc_Int) (sz := 1) ([(i26 : Int)] : List Int) rfl rfl (fun _ => rfl)))) .nil) ?_
         refine At.inb ?_
         refine At.thenC ?_
         refine W.region env [] [] rfl rfl rfl (.cons (by unfold inI; have := hn26; (try unfold maxLen at this); omega) .nil) .nil (At.keep (ts := [16, 17, 18, 19, 21, 23, 24, 81]) (ids := [524]) rfl rfl ?_)
         refine At.thenK (At.keep (ts := [16, 17, 18, 19, 21, 23, 24, 81]) (ids := [524]) rfl rfl ?_)
         exact At.conv (.cons .q (.cons .q (.cons .q (.cons .q (.cons .q (.cons .q (.cons .qb (.cons .qi .nil)))))))) (.cons .q .nil) (hK26 hi26 (s26 ++ ([(i26 : Int)] : List Int)) H)
       · have H := of_false H hb32
         refine W.skip ?_
         refine At.inb ?_
         refine At.thenC ?_
         refine W.region env [] [] rfl rfl rfl (.cons (by unfold inI; have := hn26; (try unfold maxLen at this); omega) .nil) .nil (At.keep (ts := [16, 17, 18, 19, 21, 23, 24, 81]) (ids := [524]) rfl rfl ?_)
         refine At.thenK (At.keep (ts := [16, 17, 18, 19, 21, 23, 24, 81]) (ids := [524]) rfl rfl ?_)
         exact At.conv (.cons .q (.cons .q (.cons .q (.cons .q (.cons .q (.cons .q (.cons .qb (.cons .qi .nil)))))))) (.cons .q .nil) (hK26 hi26 s26 H)
     · have H := H2 (by have := of_decide_eq_false hb27; omega)
       refine W.exit ?_
       refine At.xthen ?_
       refine At.xthen ?_
       refine At.xhere ?_
       refine At.thenC ?_
       obtain ⟨hc34, H⟩ := of_must H
       obtain ⟨hc35, H⟩ := of_must H
       obtain ⟨hc36, H⟩ := of_must H
       obtain ⟨hc37, H⟩ := of_must H
       refine W.sr env [] [] [10, 11, 12] [524] rfl rfl (by first | rfl | kernel_rfl) (.cons hc34 (.cons hc35 (.cons hc36 (.cons hc37 .nil)))) .nil ?_
       refine W.ret ?_
       cases H
       exact At.ret env.ty rfl rfl (fun q hq => by cases hq; exact (by first | rfl | (simp; done) | omega | (simp; omega))) (.refl _) hval
theorem c_gasolierref05_Same (fuel : Nat) (p0 : (List Int)) (p1 : (List Int)) {r : Bool} (H : gasolierref05_Same fuel p0 p1 = some r) : Ctr Tryz.prog 14 [roL 1 enc_Int p0, roL 1 enc_Int p1] (.bool (r)) := by
 unfold gasolierref05_Same at H
 refine Ctr.of_body (N := 26) Tryz.func14 (by kernel_rfl) (c := _) rfl Tryz.ntmps14 rfl (fun w0 h0 hval => ?_)
 refine W.rg env [0, 1] [] ?_
 refine W.seq ?_
 refine W.rg env [0, 1, 10] [] ?_
 refine W.cond rfl (fun hb1 => ?_) (fun hb1 => ?_)
 · have H := of_true H hb1
   refine W.rg env [4] [] ?_
   refine W.ret ?_
   refine At.rthen ?_
   cases H
   exact At.ret env.ty rfl rfl (fun q hq => by cases hq) (.refl _) hval
 · have H := of_false H hb1
   refine W.skip ?_
   refine At.thenC ?_
   refine W.seq ?_
   refine W.rg env [0, 1, 5] [] ?_
   refine W.block ?_
   refine At.keep (ts := [0, 1, 5]) (ids := []) rfl rfl ?_
   refine W.loopGo H (fun (s2 : Int) => [(0, roL 1 enc_Int p0), (1, roL 1 enc_Int p1), (5, .int .i64 (s2))]) (fun (s2 : Int) => []) (.cons .q (.cons .q (.cons .qi .nil))) .nil (fun k2 s2 H K0 hK2 => ?_)
   refine W.seq ?_
   refine W.rg env [0, 1, 5, 14] [] ?_
   refine W.cond rfl (fun hb3 => ?_) (fun hb3 => ?_)
   · have H := of_true H hb3
     refine W.skip ?_
     refine At.thenC ?_
     refine W.seq ?_
     refine W.block ?_
     obtain ⟨hc4, H⟩ := of_must H
     obtain ⟨hc5, H⟩ := of_must H
     refine W.sr env [] [] [0, 1, 5, 25] [] rfl rfl (by first | rfl | kernel_rfl) (.cons hc4 (.cons hc5 .nil)) .nil ?_
     refine W.cond rfl (fun hb6 => ?_) (fun hb6 => ?_)
     · have H := of_true H hb6
       refine W.rg env [4] [] ?_
       refine W.ret ?_
       refine At.rinb ?_
       refine At.rthen ?_
       refine At.rthen ?_
       refine At.rinb ?_
       refine At.rthen ?_
       cases H
       exact At.ret env.ty rfl rfl (fun q hq => by cases hq) (.refl _) hval
     · have H := of_false H hb6
       refine W.skip ?_
       refine At.inb ?_
       refine At.thenC ?_
       obtain ⟨hc7, H⟩ := of_must H
       refine W.region env [] [] rfl rfl rfl (.cons hc7 .nil) .nil (At.keep (ts := [0, 1, 5]) (ids := []) rfl rfl ?_)
       refine At.thenK (At.keep (ts := [0, 1, 5]) (ids := []) rfl rfl ?_)
       exact At.conv (.cons .q (.cons .q (.cons .qi .nil))) .nil (hK2 (s2 + 1) H)
   · have H := of_false H hb3
     refine W.exit ?_
     refine At.xthen ?_
     refine At.xthen ?_
     refine At.xhere ?_
     refine At.thenC ?_
     refine W.rg env [4] [] ?_
     refine W.ret ?_
     cases H
     exact At.ret env.ty rfl rfl (fun q hq => by cases hq) (.refl _) hval
theorem c_gasolierlaw05_sane (fuel : Nat) {r : Bool} (H : gasolierlaw05_sane fuel = some r) : Ctr Tryz.prog 15 [] (.bool (r)) := by
 unfold gasolierlaw05_sane at H
 refine Ctr.of_body (N := 177) Tryz.func15 (by kernel_rfl) (c := _) rfl Tryz.ntmps15 rfl (fun w0 h0 hval => ?_)
 refine W.rg env [] [] ?_
 refine W.sr env [] [⟨roL 9 enc_Report (gasolierlaw05_reports), [], 0, []⟩] [1] [] rfl rfl rfl .nil (.free (c_gasolierlaw05_reports) .nil) ?_
 refine W.sr env [] [⟨roL 8 enc_Node (gasolierlaw05_policy), [], 0, []⟩] [1, 2] [] rfl rfl rfl .nil (.free (c_gasolierlaw05_policy) .nil) ?_
 refine W.sr env [] [⟨roL 2 enc_Runner (gasolierlaw05_runners), [], 0, []⟩] [1, 2, 3] [] rfl rfl rfl .nil (.free (c_gasolierlaw05_runners) .nil) ?_
 refine W.seq ?_
 obtain ⟨hc1, H⟩ := of_must H
 obtain ⟨hc2, H⟩ := of_must H
 refine W.region env [] [] rfl rfl (by first | rfl | kernel_rfl) (.cons hc1 (.cons hc2 .nil)) .nil (At.keep (ts := [1, 2, 3, 4]) (ids := []) rfl rfl ?_)
 refine At.slot (t := 4) (v := roL 2 enc_Runner ([((gasolierlaw05_runners).getD 0 default), ((gasolierlaw05_runners).getD 2 default)] : List Runner)) (Sim.lit (f := enc_Runner) ([((gasolierlaw05_runners).getD 0 default), ((gasolierlaw05_runners).getD 2 default)] : List Runner) rfl rfl (fun _ => rfl)) ?_
 refine At.thenC ?_
 refine W.seq ?_
 obtain ⟨y3, hy4, H⟩ := of_bindO H
 refine W.region env [] [⟨.tup [.agg [.int .i64 (y3.1.Lo), .int .i64 (y3.1.Hi)], .int .i64 (y3.2)], [], 0, []⟩] rfl rfl rfl .nil (.free (c_fog_Sight fuel (gasolierlaw05_reports) 1 2 450 3400 hy4) .nil) (At.keep (ts := [1, 2, 3, 4, 5, 6]) (ids := [5]) rfl rfl ?_)
 refine At.thenC ?_
 refine W.seq ?_
 obtain ⟨y5, hy6, H⟩ := of_bindO H
 refine W.region env [] [⟨.tup [.int .i64 (y5.1), .int .i64 (y5.2)], [], 0, []⟩] rfl rfl rfl .nil (.free (c_fog_Below fuel (gasolierlaw05_reports) 1 2 450 200 3300 hy6) .nil) (At.keep (ts := [1, 2, 3, 4, 5, 6, 7, 8]) (ids := [5]) rfl rfl ?_)
 refine At.thenC ?_
 refine W.seq ?_
 obtain ⟨y7, hy8, H⟩ := of_bindO H
 refine W.region env [] [⟨.tup [roL 1 enc_Int y7.1, .int .i64 (y7.2)], [], 0, []⟩] rfl rfl rfl .nil (.free (c_fog_Clash fuel (gasolierlaw05_reports) 1 2 3500 hy8) .nil) (At.keep (ts := [1, 2, 3, 4, 5, 6, 7, 8, 9, 10]) (ids := [5]) rfl rfl ?_)
 refine At.thenC ?_
 refine W.seq ?_
 obtain ⟨y9, hy10, H⟩ := of_bindO H
 refine W.region env [] [⟨.tup [.agg [.int .i64 (y9.1.Lo), .int .i64 (y9.1.Hi)], .int .i64 (y9.2)], [], 0, []⟩] rfl rfl rfl .nil (.free (c_fog_Worst fuel (gasolierlaw05_reports) 1 2 (⟨300, 600⟩ : Range) 3400 hy10) .nil) (At.keep (ts := [1, 2, 3, 4, 5, 6, 7, 8, 9, 10, 11, 12]) (ids := [5, 11]) rfl rfl ?_)
 refine At.thenC ?_
 refine W.seq ?_
 obtain ⟨y11, hy12, H⟩ := of_bindO H
 refine W.region env [] [⟨.tup [roL 1 enc_Int y11.1, .int .i64 (y11.2)], [], 0, []⟩] rfl rfl rfl .nil (.free (c_fog_Path fuel (gasolierlaw05_policy) (gasolierlaw05_reports) 2 hy12) .nil) (At.keep (ts := [1, 2, 3, 4, 5, 6, 7, 8, 9, 10, 11, 12, 13, 14]) (ids := [5, 11]) rfl rfl ?_)
 refine At.thenC ?_
 refine W.seq ?_
 obtain ⟨y13, hy14, H⟩ := of_bindO H
 refine W.region env [] [⟨.tup [roL 1 enc_Int y13.1, .int .i64 (y13.2)], [], 0, []⟩] rfl rfl rfl .nil (.free (c_fog_Possible fuel (gasolierlaw05_policy) (gasolierlaw05_reports) 2 3300 hy14) .nil) (At.keep (ts := [1, 2, 3, 4, 5, 6, 7, 8, 9, 10, 11, 12, 13, 14, 15, 16]) (ids := [5, 11]) rfl rfl ?_)
 refine At.thenC ?_
 refine W.seq ?_
 obtain ⟨y15, hy16, H⟩ := of_bindO H
 refine W.region env [] [⟨.tup [roL 1 enc_Int y15.1, .int .i64 (y15.2)], [], 0, []⟩] rfl rfl rfl .nil (.free (c_fog_Assign fuel (gasolierlaw05_policy) (gasolierlaw05_runners) 1 hy16) .nil) (At.keep (ts := [1, 2, 4, 5, 6, 7, 8, 9, 10, 11, 12, 13, 14, 15, 16, 17, 18]) (ids := [5, 11]) rfl rfl ?_)
 refine At.thenC ?_
 refine W.seq ?_
 obtain ⟨y17, hy18, H⟩ := of_bindO H
 refine W.region env [] [⟨.tup [roL 1 enc_Int y17.1, .int .i64 (y17.2)], [], 0, []⟩] rfl rfl rfl .nil (.free (c_fog_Short fuel (gasolierlaw05_policy) ([((gasolierlaw05_runners).getD 0 default), ((gasolierlaw05_runners).getD 2 default)] : List Runner) 1 hy18) .nil) (At.keep (ts := [1, 2, 5, 6, 7, 8, 9, 10, 11, 12, 13, 14, 15, 16, 17, 18, 19, 20]) (ids := [5, 11]) rfl rfl ?_)
 refine At.thenC ?_
 refine W.seq ?_
 obtain ⟨y19, hy20, H⟩ := of_bindO H
 refine W.region env [] [⟨.tup [.bool (y19.1), roL 1 enc_Int y19.2.1, .int .i64 (y19.2.2)], [], 0, []⟩] rfl rfl rfl .nil (.free (c_fog_Moved fuel (gasolierlaw05_policy) (gasolierlaw05_reports) 2 2 3400 hy20) .nil) (At.keep (ts := [5, 6, 7, 8, 9, 10, 11, 12, 13, 14, 15, 16, 17, 18, 19, 20, 21, 22, 23]) (ids := [5, 11]) rfl rfl ?_)
 refine At.thenC ?_
 refine W.sr env [] [] [5, 7, 9, 11, 13, 15, 17, 19, 21, 22, 24] [5, 11] rfl rfl rfl (.cons (fun h => h) (.cons (fun h => h) (.cons (fun h => h) (.cons (fun h => h) (.cons (fun h => h) (.cons (fun h => h) (.cons (fun h => h) (.cons (fun h => h) (.cons (fun h => h) (.cons (fun h => h) (.cons (fun h => h) (.cons (fun h => h) (.cons (fun h => h) (.cons (fun h => h) (.cons (fun h => h) (.cons (fun h => h) .nil)))))))))))))))) .nil ?_
 refine W.seq ?_
 obtain ⟨y21, hy22, H⟩ := of_bindO H
 obtain ⟨y23, hy24, H⟩ := of_bindO H
 refine W.region env [] [⟨.bool (y21), [], 0, []⟩, ⟨.bool (y23), [], 0, []⟩] rfl rfl rfl (.cons (fun h => h) (.cons (fun h => h) (.cons (fun h => h) (.cons (fun h => h) (.cons (fun h => h) (.cons (fun h => h) (.cons (fun h => h) (.cons (fun h => h) (.cons (fun h => h) (.cons (fun h => h) (.cons (fun h => h) .nil))))))))))) (.on (fun hW => Ctr.sim (.cons (.refl _) (.cons (Sim.lit (f := enc_Int) ([2, 3] : List Int) rfl rfl (fun _ => rfl)) .nil)) (c_gasolierref05_Same fuel y7.1 ([2, 3] : List Int) (of_true hy22 hW))) (.on (fun hW => Ctr.sim (.cons (.refl _) (.cons (Sim.lit (f := enc_Int) ([0, 1] : List Int) rfl rfl (fun _ => rfl)) .nil)) (c_gasolierref05_Same fuel y11.1 ([0, 1] : List Int) (of_true hy24 hW))) .nil)) (At.keep (ts := [15, 17, 19, 21, 22, 24, 25]) (ids := []) rfl rfl ?_)
 refine At.thenC ?_
 refine W.seq ?_
 obtain ⟨y25, hy26, H⟩ := of_bindO H
 obtain ⟨y27, hy28, H⟩ := of_bindO H
 obtain ⟨y29, hy30, H⟩ := of_bindO H
 obtain ⟨hc31, H⟩ := of_must H
 refine W.region env [] [⟨.bool (y25), [], 0, []⟩, ⟨.bool (y27), [], 0, []⟩, ⟨.bool (y29), [], 0, []⟩] rfl rfl rfl (.cons (fun h => h) (.cons (fun h => h) (.cons (fun h => h) (.cons (fun h => h) (.cons (fun h => h) (.cons (fun h => h) (.cons (fun h => h) (.cons (fun h => h) (.cons (fun h => h) (.cons (fun h => h) (.cons (fun h => h) (.cons (fun h => h) (.cons (fun h => h) (.cons (fun h => h) (.cons hc31 (.cons (fun h => h) (.cons (fun h => h) (.cons (fun h => h) (.cons (fun h => h) .nil))))))))))))))))))) (.on (fun hW => Ctr.sim (.cons (.refl _) (.cons (Sim.lit (f := enc_Int) ([1, 2, 3] : List Int) rfl rfl (fun _ => rfl)) .nil)) (c_gasolierref05_Same fuel y13.1 ([1, 2, 3] : List Int) (of_true hy26 hW))) (.on (fun hW => Ctr.sim (.cons (.refl _) (.cons (Sim.lit (f := enc_Int) ([10, 11, 12] : List Int) rfl rfl (fun _ => rfl)) .nil)) (c_gasolierref05_Same fuel y15.1 ([10, 11, 12] : List Int) (of_true hy28 hW))) (.on (fun hW => Ctr.sim (.cons (.refl _) (.cons (Sim.lit (f := enc_Int) ([1] : List Int) rfl rfl (fun _ => rfl)) .nil)) (c_gasolierref05_Same fuel y17.1 ([1] : List Int) (of_true hy30 hW))) .nil))) (At.keep (ts := [0]) (ids := []) rfl rfl ?_)
 refine At.thenC ?_
 refine W.ret ?_
 cases H
 exact At.ret env.ty rfl rfl (fun q hq => by cases hq) (.refl _) hval
theorem c_gasolierlaw05_FogJoins (fuel : Nat) (p0 : (List (Arr7 Int))) (p1 : (List Int)) (p2 : (Arr3 Int)) {r : Bool} (H : gasolierlaw05_FogJoins fuel p0 p1 p2 = some r) : Ctr Tryz.prog 8 [roL 7 enc_Arr7Int p0, roL 1 enc_Int p1, .agg [.int .i64 (p2.x0), .int .i64 (p2.x1), .int .i64 (p2.x2)]] (.bool (r)) := by
 unfold gasolierlaw05_FogJoins at H
 refine Ctr.of_body (N := 131) Tryz.func8 (by kernel_rfl) (c := _) rfl Tryz.ntmps8 rfl (fun w0 h0 hval => ?_)
 refine W.rg env [0, 1, 5] [5] ?_
 refine W.seq ?_
 obtain ⟨y1, hy2, H⟩ := of_bindO H
 refine W.region env [] [⟨roL 9 enc_Report y1, [], 0, []⟩] rfl rfl rfl .nil (.free (c_gasolierref05_Made fuel p0 p1 hy2) .nil) (At.keep (ts := [1, 5, 7]) (ids := [5]) rfl rfl ?_)
 refine At.thenC ?_
 refine W.seq ?_
 obtain ⟨hc3, H⟩ := of_must H
 refine W.region env [25] [] rfl rfl rfl (.cons (⟨by first | rfl | (simp; done) | omega | (simp; omega), by have := hc3; first | simpa using this | (unfold room at this ⊢; simp at this ⊢; omega)⟩) .nil) .nil (At.keep (ts := [1, 5, 7, 8]) (ids := [5, 25]) rfl rfl ?_)
 refine At.convM (.cons (.refl _) (.cons (y := bufL 90 9 enc_Report (([] : List Report) ++ y1)) (BSim.seg (Seg.push (Seg.lit (f := enc_Report) (sz := 9) ([] : List Report) rfl rfl (fun _ => rfl)) (Seg.refl enc_Report y1))) .nil)) ?_
 refine At.thenC ?_
 refine W.rg env [1, 5, 7, 8, 9] [5, 25] ?_
 refine W.seq ?_
 refine W.rg env [1, 5, 7, 8, 9, 10] [5, 25] ?_
 refine W.block ?_
 refine At.freezeA 25 (K := [5]) (ts := [1, 5, 7, 8, 9, 10]) rfl rfl rfl rfl (.cons (by first | rfl | (simp; done) | omega | (simp; omega)) .nil) .nil (fun _ h => h) ?_
 refine At.keep (ts := [1, 5, 7, 8, 9, 10]) (ids := [5]) rfl rfl ?_
 refine W.loopGo H (fun (s4 : Int × (List Report) × (List Report)) => [(1, roL 1 enc_Int p1), (5, .lp 5 0), (7, roL 9 enc_Report y1), (8, roL 9 enc_Report s4.2.1), (9, roL 9 enc_Report s4.2.2), (10, .int .i64 (s4.1))]) (fun (s4 : Int × (List Report) × (List Report)) => [(5, .cells [.int .i64 (p2.x0), .int .i64 (p2.x1), .int .i64 (p2.x2)])]) (.cons .q (.cons .q (.cons .q (.cons .q (.cons (Sim.nil _ _) (.cons .qi .nil)))))) (.cons .q .nil) (fun k4 s4 H K0 hK4 => ?_)
 refine W.seq ?_
 refine W.rg env [1, 5, 7, 8, 9, 10, 30] [5] ?_
 refine W.cond rfl (fun hb5 => ?_) (fun hb5 => ?_)
 · have H := of_true H hb5
   refine W.skip ?_
   refine At.thenC ?_
   refine W.seq ?_
   refine W.block ?_
   refine W.seq ?_
   obtain ⟨y6, hy7, H⟩ := of_bindO H
   obtain ⟨y8, hy9, H⟩ := of_bindO H
   refine W.region env [] [⟨.int .i64 (y6), [], 0, []⟩, ⟨.int .i64 (y8), [], 0, []⟩] rfl rfl rfl .nil (.free (c_gasolierref05_Num p1 s4.1 hy7) (.free (c_gasolierref05_Mod y6 ((s4.2.1.length : Nat) : Int) hy9) .nil)) (At.keep (ts := [1, 5, 7, 8, 9, 10, 11]) (ids := [5]) rfl rfl ?_)
   refine At.thenC ?_
   refine W.seq ?_
   obtain ⟨hc10, H⟩ := of_must H
   obtain ⟨y11, hy12, H⟩ := of_bindO H
   refine W.region env [] [⟨.tup [roL 9 enc_Report y11.1, .int .i64 (y11.2)], [], 0, []⟩] rfl rfl rfl (.cons hc10 .nil) (.free (c_fog_Add fuel s4.2.2 (s4.2.1.getD (y8).toNat default) hy12) .nil) (At.keep (ts := [1, 5, 7, 8, 10, 11, 12, 13]) (ids := [5]) rfl rfl ?_)
   refine At.thenC ?_
   refine W.seq ?_
   refine W.rg env [1, 5, 7, 8, 10, 11, 12, 49] [5] ?_
   refine W.cond rfl (fun hb13 => ?_) (fun hb13 => ?_)
   · have H := of_true H hb13
     refine W.rg env [6] [] ?_
     refine W.ret ?_
     refine At.rthen ?_
     refine At.rinb ?_
     refine At.rthen ?_
     refine At.rthen ?_
     refine At.rinb ?_
     refine At.rthen ?_
     cases H
     exact At.ret env.ty rfl rfl (fun q hq => by cases hq) (.refl _) hval
   · have H := of_false H hb13
     refine W.skip ?_
     refine At.thenC ?_
     refine W.rg env [1, 5, 7, 8, 9, 10, 11] [5] ?_
     obtain ⟨hc14, H⟩ := of_must H
     obtain ⟨hc15, H⟩ := of_must H
     obtain ⟨hc16, H⟩ := of_must H
     obtain ⟨hc17, H⟩ := of_must H
     obtain ⟨hc18, H⟩ := of_must H
     refine W.region env [51] [] rfl rfl (by first | rfl | kernel_rfl) (.cons hc14 (.cons (⟨by first | rfl | (simp; done) | omega | (simp; omega), by have := hc15; first | simpa using this | (unfold room at this ⊢; simp at this ⊢; omega)⟩) (.cons hc16 (.cons hc17 (.cons (⟨by first | rfl | (simp; done) | omega | (simp; omega), by have := hc18; first | simpa using this | (unfold room at this ⊢; simp at this ⊢; omega)⟩) .nil))))) .nil (At.keep (ts := [1, 5, 7, 8, 9, 10]) (ids := [5, 51]) rfl rfl ?_)
     refine At.convM (.cons (.refl _) (.cons (y := bufL 90 9 enc_Report ((([] : List Report) ++ (s4.2.1.take (y8).toNat)) ++ (s4.2.1.drop ((y8 + 1)).toNat))) (BSim.seg (Seg.push (Seg.push (Seg.lit (f := enc_Report) (sz := 9) ([] : List Report) rfl rfl (fun _ => rfl)) (Seg.take enc_Report s4.2.1 ((y8).toNat) (by omega))) (Seg.drop enc_Report s4.2.1 (((y8 + 1)).toNat)))) .nil)) ?_
     refine At.inb ?_
     refine At.thenC ?_
     obtain ⟨hc19, H⟩ := of_must H
     refine W.region env [] [] rfl rfl rfl (.cons hc19 .nil) .nil (At.keep (ts := [1, 5, 7, 8, 9, 10]) (ids := [5, 51]) rfl rfl ?_)
     refine At.freezeA 51 (K := [5]) (ts := [1, 5, 7, 8, 9, 10]) rfl rfl rfl rfl (.cons (by first | rfl | (simp; done) | omega | (simp; omega)) .nil) .nil (fun _ h => h) ?_
     refine At.thenK (At.keep (ts := [1, 5, 7, 8, 9, 10]) (ids := [5]) rfl rfl ?_)
     exact At.conv (.cons .q (.cons .q (.cons .q (.cons .q (.cons .q (.cons .qi .nil)))))) (.cons .q .nil) (hK4 ((s4.1 + 1), ((([] : List Report) ++ (s4.2.1.take (y8).toNat)) ++ (s4.2.1.drop ((y8 + 1)).toNat)), y11.1) H)
 · have H := of_false H hb5
   refine W.exit ?_
   refine At.xthen ?_
   refine At.xthen ?_
   refine At.xhere ?_
   refine At.thenC ?_
   refine W.seq ?_
   refine W.seq ?_
   obtain ⟨y20, hy21, H⟩ := of_bindO H
   refine W.region env [] [⟨.bool (y20), [], 0, []⟩] rfl rfl rfl .nil (.free (c_gasolierref05_SameReports fuel s4.2.2 y1 hy21) .nil) (At.keep (ts := [5, 7, 64]) (ids := [5]) rfl rfl ?_)
   refine At.thenC ?_
   refine W.cond rfl (fun hb22 => ?_) (fun hb22 => ?_)
   · have H := of_true H hb22
     refine W.rg env [6] [] ?_
     refine W.ret ?_
     refine At.rthen ?_
     cases H
     exact At.ret env.ty rfl rfl (fun q hq => by cases hq) (.refl _) hval
   · have H := of_false H hb22
     refine W.skip ?_
     refine At.thenC ?_
     refine W.seq ?_
     obtain ⟨y23, hy24, H⟩ := of_bindO H
     obtain ⟨hc25, H⟩ := of_must H
     refine W.region env [] [⟨.int .i64 (y23), [], 0, []⟩] rfl rfl rfl (.cons (by decide) (.cons hc25 .nil)) (.free (c_gasolierref05_Mod p2.x0 3 hy24) .nil) (At.keep (ts := [5, 7, 14]) (ids := [5]) rfl rfl ?_)
     refine At.thenC ?_
     refine W.rg env [5, 7, 14, 15] [5] ?_
     refine W.seq ?_
     refine W.rg env [5, 7, 14, 15, 16] [5] ?_
     refine W.block ?_
     refine At.nilOwn 15 515 90 9 (e := fun i => enc_Report (([] : List Report).getD i default)) rfl rfl ?_
     refine At.keep (ts := [5, 7, 14, 15, 16]) (ids := [5, 515]) rfl rfl ?_
     refine W.loopGo H (fun (s26 : Int × (List Report)) => [(5, .lp 5 0), (7, roL 9 enc_Report y1), (14, .int .i64 ((1 + y23))), (15, .buf 515 (s26.2).length), (16, .int .i64 (s26.1))]) (fun (s26 : Int × (List Report)) => [(5, .cells [.int .i64 (p2.x0), .int .i64 (p2.x1), .int .i64 (p2.x2)]), (515, bufL 90 9 enc_Report s26.2)]) (.cons .q (.cons .q (.cons .qi (.cons .qb (.cons .qi .nil))))) (.cons .q (.cons .q .nil)) (fun k26 s26 H K0 hK26 => ?_)
     refine W.seq ?_
     refine W.rg env [5, 7, 14, 15, 16, 72] [5, 515] ?_
     refine W.cond rfl (fun hb27 => ?_) (fun hb27 => ?_)
     · have H := of_true H hb27
       refine W.skip ?_
       refine At.thenC ?_
       refine W.seq ?_
       refine W.block ?_
       obtain ⟨hc28, H⟩ := of_must H
       obtain ⟨hc29, H⟩ := of_must H
       refine W.sr env [] [] [5, 7, 14, 15, 16, 89] [5, 515] rfl rfl rfl (.cons hc28 (.cons hc29 (.cons (fun h => h) (.cons (fun h => h) (.cons (fun h => h) (.cons (fun h => h) (.cons (fun h => h) (.cons (fun h => h) .nil)))))))) .nil ?_
       refine W.cond rfl (fun hb30 => ?_) (fun hb30 => ?_)
       · have H := of_true H hb30
         obtain ⟨hc31, H⟩ := of_must H
         obtain ⟨hc32, H⟩ := of_must H
         refine W.region env [] [] rfl rfl rfl (.cons hc31 (.cons (⟨by first | rfl | (simp; done) | omega | (simp; omega), by have := hc32; first | simpa using this | (unfold room at this ⊢; simp at this ⊢; omega)⟩) .nil)) .nil (At.keep (ts := [5, 7, 14, 15, 16]) (ids := [5, 515]) rfl rfl ?_)
         refine At.convM (.cons (.refl _) (.cons (y := bufL 90 9 enc_Report (s26.2 ++ ([(y1.getD (s26.1).toNat default)] : List Report))) (BSim.seg (Seg.push (Seg.refl enc_Report _) (Seg.lit (f := enc_Report) (sz := 9) ([(y1.getD (s26.1).toNat default)] : List Report) rfl rfl (fun _ => rfl)))) .nil)) ?_
         refine At.inb ?_
         refine At.thenC ?_
         obtain ⟨hc33, H⟩ := of_must H
         refine W.region env [] [] rfl rfl rfl (.cons hc33 .nil) .nil (At.keep (ts := [5, 7, 14, 15, 16]) (ids := [5, 515]) rfl rfl ?_)
         refine At.thenK (At.keep (ts := [5, 7, 14, 15, 16]) (ids := [5, 515]) rfl rfl ?_)
         exact At.conv (.cons .q (.cons .q (.cons .qi (.cons .qb (.cons .qi .nil))))) (.cons .q (.cons .q .nil)) (hK26 ((s26.1 + 1), (s26.2 ++ ([(y1.getD (s26.1).toNat default)] : List Report))) H)
       · have H := of_false H hb30
         refine W.skip ?_
         refine At.inb ?_
         refine At.thenC ?_
         obtain ⟨hc34, H⟩ := of_must H
         refine W.region env [] [] rfl rfl rfl (.cons hc34 .nil) .nil (At.keep (ts := [5, 7, 14, 15, 16]) (ids := [5, 515]) rfl rfl ?_)
         refine At.thenK (At.keep (ts := [5, 7, 14, 15, 16]) (ids := [5, 515]) rfl rfl ?_)
         exact At.conv (.cons .q (.cons .q (.cons .qi (.cons .qb (.cons .qi .nil))))) (.cons .q (.cons .q .nil)) (hK26 ((s26.1 + 1), s26.2) H)
     · have H := of_false H hb27
       refine W.exit ?_
       refine At.xthen ?_
       refine At.xthen ?_
       refine At.xhere ?_
       refine At.thenC ?_
       refine W.seq ?_
       obtain ⟨y35, hy36, H⟩ := of_bindO H
       refine W.region env [] [⟨.int .i64 (y35), [], 0, []⟩] rfl rfl rfl (.cons (by decide) .nil) (.free (c_gasolierref05_Mod p2.x1 1440 hy36) .nil) (At.keep (ts := [5, 7, 14, 15, 17]) (ids := [5, 515]) rfl rfl ?_)
       refine At.thenC ?_
       refine W.seq ?_
       obtain ⟨y37, hy38, H⟩ := of_bindO H
       obtain ⟨y39, hy40, H⟩ := of_bindO H
       refine W.region env [] [⟨.int .i64 (y37), [], 0, []⟩, ⟨.tup [.agg [.int .i64 (y39.1.Lo), .int .i64 (y39.1.Hi)], .int .i64 (y39.2)], [], 0, []⟩] rfl rfl rfl (.cons (by decide) .nil) (.free (c_gasolierlaw05_moment p2.x2 hy38) (.free (c_fog_Sight fuel y1 (1 + y23) 3 y35 y37 hy40) .nil)) (At.keep (ts := [5, 14, 15, 17, 18, 19]) (ids := [5, 18, 515]) rfl rfl ?_)
       refine At.thenC ?_
       refine W.seq ?_
       obtain ⟨y41, hy42, H⟩ := of_bindO H
       obtain ⟨y43, hy44, H⟩ := of_bindO H
       refine W.region env [] [⟨.int .i64 (y41), [], 0, []⟩, ⟨.tup [.agg [.int .i64 (y43.1.Lo), .int .i64 (y43.1.Hi)], .int .i64 (y43.2)], [], 0, []⟩] rfl rfl rfl (.cons (by decide) (.cons (by first | rfl | (simp; done) | omega | (simp; omega)) .nil)) (.free (c_gasolierlaw05_moment p2.x2 hy42) (.free (c_fog_Sight fuel s26.2 (1 + y23) 3 y35 y41 hy44) .nil)) (At.keep (ts := [18, 19, 20, 21]) (ids := [18, 20]) rfl rfl ?_)
       refine At.thenC ?_
       refine W.seq ?_
       obtain ⟨y45, hy46, H⟩ := of_bindO H
       refine W.region env [] [⟨.bool (y45), [], 0, []⟩] rfl rfl rfl (.cons (fun h => h) (.cons (fun h => h) (.cons (fun h => h) (.cons (fun h => h) .nil)))) (.on (fun hW => c_gasolierlaw05_sane 20000 (of_true hy46 hW)) .nil) (At.keep (ts := [6]) (ids := []) rfl rfl ?_)
       refine At.thenC ?_
       refine W.ret ?_
       cases H
       exact At.ret env.ty rfl rfl (fun q hq => by cases hq) (.refl _) hval
end Go.Sp
