/- Printed by gen.py: contracts, part 2. -/
import Derived.Test.YtobffjoapdhioaaCtr1
set_option linter.all false
set_option maxRecDepth 100000
set_option maxHeartbeats 1000000
namespace Go.Sp
open Go Go.Av Go.Proofs
theorem c_gasoliertop_TopMoon (fuel : Nat) (p0 : gasoliertop_Heaven) {r : Bool} (H : gasoliertop_TopMoon fuel p0 = some r) : Ctr Try.prog 3 [.agg [roL 3 enc_Arr3Int p0.Rows, .int .i64 (p0.Off.x0), .int .i64 (p0.Off.x1), roL 3 enc_Arr3Int p0.Roofs, roL 1 enc_Int p0.Looks, .int .i64 (p0.Light.x0), .int .i64 (p0.Light.x1), .int .i64 (p0.Light.x2), .int .i64 (p0.Moon)]] (.bool (r)) := by
 unfold gasoliertop_TopMoon at H
 refine Ctr.of_body (N := 330) Try.func3 (by kernel_rfl) (c := _) rfl Try.ntmps3 rfl (fun w0 h0 hval => ?_)
 refine W.rg env [1] [1] ?_
 refine W.seq ?_
 obtain ⟨y1, hy2, H⟩ := of_bindO H
 refine W.region env [] [⟨.bool (y1), [], 0, []⟩] rfl rfl rfl .nil (.free (c_gasoliertop_gleams 20000 hy2) .nil) (At.keep (ts := [1, 3]) (ids := [1]) rfl rfl ?_)
 refine At.thenC ?_
 refine W.seq ?_
 obtain ⟨y3, hy4, H⟩ := of_bindO H
 refine W.region env [] [⟨.agg [.int .i64 (y3.Source), .int .i64 (y3.Night), .int .i64 (y3.Known), .int .i64 (y3.Until), roL 5 enc_Row y3.Rows, .int .i64 (y3.Off.Num), .int .i64 (y3.Off.Den), .int .i64 (y3.Light.Lo), .int .i64 (y3.Light.Hi)], [], 0, []⟩] rfl rfl rfl .nil (.free (c_gasoliertop_sheetOf fuel p0 hy4) .nil) (At.keep (ts := [1, 3, 4]) (ids := [1, 4]) rfl rfl ?_)
 refine At.thenC ?_
 refine W.seq ?_
 obtain ⟨hc5, H⟩ := of_must H
 obtain ⟨hc6, H⟩ := of_must H
 obtain ⟨y7, hy8, H⟩ := of_bindO H
 obtain ⟨hc9, H⟩ := of_must H
 refine W.region env [] [⟨.int .i64 (y7), [], 0, []⟩] rfl rfl (by kernel_rfl) (.cons (by decide) (.cons hc5 (.cons hc6 (.cons hc9 .nil)))) (.free (c_gasolierref01_Mod p0.Off.x1 ((2 * y3.Off.Num) + 1) hy8) .nil) (At.keep (ts := [1, 3, 4, 5]) (ids := [1, 4, 5]) rfl rfl ?_)
 refine At.thenC ?_
 refine W.seq ?_
 refine W.region env [] [] rfl rfl rfl .nil .nil (At.keep (ts := [1, 3, 4, 5, 6]) (ids := [1, 4, 5, 6]) rfl rfl ?_)
 refine At.convM (.cons (.refl _) (.cons (.refl _) (.cons (.refl _) (.cons (y := .cells [roL 9 enc_Sheet ([y3] : List Sheet), .nilS, .nilS]) (BSim.cells (.cons (Sim.lit (f := enc_Sheet) ([y3] : List Sheet) rfl rfl (fun _ => rfl)) (.cons (.refl _) (.cons (.refl _) .nil)))) .nil)))) ?_
 refine At.thenC ?_
 refine W.seq ?_
 refine W.rg env [1, 3, 4, 5, 6, 7] [1, 4, 5, 6] ?_
 refine W.block ?_
 refine At.nilOwnCell 6 1 901 44 3 (e := fun i => enc_Roof (([] : List Roof).getD i default)) rfl rfl rfl ?_
 refine At.keep (ts := [1, 3, 4, 5, 6, 7]) (ids := [1, 4, 5, 6, 901]) rfl rfl ?_
 refine W.loopGo H (fun (s10 : Int × (List Roof)) => [(1, .lp 1 0), (3, .bool (y1)), (4, .lp 4 0), (5, .lp 5 0), (6, .lp 6 0), (7, .int .i64 (s10.1))]) (fun (s10 : Int × (List Roof)) => [(1, .cells [roL 3 enc_Arr3Int p0.Rows, .int .i64 (p0.Off.x0), .int .i64 (p0.Off.x1), roL 3 enc_Arr3Int p0.Roofs, roL 1 enc_Int p0.Looks, .int .i64 (p0.Light.x0), .int .i64 (p0.Light.x1), .int .i64 (p0.Light.x2), .int .i64 (p0.Moon)]), (4, .cells [.int .i64 (y3.Source), .int .i64 (y3.Night), .int .i64 (y3.Known), .int .i64 (y3.Until), roL 5 enc_Row y3.Rows, .int .i64 (y3.Off.Num), .int .i64 (y3.Off.Den), .int .i64 (y3.Light.Lo), .int .i64 (y3.Light.Hi)]), (5, .cells [.int .i64 ((y7 - y3.Off.Num)), .int .i64 (10)]), (6, .cells [roL 9 enc_Sheet ([y3] : List Sheet), .buf 901 (s10.2).length, .nilS]), (901, bufL 44 3 enc_Roof s10.2)]) (.cons .q (.cons .q (.cons .q (.cons .q (.cons .q (.cons .qi .nil)))))) (.cons .q (.cons .q (.cons .q (.cons (BSim.cells (.cons .q (.cons .qc (.cons (by first | exact Sim.refl _ | exact Sim.nil _ _) .nil)))) (.cons .q .nil))))) (fun k10 s10 H K0 hK10 => ?_)
 refine W.seq ?_
 refine W.sr env [] [] [1, 3, 4, 5, 6, 7, 61] [1, 4, 5, 6, 901] rfl rfl rfl (.cons (fun h => h) (.cons (fun h => h) .nil)) .nil ?_
 refine W.cond rfl (fun hb11 => ?_) (fun hb11 => ?_)
 · have H := of_true H hb11
   refine W.skip ?_
   refine At.thenC ?_
   refine W.seq ?_
   refine W.block ?_
   refine W.seq ?_
   obtain ⟨hc12, H⟩ := of_must H
   obtain ⟨y13, hy14, H⟩ := of_bindO H
   refine W.region env [] [⟨.int .i64 (y13), [], 0, []⟩] rfl rfl rfl (.cons hc12 (.cons (by decide) .nil)) (.free (c_gasolierref01_Mod ((p0.Roofs.getD (s10.1).toNat default).x0) 300 hy14) .nil) (At.keep (ts := [1, 3, 4, 5, 6, 7, 8]) (ids := [1, 4, 5, 6, 901]) rfl rfl ?_)
   refine At.thenC ?_
   obtain ⟨hc15, H⟩ := of_must H
   obtain ⟨hc16, H⟩ := of_must H
   obtain ⟨y17, hy18, H⟩ := of_bindO H
   obtain ⟨hc19, H⟩ := of_must H
   obtain ⟨hc20, H⟩ := of_must H
   obtain ⟨y21, hy22, H⟩ := of_bindO H
   obtain ⟨hc23, H⟩ := of_must H
   refine W.region env [] [⟨.int .i64 (y17), [], 0, []⟩, ⟨.int .i64 (y21), [], 0, []⟩] rfl rfl (by kernel_rfl) (.cons hc15 (.cons hc16 (.cons (by decide) (.cons hc19 (.cons hc20 (.cons (by decide) (.cons (⟨by first | rfl | (simp; done) | omega | (simp; omega), by have := hc23; first | simpa using this | (unfold room at this ⊢; simp at this ⊢; omega)⟩) .nil))))))) (.free (c_gasolierref01_Mod ((p0.Roofs.getD (s10.1).toNat default).x1) 60 hy18) (.free (c_gasolierref01_Mod ((p0.Roofs.getD (s10.1).toNat default).x2) 30 hy22) .nil)) (At.keep (ts := [1, 3, 4, 5, 6, 7]) (ids := [1, 4, 5, 6, 901]) rfl rfl ?_)
   refine At.convM (.cons (.refl _) (.cons (.refl _) (.cons (.refl _) (.cons (.refl _) (.cons (y := bufL 44 3 enc_Roof (s10.2 ++ ([(⟨y13, ((y13 + 1) + y17), y21⟩ : Roof)] : List Roof))) (BSim.seg (Seg.push (Seg.refl enc_Roof _) (Seg.lit (f := enc_Roof) (sz := 3) ([(⟨y13, ((y13 + 1) + y17), y21⟩ : Roof)] : List Roof) rfl rfl (fun _ => rfl)))) .nil))))) ?_
   refine At.inb ?_
   refine At.thenC ?_
   obtain ⟨hc24, H⟩ := of_must H
   refine W.region env [] [] rfl rfl rfl (.cons hc24 .nil) .nil (At.keep (ts := [1, 3, 4, 5, 6, 7]) (ids := [1, 4, 5, 6, 901]) rfl rfl ?_)
   refine At.thenK (At.keep (ts := [1, 3, 4, 5, 6, 7]) (ids := [1, 4, 5, 6, 901]) rfl rfl ?_)
   exact At.conv (.cons .q (.cons .q (.cons .q (.cons .q (.cons .q (.cons .qi .nil)))))) (.cons .q (.cons .q (.cons .q (.cons (BSim.cells (.cons .q (.cons .qc (.cons (by first | exact Sim.refl _ | exact Sim.nil _ _) .nil)))) (.cons .q .nil))))) (hK10 ((s10.1 + 1), (s10.2 ++ ([(⟨y13, ((y13 + 1) + y17), y21⟩ : Roof)] : List Roof))) H)
 · have H := of_false H hb11
   refine W.exit ?_
   refine At.xthen ?_
   refine At.xthen ?_
   refine At.xhere ?_
   refine At.thenC ?_
   refine W.seq ?_
   refine W.rg env [1, 3, 4, 5, 6, 9] [1, 4, 5, 6, 901] ?_
   refine W.block ?_
   refine At.nilOwnCell 6 2 902 48 6 (e := fun i => enc_Sighting (([] : List Sighting).getD i default)) rfl rfl rfl ?_
   refine At.keep (ts := [1, 3, 4, 5, 6, 9]) (ids := [1, 4, 5, 6, 901, 902]) rfl rfl ?_
   refine W.loopGo H (fun (s25 : Int × (List Sighting)) => [(1, .lp 1 0), (3, .bool (y1)), (4, .lp 4 0), (5, .lp 5 0), (6, .lp 6 0), (9, .int .i64 (s25.1))]) (fun (s25 : Int × (List Sighting)) => [(1, .cells [roL 3 enc_Arr3Int p0.Rows, .int .i64 (p0.Off.x0), .int .i64 (p0.Off.x1), roL 3 enc_Arr3Int p0.Roofs, roL 1 enc_Int p0.Looks, .int .i64 (p0.Light.x0), .int .i64 (p0.Light.x1), .int .i64 (p0.Light.x2), .int .i64 (p0.Moon)]), (4, .cells [.int .i64 (y3.Source), .int .i64 (y3.Night), .int .i64 (y3.Known), .int .i64 (y3.Until), roL 5 enc_Row y3.Rows, .int .i64 (y3.Off.Num), .int .i64 (y3.Off.Den), .int .i64 (y3.Light.Lo), .int .i64 (y3.Light.Hi)]), (5, .cells [.int .i64 ((y7 - y3.Off.Num)), .int .i64 (10)]), (6, .cells [roL 9 enc_Sheet ([y3] : List Sheet), .buf 901 (s10.2).length, .buf 902 (s25.2).length]), (901, bufL 44 3 enc_Roof s10.2), (902, bufL 48 6 enc_Sighting s25.2)]) (.cons .q (.cons .q (.cons .q (.cons .q (.cons .q (.cons .qi .nil)))))) (.cons .q (.cons .q (.cons .q (.cons (BSim.cells (.cons .q (.cons .qc (.cons .qc .nil)))) (.cons .q (.cons .q .nil)))))) (fun k25 s25 H K0 hK25 => ?_)
   refine W.seq ?_
   refine W.sr env [] [] [1, 3, 4, 5, 6, 9, 103] [1, 4, 5, 6, 901, 902] rfl rfl rfl (.cons (fun h => h) (.cons (fun h => h) .nil)) .nil ?_
   refine W.cond rfl (fun hb26 => ?_) (fun hb26 => ?_)
   · have H := of_true H hb26
     refine W.skip ?_
     refine At.thenC ?_
     refine W.seq ?_
     refine W.block ?_
     refine W.seq ?_
     obtain ⟨hc27, H⟩ := of_must H
     obtain ⟨y28, hy29, H⟩ := of_bindO H
     refine W.region env [] [⟨.int .i64 (y28), [], 0, []⟩] rfl rfl rfl (.cons hc27 .nil) (.free (c_gasolierref01_Mod (p0.Looks.getD (s25.1).toNat default) 1440 hy29) .nil) (At.keep (ts := [1, 3, 4, 5, 6, 9, 10]) (ids := [1, 4, 5, 6, 901, 902]) rfl rfl ?_)
     refine At.thenC ?_
     refine W.seq ?_
     obtain ⟨y30, hy31, H⟩ := of_bindO H
     refine W.region env [] [⟨.tup [.bool (y30.1), .bool (y30.2)], [], 0, []⟩] rfl rfl rfl (.cons (by first | rfl | (simp; done) | omega | (simp; omega)) .nil) (.free (c_gasoliertop_above fuel y3 s10.2 y28 (⟨(y7 - y3.Off.Num), 10⟩ : Frac) hy31) .nil) (At.keep (ts := [1, 3, 4, 5, 6, 9, 10, 11, 12]) (ids := [1, 4, 5, 6, 901, 902]) rfl rfl ?_)
     refine At.thenC ?_
     refine W.seq ?_
     refine W.rg env [1, 3, 4, 5, 6, 9, 10, 11, 122] [1, 4, 5, 6, 901, 902] ?_
     refine W.cond rfl (fun hb32 => ?_) (fun hb32 => ?_)
     · have H := of_true H hb32
       refine W.rg env [2] [] ?_
       refine W.ret ?_
       refine At.rthen ?_
       refine At.rinb ?_
       refine At.rthen ?_
       refine At.rthen ?_
       refine At.rinb ?_
       refine At.rthen ?_
       cases H
       exact At.ret env.ty rfl rfl (fun q hq => by cases hq) (.refl _) hval
     · have H := of_false H hb32
       refine W.skip ?_
       refine At.thenC ?_
       obtain ⟨hc33, H⟩ := of_must H
       obtain ⟨hc34, H⟩ := of_must H
       refine W.region env [] [] rfl rfl rfl (.cons hc33 (.cons (⟨by first | rfl | (simp; done) | omega | (simp; omega), by have := hc34; first | simpa using this | (unfold room at this ⊢; simp at this ⊢; omega)⟩) .nil)) .nil (At.keep (ts := [1, 3, 4, 5, 6, 9]) (ids := [1, 4, 5, 6, 901, 902]) rfl rfl ?_)
       refine At.convM (.cons (.refl _) (.cons (.refl _) (.cons (.refl _) (.cons (.refl _) (.cons (.refl _) (.cons (y := bufL 48 6 enc_Sighting (s25.2 ++ ([(⟨(1 + s25.1), 5, y28, y30.1, 0, 0⟩ : Sighting)] : List Sighting))) (BSim.seg (Seg.push (Seg.refl enc_Sighting _) (Seg.lit (f := enc_Sighting) (sz := 6) ([(⟨(1 + s25.1), 5, y28, y30.1, 0, 0⟩ : Sighting)] : List Sighting) rfl rfl (fun _ => rfl)))) .nil)))))) ?_
       refine At.inb ?_
       refine At.thenC ?_
       obtain ⟨hc35, H⟩ := of_must H
       refine W.region env [] [] rfl rfl rfl (.cons hc35 .nil) .nil (At.keep (ts := [1, 3, 4, 5, 6, 9]) (ids := [1, 4, 5, 6, 901, 902]) rfl rfl ?_)
       refine At.thenK (At.keep (ts := [1, 3, 4, 5, 6, 9]) (ids := [1, 4, 5, 6, 901, 902]) rfl rfl ?_)
       exact At.conv (.cons .q (.cons .q (.cons .q (.cons .q (.cons .q (.cons .qi .nil)))))) (.cons .q (.cons .q (.cons .q (.cons (BSim.cells (.cons .q (.cons .qc (.cons .qc .nil)))) (.cons .q (.cons .q .nil)))))) (hK25 ((s25.1 + 1), (s25.2 ++ ([(⟨(1 + s25.1), 5, y28, y30.1, 0, 0⟩ : Sighting)] : List Sighting))) H)
   · have H := of_false H hb26
     refine W.exit ?_
     refine At.xthen ?_
     refine At.xthen ?_
     refine At.xhere ?_
     refine At.thenC ?_
     refine W.rg env [1, 3, 4, 5, 6, 13] [1, 4, 5, 6, 13, 901, 902] ?_
     refine W.seq ?_
     obtain ⟨y36, hy37, H⟩ := of_bindO H
     refine W.region env [] [⟨.tup [.agg [.int .i64 (y36.1.Lo), .int .i64 (y36.1.Hi)], .int .i64 (y36.2)], [], 0, []⟩] rfl rfl rfl (.cons ⟨by first | rfl | (simp; done) | omega | (simp; omega), (by first | rfl | (simp; done) | omega | (simp; omega))⟩ .nil) (.free (c_moon_Whole fuel (⟨([y3] : List Sheet), s10.2, s25.2⟩ : Sky) 5 9 300 1090 hy37) .nil) (At.keep (ts := [1, 3, 4, 5, 6, 13, 14, 15]) (ids := [1, 4, 5, 6, 13, 14, 901, 902]) rfl rfl ?_)
     refine At.thenC ?_
     refine W.seq ?_
     refine W.seq ?_
     obtain ⟨y38, hy39, H⟩ := of_bindO H
     obtain ⟨y40, hy41, H⟩ := of_bindO H
     refine W.region env [] [⟨.int .i64 (y38), [], 0, []⟩, ⟨.int .i64 (y40), [], 0, []⟩] rfl rfl rfl (.cons (fun hW => ⟨by first | rfl | (simp; done) | omega | (simp; omega), (by first | rfl | (simp; done) | omega | (simp; omega))⟩) (.cons (fun h => h) (.cons (fun h => h) (.cons (fun h => by rw [h]; rfl) (.cons (fun h => h) (.cons (fun h => by rw [h]; rfl) (.cons (fun hW => ⟨by first | rfl | (simp; done) | omega | (simp; omega), (by first | rfl | (simp; done) | omega | (simp; omega))⟩) (.cons (fun h => h) (.cons (fun h => h) (.cons (fun h => h) (.cons (fun h => by rw [h]; rfl) .nil))))))))))) (.on (fun hW => c_moon_Check fuel (⟨([y3] : List Sheet), s10.2, s25.2⟩ : Sky) (of_true hy39 hW)) (.on (fun hW => c_moon_CheckSlip fuel (⟨([y3] : List Sheet), s10.2, s25.2⟩ : Sky) 5 9 (⟨(y7 - y3.Off.Num), 10⟩ : Frac) (of_true hy41 hW)) .nil)) (At.keep (ts := [1, 4, 5, 6, 13, 14, 163]) (ids := [1, 4, 5, 6, 13, 14, 901, 902]) rfl rfl ?_)
     refine At.thenC ?_
     refine W.cond rfl (fun hb42 => ?_) (fun hb42 => ?_)
     · have H := of_true H hb42
       refine W.rg env [2] [] ?_
       refine W.ret ?_
       refine At.rthen ?_
       cases H
       exact At.ret env.ty rfl rfl (fun q hq => by cases hq) (.refl _) hval
     · have H := of_false H hb42
       refine W.skip ?_
       refine At.thenC ?_
       refine W.rg env [1, 4, 5, 6, 13, 14, 16] [1, 4, 5, 6, 13, 14, 901, 902] ?_
       refine W.seq ?_
       refine W.rg env [1, 4, 5, 6, 13, 14, 16, 17] [1, 4, 5, 6, 13, 14, 901, 902] ?_
       refine W.block ?_
       refine At.keep (ts := [1, 4, 5, 6, 13, 14, 16, 17]) (ids := [1, 4, 5, 6, 13, 14, 901, 902]) rfl rfl ?_
       refine W.loopGo H (fun (s43 : Bool × Int) => [(1, .lp 1 0), (4, .lp 4 0), (5, .lp 5 0), (6, .lp 6 0), (13, .lp 13 0), (14, .lp 14 0), (16, .bool (s43.1)), (17, .int .i64 (s43.2))]) (fun (s43 : Bool × Int) => [(1, .cells [roL 3 enc_Arr3Int p0.Rows, .int .i64 (p0.Off.x0), .int .i64 (p0.Off.x1), roL 3 enc_Arr3Int p0.Roofs, roL 1 enc_Int p0.Looks, .int .i64 (p0.Light.x0), .int .i64 (p0.Light.x1), .int .i64 (p0.Light.x2), .int .i64 (p0.Moon)]), (4, .cells [.int .i64 (y3.Source), .int .i64 (y3.Night), .int .i64 (y3.Known), .int .i64 (y3.Until), roL 5 enc_Row y3.Rows, .int .i64 (y3.Off.Num), .int .i64 (y3.Off.Den), .int .i64 (y3.Light.Lo), .int .i64 (y3.Light.Hi)]), (5, .cells [.int .i64 ((y7 - y3.Off.Num)), .int .i64 (10)]), (6, .cells [roL 9 enc_Sheet ([y3] : List Sheet), .buf 901 (s10.2).length, .buf 902 (s25.2).length]), (13, .cells [.int .i64 (5), .int .i64 (300), .int .i64 (310), .int .i64 (1080), .int .i64 (1090), .int .i64 (0), .int .i64 (0), .int .i64 (0)]), (14, .cells [.int .i64 (y36.1.Lo), .int .i64 (y36.1.Hi)]), (901, bufL 44 3 enc_Roof s10.2), (902, bufL 48 6 enc_Sighting s25.2)]) (.cons .q (.cons .q (.cons .q (.cons .q (.cons .q (.cons .q (.cons .q (.cons .qi .nil)))))))) (.cons .q (.cons .q (.cons .q (.cons (BSim.cells (.cons .q (.cons .qc (.cons .qc .nil)))) (.cons .q (.cons .q (.cons .q (.cons .q .nil)))))))) (fun k43 s43 H K0 hK43 => ?_)
       refine W.seq ?_
       refine W.rg env [1, 4, 5, 6, 13, 14, 16, 17, 171] [1, 4, 5, 6, 13, 14, 901, 902] ?_
       refine W.cond rfl (fun hb44 => ?_) (fun hb44 => ?_)
       · have H := of_true H hb44
         refine W.skip ?_
         refine At.thenC ?_
         refine W.seq ?_
         refine W.block ?_
         refine W.seq ?_
         obtain ⟨y45, hy46, H⟩ := of_bindO H
         refine W.region env [] [⟨.tup [.bool (y45.1), .bool (y45.2)], [], 0, []⟩] rfl rfl rfl (.cons (by first | rfl | (simp; done) | omega | (simp; omega)) .nil) (.free (c_gasoliertop_above fuel y3 s10.2 s43.2 (⟨(y7 - y3.Off.Num), 10⟩ : Frac) hy46) .nil) (At.keep (ts := [1, 4, 5, 6, 13, 14, 16, 17, 18, 19]) (ids := [1, 4, 5, 6, 13, 14, 901, 902]) rfl rfl ?_)
         refine At.thenC ?_
         refine W.seq ?_
         obtain ⟨y47, hy48, H⟩ := of_bindO H
         refine W.region env [] [⟨.tup [.int .i64 (y47.1), .int .i64 (y47.2)], [], 0, []⟩] rfl rfl rfl (.cons ⟨by first | rfl | (simp; done) | omega | (simp; omega), (by first | rfl | (simp; done) | omega | (simp; omega))⟩ .nil) (.free (c_moon_Above fuel (⟨([y3] : List Sheet), s10.2, s25.2⟩ : Sky) 5 9 s43.2 hy48) .nil) (At.keep (ts := [1, 4, 5, 6, 13, 14, 16, 17, 18, 19, 20, 21]) (ids := [1, 4, 5, 6, 13, 14, 901, 902]) rfl rfl ?_)
         refine At.thenC ?_
         refine W.seq ?_
         refine W.sr env [] [] [1, 4, 5, 6, 13, 14, 16, 17, 18, 209] [1, 4, 5, 6, 13, 14, 901, 902] rfl rfl rfl (.cons (fun h => h) (.cons (fun h => by rw [h]; rfl) (.cons (fun h => h) (.cons (fun h => h) (.cons (fun h => h) (.cons (fun h => h) (.cons (fun hW h => by revert hW h; first | (simp +contextual; done) | grind) (.cons (fun h => by rw [h]; rfl) (.cons (fun h => h) (.cons (fun h => h) (.cons (fun h => h) (.cons (fun hW h => by revert hW h; first | (simp +contextual; done) | grind) (.cons (fun h => by rw [h]; rfl) .nil))))))))))))) .nil ?_
         refine W.cond rfl (fun hb49 => ?_) (fun hb49 => ?_)
         · have H := of_true H hb49
           refine W.rg env [2] [] ?_
           refine W.ret ?_
           refine At.rthen ?_
           refine At.rinb ?_
           refine At.rthen ?_
           refine At.rthen ?_
           refine At.rinb ?_
           refine At.rthen ?_
           cases H
           exact At.ret env.ty rfl rfl (fun q hq => by cases hq) (.refl _) hval
         · have H := of_false H hb49
           refine W.skip ?_
           refine At.thenC ?_
           refine W.region env [] [] rfl rfl rfl (.cons (fun h => h) .nil) .nil (At.keep (ts := [1, 4, 5, 6, 13, 14, 16, 17]) (ids := [1, 4, 5, 6, 13, 14, 901, 902]) rfl rfl ?_)
           refine At.inb ?_
           refine At.thenC ?_
           obtain ⟨hc50, H⟩ := of_must H
           refine W.region env [] [] rfl rfl rfl (.cons hc50 .nil) .nil (At.keep (ts := [1, 4, 5, 6, 13, 14, 16, 17]) (ids := [1, 4, 5, 6, 13, 14, 901, 902]) rfl rfl ?_)
           refine At.thenK (At.keep (ts := [1, 4, 5, 6, 13, 14, 16, 17]) (ids := [1, 4, 5, 6, 13, 14, 901, 902]) rfl rfl ?_)
           exact At.conv (.cons .q (.cons .q (.cons .q (.cons .q (.cons .q (.cons .q (.cons .q (.cons .qi .nil)))))))) (.cons .q (.cons .q (.cons .q (.cons (BSim.cells (.cons .q (.cons .qc (.cons .qc .nil)))) (.cons .q (.cons .q (.cons .q (.cons .q .nil)))))))) (hK43 ((s43.1 && y45.1), (s43.2 + 1)) H)
       · have H := of_false H hb44
         refine W.exit ?_
         refine At.xthen ?_
         refine At.xthen ?_
         refine At.xhere ?_
         refine At.thenC ?_
         refine W.rg env [1, 4, 13, 14, 16, 22] [1, 4, 13, 14] ?_
         refine W.seq ?_
         refine W.rg env [1, 4, 13, 14, 22, 214] [1, 4, 13, 14] ?_
         refine W.joinC H (fun (s51 : Int) => [(1, .lp 1 0), (13, .lp 13 0), (14, .lp 14 0), (22, .int .i64 (s51))]) (fun (s51 : Int) => [(1, .cells [roL 3 enc_Arr3Int p0.Rows, .int .i64 (p0.Off.x0), .int .i64 (p0.Off.x1), roL 3 enc_Arr3Int p0.Roofs, roL 1 enc_Int p0.Looks, .int .i64 (p0.Light.x0), .int .i64 (p0.Light.x1), .int .i64 (p0.Light.x2), .int .i64 (p0.Moon)]), (13, .cells [.int .i64 (5), .int .i64 (300), .int .i64 (310), .int .i64 (1080), .int .i64 (1090), .int .i64 (0), .int .i64 (0), .int .i64 (0)]), (14, .cells [.int .i64 (y36.1.Lo), .int .i64 (y36.1.Hi)])]) (fun s51 H => ?_) (fun k51 H hK51 => ?_)
         · refine W.rg env [1, 13, 14, 22] [1, 13, 14] ?_
           refine W.seq ?_
           obtain ⟨y52, hy53, H⟩ := of_bindO H
           refine W.region env [] [⟨.int .i64 (y52), [], 0, []⟩] rfl rfl rfl .nil (.free (c_gasolierref01_Mod p0.Moon 1002 hy53) .nil) (At.keep (ts := [1, 13, 14, 22, 23]) (ids := [1, 13, 14, 23]) rfl rfl ?_)
           refine At.convM (.cons (.refl _) (.cons (.refl _) (.cons (.refl _) (.cons (y := .cells [roL 11 enc_Version ([(⟨1, 1, 0, (⟨5, 40⟩ : Range), (⟨5, 50⟩ : Range), y52, 0, 0, 0⟩ : Version)] : List Version), roL 5 enc_Street ([(⟨1, 1, 1, 1, 1⟩ : Street)] : List Street)]) (BSim.cells (.cons (Sim.lit (f := enc_Version) ([(⟨1, 1, 0, (⟨5, 40⟩ : Range), (⟨5, 50⟩ : Range), y52, 0, 0, 0⟩ : Version)] : List Version) rfl rfl (fun _ => rfl)) (.cons (Sim.lit (f := enc_Street) ([(⟨1, 1, 1, 1, 1⟩ : Street)] : List Street) rfl rfl (fun _ => rfl)) .nil))) .nil)))) ?_
           refine At.thenC ?_
           refine W.seq ?_
           obtain ⟨y54, hy55, H⟩ := of_bindO H
           refine W.region env [] [⟨.tup [.int .i64 (y54.1), .int .i64 (y54.2)], [], 0, []⟩] rfl rfl rfl .nil (.free (c_bylaw_Lit (⟨([(⟨1, 1, 0, (⟨5, 40⟩ : Range), (⟨5, 50⟩ : Range), y52, 0, 0, 0⟩ : Version)] : List Version), ([(⟨1, 1, 1, 1, 1⟩ : Street)] : List Street)⟩ : Bylaw) 1 (⟨5, (⟨300, 310⟩ : Range), (⟨1080, 1090⟩ : Range), y36.1, 0⟩ : Night) 9 hy55) .nil) (At.keep (ts := [1, 13, 14, 22, 23, 24, 25]) (ids := [1, 13, 14, 23]) rfl rfl ?_)
           refine At.thenC ?_
           refine W.seq ?_
           obtain ⟨y56, hy57, H⟩ := of_bindO H
           obtain ⟨hc58, H⟩ := of_must H
           obtain ⟨y59, hy60, H⟩ := of_bindO H
           obtain ⟨hc61, H⟩ := of_must H
           refine W.region env [] [⟨.int .i64 (y56), [], 0, []⟩, ⟨.int .i64 (y59), [], 0, []⟩] rfl rfl (by kernel_rfl) (.cons hc58 (.cons (by decide) (.cons hc61 .nil))) (.free (c_gasolierref01_Mod p0.Moon 11 hy57) (.free (c_gasolierref01_Mod p0.Light.x0 11 hy60) .nil)) (At.keep (ts := [13, 14, 22, 23, 24, 25, 26]) (ids := [13, 14, 23, 26]) rfl rfl ?_)
           refine At.thenC ?_
           refine W.seq ?_
           obtain ⟨y62, hy63, H⟩ := of_bindO H
           refine W.region env [] [⟨.tup [.bool (y62.1), .int .i64 (y62.2)], [], 0, []⟩] rfl rfl rfl .nil (.free (c_bylaw_True (⟨([(⟨1, 1, 0, (⟨5, 40⟩ : Range), (⟨5, 50⟩ : Range), y52, 0, 0, 0⟩ : Version)] : List Version), ([(⟨1, 1, 1, 1, 1⟩ : Street)] : List Street)⟩ : Bylaw) 1 5 (⟨(300 + y56), (1080 + y59), s51, false⟩ : Truth) (⟨(-1), (-1)⟩ : Times) 9 hy63) .nil) (At.keep (ts := [13, 14, 22, 23, 24, 25, 26, 27, 28]) (ids := [13, 14, 23, 26]) rfl rfl ?_)
           refine At.thenC ?_
           refine W.seq ?_
           refine W.sr env [] [] [13, 23, 24, 26, 299] [13, 23, 26] rfl rfl rfl (.cons (fun h => h) (.cons (fun h => by rw [h]; rfl) (.cons (fun h => h) (.cons (fun h => h) (.cons (fun h => h) (.cons (fun h => by rw [h]; rfl) (.cons (fun h => h) (.cons (fun h => h) (.cons (fun h => h) (.cons (fun h => by rw [h]; rfl) (.cons (fun h => h) (.cons (fun h => h) (.cons (fun h => h) (.cons (fun hW h => by revert hW h; first | (simp +contextual; done) | grind) (.cons (fun h => by rw [h]; rfl) (.cons (fun h => h) (.cons (fun h => h) (.cons (fun h => h) (.cons (fun h => h) (.cons (fun hW h => by revert hW h; first | (simp +contextual; done) | grind) (.cons (fun h => by rw [h]; rfl) .nil))))))))))))))))))))) .nil ?_
           refine W.cond rfl (fun hb64 => ?_) (fun hb64 => ?_)
           · have H := of_true H hb64
             refine W.rg env [2] [] ?_
             refine W.ret ?_
             refine At.rthen ?_
             cases H
             exact At.ret env.ty rfl rfl (fun q hq => by cases hq) (.refl _) hval
           · have H := of_false H hb64
             refine W.skip ?_
             refine At.thenC ?_
             refine W.seq ?_
             refine W.rg env [13, 23, 26, 301] [13, 23, 26] ?_
             refine W.cond rfl (fun hb65 => ?_) (fun hb65 => ?_)
             · have H := of_true H hb65
               refine W.rg env [2] [] ?_
               refine W.ret ?_
               refine At.rthen ?_
               cases H
               exact At.ret env.ty rfl rfl (fun q hq => by cases hq) (.refl _) hval
             · have H := of_false H hb65
               refine W.skip ?_
               refine At.thenC ?_
               refine W.seq ?_
               obtain ⟨y66, hy67, H⟩ := of_bindO H
               refine W.region env [] [⟨.tup [.agg [.int .i64 (y66.1.Lit), .int .i64 (y66.1.On.Lo), .int .i64 (y66.1.On.Hi), .int .i64 (y66.1.Off.Lo), .int .i64 (y66.1.Off.Hi)], .int .i64 (y66.2)], [], 0, []⟩] rfl rfl rfl .nil (.free (c_bylaw_Duty (⟨([(⟨1, 1, 0, (⟨5, 40⟩ : Range), (⟨5, 50⟩ : Range), y52, 0, 0, 0⟩ : Version)] : List Version), ([(⟨1, 1, 1, 1, 1⟩ : Street)] : List Street)⟩ : Bylaw) 1 (⟨5, (⟨300, 310⟩ : Range), (⟨1080, 1090⟩ : Range), y36.1, 0⟩ : Night) 9 hy67) .nil) (At.keep (ts := [23, 26, 29, 30]) (ids := [23, 26, 29]) rfl rfl ?_)
               refine At.thenC ?_
               refine W.seq ?_
               obtain ⟨y68, hy69, H⟩ := of_bindO H
               refine W.region env [] [⟨.tup [.bool (y68.1), .int .i64 (y68.2)], [], 0, []⟩] rfl rfl rfl .nil (.free (c_bylaw_True (⟨([(⟨1, 1, 0, (⟨5, 40⟩ : Range), (⟨5, 50⟩ : Range), y52, 0, 0, 0⟩ : Version)] : List Version), ([(⟨1, 1, 1, 1, 1⟩ : Street)] : List Street)⟩ : Bylaw) 1 5 (⟨(300 + y56), (1080 + y59), s51, false⟩ : Truth) (⟨y66.1.On.Lo, y66.1.Off.Hi⟩ : Times) 9 hy69) .nil) (At.keep (ts := [30, 31, 32]) (ids := []) rfl rfl ?_)
               refine At.thenC ?_
               refine W.sr env [] [] [2] [] rfl rfl rfl (.cons (fun h => h) (.cons (fun h => h) (.cons (fun h => h) .nil))) .nil ?_
               refine W.ret ?_
               cases H
               exact At.ret env.ty rfl rfl (fun q hq => by cases hq) (.refl _) hval
         · refine W.cond rfl (fun hb70 => ?_) (fun hb70 => ?_)
           · have H := of_true H hb70
             obtain ⟨hc71, H⟩ := of_must H
             obtain ⟨hc72, H⟩ := of_must H
             obtain ⟨y73, hy74, H⟩ := of_bindO H
             obtain ⟨hc75, H⟩ := of_must H
             refine W.region env [] [⟨.int .i64 (y73), [], 0, []⟩] rfl rfl (by kernel_rfl) (.cons (by decide) (.cons hc71 (.cons hc72 (.cons hc75 .nil)))) (.free (c_gasolierref01_Mod p0.Light.x2 ((y3.Light.Hi - y3.Light.Lo) + 1) hy74) .nil) (At.keep (ts := [1, 13, 14, 22]) (ids := [1, 13, 14]) rfl rfl ?_)
             refine At.thenK (At.keep (ts := [1, 13, 14, 22]) (ids := [1, 13, 14]) rfl rfl ?_)
             exact At.conv (.cons .q (.cons .q (.cons .q (.cons .qi .nil)))) (.cons .q (.cons .q (.cons .q .nil))) (hK51 (y3.Light.Lo + y73) H)
           · have H := of_false H hb70
             refine W.skip ?_
             refine At.thenK (At.keep (ts := [1, 13, 14, 22]) (ids := [1, 13, 14]) rfl rfl ?_)
             exact At.conv (.cons .q (.cons .q (.cons .q (.cons .qi .nil)))) (.cons .q (.cons .q (.cons .q .nil))) (hK51 0 H)
end Go.Sp
