/- Printed by gen.py: contracts, part 2. -/
import Derived.Test.YtoekhnngdocddaaGreatCtr1
set_option linter.all false
set_option maxRecDepth 100000
set_option maxHeartbeats 1000000
namespace Go.Sp
open Go Go.Av Go.Proofs
theorem c_gasolierref05_CheckShort (fuel : Nat) (p0 : (List Node)) (p1 : (List Runner)) (p2 : Int) (p3 : (List Int)) {r : Int} (H : gasolierref05_CheckShort fuel p0 p1 p2 p3 = some r) : Ctr Tryz.prog 33 [roL 8 enc_Node p0, roL 2 enc_Runner p1, .int .i64 (p2), roL 1 enc_Int p3] (.int .i64 (r)) := by
 unfold gasolierref05_CheckShort at H
 refine Ctr.of_body (N := 108) Tryz.func33 (by kernel_rfl) (c := _) rfl Tryz.ntmps33 rfl (fun w0 h0 hval => ?_)
 refine W.rg env [0, 1, 2, 3] [] ?_
 refine W.seq ?_
 obtain ⟨y1, hy2, H⟩ := of_bindO H
 refine W.region env [] [⟨.int .i64 (y1), [], 0, []⟩] rfl rfl rfl .nil (.free (c_gasolierref05_given fuel p0 p1 p2 hy2) .nil) (At.keep (ts := [0, 1, 2, 3, 9]) (ids := []) rfl rfl ?_)
 refine At.thenC ?_
 refine W.seq ?_
 refine W.rg env [0, 1, 2, 3, 9, 23] [] ?_
 refine W.cond rfl (fun hb3 => ?_) (fun hb3 => ?_)
 · have H := of_true H hb3
   refine W.rg env [8] [] ?_
   refine W.ret ?_
   refine At.rthen ?_
   cases H
   exact At.ret env.ty rfl rfl (fun q hq => by cases hq) (.refl _) hval
 · have H := of_false H hb3
   refine W.skip ?_
   refine At.thenC ?_
   refine W.seq ?_
   refine W.seq ?_
   obtain ⟨y4, hy5, H⟩ := of_bindO H
   refine W.region env [] [⟨.bool (y4), [], 0, []⟩] rfl rfl rfl (.cons (fun h => h) (.cons (fun h => h) (.cons (fun h => by rw [h]; rfl) .nil))) (.free (c_gasolierref05_rising fuel p3 1 9 hy5) .nil) (At.keep (ts := [0, 1, 2, 3, 32]) (ids := []) rfl rfl ?_)
   refine At.thenC ?_
   refine W.cond rfl (fun hb6 => ?_) (fun hb6 => ?_)
   · have H := of_true H hb6
     refine W.rg env [8] [] ?_
     refine W.ret ?_
     refine At.rthen ?_
     cases H
     exact At.ret env.ty rfl rfl (fun q hq => by cases hq) (.refl _) hval
   · have H := of_false H hb6
     refine W.skip ?_
     refine At.thenC ?_
     refine W.rg env [0, 1, 2, 3, 10] [] ?_
     refine W.seq ?_
     refine W.rg env [0, 1, 2, 3, 10, 11] [] ?_
     refine W.block ?_
     refine At.keep (ts := [0, 1, 2, 3, 10, 11]) (ids := []) rfl rfl ?_
     refine W.loopGo H (fun (s7 : Int × Int) => [(0, roL 8 enc_Node p0), (1, roL 2 enc_Runner p1), (2, .int .i64 (p2)), (3, roL 1 enc_Int p3), (10, .int .i64 (s7.1)), (11, .int .i64 (s7.2))]) (fun (s7 : Int × Int) => []) (.cons .q (.cons .q (.cons .qi (.cons .q (.cons .qi (.cons .qi .nil)))))) .nil (fun k7 s7 H K0 hK7 => ?_)
     refine W.seq ?_
     refine W.rg env [0, 1, 2, 3, 10, 11, 36] [] ?_
     refine W.cond rfl (fun hb8 => ?_) (fun hb8 => ?_)
     · have H := of_true H hb8
       refine W.skip ?_
       refine At.thenC ?_
       refine W.seq ?_
       refine W.block ?_
       refine W.rg env [0, 1, 2, 3, 10, 11, 12] [] ?_
       refine W.seq ?_
       refine W.rg env [0, 1, 2, 3, 10, 11, 12, 13] [] ?_
       refine W.block ?_
       refine At.keep (ts := [0, 1, 2, 3, 10, 11, 12, 13]) (ids := []) rfl rfl ?_
       refine W.loopGo H (fun (s9 : Int × Int) => [(0, roL 8 enc_Node p0), (1, roL 2 enc_Runner p1), (2, .int .i64 (p2)), (3, roL 1 enc_Int p3), (10, .int .i64 (s7.1)), (11, .int .i64 (s7.2)), (12, .int .i64 (s9.1)), (13, .int .i64 (s9.2))]) (fun (s9 : Int × Int) => []) (.cons .q (.cons .q (.cons .qi (.cons .q (.cons .qi (.cons .qi (.cons .qi (.cons .qi .nil)))))))) .nil (fun k9 s9 H K0 hK9 => ?_)
       refine W.seq ?_
       obtain ⟨hc10, H⟩ := of_must H
       refine W.sr env [] [] [0, 1, 2, 3, 10, 11, 12, 13, 46] [] rfl rfl rfl (.cons hc10 .nil) .nil ?_
       refine W.cond rfl (fun hb11 => ?_) (fun hb11 => ?_)
       · have H := of_true H hb11
         refine W.skip ?_
         refine At.thenC ?_
         refine W.seq ?_
         refine W.block ?_
         obtain ⟨hc12, H⟩ := of_must H
         obtain ⟨hc13, H⟩ := of_must H
         obtain ⟨hc14, H⟩ := of_must H
         refine W.sr env [] [] [0, 1, 2, 3, 10, 11, 12, 13, 62] [] rfl rfl (by first | rfl | kernel_rfl) (.cons hc12 (.cons hc13 (.cons hc14 .nil))) .nil ?_
         refine W.cond rfl (fun hb15 => ?_) (fun hb15 => ?_)
         · have H := of_true H hb15
           obtain ⟨hc16, H⟩ := of_must H
           obtain ⟨hc17, H⟩ := of_must H
           refine W.region env [] [] rfl rfl rfl (.cons hc16 (.cons hc17 .nil)) .nil (At.keep (ts := [0, 1, 2, 3, 10, 11, 12, 13]) (ids := []) rfl rfl ?_)
           refine At.inb ?_
           refine At.thenC ?_
           obtain ⟨hc18, H⟩ := of_must H
           refine W.region env [] [] rfl rfl rfl (.cons hc18 .nil) .nil (At.keep (ts := [0, 1, 2, 3, 10, 11, 12, 13]) (ids := []) rfl rfl ?_)
           refine At.thenK (At.keep (ts := [0, 1, 2, 3, 10, 11, 12, 13]) (ids := []) rfl rfl ?_)
           exact At.conv (.cons .q (.cons .q (.cons .qi (.cons .q (.cons .qi (.cons .qi (.cons .qi (.cons .qi .nil)))))))) .nil (hK9 ((((p0.getD (p2).toNat default).Sends).getD (s9.2).toNat default).Many, (s9.2 + 1)) H)
         · have H := of_false H hb15
           refine W.skip ?_
           refine At.inb ?_
           refine At.thenC ?_
           obtain ⟨hc19, H⟩ := of_must H
           refine W.region env [] [] rfl rfl rfl (.cons hc19 .nil) .nil (At.keep (ts := [0, 1, 2, 3, 10, 11, 12, 13]) (ids := []) rfl rfl ?_)
           refine At.thenK (At.keep (ts := [0, 1, 2, 3, 10, 11, 12, 13]) (ids := []) rfl rfl ?_)
           exact At.conv (.cons .q (.cons .q (.cons .qi (.cons .q (.cons .qi (.cons .qi (.cons .qi (.cons .qi .nil)))))))) .nil (hK9 (s9.1, (s9.2 + 1)) H)
       · have H := of_false H hb11
         refine W.exit ?_
         refine At.xthen ?_
         refine At.xthen ?_
         refine At.xhere ?_
         refine At.thenC ?_
         refine W.seq ?_
         refine W.rg env [0, 1, 2, 3, 10, 11, 12, 73] [] ?_
         refine W.cond rfl (fun hb20 => ?_) (fun hb20 => ?_)
         · have H := of_true H hb20
           refine W.rg env [8] [] ?_
           refine W.ret ?_
           refine At.rthen ?_
           refine At.rinb ?_
           refine At.rthen ?_
           refine At.rthen ?_
           refine At.rinb ?_
           refine At.rthen ?_
           cases H
           exact At.ret env.ty rfl rfl (fun q hq => by cases hq) (.refl _) hval
         · have H := of_false H hb20
           refine W.skip ?_
           refine At.thenC ?_
           obtain ⟨hc21, H⟩ := of_must H
           refine W.region env [] [] rfl rfl rfl (.cons hc21 .nil) .nil (At.keep (ts := [0, 1, 2, 3, 10, 11]) (ids := []) rfl rfl ?_)
           refine At.inb ?_
           refine At.thenC ?_
           obtain ⟨hc22, H⟩ := of_must H
           refine W.region env [] [] rfl rfl rfl (.cons hc22 .nil) .nil (At.keep (ts := [0, 1, 2, 3, 10, 11]) (ids := []) rfl rfl ?_)
           refine At.thenK (At.keep (ts := [0, 1, 2, 3, 10, 11]) (ids := []) rfl rfl ?_)
           exact At.conv (.cons .q (.cons .q (.cons .qi (.cons .q (.cons .qi (.cons .qi .nil)))))) .nil (hK7 ((s7.1 + s9.1), (s7.2 + 1)) H)
     · have H := of_false H hb8
       refine W.exit ?_
       refine At.xthen ?_
       refine At.xthen ?_
       refine At.xhere ?_
       refine At.thenC ?_
       refine W.rg env [1, 3, 10, 14] [] ?_
       refine W.seq ?_
       refine W.rg env [1, 3, 10, 14, 15] [] ?_
       refine W.block ?_
       refine At.keep (ts := [1, 3, 10, 14, 15]) (ids := []) rfl rfl ?_
       refine W.loopGo H (fun (s23 : Int × Int) => [(1, roL 2 enc_Runner p1), (3, roL 1 enc_Int p3), (10, .int .i64 (s7.1)), (14, .int .i64 (s23.1)), (15, .int .i64 (s23.2))]) (fun (s23 : Int × Int) => []) (.cons .q (.cons .q (.cons .qi (.cons .qi (.cons .qi .nil))))) .nil (fun k23 s23 H K0 hK23 => ?_)
       refine W.seq ?_
       refine W.rg env [1, 3, 10, 14, 15, 80] [] ?_
       refine W.cond rfl (fun hb24 => ?_) (fun hb24 => ?_)
       · have H := of_true H hb24
         refine W.skip ?_
         refine At.thenC ?_
         refine W.seq ?_
         refine W.block ?_
         refine W.rg env [1, 3, 10, 14, 15, 16] [] ?_
         refine W.seq ?_
         refine W.rg env [1, 3, 10, 14, 15, 16, 17] [] ?_
         refine W.block ?_
         refine At.keep (ts := [1, 3, 10, 14, 15, 16, 17]) (ids := []) rfl rfl ?_
         refine W.loopGo H (fun (s25 : Bool × Int) => [(1, roL 2 enc_Runner p1), (3, roL 1 enc_Int p3), (10, .int .i64 (s7.1)), (14, .int .i64 (s23.1)), (15, .int .i64 (s23.2)), (16, .bool (s25.1)), (17, .int .i64 (s25.2))]) (fun (s25 : Bool × Int) => []) (.cons .q (.cons .q (.cons .qi (.cons .qi (.cons .qi (.cons .q (.cons .qi .nil))))))) .nil (fun k25 s25 H K0 hK25 => ?_)
         refine W.seq ?_
         refine W.rg env [1, 3, 10, 14, 15, 16, 17, 86] [] ?_
         refine W.cond rfl (fun hb26 => ?_) (fun hb26 => ?_)
         · have H := of_true H hb26
           refine W.skip ?_
           refine At.thenC ?_
           refine W.seq ?_
           refine W.block ?_
           obtain ⟨hc27, H⟩ := of_must H
           obtain ⟨hc28, H⟩ := of_must H
           obtain ⟨y29, hy30, H⟩ := of_bindO H
           refine W.region env [] [⟨.bool (y29), [], 0, []⟩] rfl rfl (by kernel_rfl) (.cons hc27 (.cons (fun h => h) (.cons (fun h => h) (.cons (fun h => h) (.cons (fun h => h) (.cons hc28 (.cons (fun h => h) (.cons (fun h => h) (.cons (fun h => h) (.cons (fun h => h) (.cons (fun h => h) (.cons (fun h => by rw [h]; rfl) .nil)))))))))))) (.on (fun hW => c_gasolierref05_Has fuel ((p1.getD (s23.2).toNat default).Districts) (p3.getD (s25.2).toNat default) (of_true hy30 hW)) .nil) (At.keep (ts := [1, 3, 10, 14, 15, 16, 17]) (ids := []) rfl rfl ?_)
           refine At.inb ?_
           refine At.thenC ?_
           obtain ⟨hc31, H⟩ := of_must H
           refine W.region env [] [] rfl rfl rfl (.cons hc31 .nil) .nil (At.keep (ts := [1, 3, 10, 14, 15, 16, 17]) (ids := []) rfl rfl ?_)
           refine At.thenK (At.keep (ts := [1, 3, 10, 14, 15, 16, 17]) (ids := []) rfl rfl ?_)
           exact At.conv (.cons .q (.cons .q (.cons .qi (.cons .qi (.cons .qi (.cons .q (.cons .qi .nil))))))) .nil (hK25 ((s25.1 || y29), (s25.2 + 1)) H)
         · have H := of_false H hb26
           refine W.exit ?_
           refine At.xthen ?_
           refine At.xthen ?_
           refine At.xhere ?_
           refine At.thenC ?_
           refine W.rg env [1, 3, 10, 14, 15, 102] [] ?_
           refine W.cond rfl (fun hb32 => ?_) (fun hb32 => ?_)
           · have H := of_true H hb32
             obtain ⟨hc33, H⟩ := of_must H
             refine W.region env [] [] rfl rfl rfl (.cons hc33 .nil) .nil (At.keep (ts := [1, 3, 10, 14, 15]) (ids := []) rfl rfl ?_)
             refine At.inb ?_
             refine At.thenC ?_
             obtain ⟨hc34, H⟩ := of_must H
             refine W.region env [] [] rfl rfl rfl (.cons hc34 .nil) .nil (At.keep (ts := [1, 3, 10, 14, 15]) (ids := []) rfl rfl ?_)
             refine At.thenK (At.keep (ts := [1, 3, 10, 14, 15]) (ids := []) rfl rfl ?_)
             exact At.conv (.cons .q (.cons .q (.cons .qi (.cons .qi (.cons .qi .nil))))) .nil (hK23 ((s23.1 + 1), (s23.2 + 1)) H)
           · have H := of_false H hb32
             refine W.skip ?_
             refine At.inb ?_
             refine At.thenC ?_
             obtain ⟨hc35, H⟩ := of_must H
             refine W.region env [] [] rfl rfl rfl (.cons hc35 .nil) .nil (At.keep (ts := [1, 3, 10, 14, 15]) (ids := []) rfl rfl ?_)
             refine At.thenK (At.keep (ts := [1, 3, 10, 14, 15]) (ids := []) rfl rfl ?_)
             exact At.conv (.cons .q (.cons .q (.cons .qi (.cons .qi (.cons .qi .nil))))) .nil (hK23 (s23.1, (s23.2 + 1)) H)
       · have H := of_false H hb24
         refine W.exit ?_
         refine At.xthen ?_
         refine At.xthen ?_
         refine At.xhere ?_
         refine At.thenC ?_
         refine W.seq ?_
         refine W.rg env [107] [] ?_
         refine W.cond rfl (fun hb36 => ?_) (fun hb36 => ?_)
         · have H := of_true H hb36
           refine W.rg env [8] [] ?_
           refine W.ret ?_
           refine At.rthen ?_
           cases H
           exact At.ret env.ty rfl rfl (fun q hq => by cases hq) (.refl _) hval
         · have H := of_false H hb36
           refine W.skip ?_
           refine At.thenC ?_
           refine W.rg env [8] [] ?_
           refine W.ret ?_
           cases H
           exact At.ret env.ty rfl rfl (fun q hq => by cases hq) (.refl _) hval
theorem c_gasolierlaw05_reports  : Ctr Tryz.prog 75 [] (roL 9 enc_Report (gasolierlaw05_reports)) := by
 obtain ⟨r, H⟩ : ∃ r, gasolierlaw05_reports = r := ⟨_, rfl⟩
 rw [H]
 unfold gasolierlaw05_reports at H
 refine Ctr.of_body (N := 8) Tryz.func75 (by kernel_rfl) (c := _) rfl Tryz.ntmps75 rfl (fun w0 h0 hval => ?_)
 refine W.rg env [] [] ?_
 refine W.seq ?_
 refine W.region env [] [] rfl rfl rfl .nil .nil (At.keep (ts := [0]) (ids := []) rfl rfl ?_)
 refine At.slot (t := 0) (v := roL 9 enc_Report ([(⟨1, 1, 2, 300, 500, (⟨100, 400⟩ : Range), 3180, 0⟩ : Report), (⟨2, 1, 2, 400, 600, (⟨50, 150⟩ : Range), 3350, 0⟩ : Report), (⟨3, 1, 2, 450, 450, (⟨200, 300⟩ : Range), 3480, 0⟩ : Report)] : List Report)) (Sim.lit (f := enc_Report) ([(⟨1, 1, 2, 300, 500, (⟨100, 400⟩ : Range), 3180, 0⟩ : Report), (⟨2, 1, 2, 400, 600, (⟨50, 150⟩ : Range), 3350, 0⟩ : Report), (⟨3, 1, 2, 450, 450, (⟨200, 300⟩ : Range), 3480, 0⟩ : Report)] : List Report) rfl rfl (fun _ => rfl)) ?_
 refine At.thenC ?_
 refine W.ret ?_
 cases H
 exact At.ret env.ty rfl rfl (fun q hq => by cases hq) (.refl _) hval
theorem c_gasolierlaw05_policy  : Ctr Tryz.prog 76 [] (roL 8 enc_Node (gasolierlaw05_policy)) := by
 obtain ⟨r, H⟩ : ∃ r, gasolierlaw05_policy = r := ⟨_, rfl⟩
 rw [H]
 unfold gasolierlaw05_policy at H
 refine Ctr.of_body (N := 11) Tryz.func76 (by kernel_rfl) (c := _) rfl Tryz.ntmps76 rfl (fun w0 h0 hval => ?_)
 refine W.rg env [] [] ?_
 refine W.seq ?_
 refine W.region env [] [] rfl rfl rfl .nil .nil (At.keep (ts := [0]) (ids := []) rfl rfl ?_)
 refine At.slot (t := 0) (v := roL 8 enc_Node ([(⟨true, 1, 480, 200, 1, 2, 3, []⟩ : Node), (⟨false, 0, 0, 0, 0, 0, 0, ([(⟨1, 2⟩ : Send), (⟨2, 1⟩ : Send)] : List Send)⟩ : Node), (⟨false, 0, 0, 0, 0, 0, 0, []⟩ : Node), (⟨false, 0, 0, 0, 0, 0, 0, ([(⟨1, 1⟩ : Send)] : List Send)⟩ : Node)] : List Node)) (Sim.lit2 (f := enc_Node) ([(⟨true, 1, 480, 200, 1, 2, 3, []⟩ : Node), (⟨false, 0, 0, 0, 0, 0, 0, ([(⟨1, 2⟩ : Send), (⟨2, 1⟩ : Send)] : List Send)⟩ : Node), (⟨false, 0, 0, 0, 0, 0, 0, []⟩ : Node), (⟨false, 0, 0, 0, 0, 0, 0, ([(⟨1, 1⟩ : Send)] : List Send)⟩ : Node)] : List Node) (.cons (.refl _) (.cons (.refl _) (.cons (.refl _) (.cons (.refl _) (.cons (.refl _) (.cons (.refl _) (.cons (.refl _) (.cons (Sim.nil _ _) (.cons (.refl _) (.cons (.refl _) (.cons (.refl _) (.cons (.refl _) (.cons (.refl _) (.cons (.refl _) (.cons (.refl _) (.cons (Sim.lit (f := enc_Send) ([(⟨1, 2⟩ : Send), (⟨2, 1⟩ : Send)] : List Send) rfl rfl (fun _ => rfl)) (.cons (.refl _) (.cons (.refl _) (.cons (.refl _) (.cons (.refl _) (.cons (.refl _) (.cons (.refl _) (.cons (.refl _) (.cons (Sim.nil _ _) (.cons (.refl _) (.cons (.refl _) (.cons (.refl _) (.cons (.refl _) (.cons (.refl _) (.cons (.refl _) (.cons (.refl _) (.cons (Sim.lit (f := enc_Send) ([(⟨1, 1⟩ : Send)] : List Send) rfl rfl (fun _ => rfl)) .nil)))))))))))))))))))))))))))))))) rfl rfl (fun _ => rfl)) ?_
 refine At.thenC ?_
 refine W.ret ?_
 cases H
 exact At.ret env.ty rfl rfl (fun q hq => by cases hq) (.refl _) hval
theorem c_gasolierlaw05_runners  : Ctr Tryz.prog 77 [] (roL 2 enc_Runner (gasolierlaw05_runners)) := by
 obtain ⟨r, H⟩ : ∃ r, gasolierlaw05_runners = r := ⟨_, rfl⟩
 rw [H]
 unfold gasolierlaw05_runners at H
 refine Ctr.of_body (N := 8) Tryz.func77 (by kernel_rfl) (c := _) rfl Tryz.ntmps77 rfl (fun w0 h0 hval => ?_)
 refine W.rg env [] [] ?_
 refine W.seq ?_
 refine W.region env [] [] rfl rfl rfl .nil .nil (At.keep (ts := [0]) (ids := []) rfl rfl ?_)
 refine At.slot (t := 0) (v := roL 2 enc_Runner ([(⟨10, ([1] : List Int)⟩ : Runner), (⟨11, ([1, 2] : List Int)⟩ : Runner), (⟨12, ([2] : List Int)⟩ : Runner)] : List Runner)) (Sim.lit2 (f := enc_Runner) ([(⟨10, ([1] : List Int)⟩ : Runner), (⟨11, ([1, 2] : List Int)⟩ : Runner), (⟨12, ([2] : List Int)⟩ : Runner)] : List Runner) (.cons (.refl _) (.cons (Sim.lit (f := enc_Int) ([1] : List Int) rfl rfl (fun _ => rfl)) (.cons (.refl _) (.cons (Sim.lit (f := enc_Int) ([1, 2] : List Int) rfl rfl (fun _ => rfl)) (.cons (.refl _) (.cons (Sim.lit (f := enc_Int) ([2] : List Int) rfl rfl (fun _ => rfl)) .nil)))))) rfl rfl (fun _ => rfl)) ?_
 refine At.thenC ?_
 refine W.ret ?_
 cases H
 exact At.ret env.ty rfl rfl (fun q hq => by cases hq) (.refl _) hval
theorem c_fog_isNight (p0 : Int) : Ctr Tryz.prog 120 [.int .i64 (p0)] (.bool ((fog_isNight p0))) := by
 obtain ⟨r, H⟩ : ∃ r, fog_isNight p0 = r := ⟨_, rfl⟩
 rw [H]
 unfold fog_isNight at H
 refine Ctr.of_body (N := 5) Tryz.func120 (by kernel_rfl) (c := _) rfl Tryz.ntmps120 rfl (fun w0 h0 hval => ?_)
 refine W.rg env [0] [] ?_
 refine W.sr env [] [⟨.bool ((fog_within p0 0 100000)), [], 0, []⟩] [2] [] rfl rfl rfl .nil (.free (c_fog_within p0 0 100000) .nil) ?_
 refine W.ret ?_
 cases H
 exact At.ret env.ty rfl rfl (fun q hq => by cases hq) (.refl _) hval
theorem c_fog_isRange (p0 : Range) (p1 : Int) : Ctr Tryz.prog 121 [.agg [.int .i64 (p0.Lo), .int .i64 (p0.Hi)], .int .i64 (p1)] (.bool ((fog_isRange p0 p1))) := by
 obtain ⟨r, H⟩ : ∃ r, fog_isRange p0 p1 = r := ⟨_, rfl⟩
 rw [H]
 unfold fog_isRange at H
 refine Ctr.of_body (N := 21) Tryz.func121 (by kernel_rfl) (c := _) rfl Tryz.ntmps121 rfl (fun w0 h0 hval => ?_)
 refine W.rg env [1, 2] [2] ?_
 refine W.sr env [] [] [4] [] rfl rfl rfl (.cons (fun h => h) (.cons (fun h => h) (.cons (fun h => h) (.cons (fun h => h) (.cons (fun h => h) (.cons (fun h => h) (.cons (fun h => h) (.cons (fun h => h) (.cons (fun h => h) .nil))))))))) .nil ?_
 refine W.ret ?_
 cases H
 exact At.ret env.ty rfl rfl (fun q hq => by cases hq) (.refl _) hval
theorem c_fog_isMoment (p0 : Int) : Ctr Tryz.prog 116 [.int .i64 (p0)] (.bool ((fog_isMoment p0))) := by
 obtain ⟨r, H⟩ : ∃ r, fog_isMoment p0 = r := ⟨_, rfl⟩
 rw [H]
 unfold fog_isMoment at H
 refine Ctr.of_body (N := 5) Tryz.func116 (by kernel_rfl) (c := _) rfl Tryz.ntmps116 rfl (fun w0 h0 hval => ?_)
 refine W.rg env [0] [] ?_
 refine W.sr env [] [⟨.bool ((fog_within p0 0 144001439)), [], 0, []⟩] [2] [] rfl rfl rfl .nil (.free (c_fog_within p0 0 144001439) .nil) ?_
 refine W.ret ?_
 cases H
 exact At.ret env.ty rfl rfl (fun q hq => by cases hq) (.refl _) hval
theorem c_fog_CheckReport (p0 : Report) : Ctr Tryz.prog 56 [.agg [.int .i64 (p0.Source), .int .i64 (p0.District), .int .i64 (p0.Night), .int .i64 (p0.From), .int .i64 (p0.To), .int .i64 (p0.Sight.Lo), .int .i64 (p0.Sight.Hi), .int .i64 (p0.Known), .int .i64 (p0.Until)]] (.int .i64 ((fog_CheckReport p0))) := by
 obtain ⟨r, H⟩ : ∃ r, fog_CheckReport p0 = r := ⟨_, rfl⟩
 rw [H]
 unfold fog_CheckReport at H
 refine Ctr.of_body (N := 58) Tryz.func56 (by kernel_rfl) (c := _) rfl Tryz.ntmps56 rfl (fun w0 h0 hval => ?_)
 refine W.rg env [1] [1] ?_
 refine W.seq ?_
 refine W.sr env [] [⟨.bool ((fog_within p0.Source 1 99999)), [], 0, []⟩, ⟨.bool ((fog_isDistrict p0.District)), [], 0, []⟩, ⟨.bool ((fog_isNight p0.Night)), [], 0, []⟩, ⟨.bool ((fog_isRange (⟨p0.From, p0.To⟩ : Range) 1439)), [], 0, []⟩, ⟨.bool ((fog_isRange p0.Sight 5000)), [], 0, []⟩, ⟨.bool ((fog_isMoment p0.Known)), [], 0, []⟩, ⟨.bool ((fog_isMoment p0.Until)), [], 0, []⟩] [57] [] rfl rfl rfl (.cons (fun h => h) (.cons (fun h => h) (.cons (fun h => h) (.cons (fun h => by rw [h]; rfl) (.cons (fun h => h) (.cons (fun h => h) (.cons (fun h => h) (.cons (fun h => by rw [h]; rfl) (.cons (fun h => h) (.cons (fun h => h) (.cons (fun h => h) (.cons (fun h => h) (.cons (fun h => h) (.cons (fun h => h) (.cons (fun h => by rw [h]; rfl) (.cons (fun h => h) (.cons (fun h => h) (.cons (fun h => h) (.cons (fun h => by rw [h]; rfl) (.cons (fun h => h) (.cons (fun h => h) (.cons (fun h => h) (.cons (fun h => by rw [h]; rfl) (.cons (fun h => h) (.cons (fun h => h) (.cons (fun h => h) (.cons (fun h => h) (.cons (fun h => h) (.cons (fun h => h) (.cons (fun h => h) (.cons (fun h => h) (.cons (fun h => h) (.cons (fun h => h) (.cons (fun h => h) (.cons (fun h => h) (.cons (fun hW h => by revert hW h; first | (simp +contextual; done) | grind) (.cons (fun h => h) (.cons (fun hW h => by revert hW h; first | (simp +contextual; done) | grind) (.cons (fun h => by rw [h]; rfl) .nil))))))))))))))))))))))))))))))))))))))) (.free (c_fog_within p0.Source 1 99999) (.on (fun hW => c_fog_isDistrict p0.District) (.on (fun hW => c_fog_isNight p0.Night) (.on (fun hW => c_fog_isRange (⟨p0.From, p0.To⟩ : Range) 1439) (.on (fun hW => c_fog_isRange p0.Sight 5000) (.on (fun hW => c_fog_isMoment p0.Known) (.on (fun hW => c_fog_isMoment p0.Until) .nil))))))) ?_
 refine W.cond rfl (fun hb1 => ?_) (fun hb1 => ?_)
 · have H := of_true H hb1
   refine W.rg env [2] [] ?_
   refine W.ret ?_
   refine At.rthen ?_
   cases H
   exact At.ret env.ty rfl rfl (fun q hq => by cases hq) (.refl _) hval
 · have H := of_false H hb1
   refine W.skip ?_
   refine At.thenC ?_
   refine W.rg env [2] [] ?_
   refine W.ret ?_
   cases H
   exact At.ret env.ty rfl rfl (fun q hq => by cases hq) (.refl _) hval
theorem c_cmp_isNaN_int (p0 : Int) : Ctr Tryz.prog 157 [.int .i64 (p0)] (.bool ((cmp_isNaN_int p0))) := by
 obtain ⟨r, H⟩ : ∃ r, cmp_isNaN_int p0 = r := ⟨_, rfl⟩
 rw [H]
 unfold cmp_isNaN_int at H
 refine Ctr.of_body (N := 6) Tryz.func157 (by kernel_rfl) (c := _) rfl Tryz.ntmps157 rfl (fun w0 h0 hval => ?_)
 refine W.rg env [0] [] ?_
 refine W.rg env [2] [] ?_
 refine W.ret ?_
 cases H
 exact At.ret env.ty rfl rfl (fun q hq => by cases hq) (.refl _) hval
theorem c_cmp_Compare_int (p0 : Int) (p1 : Int) : Ctr Tryz.prog 148 [.int .i64 (p0), .int .i64 (p1)] (.int .i64 ((cmp_Compare_int p0 p1))) := by
 obtain ⟨r, H⟩ : ∃ r, cmp_Compare_int p0 p1 = r := ⟨_, rfl⟩
 rw [H]
 unfold cmp_Compare_int at H
 refine Ctr.of_body (N := 20) Tryz.func148 (by kernel_rfl) (c := _) rfl Tryz.ntmps148 rfl (fun w0 h0 hval => ?_)
 refine W.rg env [0, 1] [] ?_
 refine W.sr env [] [⟨.bool ((cmp_isNaN_int p0)), [], 0, []⟩] [0, 1, 5] [] rfl rfl rfl .nil (.free (c_cmp_isNaN_int p0) .nil) ?_
 refine W.sr env [] [⟨.bool ((cmp_isNaN_int p1)), [], 0, []⟩] [0, 1, 5, 6] [] rfl rfl rfl .nil (.free (c_cmp_isNaN_int p1) .nil) ?_
 refine W.seq ?_
 refine W.rg env [0, 1, 6, 11] [] ?_
 refine W.cond rfl (fun hb1 => ?_) (fun hb1 => ?_)
 · have H := of_true H hb1
   refine W.seq ?_
   refine W.rg env [12] [] ?_
   refine W.cond rfl (fun hb2 => ?_) (fun hb2 => ?_)
   · have H := of_true H hb2
     refine W.rg env [4] [] ?_
     refine W.ret ?_
     refine At.rthen ?_
     refine At.rthen ?_
     cases H
     exact At.ret env.ty rfl rfl (fun q hq => by cases hq) (.refl _) hval
   · have H := of_false H hb2
     refine W.skip ?_
     refine At.thenC ?_
     refine W.rg env [4] [] ?_
     refine W.ret ?_
     refine At.rthen ?_
     cases H
     exact At.ret env.ty rfl rfl (fun q hq => by cases hq) (.refl _) hval
 · have H := of_false H hb1
   refine W.skip ?_
   refine At.thenC ?_
   refine W.seq ?_
   refine W.rg env [0, 1, 13] [] ?_
   refine W.cond rfl (fun hb3 => ?_) (fun hb3 => ?_)
   · have H := of_true H hb3
     refine W.rg env [4] [] ?_
     refine W.ret ?_
     refine At.rthen ?_
     cases H
     exact At.ret env.ty rfl rfl (fun q hq => by cases hq) (.refl _) hval
   · have H := of_false H hb3
     refine W.skip ?_
     refine At.thenC ?_
     refine W.seq ?_
     refine W.rg env [0, 1, 16] [] ?_
     refine W.cond rfl (fun hb4 => ?_) (fun hb4 => ?_)
     · have H := of_true H hb4
       refine W.rg env [4] [] ?_
       refine W.ret ?_
       refine At.rthen ?_
       cases H
       exact At.ret env.ty rfl rfl (fun q hq => by cases hq) (.refl _) hval
     · have H := of_false H hb4
       refine W.skip ?_
       refine At.thenC ?_
       refine W.seq ?_
       refine W.rg env [19] [] ?_
       refine W.cond rfl (fun hb5 => ?_) (fun hb5 => ?_)
       · have H := of_true H hb5
         refine W.rg env [4] [] ?_
         refine W.ret ?_
         refine At.rthen ?_
         cases H
         exact At.ret env.ty rfl rfl (fun q hq => by cases hq) (.refl _) hval
       · have H := of_false H hb5
         refine W.skip ?_
         refine At.thenC ?_
         refine W.rg env [4] [] ?_
         refine W.ret ?_
         cases H
         exact At.ret env.ty rfl rfl (fun q hq => by cases hq) (.refl _) hval
theorem c_fog_compare (p0 : Report) (p1 : Report) : Ctr Tryz.prog 114 [.agg [.int .i64 (p0.Source), .int .i64 (p0.District), .int .i64 (p0.Night), .int .i64 (p0.From), .int .i64 (p0.To), .int .i64 (p0.Sight.Lo), .int .i64 (p0.Sight.Hi), .int .i64 (p0.Known), .int .i64 (p0.Until)], .agg [.int .i64 (p1.Source), .int .i64 (p1.District), .int .i64 (p1.Night), .int .i64 (p1.From), .int .i64 (p1.To), .int .i64 (p1.Sight.Lo), .int .i64 (p1.Sight.Hi), .int .i64 (p1.Known), .int .i64 (p1.Until)]] (.int .i64 ((fog_compare p0 p1))) := by
 obtain ⟨r, H⟩ : ∃ r, fog_compare p0 p1 = r := ⟨_, rfl⟩
 rw [H]
 unfold fog_compare at H
 refine Ctr.of_body (N := 10) Tryz.func114 (by kernel_rfl) (c := _) rfl Tryz.ntmps114 rfl (fun w0 h0 hval => ?_)
 refine W.rg env [2, 3] [2, 3] ?_
 refine W.sr env [] [⟨.int .i64 ((cmp_Compare_int p0.Source p1.Source)), [], 0, []⟩] [4] [] rfl rfl rfl .nil (.free (c_cmp_Compare_int p0.Source p1.Source) .nil) ?_
 refine W.ret ?_
 cases H
 exact At.ret env.ty rfl rfl (fun q hq => by cases hq) (.refl _) hval
theorem c_fog_Check (p0 : (List Report)) {r : Int} (H : fog_Check p0 = some r) : Ctr Tryz.prog 58 [roL 9 enc_Report p0] (.int .i64 (r)) := by
 unfold fog_Check at H
 refine Ctr.of_body (N := 33) Tryz.func58 (by kernel_rfl) (c := _) rfl Tryz.ntmps58 rfl (fun w0 h0 hval => ?_)
 refine W.rg env [0] [] ?_
 refine W.seq ?_
 refine W.rg env [0, 7] [] ?_
 refine W.cond rfl (fun hb1 => ?_) (fun hb1 => ?_)
 · have H := of_true H hb1
   refine W.rg env [2] [] ?_
   refine W.ret ?_
   refine At.rthen ?_
   cases H
   exact At.ret env.ty rfl rfl (fun q hq => by cases hq) (.refl _) hval
 · have H := of_false H hb1
   refine W.skip ?_
   refine At.thenC ?_
   refine W.seq ?_
   refine W.rg env [0, 8, 9, 10] [] ?_
   refine W.block ?_
   refine At.keep (ts := [0, 8, 9, 10]) (ids := []) rfl rfl ?_
   refine W.len (t := 8) rfl (fun (hn2 : p0.length ≤ maxLen) => ?_)
   refine W.rangeGo H (fun i2 (s2 : Unit) => [(0, roL 9 enc_Report p0), (8, roL 9 enc_Report p0), (9, .int .i64 (((p0.length : Nat) : Int))), (10, .int .i64 ((i2 : Int)))]) (fun i2 (s2 : Unit) => []) (.cons .q (.cons .q (.cons .qi (.cons .qi .nil)))) .nil (fun k2 i2 s2 hle2 H1 H2 K0 hK2 => ?_)
   refine W.rg env [0, 8, 9, 10, 11] [] ?_
   refine W.seq ?_
   refine W.cond rfl (fun hb3 => ?_) (fun hb3 => ?_)
   · have hi2 : i2 < p0.length := by have := of_decide_eq_true hb3; omega
     have H := H1 hi2
     refine W.skip ?_
     refine At.thenC ?_
     refine W.seq ?_
     refine W.block ?_
     refine W.sr env [] [] [0, 3, 4, 8, 9, 10] [4] rfl rfl rfl (.cons (⟨by omega, by omega⟩ : 0 ≤ (i2 : Int) ∧ (i2 : Int) < ((p0.length : Nat) : Int)) .nil) .nil ?_
     obtain ⟨hc4, H⟩ := of_must H
     obtain ⟨hc5, H⟩ := of_must H
     refine W.sr env [] [⟨.int .i64 ((fog_CheckReport (p0.getD i2 default))), [], 0, []⟩, ⟨.int .i64 ((fog_compare (p0.getD (((i2 : Int) - 1)).toNat default) (p0.getD i2 default))), [], 0, []⟩] [0, 8, 9, 10, 31] [] rfl rfl (by kernel_rfl) (.cons (fun h => h) (.cons (fun h => h) (.cons hc4 (.cons (fun h => h) (.cons hc5 (.cons (fun h => h) (.cons (fun h => h) (.cons (fun h => h) (.cons (fun h => h) (.cons (fun h => h) (.cons (fun h => h) (.cons (fun h => h) (.cons (fun hW h => by revert hW h; first | (simp +contextual; done) | grind) (.cons (fun h => by rw [h]; rfl) .nil)))))))))))))) (.free (c_fog_CheckReport (p0.getD i2 default)) (.on (fun hW => c_fog_compare (p0.getD (((i2 : Int) - 1)).toNat default) (p0.getD i2 default)) .nil)) ?_
     refine W.cond rfl (fun hb6 => ?_) (fun hb6 => ?_)
     · have H := of_true H hb6
       refine W.rg env [2] [] ?_
       refine W.ret ?_
       refine At.rinb ?_
       refine At.rthen ?_
       refine At.rthen ?_
       refine At.rinb ?_
       refine At.rthen ?_
       cases H
       exact At.ret env.ty rfl rfl (fun q hq => by cases hq) (.refl _) hval
     · have H := of_false H hb6
       refine W.skip ?_
       refine At.inb ?_
       refine At.thenC ?_
       refine W.region env [] [] rfl rfl rfl (.cons (by unfold inI; have := hn2; (try unfold maxLen at this); omega) .nil) .nil (At.keep (ts := [0, 8, 9, 10]) (ids := []) rfl rfl ?_)
       refine At.thenK (At.keep (ts := [0, 8, 9, 10]) (ids := []) rfl rfl ?_)
       exact At.conv (.cons .q (.cons .q (.cons .qi (.cons .qi .nil)))) .nil (hK2 hi2 () H)
   · have H := H2 (by have := of_decide_eq_false hb3; omega)
     refine W.exit ?_
     refine At.xthen ?_
     refine At.xthen ?_
     refine At.xhere ?_
     refine At.thenC ?_
     refine W.rg env [2] [] ?_
     refine W.ret ?_
     cases H
     exact At.ret env.ty rfl rfl (fun q hq => by cases hq) (.refl _) hval
theorem c_slices_Clone_Report (p0 : (List Report)) {r : (List Report)} (H : slices_Clone_Report p0 = some r) : Ctr Tryz.prog 67 [roL 9 enc_Report p0] (roL 9 enc_Report r) := by
 unfold slices_Clone_Report at H
 refine Ctr.of_body (N := 8) Tryz.func67 (by kernel_rfl) (c := _) rfl Tryz.ntmps67 rfl (fun w0 h0 hval => ?_)
 refine W.rg env [0] [] ?_
 refine W.seq ?_
 refine W.rg env [0, 4] [] ?_
 refine W.condNz rfl (fun hz => ?_) ?_
 · obtain rfl : p0 = [] := List.length_eq_zero_iff.1 hz
   obtain ⟨hc1, H⟩ := of_must H
   refine W.rg env [2] [] ?_
   refine W.ret ?_
   refine At.rthen ?_
   cases H
   exact At.ret env.ty rfl rfl (fun q hq => by cases hq) (Sim.nil _ _) hval
 · refine W.skip ?_
   refine At.thenC ?_
   refine W.seq ?_
   obtain ⟨hc1, H⟩ := of_must H
   refine W.region env [5] [] rfl rfl rfl (.cons (⟨by first | rfl | (simp; done) | omega | (simp; omega), by have := hc1; first | simpa using this | (unfold room at this ⊢; simp at this ⊢; omega)⟩) .nil) .nil (At.keep (ts := [2]) (ids := [5]) rfl rfl ?_)
   refine At.convM (.cons (y := bufL 90 9 enc_Report (([] : List Report) ++ p0)) (BSim.seg (Seg.push (Seg.lit (f := enc_Report) (sz := 9) ([] : List Report) rfl rfl (fun _ => rfl)) (Seg.refl enc_Report p0))) .nil) ?_
   refine At.thenC ?_
   refine W.ret ?_
   cases H
   exact At.ret env.ty rfl rfl (fun q hq => by cases hq; exact (by first | rfl | (simp; done) | omega | (simp; omega))) (.refl _) hval
theorem c_slices_IndexFunc_Report (p0 : (List Report)) (p1 : Report → Option Bool) (p1_g : Nat) (p1_a p1_b : List AV) (p1_h : ∀ x0 r, p1 x0 = some r → Ctr Tryz.prog p1_g (p1_a ++ ([.agg [.int .i64 (x0.Source), .int .i64 (x0.District), .int .i64 (x0.Night), .int .i64 (x0.From), .int .i64 (x0.To), .int .i64 (x0.Sight.Lo), .int .i64 (x0.Sight.Hi), .int .i64 (x0.Known), .int .i64 (x0.Until)]] ++ p1_b)) (.bool (r))) {r : Int} (H : slices_IndexFunc_Report p0 p1 = some r) : Ctr Tryz.prog 64 [roL 9 enc_Report p0, .clo (.func p1_g) p1_a p1_b] (.int .i64 (r)) := by
 unfold slices_IndexFunc_Report at H
 refine Ctr.of_body (N := 19) Tryz.func64 (by kernel_rfl) (c := _) rfl Tryz.ntmps64 rfl (fun w0 h0 hval => ?_)
 refine W.rg env [0, 1] [] ?_
 refine W.seq ?_
 refine W.rg env [0, 1, 7, 8] [] ?_
 refine W.block ?_
 refine At.keep (ts := [0, 1, 7, 8]) (ids := []) rfl rfl ?_
 refine W.len (t := 0) rfl (fun (hn1 : p0.length ≤ maxLen) => ?_)
 refine W.rangeGo H (fun i1 (s1 : Unit) => [(0, roL 9 enc_Report p0), (1, .clo (.func p1_g) p1_a p1_b), (7, .int .i64 (((p0.length : Nat) : Int))), (8, .int .i64 ((i1 : Int)))]) (fun i1 (s1 : Unit) => []) (.cons .q (.cons .q (.cons .qi (.cons .qi .nil)))) .nil (fun k1 i1 s1 hle1 H1 H2 K0 hK1 => ?_)
 refine W.rg env [0, 1, 7, 8, 9] [] ?_
 refine W.seq ?_
 refine W.cond rfl (fun hb2 => ?_) (fun hb2 => ?_)
 · have hi1 : i1 < p0.length := by have := of_decide_eq_true hb2; omega
   have H := H1 hi1
   refine W.skip ?_
   refine At.thenC ?_
   refine W.seq ?_
   refine W.block ?_
   refine W.rg env [0, 1, 5, 7, 8] [] ?_
   refine W.seq ?_
   obtain ⟨y3, hy4, H⟩ := of_bindO H
   refine W.region env [] [⟨.bool (y3), [], 0, []⟩] rfl rfl rfl (.cons (⟨by omega, by omega⟩ : 0 ≤ (i1 : Int) ∧ (i1 : Int) < ((p0.length : Nat) : Int)) .nil) (.free (p1_h (p0.getD i1 default) _ hy4) .nil) (At.keep (ts := [0, 1, 5, 7, 8, 16]) (ids := []) rfl rfl ?_)
   refine At.thenC ?_
   refine W.cond rfl (fun hb5 => ?_) (fun hb5 => ?_)
   · have H := of_true H hb5
     refine W.rg env [4] [] ?_
     refine W.ret ?_
     refine At.rinb ?_
     refine At.rthen ?_
     refine At.rthen ?_
     refine At.rinb ?_
     refine At.rthen ?_
     cases H
     exact At.ret env.ty rfl rfl (fun q hq => by cases hq) (.refl _) hval
   · have H := of_false H hb5
     refine W.skip ?_
     refine At.inb ?_
     refine At.thenC ?_
     refine W.region env [] [] rfl rfl rfl (.cons (by unfold inI; have := hn1; (try unfold maxLen at this); omega) .nil) .nil (At.keep (ts := [0, 1, 7, 8]) (ids := []) rfl rfl ?_)
     refine At.thenK (At.keep (ts := [0, 1, 7, 8]) (ids := []) rfl rfl ?_)
     exact At.conv (.cons .q (.cons .q (.cons .qi (.cons .qi .nil)))) .nil (hK1 hi1 () H)
 · have H := H2 (by have := of_decide_eq_false hb2; omega)
   refine W.exit ?_
   refine At.xthen ?_
   refine At.xthen ?_
   refine At.xhere ?_
   refine At.thenC ?_
   refine W.rg env [4] [] ?_
   refine W.ret ?_
   cases H
   exact At.ret env.ty rfl rfl (fun q hq => by cases hq) (.refl _) hval
theorem co_slices_DeleteFunc_Report (fuel : Nat) (p0 : (List Report)) (p1 : Report → Option Bool) (p1_g : Nat) (p1_a p1_b : List AV) (p1_h : ∀ x0 r, p1 x0 = some r → Ctr Tryz.prog p1_g (p1_a ++ ([.agg [.int .i64 (x0.Source), .int .i64 (x0.District), .int .i64 (x0.Night), .int .i64 (x0.From), .int .i64 (x0.To), .int .i64 (x0.Sight.Lo), .int .i64 (x0.Sight.Hi), .int .i64 (x0.Known), .int .i64 (x0.Until)]] ++ p1_b)) (.bool (r))) {r : (List Report)} (H : slices_DeleteFunc_Report fuel p0 p1 = some r) : CtrO Tryz.prog 129 [.buf 700 (p0).length, .clo (.func p1_g) p1_a p1_b] [(700, bufL 90 9 enc_Report p0)] (.buf 900 r.length) [(900, bufL 90 9 enc_Report r)] := by
 unfold slices_DeleteFunc_Report at H
 refine CtrO.of_body (N := 42) Tryz.func129 (by kernel_rfl) (c := _) rfl Tryz.ntmps129 rfl (fun w0 h0 ρb hval hdom => ?_)
 refine W.rg env [0, 1] [700] ?_
 refine W.seq ?_
 obtain ⟨y1, hy2, H⟩ := of_bindO H
 refine W.region env [] [⟨.int .i64 (y1), [], 0, []⟩] rfl rfl rfl (.cons (by first | rfl | (simp; done) | omega | (simp; omega)) .nil) (.free (c_slices_IndexFunc_Report p0 p1 p1_g p1_a p1_b p1_h hy2) .nil) (At.keep (ts := [0, 1, 5]) (ids := [700]) rfl rfl ?_)
 refine At.thenC ?_
 refine W.seq ?_
 refine W.rg env [0, 1, 5, 12] [700] ?_
 refine W.cond rfl (fun hb3 => ?_) (fun hb3 => ?_)
 · have H := of_true H hb3
   refine W.rg env [4] [700] ?_
   refine W.ret ?_
   refine At.rthen ?_
   cases H
   exact At.retK env.ty [700] 200 rfl rfl rfl rfl (.cons (.refl _) .nil) (.of_eq (by refine bufEq ?_; first | (simp [copyAt]; done) | omega | (simp [copyAt]; omega) | rfl)) hval hdom rfl
 · have H := of_false H hb3
   refine W.skip ?_
   refine At.thenC ?_
   refine W.seq ?_
   obtain ⟨hc4, H⟩ := of_must H
   refine W.sr env [] [] [0, 1, 5, 6] [700] rfl rfl rfl (.cons hc4 .nil) .nil ?_
   refine W.block ?_
   refine At.keep (ts := [0, 1, 5, 6]) (ids := [700]) rfl rfl ?_
   refine W.loopGo H (fun (s5 : Int × Int × (List Report)) => [(0, .buf 700 (s5.2.2).length), (1, .clo (.func p1_g) p1_a p1_b), (5, .int .i64 (s5.1)), (6, .int .i64 (s5.2.1))]) (fun (s5 : Int × Int × (List Report)) => [(700, bufL 90 9 enc_Report s5.2.2)]) (.cons .qb (.cons .q (.cons .qi (.cons .qi .nil)))) (.cons .q .nil) (fun k5 s5 H K0 hK5 => ?_)
   refine W.seq ?_
   refine W.sr env [] [] [0, 1, 5, 6, 19] [700] rfl rfl rfl (.cons (by first | rfl | (simp; done) | omega | (simp; omega)) .nil) .nil ?_
   refine W.cond rfl (fun hb6 => ?_) (fun hb6 => ?_)
   · have H := of_true H hb6
     refine W.skip ?_
     refine At.thenC ?_
     refine W.seq ?_
     refine W.block ?_
     obtain ⟨hc7, H⟩ := of_must H
     refine W.sr env [] [] [0, 1, 5, 6, 7] [7, 700] rfl rfl rfl (.cons (⟨by first | rfl | (simp; done) | omega | (simp; omega), hc7⟩) (.cons (⟨by first | rfl | (simp; done) | omega | (simp; omega), (by have := hc7; first | omega | (simp only [List.length_set]; omega) | (simp only [Int.toNat_natCast] at *; omega) | (simp at this ⊢; omega))⟩) .nil)) .nil ?_
     refine W.seq ?_
     obtain ⟨y8, hy9, H⟩ := of_bindO H
     refine W.region env [] [⟨.bool (y8), [], 0, []⟩] rfl rfl rfl .nil (.free (p1_h (s5.2.2.getD (s5.2.1).toNat default) _ hy9) .nil) (At.keep (ts := [0, 1, 5, 6, 7, 29]) (ids := [7, 700]) rfl rfl ?_)
     refine At.thenC ?_
     refine W.cond rfl (fun hb10 => ?_) (fun hb10 => ?_)
     · have H := of_true H hb10
       refine W.seq ?_
       obtain ⟨hc11, H⟩ := of_must H
       refine W.region env [] [] rfl rfl rfl (.cons (⟨by first | rfl | (simp; done) | omega | (simp; omega), hc11⟩) (.cons (⟨by first | rfl | (simp; done) | omega | (simp; omega), (by have := hc11; first | omega | (simp only [List.length_set]; omega) | (simp only [Int.toNat_natCast] at *; omega) | (simp at this ⊢; omega))⟩) .nil)) .nil (At.keep (ts := [0, 1, 5, 6]) (ids := [700]) rfl rfl ?_)
       refine At.convM (.cons (y := bufL 90 9 enc_Report (s5.2.2.set (s5.1).toNat (s5.2.2.getD (s5.2.1).toNat default))) (BSim.seg (Seg.set (Seg.refl enc_Report _) (s5.2.2.getD (s5.2.1).toNat default) rfl)) .nil) ?_
       refine At.thenC ?_
       obtain ⟨hc12, H⟩ := of_must H
       refine W.region env [] [] rfl rfl rfl (.cons hc12 .nil) .nil (At.keep (ts := [0, 1, 5, 6]) (ids := [700]) rfl rfl ?_)
       refine At.inb ?_
       refine At.thenC ?_
       obtain ⟨hc13, H⟩ := of_must H
       refine W.region env [] [] rfl rfl rfl (.cons hc13 .nil) .nil (At.keep (ts := [0, 1, 5, 6]) (ids := [700]) rfl rfl ?_)
       refine At.thenK (At.keep (ts := [0, 1, 5, 6]) (ids := [700]) rfl rfl ?_)
       exact At.conv (.cons .qb (.cons .q (.cons .qi (.cons .qi .nil)))) (.cons .q .nil) (hK5 ((s5.1 + 1), (s5.2.1 + 1), (s5.2.2.set (s5.1).toNat (s5.2.2.getD (s5.2.1).toNat default))) H)
     · have H := of_false H hb10
       refine W.skip ?_
       refine At.inb ?_
       refine At.thenC ?_
       obtain ⟨hc14, H⟩ := of_must H
       refine W.region env [] [] rfl rfl rfl (.cons hc14 .nil) .nil (At.keep (ts := [0, 1, 5, 6]) (ids := [700]) rfl rfl ?_)
       refine At.thenK (At.keep (ts := [0, 1, 5, 6]) (ids := [700]) rfl rfl ?_)
       exact At.conv (.cons .qb (.cons .q (.cons .qi (.cons .qi .nil)))) (.cons .q .nil) (hK5 (s5.1, (s5.2.1 + 1), s5.2.2) H)
   · have H := of_false H hb6
     refine W.exit ?_
     refine At.xthen ?_
     refine At.xthen ?_
     refine At.xhere ?_
     refine At.thenC ?_
     refine W.seq ?_
     obtain ⟨hc15, H⟩ := of_must H
     refine W.region env [] [] rfl rfl rfl (.cons (⟨by first | rfl | (simp; done) | omega | (simp; omega), hc15⟩) (.cons (⟨by first | rfl | (simp; done) | omega | (simp; omega), (by have := hc15; omega), (by have := hc15; omega)⟩) .nil)) .nil (At.keep (ts := [0, 5]) (ids := [700]) rfl rfl ?_)
     refine At.convM (.cons (y := bufL 90 9 enc_Report (copyAt s5.2.2 ((s5.1).toNat) (s5.2.2.length - (s5.1).toNat) (fun _ => (⟨0, 0, 0, 0, 0, (⟨0, 0⟩ : Range), 0, 0⟩ : Report)))) (BSim.seg (Seg.cleared (a := (s5.1).toNat) (b := s5.2.2.length) (Seg.refl enc_Report _) (⟨0, 0, 0, 0, 0, (⟨0, 0⟩ : Range), 0, 0⟩ : Report) rfl (by have := hc15; omega))) .nil) ?_
     refine At.thenC ?_
     obtain ⟨hc16, H⟩ := of_must H
     refine W.sr env [] [] [4] [700] rfl rfl rfl (.cons (⟨by first | rfl | (simp [length_copyAt]; done) | (simp [length_copyAt]; omega), hc16⟩) .nil) .nil ?_
     refine W.ret ?_
     cases H
     refine At.shrink 4 700 850 (K := []) (ts := []) rfl rfl (by first | rfl | (simp; done) | omega | (simp; omega)) (by have := hc16; omega) rfl rfl rfl rfl ?_
     refine At.convM (.cons (y := bufL 90 9 enc_Report ((copyAt s5.2.2 ((s5.1).toNat) (s5.2.2.length - (s5.1).toNat) (fun _ => (⟨0, 0, 0, 0, 0, (⟨0, 0⟩ : Range), 0, 0⟩ : Report))).take ((s5.1).toNat))) (BSim.seg (Seg.first (Seg.refl enc_Report _) (by have := hc16; omega))) .nil) ?_
     exact At.retK env.ty [850] 50 rfl rfl rfl rfl (.cons (.refl _) .nil) (.of_eq (by refine bufEq ?_; first | (simp [copyAt]; done) | omega | (simp [copyAt]; omega) | rfl)) hval hdom rfl
theorem co_slices_Clone_Report (p0 : (List Report)) {r : (List Report)} (H : slices_Clone_Report p0 = some r) : CtrO Tryz.prog 67 [roL 9 enc_Report p0] [] (.buf 900 r.length) [(900, bufL 90 9 enc_Report r)] := by
 unfold slices_Clone_Report at H
 refine CtrO.of_body (N := 8) Tryz.func67 (by kernel_rfl) (c := _) rfl Tryz.ntmps67 rfl (fun w0 h0 ρb hval hdom => ?_)
 refine W.rg env [0] [] ?_
 refine W.seq ?_
 refine W.rg env [0, 4] [] ?_
 refine W.condNz rfl (fun hz => ?_) ?_
 · obtain rfl : p0 = [] := List.length_eq_zero_iff.1 hz
   obtain ⟨hc1, H⟩ := of_must H
   refine W.rg env [2] [] ?_
   refine W.ret ?_
   refine At.rthen ?_
   cases H
   refine At.nilOwn 2 800 90 9 (e := fun i => enc_Report (([] : List Report).getD i default)) rfl rfl ?_
   exact At.retK env.ty [800] 100 rfl rfl rfl rfl (.cons (.refl _) .nil) (.of_eq (by refine bufEq ?_; first | (simp [copyAt]; done) | omega | (simp [copyAt]; omega) | rfl)) hval hdom rfl
 · refine W.skip ?_
   refine At.thenC ?_
   refine W.seq ?_
   obtain ⟨hc1, H⟩ := of_must H
   refine W.region env [5] [] rfl rfl rfl (.cons (⟨by first | rfl | (simp; done) | omega | (simp; omega), by have := hc1; first | simpa using this | (unfold room at this ⊢; simp at this ⊢; omega)⟩) .nil) .nil (At.keep (ts := [2]) (ids := [5]) rfl rfl ?_)
   refine At.convM (.cons (y := bufL 90 9 enc_Report (([] : List Report) ++ p0)) (BSim.seg (Seg.push (Seg.lit (f := enc_Report) (sz := 9) ([] : List Report) rfl rfl (fun _ => rfl)) (Seg.refl enc_Report p0))) .nil) ?_
   refine At.thenC ?_
   refine W.ret ?_
   cases H
   exact At.retK env.ty [5] 895 rfl rfl rfl rfl (.cons (.refl _) .nil) (.of_eq (by refine bufEq ?_; first | (simp [copyAt]; done) | omega | (simp [copyAt]; omega) | rfl)) hval hdom rfl
theorem c_fog_counts (p0 : Report) (p1 : Int) : Ctr Tryz.prog 117 [.agg [.int .i64 (p0.Source), .int .i64 (p0.District), .int .i64 (p0.Night), .int .i64 (p0.From), .int .i64 (p0.To), .int .i64 (p0.Sight.Lo), .int .i64 (p0.Sight.Hi), .int .i64 (p0.Known), .int .i64 (p0.Until)], .int .i64 (p1)] (.bool ((fog_counts p0 p1))) := by
 obtain ⟨r, H⟩ : ∃ r, fog_counts p0 p1 = r := ⟨_, rfl⟩
 rw [H]
 unfold fog_counts at H
 refine Ctr.of_body (N := 20) Tryz.func117 (by kernel_rfl) (c := _) rfl Tryz.ntmps117 rfl (fun w0 h0 hval => ?_)
 refine W.rg env [1, 2] [2] ?_
 refine W.sr env [] [] [4] [] rfl rfl rfl (.cons (fun h => h) (.cons (fun h => h) (.cons (fun h => h) (.cons (fun h => h) (.cons (fun h => h) (.cons (fun h => h) (.cons (fun h => h) (.cons (fun hW h => by revert hW h; first | (simp +contextual; done) | grind) (.cons (fun h => h) .nil))))))))) .nil ?_
 refine W.ret ?_
 cases H
 exact At.ret env.ty rfl rfl (fun q hq => by cases hq) (.refl _) hval
theorem c_fog_see_1 (p0 : Report) (c0 : Int) (c1 : Int) (c2 : Int) : Ctr Tryz.prog 130 [.agg [.int .i64 (p0.Source), .int .i64 (p0.District), .int .i64 (p0.Night), .int .i64 (p0.From), .int .i64 (p0.To), .int .i64 (p0.Sight.Lo), .int .i64 (p0.Sight.Hi), .int .i64 (p0.Known), .int .i64 (p0.Until)], .rp [.int .i64 (c0)], .rp [.int .i64 (c1)], .rp [.int .i64 (c2)]] (.bool ((fog_see_1 p0 c0 c1 c2))) := by
 obtain ⟨r, H⟩ : ∃ r, fog_see_1 p0 c0 c1 c2 = r := ⟨_, rfl⟩
 rw [H]
 unfold fog_see_1 at H
 refine Ctr.of_body (N := 22) Tryz.func130 (by kernel_rfl) (c := _) rfl Tryz.ntmps130 rfl (fun w0 h0 hval => ?_)
 refine W.rg env [1, 2, 3, 4] [4] ?_
 refine W.sr env [] [⟨.bool ((fog_counts p0 c2)), [], 0, []⟩] [5] [] rfl rfl rfl (.cons (fun h => h) (.cons (fun h => h) (.cons (fun h => h) (.cons (fun h => by rw [h]; rfl) (.cons (fun h => h) (.cons (fun h => h) (.cons (fun h => h) (.cons (fun h => by rw [h]; rfl) .nil)))))))) (.on (fun hW => c_fog_counts p0 c2) .nil) ?_
 refine W.ret ?_
 cases H
 exact At.ret env.ty rfl rfl (fun q hq => by cases hq) (.refl _) hval
theorem c_fog_see (fuel : Nat) (p0 : (List Report)) (p1 : Int) (p2 : Int) (p3 : Int) {r : (List Report)} (H : fog_see fuel p0 p1 p2 p3 = some r) : Ctr Tryz.prog 69 [roL 9 enc_Report p0, .int .i64 (p1), .int .i64 (p2), .int .i64 (p3)] (roL 9 enc_Report r) := by
 unfold fog_see at H
 refine Ctr.of_body (N := 13) Tryz.func69 (by kernel_rfl) (c := _) rfl Tryz.ntmps69 rfl (fun w0 h0 hval => ?_)
 refine W.rg env [0, 5, 6, 7] [5, 6, 7] ?_
 refine W.seq ?_
 refine At.freezeC 5 (K := [6, 7]) (ts := [0, 5, 6, 7]) rfl rfl rfl rfl rfl (fun _ h => h) ?_
 refine At.freezeC 6 (K := [7]) (ts := [0, 5, 6, 7]) rfl rfl rfl rfl rfl (fun _ h => h) ?_
 refine At.freezeC 7 (K := []) (ts := [0, 5, 6, 7]) rfl rfl rfl rfl rfl (fun _ h => h) ?_
 obtain ⟨y1, hy2, H⟩ := of_bindO H
 obtain ⟨y3, hy4, H⟩ := of_bindO H
 refine W.region env [] [⟨.buf 900 y1.length, [(900, bufL 90 9 enc_Report y1)], 11000, []⟩, ⟨.buf 900 y3.length, [(11900, .dead), (900, bufL 90 9 enc_Report y3)], 13000, []⟩] rfl rfl (by kernel_rfl) .nil (.free ((Ctr.ofO (co_slices_Clone_Report p0 hy2))) (.free (CtrO.sim (CtrO.at (co_slices_DeleteFunc_Report fuel y1 (fun x0 => some (fog_see_1 x0 p1 p2 p3)) 130 [] ([.rp [.int .i64 (p1)], .rp [.int .i64 (p2)], .rp [.int .i64 (p3)]]) (fun x0 r h => by cases h; exact c_fog_see_1 x0 p1 p2 p3) hy4) rfl 11900) (.cons .qc (.cons (Sim.fnClo rfl) .nil)) (.cons (.refl _) .nil)) .nil)) (At.keep (ts := [8]) (ids := [13900]) rfl rfl ?_)
 refine At.thenC ?_
 refine W.ret ?_
 cases H
 exact At.ret env.ty rfl rfl (fun q hq => by cases hq; exact (by first | rfl | (simp; done) | omega | (simp; omega))) (.refl _) hval
theorem c_fog_query__view (fuel : Nat) (p0 : fog_query) (p1 : (List Report)) {r : ((List Report) × Int)} (H : fog_query__view fuel p0 p1 = some r) : Ctr Tryz.prog 137 [.agg [.int .i64 (p0.district), .int .i64 (p0.night), .int .i64 (p0.moment), .int .i64 (p0.minute), .int .i64 (p0.time.Lo), .int .i64 (p0.time.Hi), .int .i64 (p0.limit)], roL 9 enc_Report p1] (.tup [roL 9 enc_Report r.1, .int .i64 (r.2)]) := by
 unfold fog_query__view at H
 refine Ctr.of_body (N := 52) Tryz.func137 (by kernel_rfl) (c := _) rfl Tryz.ntmps137 rfl (fun w0 h0 hval => ?_)
 refine W.rg env [1, 2] [2] ?_
 refine W.seq ?_
 refine W.block ?_
 refine W.seq ?_
 obtain ⟨y1, hy2, H⟩ := of_bindO H
 refine W.region env [] [⟨.int .i64 (y1), [], 0, []⟩] rfl rfl rfl .nil (.free (c_fog_Check p1 hy2) .nil) (At.keep (ts := [1, 2, 6]) (ids := [2]) rfl rfl ?_)
 refine At.thenC ?_
 refine W.cond rfl (fun hb3 => ?_) (fun hb3 => ?_)
 · have H := of_true H hb3
   refine W.rg env [4, 5] [] ?_
   refine W.ret ?_
   refine At.rinb ?_
   refine At.rthen ?_
   cases H
   exact At.ret env.ty rfl rfl (fun q hq => by cases hq) (Sim.tupL (.cons (Sim.nil _ _) (.cons (.refl _) .nil))) hval
 · have H := of_false H hb3
   refine W.sr env [] [⟨.bool ((fog_isDistrict p0.district)), [], 0, []⟩, ⟨.bool ((fog_isMinute p0.minute)), [], 0, []⟩, ⟨.bool ((fog_isRange p0.time 1439)), [], 0, []⟩, ⟨.bool ((fog_within p0.limit 1 5000)), [], 0, []⟩] [1, 2, 10] [2] rfl rfl rfl (.cons (fun h => h) (.cons (fun h => h) (.cons (fun h => h) (.cons (fun h => by rw [h]; rfl) (.cons (fun h => h) (.cons (fun h => h) (.cons (fun h => h) (.cons (fun h => by rw [h]; rfl) (.cons (fun h => h) (.cons (fun h => h) (.cons (fun h => h) (.cons (fun h => by rw [h]; rfl) .nil)))))))))))) (.free (c_fog_isDistrict p0.district) (.on (fun hW => c_fog_isMinute p0.minute) (.on (fun hW => c_fog_isRange p0.time 1439) (.on (fun hW => c_fog_within p0.limit 1 5000) .nil)))) ?_
   refine W.cond rfl (fun hb4 => ?_) (fun hb4 => ?_)
   · have H := of_true H hb4
     refine W.rg env [4, 5] [] ?_
     refine W.ret ?_
     refine At.rinb ?_
     refine At.rthen ?_
     cases H
     exact At.ret env.ty rfl rfl (fun q hq => by cases hq) (Sim.tupL (.cons (Sim.nil _ _) (.cons (.refl _) .nil))) hval
   · have H := of_false H hb4
     refine W.sr env [] [⟨.bool ((fog_isNight p0.night)), [], 0, []⟩, ⟨.bool ((fog_isMoment p0.moment)), [], 0, []⟩] [1, 2, 33] [2] rfl rfl rfl (.cons (fun h => h) (.cons (fun h => h) (.cons (fun h => h) (.cons (fun h => by rw [h]; rfl) .nil)))) (.free (c_fog_isNight p0.night) (.on (fun hW => c_fog_isMoment p0.moment) .nil)) ?_
     refine W.cond rfl (fun hb5 => ?_) (fun hb5 => ?_)
     · have H := of_true H hb5
       refine W.rg env [4, 5] [] ?_
       refine W.ret ?_
       refine At.rinb ?_
       refine At.rthen ?_
       cases H
       exact At.ret env.ty rfl rfl (fun q hq => by cases hq) (Sim.tupL (.cons (Sim.nil _ _) (.cons (.refl _) .nil))) hval
     · have H := of_false H hb5
       refine W.skip ?_
       refine At.inb ?_
       refine At.thenC ?_
       refine W.seq ?_
       obtain ⟨y6, hy7, H⟩ := of_bindO H
       refine W.region env [] [⟨roL 9 enc_Report y6, [], 0, []⟩] rfl rfl rfl .nil (.free (c_fog_see fuel p1 p0.district p0.night p0.moment hy7) .nil) (At.keep (ts := [4, 5]) (ids := []) rfl rfl ?_)
       refine At.thenC ?_
       refine W.ret ?_
       cases H
       exact At.ret env.ty rfl rfl (fun q hq => by cases hq) (.refl _) hval
theorem c_fog_clash (p0 : Report) (p1 : Report) : Ctr Tryz.prog 131 [.agg [.int .i64 (p0.Source), .int .i64 (p0.District), .int .i64 (p0.Night), .int .i64 (p0.From), .int .i64 (p0.To), .int .i64 (p0.Sight.Lo), .int .i64 (p0.Sight.Hi), .int .i64 (p0.Known), .int .i64 (p0.Until)], .agg [.int .i64 (p1.Source), .int .i64 (p1.District), .int .i64 (p1.Night), .int .i64 (p1.From), .int .i64 (p1.To), .int .i64 (p1.Sight.Lo), .int .i64 (p1.Sight.Hi), .int .i64 (p1.Known), .int .i64 (p1.Until)]] (.bool ((fog_clash p0 p1))) := by
 obtain ⟨r, H⟩ : ∃ r, fog_clash p0 p1 = r := ⟨_, rfl⟩
 rw [H]
 unfold fog_clash at H
 refine Ctr.of_body (N := 37) Tryz.func131 (by kernel_rfl) (c := _) rfl Tryz.ntmps131 rfl (fun w0 h0 hval => ?_)
 refine W.rg env [2, 3] [2, 3] ?_
 refine W.sr env [] [] [2, 3, 5] [2, 3] rfl rfl rfl (.cons (fun h => h) (.cons (fun h => h) (.cons (fun h => h) (.cons (fun h => h) (.cons (fun h => h) .nil))))) .nil ?_
 refine W.sr env [] [] [4] [] rfl rfl rfl (.cons (fun h => h) (.cons (fun h => h) (.cons (fun h => h) (.cons (fun h => h) (.cons (fun h => h) (.cons (fun h => h) (.cons (fun h => h) (.cons (fun h => h) (.cons (fun h => h) (.cons (fun h => h) (.cons (fun h => h) (.cons (fun h => h) (.cons (fun h => h) (.cons (fun h => h) (.cons (fun hW h => by revert hW h; first | (simp +contextual; done) | grind) (.cons (fun h => h) .nil)))))))))))))))) .nil ?_
 refine W.ret ?_
 cases H
 exact At.ret env.ty rfl rfl (fun q hq => by cases hq) (.refl _) hval
theorem c_fog_view__pair (p0 : (List Report)) {r : ((List Int) × Bool)} (H : fog_view__pair p0 = some r) : Ctr Tryz.prog 70 [roL 9 enc_Report p0] (.tup [roL 1 enc_Int r.1, .bool (r.2)]) := by
 unfold fog_view__pair at H
 refine Ctr.of_body (N := 34) Tryz.func70 (by kernel_rfl) (c := _) rfl Tryz.ntmps70 rfl (fun w0 h0 hval => ?_)
 refine W.rg env [0] [] ?_
 refine W.seq ?_
 refine W.rg env [0, 8, 9, 10] [] ?_
 refine W.block ?_
 refine At.keep (ts := [0, 8, 9, 10]) (ids := []) rfl rfl ?_
 refine W.len (t := 8) rfl (fun (hn1 : p0.length ≤ maxLen) => ?_)
 refine W.rangeGo H (fun i1 (s1 : Unit) => [(0, roL 9 enc_Report p0), (8, roL 9 enc_Report p0), (9, .int .i64 (((p0.length : Nat) : Int))), (10, .int .i64 ((i1 : Int)))]) (fun i1 (s1 : Unit) => []) (.cons .q (.cons .q (.cons .qi (.cons .qi .nil)))) .nil (fun k1 i1 s1 hle1 H1 H2 K0 hK1 => ?_)
 refine W.rg env [0, 8, 9, 10, 11] [] ?_
 refine W.seq ?_
 refine W.cond rfl (fun hb2 => ?_) (fun hb2 => ?_)
 · have hi1 : i1 < p0.length := by have := of_decide_eq_true hb2; omega
   have H := H1 hi1
   refine W.skip ?_
   refine At.thenC ?_
   refine W.seq ?_
   refine W.block ?_
   refine W.sr env [] [] [0, 4, 5, 8, 9, 10] [5] rfl rfl rfl (.cons (⟨by omega, by omega⟩ : 0 ≤ (i1 : Int) ∧ (i1 : Int) < ((p0.length : Nat) : Int)) .nil) .nil ?_
   refine W.seq ?_
   obtain ⟨hc3, H⟩ := of_must H
   refine W.region env [] [] rfl rfl rfl (.cons (by unfold inI; have := hn1; (try unfold maxLen at this); omega) (.cons hc3 .nil)) .nil (At.keep (ts := [0, 5, 8, 9, 10, 18, 19, 20]) (ids := [5]) rfl rfl ?_)
   refine At.slot (t := 18) (v := roL 9 enc_Report (p0.drop (((i1 : Int) + 1)).toNat)) (Sim.seg (Seg.drop enc_Report p0 ((((i1 : Int) + 1)).toNat))) ?_
   refine At.thenC ?_
   refine W.block ?_
   refine At.keep (ts := [0, 5, 8, 9, 10, 18, 19, 20]) (ids := [5]) rfl rfl ?_
   refine W.len (t := 18) rfl (fun (hn4 : (p0.drop (((i1 : Int) + 1)).toNat).length ≤ maxLen) => ?_)
   refine W.rangeGo H (fun i4 (s4 : Unit) => [(0, roL 9 enc_Report p0), (5, .lp 5 0), (8, roL 9 enc_Report p0), (9, .int .i64 (((p0.length : Nat) : Int))), (10, .int .i64 ((i1 : Int))), (18, roL 9 enc_Report (p0.drop (((i1 : Int) + 1)).toNat)), (19, .int .i64 ((((p0.drop (((i1 : Int) + 1)).toNat).length : Nat) : Int))), (20, .int .i64 ((i4 : Int)))]) (fun i4 (s4 : Unit) => [(5, .cells [.int .i64 ((p0.getD i1 default).Source), .int .i64 ((p0.getD i1 default).District), .int .i64 ((p0.getD i1 default).Night), .int .i64 ((p0.getD i1 default).From), .int .i64 ((p0.getD i1 default).To), .int .i64 ((p0.getD i1 default).Sight.Lo), .int .i64 ((p0.getD i1 default).Sight.Hi), .int .i64 ((p0.getD i1 default).Known), .int .i64 ((p0.getD i1 default).Until)])]) (.cons .q (.cons .q (.cons .q (.cons .qi (.cons .qi (.cons .q (.cons .qi (.cons .qi .nil)))))))) (.cons .q .nil) (fun k4 i4 s4 hle4 H1 H2 K0 hK4 => ?_)
   refine W.rg env [0, 5, 8, 9, 10, 18, 19, 20, 21] [5] ?_
   refine W.seq ?_
   refine W.cond rfl (fun hb5 => ?_) (fun hb5 => ?_)
   · have hi4 : i4 < (p0.drop (((i1 : Int) + 1)).toNat).length := by have := of_decide_eq_true hb5; omega
     have H := H1 hi4
     refine W.skip ?_
     refine At.thenC ?_
     refine W.seq ?_
     refine W.block ?_
     refine W.sr env [] [] [0, 5, 7, 8, 9, 10, 18, 19, 20] [5, 7] rfl rfl rfl (.cons (⟨by omega, by omega⟩ : 0 ≤ (i4 : Int) ∧ (i4 : Int) < (((p0.drop (((i1 : Int) + 1)).toNat).length : Nat) : Int)) .nil) .nil ?_
     refine W.sr env [] [⟨.bool ((fog_clash (p0.getD i1 default) ((p0.drop (((i1 : Int) + 1)).toNat).getD i4 default))), [], 0, []⟩] [0, 5, 7, 8, 9, 10, 18, 19, 20, 26] [5, 7] rfl rfl rfl .nil (.free (c_fog_clash (p0.getD i1 default) ((p0.drop (((i1 : Int) + 1)).toNat).getD i4 default)) .nil) ?_
     refine W.cond rfl (fun hb6 => ?_) (fun hb6 => ?_)
     · have H := of_true H hb6
       refine W.seq ?_
       refine W.region env [] [] rfl rfl rfl .nil .nil (At.keep (ts := [2, 3]) (ids := []) rfl rfl ?_)
       refine At.slot (t := 2) (v := roL 1 enc_Int ([(p0.getD i1 default).Source, ((p0.drop (((i1 : Int) + 1)).toNat).getD i4 default).Source] : List Int)) (Sim.lit (f := enc_Int) ([(p0.getD i1 default).Source, ((p0.drop (((i1 : Int) + 1)).toNat).getD i4 default).Source] : List Int) rfl rfl (fun _ => rfl)) ?_
       refine At.thenC ?_
       refine W.ret ?_
       refine At.rinb ?_
       refine At.rthen ?_
       refine At.rthen ?_
       refine At.rinb ?_
       refine At.rinb ?_
       refine At.rthen ?_
       refine At.rthen ?_
       refine At.rinb ?_
       refine At.rthen ?_
       cases H
       exact At.ret env.ty rfl rfl (fun q hq => by cases hq) (.refl _) hval
     · have H := of_false H hb6
       refine W.skip ?_
       refine At.inb ?_
       refine At.thenC ?_
       refine W.region env [] [] rfl rfl rfl (.cons (by unfold inI; have := hn4; (try unfold maxLen at this); omega) .nil) .nil (At.keep (ts := [0, 5, 8, 9, 10, 18, 19, 20]) (ids := [5]) rfl rfl ?_)
       refine At.thenK (At.keep (ts := [0, 5, 8, 9, 10, 18, 19, 20]) (ids := [5]) rfl rfl ?_)
       exact At.conv (.cons .q (.cons .q (.cons .q (.cons .qi (.cons .qi (.cons .q (.cons .qi (.cons .qi .nil)))))))) (.cons .q .nil) (hK4 hi4 () H)
   · have H := H2 (by have := of_decide_eq_false hb5; omega)
     refine W.exit ?_
     refine At.xthen ?_
     refine At.xthen ?_
     refine At.xhere ?_
     refine At.inb ?_
     refine At.thenC ?_
     refine W.region env [] [] rfl rfl rfl (.cons (by unfold inI; have := hn1; (try unfold maxLen at this); omega) .nil) .nil (At.keep (ts := [0, 8, 9, 10]) (ids := []) rfl rfl ?_)
     refine At.thenK (At.keep (ts := [0, 8, 9, 10]) (ids := []) rfl rfl ?_)
     exact At.conv (.cons .q (.cons .q (.cons .qi (.cons .qi .nil)))) .nil (hK1 hi1 () H)
 · have H := H2 (by have := of_decide_eq_false hb2; omega)
   refine W.exit ?_
   refine At.xthen ?_
   refine At.xthen ?_
   refine At.xhere ?_
   refine At.thenC ?_
   refine W.rg env [2, 3] [] ?_
   refine W.ret ?_
   cases H
   exact At.ret env.ty rfl rfl (fun q hq => by cases hq) (Sim.tupL (.cons (Sim.nil _ _) (.cons (.refl _) .nil))) hval
theorem c_fog_query__clear (fuel : Nat) (p0 : fog_query) (p1 : (List Report)) {r : ((List Report) × Int)} (H : fog_query__clear fuel p0 p1 = some r) : Ctr Tryz.prog 79 [.agg [.int .i64 (p0.district), .int .i64 (p0.night), .int .i64 (p0.moment), .int .i64 (p0.minute), .int .i64 (p0.time.Lo), .int .i64 (p0.time.Hi), .int .i64 (p0.limit)], roL 9 enc_Report p1] (.tup [roL 9 enc_Report r.1, .int .i64 (r.2)]) := by
 unfold fog_query__clear at H
 refine Ctr.of_body (N := 26) Tryz.func79 (by kernel_rfl) (c := _) rfl Tryz.ntmps79 rfl (fun w0 h0 hval => ?_)
 refine W.rg env [1, 2] [2] ?_
 refine W.seq ?_
 obtain ⟨y1, hy2, H⟩ := of_bindO H
 refine W.region env [] [⟨.tup [roL 9 enc_Report y1.1, .int .i64 (y1.2)], [], 0, []⟩] rfl rfl rfl .nil (.free (c_fog_query__view fuel p0 p1 hy2) .nil) (At.keep (ts := [6, 7]) (ids := []) rfl rfl ?_)
 refine At.thenC ?_
 refine W.seq ?_
 refine W.rg env [6, 7, 17] [] ?_
 refine W.cond rfl (fun hb3 => ?_) (fun hb3 => ?_)
 · have H := of_true H hb3
   refine W.rg env [4, 5] [] ?_
   refine W.ret ?_
   refine At.rthen ?_
   cases H
   exact At.ret env.ty rfl rfl (fun q hq => by cases hq) (Sim.tupL (.cons (Sim.nil _ _) (.cons (.refl _) .nil))) hval
 · have H := of_false H hb3
   refine W.skip ?_
   refine At.thenC ?_
   refine W.seq ?_
   refine W.seq ?_
   obtain ⟨y4, hy5, H⟩ := of_bindO H
   refine W.region env [] [⟨.tup [roL 1 enc_Int y4.1, .bool (y4.2)], [], 0, []⟩] rfl rfl rfl .nil (.free (c_fog_view__pair y1.1 hy5) .nil) (At.keep (ts := [6, 9]) (ids := []) rfl rfl ?_)
   refine At.thenC ?_
   refine W.rg env [6, 24] [] ?_
   refine W.cond rfl (fun hb6 => ?_) (fun hb6 => ?_)
   · have H := of_true H hb6
     refine W.rg env [4, 5] [] ?_
     refine W.ret ?_
     refine At.rthen ?_
     cases H
     exact At.ret env.ty rfl rfl (fun q hq => by cases hq) (Sim.tupL (.cons (Sim.nil _ _) (.cons (.refl _) .nil))) hval
   · have H := of_false H hb6
     refine W.skip ?_
     refine At.thenC ?_
     refine W.rg env [4, 5] [] ?_
     refine W.ret ?_
     cases H
     exact At.ret env.ty rfl rfl (fun q hq => by cases hq) (.refl _) hval
theorem c_fog_view__of (p0 : (List Report)) (p1 : Int) : Ctr Tryz.prog 132 [roL 9 enc_Report p0, .int .i64 (p1)] (.clo (.func 154) [] [.rp [roL 9 enc_Report p0], .rp [.int .i64 (p1)]]) := by
 refine Ctr.of_body (N := 6) Tryz.func132 (by kernel_rfl) (c := _) rfl Tryz.ntmps132 rfl (fun w0 h0 hval => ?_)
 refine W.rg env [2, 3] [2, 3] ?_
 refine W.rg env [4] [2, 3] ?_
 refine W.ret ?_
 exact At.ret env.ty rfl rfl (fun q hq => by cases hq) (.refl _) hval
theorem c_fog_view__of_1 (c0 : (List Report)) (c1 : Int) {r : List (Report)} (H : fog_view__of_1 c0 c1 = some r) : Iter Tryz.prog 154 [.rp [roL 9 enc_Report c0], .rp [.int .i64 (c1)]] (r.map (fun (x : Report) => [.agg [.int .i64 (x.Source), .int .i64 (x.District), .int .i64 (x.Night), .int .i64 (x.From), .int .i64 (x.To), .int .i64 (x.Sight.Lo), .int .i64 (x.Sight.Hi), .int .i64 (x.Known), .int .i64 (x.Until)]])) := by
 unfold fog_view__of_1 at H
 have hYl := Yl.start r
 skip
 refine Iter.of_body (N := 25) Tryz.func154 (by kernel_rfl) (c := _) rfl Tryz.ntmps154 rfl (fun w0 h0 lp J hJ hval hY => ?_)
 refine W.rg env [0, 2, 6, 7, 8] [] ?_
 refine W.block ?_
 refine At.keep (ts := [0, 2, 6, 7, 8]) (ids := []) rfl rfl ?_
 refine W.len (t := 6) rfl (fun (hn1 : c0.length ≤ maxLen) => ?_)
 refine W.rangeGoI H hYl (fun i1 (s1 : Unit) => [(0, .fn (.yield lp) [] []), (2, .rp [.int .i64 (c1)]), (6, roL 9 enc_Report c0), (7, .int .i64 (((c0.length : Nat) : Int))), (8, .int .i64 ((i1 : Int)))]) (fun i1 (s1 : Unit) => []) (.cons .q (.cons .q (.cons .q (.cons .qi (.cons .qi .nil))))) .nil (fun k1 i1 s1 g r hle1 hYl H1 H2 K0 hK1 => ?_)
 refine W.rg env [0, 2, 6, 7, 8, 9] [] ?_
 refine W.seq ?_
 refine W.cond rfl (fun hb2 => ?_) (fun hb2 => ?_)
 · have hi1 : i1 < c0.length := by have := of_decide_eq_true hb2; omega
   have H := H1 hi1
   refine W.skip ?_
   refine At.thenC ?_
   refine W.seq ?_
   refine W.block ?_
   refine W.sr env [] [] [0, 2, 5, 6, 7, 8] [5] rfl rfl rfl (.cons (⟨by omega, by omega⟩ : 0 ≤ (i1 : Int) ∧ (i1 : Int) < ((c0.length : Nat) : Int)) .nil) .nil ?_
   refine W.seq ?_
   refine W.regionY env hY [] 9 [⟨.bool ((fog_within c1 ((c0.getD i1 default).From) ((c0.getD i1 default).To))), [], 0, []⟩] [] rfl rfl rfl rfl rfl rfl rfl rfl (fun b => rfl) rfl .nil (.free (c_fog_within c1 ((c0.getD i1 default).From) ((c0.getD i1 default).To)) .nil) (.cons (fun h => h) (.cons (fun h => h) .nil)) (fun b => (.cons (fun h => h) (.cons (fun h => h) .nil))) (fun b => .nil) (fun hW => Yl.item (fun (x : Report) => [.agg [.int .i64 (x.Source), .int .i64 (x.District), .int .i64 (x.Night), .int .i64 (x.From), .int .i64 (x.To), .int .i64 (x.Sight.Lo), .int .i64 (x.Sight.Hi), .int .i64 (x.Known), .int .i64 (x.Until)]]) H hYl hW) (fun b g1 hg1 hg2 => ?_)
   refine At.keep (ts := [0, 2, 6, 7, 8, 23]) (ids := []) rfl rfl ?_
   refine At.thenC ?_
   rcases Yl.split hg1 hg2 with ⟨hw1, hw2, rfl⟩ | ⟨hw1, hw2, hw3⟩
   · refine W.cond rfl (fun hb => ?_) (fun hb => ?_)
     · refine W.ret ?_
       refine At.rinb ?_
       refine At.rthen ?_
       refine At.rthen ?_
       refine At.rinb ?_
       exact At.iret rfl (.inl rfl) hval
     · exact absurd hb (by rw [hw1, hw2]; simp)
   · refine W.cond rfl (fun hb => ?_) (fun hb => ?_)
     · exact absurd hb (by intro hb; simp only [Bool.and_eq_true, Bool.not_eq_true'] at hb; have := hw1 (by first | exact hb.1 | (simp only [Bool.and_eq_true]; exact hb.1)); rw [this] at hb; simp at hb)
     · obtain ⟨r, H, hYl⟩ := Yl.next H hYl hw2 hw3
       refine W.skip ?_
       refine At.inb ?_
       refine At.thenC ?_
       refine W.region env [] [] rfl rfl rfl (.cons (by unfold inI; have := hn1; (try unfold maxLen at this); omega) .nil) .nil (At.keep (ts := [0, 2, 6, 7, 8]) (ids := []) rfl rfl ?_)
       refine At.thenK (At.keep (ts := [0, 2, 6, 7, 8]) (ids := []) rfl rfl ?_)
       exact At.conv (.cons .q (.cons .q (.cons .q (.cons .qi (.cons .qi .nil))))) .nil (hK1 hi1 () _ _ hYl H)
 · have H := H2 (by have := of_decide_eq_false hb2; omega)
   refine W.exit ?_
   refine At.xthen ?_
   refine At.xthen ?_
   refine At.xhere ?_
   refine At.iofNormal ?_
   exact At.iret rfl (.inr (Yl.fin (fun (x : Report) => [.agg [.int .i64 (x.Source), .int .i64 (x.District), .int .i64 (x.Night), .int .i64 (x.From), .int .i64 (x.To), .int .i64 (x.Sight.Lo), .int .i64 (x.Sight.Hi), .int .i64 (x.Known), .int .i64 (x.Until)]]) H hYl)) hval
theorem c_fog_view__sight (p0 : (List Report)) (p1 : Int) {r : Range} (H : fog_view__sight p0 p1 = some r) : Ctr Tryz.prog 71 [roL 9 enc_Report p0, .int .i64 (p1)] (.agg [.int .i64 (r.Lo), .int .i64 (r.Hi)]) := by
 unfold fog_view__sight at H
 refine Ctr.of_body (N := 26) Tryz.func71 (by kernel_rfl) (c := _) rfl Tryz.ntmps71 rfl (fun w0 h0 hval => ?_)
 refine W.rg env [0, 1, 4] [4] ?_
 refine W.rg env [0, 1, 4, 5] [4, 5] ?_
 refine W.seq ?_
 refine W.sr env [] [⟨.clo (.func 154) [] [.rp [roL 9 enc_Report p0], .rp [.int .i64 (p1)]], [], 0, []⟩] [4, 5, 10] [4, 5] rfl rfl rfl .nil (.free (c_fog_view__of p0 p1) .nil) ?_
 refine W.block ?_
 obtain ⟨it1, hit1, H⟩ := of_bindO H
 refine At.keep (ts := [4, 5, 10]) (ids := [4, 5]) rfl rfl ?_
 refine W.listGo H (fun (x : Report) => [.agg [.int .i64 (x.Source), .int .i64 (x.District), .int .i64 (x.Night), .int .i64 (x.From), .int .i64 (x.To), .int .i64 (x.Sight.Lo), .int .i64 (x.Sight.Hi), .int .i64 (x.Known), .int .i64 (x.Until)]]) (c_fog_view__of_1 p0 p1 hit1) rfl (fun _ => ⟨rfl, rfl⟩) rfl rfl rfl (fun (s2 : Range) => [(4, .cells [.int .i64 (0), .int .i64 (0)]), (5, .cells [.int .i64 (s2.Lo), .int .i64 (s2.Hi)])]) (.cons .q (.cons .q .nil)) (fun (x1 : Report) => [(4, .lp 4 0), (5, .lp 5 0), (6, .lp 6 0)]) (fun (x1 : Report) (s2 : Range) => [(4, .cells [.int .i64 (0), .int .i64 (0)]), (5, .cells [.int .i64 (s2.Lo), .int .i64 (s2.Hi)]), (6, .cells [.int .i64 (x1.Source), .int .i64 (x1.District), .int .i64 (x1.Night), .int .i64 (x1.From), .int .i64 (x1.To), .int .i64 (x1.Sight.Lo), .int .i64 (x1.Sight.Hi), .int .i64 (x1.Known), .int .i64 (x1.Until)])]) (fun _ (_ : Unit) => False) (fun _ _ => []) (fun _ _ h => h.elim) hval (fun h1 vs gh st lp x1 s2 K hK => ?_) (fun k2 h1 vs gh st lp x1 s2 H Qr hQ2 hX2 => ?_) (fun s2 H => ?_) (fun _ _ h => h.elim)
 · refine W.region env [] [] rfl rfl rfl .nil .nil (At.keep (ts := [4, 5, 6]) (ids := [4, 5, 6]) rfl rfl ?_)
   refine At.thenK (At.keep (ts := [4, 5, 6]) (ids := [4, 5, 6]) rfl rfl ?_)
   exact hK
 · refine W.block ?_
   refine W.region env [] [] rfl rfl rfl .nil .nil (At.keep (ts := [4]) (ids := [4, 5]) rfl rfl ?_)
   refine At.inb ?_
   refine At.keep (ts := []) (ids := [4, 5]) rfl rfl ?_
   exact At.conv .nil (.cons .q (.cons .q .nil)) (hQ2 (⟨(max s2.Lo x1.Sight.Lo), (min s2.Hi x1.Sight.Hi)⟩ : Range) H)
 · refine At.inb ?_
   refine At.thenC ?_
   refine W.rg env [4] [4] ?_
   refine W.ret ?_
   cases H
   exact At.ret env.ty rfl rfl (fun q hq => by cases hq) (.refl _) hval
theorem c_fog_Sight (fuel : Nat) (p0 : (List Report)) (p1 : Int) (p2 : Int) (p3 : Int) (p4 : Int) {r : (Range × Int)} (H : fog_Sight fuel p0 p1 p2 p3 p4 = some r) : Ctr Tryz.prog 16 [roL 9 enc_Report p0, .int .i64 (p1), .int .i64 (p2), .int .i64 (p3), .int .i64 (p4)] (.tup [.agg [.int .i64 (r.1.Lo), .int .i64 (r.1.Hi)], .int .i64 (r.2)]) := by
 unfold fog_Sight at H
 refine Ctr.of_body (N := 31) Tryz.func16 (by kernel_rfl) (c := _) rfl Tryz.ntmps16 rfl (fun w0 h0 hval => ?_)
 refine W.rg env [0, 1, 2, 3, 4, 10] [10] ?_
 refine W.seq ?_
 obtain ⟨y1, hy2, H⟩ := of_bindO H
 refine W.region env [] [⟨.tup [roL 9 enc_Report y1.1, .int .i64 (y1.2)], [], 0, []⟩] rfl rfl rfl .nil (.free (c_fog_query__clear fuel (⟨p1, p2, p4, p3, (⟨0, 0⟩ : Range), 1⟩ : fog_query) p0 hy2) .nil) (At.keep (ts := [3, 10, 12, 13]) (ids := [10]) rfl rfl ?_)
 refine At.thenC ?_
 refine W.seq ?_
 refine W.rg env [3, 10, 12, 13, 25] [10] ?_
 refine W.cond rfl (fun hb3 => ?_) (fun hb3 => ?_)
 · have H := of_true H hb3
   refine W.rg env [10, 11] [10] ?_
   refine W.ret ?_
   refine At.rthen ?_
   cases H
   exact At.ret env.ty rfl rfl (fun q hq => by cases hq) (.refl _) hval
 · have H := of_false H hb3
   refine W.skip ?_
   refine At.thenC ?_
   refine W.seq ?_
   obtain ⟨y4, hy5, H⟩ := of_bindO H
   refine W.region env [] [⟨.agg [.int .i64 (y4.Lo), .int .i64 (y4.Hi)], [], 0, []⟩] rfl rfl rfl .nil (.free (c_fog_view__sight y1.1 p3 hy5) .nil) (At.keep (ts := [10, 11]) (ids := [10]) rfl rfl ?_)
   refine At.thenC ?_
   refine W.ret ?_
   cases H
   exact At.ret env.ty rfl rfl (fun q hq => by cases hq) (.refl _) hval
theorem c_fog_below (p0 : Range) (p1 : Int) : Ctr Tryz.prog 83 [.agg [.int .i64 (p0.Lo), .int .i64 (p0.Hi)], .int .i64 (p1)] (.int .i64 ((fog_below p0 p1))) := by
 obtain ⟨r, H⟩ : ∃ r, fog_below p0 p1 = r := ⟨_, rfl⟩
 rw [H]
 unfold fog_below at H
 refine Ctr.of_body (N := 15) Tryz.func83 (by kernel_rfl) (c := _) rfl Tryz.ntmps83 rfl (fun w0 h0 hval => ?_)
 refine W.rg env [1, 2] [2] ?_
 refine W.seq ?_
 refine W.block ?_
 refine W.rg env [1, 2, 5] [2] ?_
 refine W.cond rfl (fun hb1 => ?_) (fun hb1 => ?_)
 · have H := of_true H hb1
   refine W.rg env [4] [] ?_
   refine W.ret ?_
   refine At.rinb ?_
   refine At.rthen ?_
   cases H
   exact At.ret env.ty rfl rfl (fun q hq => by cases hq) (.refl _) hval
 · have H := of_false H hb1
   refine W.rg env [10] [] ?_
   refine W.cond rfl (fun hb2 => ?_) (fun hb2 => ?_)
   · have H := of_true H hb2
     refine W.rg env [4] [] ?_
     refine W.ret ?_
     refine At.rinb ?_
     refine At.rthen ?_
     cases H
     exact At.ret env.ty rfl rfl (fun q hq => by cases hq) (.refl _) hval
   · have H := of_false H hb2
     refine W.skip ?_
     refine At.inb ?_
     refine At.thenC ?_
     refine W.rg env [4] [] ?_
     refine W.ret ?_
     cases H
     exact At.ret env.ty rfl rfl (fun q hq => by cases hq) (.refl _) hval
theorem c_fog_Below (fuel : Nat) (p0 : (List Report)) (p1 : Int) (p2 : Int) (p3 : Int) (p4 : Int) (p5 : Int) {r : (Int × Int)} (H : fog_Below fuel p0 p1 p2 p3 p4 p5 = some r) : Ctr Tryz.prog 18 [roL 9 enc_Report p0, .int .i64 (p1), .int .i64 (p2), .int .i64 (p3), .int .i64 (p4), .int .i64 (p5)] (.tup [.int .i64 (r.1), .int .i64 (r.2)]) := by
 unfold fog_Below at H
 refine Ctr.of_body (N := 35) Tryz.func18 (by kernel_rfl) (c := _) rfl Tryz.ntmps18 rfl (fun w0 h0 hval => ?_)
 refine W.rg env [0, 1, 2, 3, 4, 5] [] ?_
 refine W.seq ?_
 obtain ⟨y1, hy2, H⟩ := of_bindO H
 refine W.region env [] [⟨.tup [roL 9 enc_Report y1.1, .int .i64 (y1.2)], [], 0, []⟩] rfl rfl rfl .nil (.free (c_fog_query__clear fuel (⟨p1, p2, p5, p3, (⟨0, 0⟩ : Range), p4⟩ : fog_query) p0 hy2) .nil) (At.keep (ts := [3, 4, 14, 15]) (ids := []) rfl rfl ?_)
 refine At.thenC ?_
 refine W.seq ?_
 refine W.rg env [3, 4, 14, 15, 28] [] ?_
 refine W.cond rfl (fun hb3 => ?_) (fun hb3 => ?_)
 · have H := of_true H hb3
   refine W.rg env [12, 13] [] ?_
   refine W.ret ?_
   refine At.rthen ?_
   cases H
   exact At.ret env.ty rfl rfl (fun q hq => by cases hq) (.refl _) hval
 · have H := of_false H hb3
   refine W.skip ?_
   refine At.thenC ?_
   refine W.seq ?_
   obtain ⟨y4, hy5, H⟩ := of_bindO H
   refine W.region env [] [⟨.agg [.int .i64 (y4.Lo), .int .i64 (y4.Hi)], [], 0, []⟩, ⟨.int .i64 ((fog_below y4 p4)), [], 0, []⟩] rfl rfl rfl .nil (.free (c_fog_view__sight y1.1 p3 hy5) (.free (c_fog_below y4 p4) .nil)) (At.keep (ts := [12, 13]) (ids := []) rfl rfl ?_)
   refine At.thenC ?_
   refine W.ret ?_
   cases H
   exact At.ret env.ty rfl rfl (fun q hq => by cases hq) (.refl _) hval
theorem c_fog_Clash (fuel : Nat) (p0 : (List Report)) (p1 : Int) (p2 : Int) (p3 : Int) {r : ((List Int) × Int)} (H : fog_Clash fuel p0 p1 p2 p3 = some r) : Ctr Tryz.prog 78 [roL 9 enc_Report p0, .int .i64 (p1), .int .i64 (p2), .int .i64 (p3)] (.tup [roL 1 enc_Int r.1, .int .i64 (r.2)]) := by
 unfold fog_Clash at H
 refine Ctr.of_body (N := 34) Tryz.func78 (by kernel_rfl) (c := _) rfl Tryz.ntmps78 rfl (fun w0 h0 hval => ?_)
 refine W.rg env [0, 1, 2, 3] [] ?_
 refine W.seq ?_
 obtain ⟨y1, hy2, H⟩ := of_bindO H
 refine W.region env [] [⟨.tup [roL 9 enc_Report y1.1, .int .i64 (y1.2)], [], 0, []⟩] rfl rfl rfl .nil (.free (c_fog_query__view fuel (⟨p1, p2, p3, 0, (⟨0, 0⟩ : Range), 1⟩ : fog_query) p0 hy2) .nil) (At.keep (ts := [10, 11]) (ids := []) rfl rfl ?_)
 refine At.thenC ?_
 refine W.seq ?_
 refine W.rg env [10, 11, 24] [] ?_
 refine W.cond rfl (fun hb3 => ?_) (fun hb3 => ?_)
 · have H := of_true H hb3
   refine W.rg env [8, 9] [] ?_
   refine W.ret ?_
   refine At.rthen ?_
   cases H
   exact At.ret env.ty rfl rfl (fun q hq => by cases hq) (Sim.tupL (.cons (Sim.nil _ _) (.cons (.refl _) .nil))) hval
 · have H := of_false H hb3
   refine W.skip ?_
   refine At.thenC ?_
   refine W.seq ?_
   obtain ⟨y4, hy5, H⟩ := of_bindO H
   refine W.region env [] [⟨.tup [roL 1 enc_Int y4.1, .bool (y4.2)], [], 0, []⟩] rfl rfl rfl .nil (.free (c_fog_view__pair y1.1 hy5) .nil) (At.keep (ts := [12, 13]) (ids := []) rfl rfl ?_)
   refine At.thenC ?_
   refine W.seq ?_
   refine W.rg env [12, 32] [] ?_
   refine W.cond rfl (fun hb6 => ?_) (fun hb6 => ?_)
   · have H := of_true H hb6
     refine W.rg env [8, 9] [] ?_
     refine W.ret ?_
     refine At.rthen ?_
     cases H
     exact At.ret env.ty rfl rfl (fun q hq => by cases hq) (Sim.tupL (.cons (Sim.nil _ _) (.cons (.refl _) .nil))) hval
   · have H := of_false H hb6
     refine W.skip ?_
     refine At.thenC ?_
     refine W.rg env [8, 9] [] ?_
     refine W.ret ?_
     cases H
     exact At.ret env.ty rfl rfl (fun q hq => by cases hq) (.refl _) hval
theorem c_fog_Worst (fuel : Nat) (p0 : (List Report)) (p1 : Int) (p2 : Int) (p3 : Range) (p4 : Int) {r : (Range × Int)} (H : fog_Worst fuel p0 p1 p2 p3 p4 = some r) : Ctr Tryz.prog 22 [roL 9 enc_Report p0, .int .i64 (p1), .int .i64 (p2), .agg [.int .i64 (p3.Lo), .int .i64 (p3.Hi)], .int .i64 (p4)] (.tup [.agg [.int .i64 (r.1.Lo), .int .i64 (r.1.Hi)], .int .i64 (r.2)]) := by
 unfold fog_Worst at H
 refine Ctr.of_body (N := 59) Tryz.func22 (by kernel_rfl) (c := _) rfl Tryz.ntmps22 rfl (fun w0 h0 hval => ?_)
 refine W.rg env [0, 1, 2, 4, 8, 10] [8, 10] ?_
 refine W.seq ?_
 obtain ⟨y1, hy2, H⟩ := of_bindO H
 refine W.region env [] [⟨.tup [roL 9 enc_Report y1.1, .int .i64 (y1.2)], [], 0, []⟩] rfl rfl rfl .nil (.free (c_fog_query__clear fuel (⟨p1, p2, p4, 0, p3, 1⟩ : fog_query) p0 hy2) .nil) (At.keep (ts := [8, 10, 12, 13]) (ids := [8, 10]) rfl rfl ?_)
 refine At.thenC ?_
 refine W.seq ?_
 refine W.rg env [8, 10, 12, 13, 28] [8, 10] ?_
 refine W.cond rfl (fun hb3 => ?_) (fun hb3 => ?_)
 · have H := of_true H hb3
   refine W.rg env [10, 11] [10] ?_
   refine W.ret ?_
   refine At.rthen ?_
   cases H
   exact At.ret env.ty rfl rfl (fun q hq => by cases hq) (.refl _) hval
 · have H := of_false H hb3
   refine W.skip ?_
   refine At.thenC ?_
   refine W.seq ?_
   obtain ⟨y4, hy5, H⟩ := of_bindO H
   refine W.region env [] [⟨.agg [.int .i64 (y4.Lo), .int .i64 (y4.Hi)], [], 0, []⟩] rfl rfl rfl .nil (.free (c_fog_view__sight y1.1 p3.Lo hy5) .nil) (At.keep (ts := [8, 10, 12, 14]) (ids := [8, 10, 14]) rfl rfl ?_)
   refine At.thenC ?_
   refine W.seq ?_
   obtain ⟨hc6, H⟩ := of_must H
   refine W.sr env [] [] [8, 10, 12, 14, 15] [8, 10, 14] rfl rfl rfl (.cons hc6 .nil) .nil ?_
   refine W.block ?_
   refine At.keep (ts := [8, 10, 12, 14, 15]) (ids := [8, 10, 14]) rfl rfl ?_
   refine W.loopGo H (fun (s7 : Int × Range) => [(8, .lp 8 0), (10, .lp 10 0), (12, roL 9 enc_Report y1.1), (14, .lp 14 0), (15, .int .i64 (s7.1))]) (fun (s7 : Int × Range) => [(8, .cells [.int .i64 (p3.Lo), .int .i64 (p3.Hi)]), (10, .cells [.int .i64 (0), .int .i64 (0)]), (14, .cells [.int .i64 (s7.2.Lo), .int .i64 (s7.2.Hi)])]) (.cons .q (.cons .q (.cons .q (.cons .q (.cons .qi .nil))))) (.cons .q (.cons .q (.cons .q .nil))) (fun k7 s7 H K0 hK7 => ?_)
   refine W.seq ?_
   refine W.rg env [8, 10, 12, 14, 15, 41] [8, 10, 14] ?_
   refine W.cond rfl (fun hb8 => ?_) (fun hb8 => ?_)
   · have H := of_true H hb8
     refine W.skip ?_
     refine At.thenC ?_
     refine W.seq ?_
     refine W.block ?_
     refine W.seq ?_
     obtain ⟨y9, hy10, H⟩ := of_bindO H
     refine W.region env [] [⟨.agg [.int .i64 (y9.Lo), .int .i64 (y9.Hi)], [], 0, []⟩] rfl rfl rfl .nil (.free (c_fog_view__sight y1.1 s7.1 hy10) .nil) (At.keep (ts := [8, 10, 12, 14, 15, 16]) (ids := [8, 10, 14, 16]) rfl rfl ?_)
     refine At.thenC ?_
     refine W.region env [] [] rfl rfl rfl .nil .nil (At.keep (ts := [8, 10, 12, 14, 15]) (ids := [8, 10, 14]) rfl rfl ?_)
     refine At.inb ?_
     refine At.thenC ?_
     obtain ⟨hc11, H⟩ := of_must H
     refine W.region env [] [] rfl rfl rfl (.cons hc11 .nil) .nil (At.keep (ts := [8, 10, 12, 14, 15]) (ids := [8, 10, 14]) rfl rfl ?_)
     refine At.thenK (At.keep (ts := [8, 10, 12, 14, 15]) (ids := [8, 10, 14]) rfl rfl ?_)
     exact At.conv (.cons .q (.cons .q (.cons .q (.cons .q (.cons .qi .nil))))) (.cons .q (.cons .q (.cons .q .nil))) (hK7 ((s7.1 + 1), (⟨(min s7.2.Lo y9.Lo), (min s7.2.Hi y9.Hi)⟩ : Range)) H)
   · have H := of_false H hb8
     refine W.exit ?_
     refine At.xthen ?_
     refine At.xthen ?_
     refine At.xhere ?_
     refine At.thenC ?_
     refine W.rg env [10, 11] [10] ?_
     refine W.ret ?_
     cases H
     exact At.ret env.ty rfl rfl (fun q hq => by cases hq) (.refl _) hval
theorem c_fog_asked (p0 : (List Node)) (p1 : (List Report)) (p2 : Int) (p3 : Int) {r : Int} (H : fog_asked p0 p1 p2 p3 = some r) : Ctr Tryz.prog 60 [roL 8 enc_Node p0, roL 9 enc_Report p1, .int .i64 (p2), .int .i64 (p3)] (.int .i64 (r)) := by
 unfold fog_asked at H
 refine Ctr.of_body (N := 26) Tryz.func60 (by kernel_rfl) (c := _) rfl Tryz.ntmps60 rfl (fun w0 h0 hval => ?_)
 refine W.rg env [0, 1, 2, 3] [] ?_
 refine W.seq ?_
 refine W.block ?_
 refine W.seq ?_
 obtain ⟨y1, hy2, H⟩ := of_bindO H
 refine W.region env [] [⟨.int .i64 (y1), [], 0, []⟩] rfl rfl rfl .nil (.free (c_fog_CheckPolicy p0 hy2) .nil) (At.keep (ts := [1, 2, 3, 9]) (ids := []) rfl rfl ?_)
 refine At.thenC ?_
 refine W.cond rfl (fun hb3 => ?_) (fun hb3 => ?_)
 · have H := of_true H hb3
   refine W.rg env [8] [] ?_
   refine W.ret ?_
   refine At.rinb ?_
   refine At.rthen ?_
   cases H
   exact At.ret env.ty rfl rfl (fun q hq => by cases hq) (.refl _) hval
 · have H := of_false H hb3
   refine W.seq ?_
   obtain ⟨y4, hy5, H⟩ := of_bindO H
   refine W.region env [] [⟨.int .i64 (y4), [], 0, []⟩] rfl rfl rfl .nil (.free (c_fog_Check p1 hy5) .nil) (At.keep (ts := [2, 3, 13]) (ids := []) rfl rfl ?_)
   refine At.thenC ?_
   refine W.cond rfl (fun hb6 => ?_) (fun hb6 => ?_)
   · have H := of_true H hb6
     refine W.rg env [8] [] ?_
     refine W.ret ?_
     refine At.rinb ?_
     refine At.rthen ?_
     cases H
     exact At.ret env.ty rfl rfl (fun q hq => by cases hq) (.refl _) hval
   · have H := of_false H hb6
     refine W.sr env [] [⟨.bool ((fog_isNight p2)), [], 0, []⟩, ⟨.bool ((fog_isMoment p3)), [], 0, []⟩] [17] [] rfl rfl rfl (.cons (fun h => h) (.cons (fun h => h) (.cons (fun h => by rw [h]; rfl) .nil))) (.free (c_fog_isNight p2) (.on (fun hW => c_fog_isMoment p3) .nil)) ?_
     refine W.cond rfl (fun hb7 => ?_) (fun hb7 => ?_)
     · have H := of_true H hb7
       refine W.rg env [8] [] ?_
       refine W.ret ?_
       refine At.rinb ?_
       refine At.rthen ?_
       cases H
       exact At.ret env.ty rfl rfl (fun q hq => by cases hq) (.refl _) hval
     · have H := of_false H hb7
       refine W.skip ?_
       refine At.inb ?_
       refine At.thenC ?_
       refine W.rg env [8] [] ?_
       refine W.ret ?_
       cases H
       exact At.ret env.ty rfl rfl (fun q hq => by cases hq) (.refl _) hval
theorem c_fog_moment (p0 : Int) (p1 : Int) {r : Int} (H : fog_moment p0 p1 = some r) : Ctr Tryz.prog 123 [.int .i64 (p0), .int .i64 (p1)] (.int .i64 (r)) := by
 unfold fog_moment at H
 refine Ctr.of_body (N := 9) Tryz.func123 (by kernel_rfl) (c := _) rfl Tryz.ntmps123 rfl (fun w0 h0 hval => ?_)
 refine W.rg env [0, 1] [] ?_
 obtain ⟨hc1, H⟩ := of_must H
 obtain ⟨hc2, H⟩ := of_must H
 refine W.sr env [] [] [4] [] rfl rfl rfl (.cons hc1 (.cons hc2 .nil)) .nil ?_
 refine W.ret ?_
 cases H
 exact At.ret env.ty rfl rfl (fun q hq => by cases hq) (.refl _) hval
theorem c_fog_tell (fuel : Nat) (p0 : Node) (p1 : (List Report)) (p2 : Int) (p3 : Int) {r : Int} (H : fog_tell fuel p0 p1 p2 p3 = some r) : Ctr Tryz.prog 124 [.agg [.bool (p0.Test), .int .i64 (p0.District), .int .i64 (p0.Minute), .int .i64 (p0.Limit), .int .i64 (p0.Yes), .int .i64 (p0.No), .int .i64 (p0.Maybe), roL 2 enc_Send p0.Sends], roL 9 enc_Report p1, .int .i64 (p2), .int .i64 (p3)] (.int .i64 (r)) := by
 unfold fog_tell at H
 refine Ctr.of_body (N := 31) Tryz.func124 (by kernel_rfl) (c := _) rfl Tryz.ntmps124 rfl (fun w0 h0 hval => ?_)
 refine W.rg env [1, 2, 3, 4] [4] ?_
 refine W.seq ?_
 obtain ⟨y1, hy2, H⟩ := of_bindO H
 refine W.region env [] [⟨roL 9 enc_Report y1, [], 0, []⟩] rfl rfl rfl .nil (.free (c_fog_see fuel p1 p0.District p2 p3 hy2) .nil) (At.keep (ts := [4, 9]) (ids := [4]) rfl rfl ?_)
 refine At.thenC ?_
 refine W.seq ?_
 refine W.seq ?_
 obtain ⟨y3, hy4, H⟩ := of_bindO H
 refine W.region env [] [⟨.tup [roL 1 enc_Int y3.1, .bool (y3.2)], [], 0, []⟩] rfl rfl rfl .nil (.free (c_fog_view__pair y1 hy4) .nil) (At.keep (ts := [4, 9, 11]) (ids := [4]) rfl rfl ?_)
 refine At.thenC ?_
 refine W.rg env [4, 9, 23] [4] ?_
 refine W.cond rfl (fun hb5 => ?_) (fun hb5 => ?_)
 · have H := of_true H hb5
   refine W.rg env [8] [] ?_
   refine W.ret ?_
   refine At.rthen ?_
   cases H
   exact At.ret env.ty rfl rfl (fun q hq => by cases hq) (.refl _) hval
 · have H := of_false H hb5
   refine W.skip ?_
   refine At.thenC ?_
   refine W.seq ?_
   obtain ⟨y6, hy7, H⟩ := of_bindO H
   refine W.region env [] [⟨.agg [.int .i64 (y6.Lo), .int .i64 (y6.Hi)], [], 0, []⟩, ⟨.int .i64 ((fog_below y6 p0.Limit)), [], 0, []⟩] rfl rfl (by kernel_rfl) .nil (.free (c_fog_view__sight y1 p0.Minute hy7) (.free (c_fog_below y6 p0.Limit) .nil)) (At.keep (ts := [8]) (ids := []) rfl rfl ?_)
   refine At.thenC ?_
   refine W.ret ?_
   cases H
   exact At.ret env.ty rfl rfl (fun q hq => by cases hq) (.refl _) hval
theorem c_fog_path (fuel : Nat) (p0 : (List Node)) (p1 : (List Report)) (p2 : Int) {r : (List Int)} (H : fog_path fuel p0 p1 p2 = some r) : Ctr Tryz.prog 68 [roL 8 enc_Node p0, roL 9 enc_Report p1, .int .i64 (p2)] (roL 1 enc_Int r) := by
 unfold fog_path at H
 refine Ctr.of_body (N := 40) Tryz.func68 (by kernel_rfl) (c := _) rfl Tryz.ntmps68 rfl (fun w0 h0 hval => ?_)
 refine W.rg env [0, 1, 2] [] ?_
 refine W.seq ?_
 refine W.region env [9] [] rfl rfl rfl .nil .nil (At.keep (ts := [0, 1, 2, 7]) (ids := [9]) rfl rfl ?_)
 refine At.convM (.cons (y := bufL 3 1 enc_Int ([0] : List Int)) (BSim.seg (Seg.lit (f := enc_Int) (sz := 1) ([0] : List Int) rfl rfl (fun _ => rfl))) .nil) ?_
 refine At.thenC ?_
 refine W.seq ?_
 refine W.rg env [0, 1, 2, 7, 8] [9] ?_
 refine W.block ?_
 refine At.keep (ts := [0, 1, 2, 7, 8]) (ids := [9]) rfl rfl ?_
 refine W.loopGo H (fun (s1 : Int × (List Int)) => [(0, roL 8 enc_Node p0), (1, roL 9 enc_Report p1), (2, .int .i64 (p2)), (7, .buf 9 (s1.2).length), (8, .int .i64 (s1.1))]) (fun (s1 : Int × (List Int)) => [(9, bufL 3 1 enc_Int s1.2)]) (.cons .q (.cons .q (.cons .qi (.cons .qb (.cons .qi .nil))))) (.cons .q .nil) (fun k1 s1 H K0 hK1 => ?_)
 refine W.seq ?_
 obtain ⟨hc2, H⟩ := of_must H
 refine W.sr env [] [] [0, 1, 2, 7, 8, 14] [9] rfl rfl rfl (.cons hc2 .nil) .nil ?_
 refine W.cond rfl (fun hb3 => ?_) (fun hb3 => ?_)
 · have H := of_true H hb3
   refine W.skip ?_
   refine At.thenC ?_
   refine W.seq ?_
   refine W.block ?_
   obtain ⟨hc4, H⟩ := of_must H
   obtain ⟨hc5, H⟩ := of_must H
   obtain ⟨hc6, H⟩ := of_must H
   obtain ⟨y7, hy8, H⟩ := of_bindO H
   obtain ⟨y9, hy10, H⟩ := of_bindO H
   refine W.region env [] [⟨romL (.int .i64 0) (fun (x : Int) => .int .i64 (x)) (fog_next (p0.getD (s1.1).toNat default)), [], 0, []⟩, ⟨.int .i64 (y7), [], 0, []⟩, ⟨.int .i64 (y9), [], 0, []⟩] rfl rfl (by kernel_rfl) (.cons hc4 (.cons hc5 (.cons hc6 (.cons rfl .nil)))) (.free (c_fog_next (p0.getD (s1.1).toNat default)) (.free (c_fog_moment p2 ((p0.getD (s1.1).toNat default).Minute) hy8) (.free (c_fog_tell fuel (p0.getD (s1.1).toNat default) p1 p2 y7 hy10) .nil))) (At.keep (ts := [0, 1, 2, 7, 8]) (ids := [9]) rfl rfl ?_)
   refine At.inb ?_
   refine At.thenC ?_
   obtain ⟨hc11, H⟩ := of_must H
   refine W.region env [] [] rfl rfl rfl (.cons (⟨by first | rfl | (simp; done) | omega | (simp; omega), by have := hc11; first | simpa using this | (unfold room at this ⊢; simp at this ⊢; omega)⟩) .nil) .nil (At.keep (ts := [0, 1, 2, 7, 8]) (ids := [9]) rfl rfl ?_)
   refine At.convM (.cons (y := bufL 3 1 enc_Int (s1.2 ++ ([(((fog_next (p0.getD (s1.1).toNat default)).get y9).getD default)] : List Int))) (BSim.seg (Seg.push (Seg.refl enc_Int _) (Seg.lit (f := enc_Int) (sz := 1) ([(((fog_next (p0.getD (s1.1).toNat default)).get y9).getD default)] : List Int) rfl rfl (fun _ => rfl)))) .nil) ?_
   refine At.thenK (At.keep (ts := [0, 1, 2, 7, 8]) (ids := [9]) rfl rfl ?_)
   exact At.conv (.cons .q (.cons .q (.cons .qi (.cons .qb (.cons .qi .nil))))) (.cons .q .nil) (hK1 ((((fog_next (p0.getD (s1.1).toNat default)).get y9).getD default), (s1.2 ++ ([(((fog_next (p0.getD (s1.1).toNat default)).get y9).getD default)] : List Int))) H)
 · have H := of_false H hb3
   refine W.exit ?_
   refine At.xthen ?_
   refine At.xthen ?_
   refine At.xhere ?_
   refine At.thenC ?_
   refine W.rg env [6] [9] ?_
   refine W.ret ?_
   cases H
   exact At.ret env.ty rfl rfl (fun q hq => by cases hq; exact (by first | rfl | (simp; done) | omega | (simp; omega))) (.refl _) hval
theorem c_fog_Path (fuel : Nat) (p0 : (List Node)) (p1 : (List Report)) (p2 : Int) {r : ((List Int) × Int)} (H : fog_Path fuel p0 p1 p2 = some r) : Ctr Tryz.prog 37 [roL 8 enc_Node p0, roL 9 enc_Report p1, .int .i64 (p2)] (.tup [roL 1 enc_Int r.1, .int .i64 (r.2)]) := by
 unfold fog_Path at H
 refine Ctr.of_body (N := 20) Tryz.func37 (by kernel_rfl) (c := _) rfl Tryz.ntmps37 rfl (fun w0 h0 hval => ?_)
 refine W.rg env [0, 1, 2] [] ?_
 refine W.seq ?_
 refine W.seq ?_
 obtain ⟨y1, hy2, H⟩ := of_bindO H
 refine W.region env [] [⟨.int .i64 (y1), [], 0, []⟩] rfl rfl rfl .nil (.free (c_fog_asked p0 p1 p2 0 hy2) .nil) (At.keep (ts := [0, 1, 2, 8]) (ids := []) rfl rfl ?_)
 refine At.thenC ?_
 refine W.rg env [0, 1, 2, 8, 14] [] ?_
 refine W.cond rfl (fun hb3 => ?_) (fun hb3 => ?_)
 · have H := of_true H hb3
   refine W.rg env [6, 7] [] ?_
   refine W.ret ?_
   refine At.rthen ?_
   cases H
   exact At.ret env.ty rfl rfl (fun q hq => by cases hq) (Sim.tupL (.cons (Sim.nil _ _) (.cons (.refl _) .nil))) hval
 · have H := of_false H hb3
   refine W.skip ?_
   refine At.thenC ?_
   refine W.seq ?_
   obtain ⟨y4, hy5, H⟩ := of_bindO H
   refine W.region env [] [⟨roL 1 enc_Int y4, [], 0, []⟩] rfl rfl rfl .nil (.free (c_fog_path fuel p0 p1 p2 hy5) .nil) (At.keep (ts := [6, 7]) (ids := []) rfl rfl ?_)
   refine At.thenC ?_
   refine W.ret ?_
   cases H
   exact At.ret env.ty rfl rfl (fun q hq => by cases hq) (.refl _) hval
theorem cl_fog_possible_1_l (fuel : Nat) : ∀ (n : Nat) (p0 : Int) (c0 : (List Node)) (c1 : (List Int)) (c2 : Int) (c3 : (List Report)) (c4 : Int) {r : (List Int)} (H : fog_possible_1_l fuel n p0 c0 c1 c2 c3 c4 = some r), CtrO Tryz.prog 122 [.int .i64 (p0), .lp 90000 0, .lp 90001 0, .lp 90003 0, .lp 90004 0, .lp 90005 0, .lp 90006 0] [(90000, .cells [roL 8 enc_Node c0]), (90001, .cells [.buf 90002 (c1).length]), (90002, bufL 3 1 enc_Int c1), (90003, .cells [.int .i64 (c2)]), (90004, .cells [roL 9 enc_Report c3]), (90005, .cells [.int .i64 (c4)]), (90006, .cells [.fn (.func 122) [] [.lp 90000 0, .lp 90001 0, .lp 90003 0, .lp 90004 0, .lp 90005 0, .lp 90006 0]])] (.tup []) [(90000, .cells [roL 8 enc_Node c0]), (90001, .cells [.buf 90002 (r).length]), (90002, bufL 3 1 enc_Int r), (90003, .cells [.int .i64 (c2)]), (90004, .cells [roL 9 enc_Report c3]), (90005, .cells [.int .i64 (c4)]), (90006, .cells [.fn (.func 122) [] [.lp 90000 0, .lp 90001 0, .lp 90003 0, .lp 90004 0, .lp 90005 0, .lp 90006 0]])] := by
 intro n; induction n with
 | zero => intro p0 c0 c1 c2 c3 c4 r H; cases H
 | succ n ih =>
   intro p0 c0 c1 c2 c3 c4 r H
   have H : fog_possible_1_l_F fuel (fog_possible_1_l fuel n) p0 c0 c1 c2 c3 c4 = some r := H
   unfold fog_possible_1_l_F at H
   refine CtrL.of_body (N := 64) Tryz.func122 (by kernel_rfl) (c := _) rfl Tryz.ntmps122 rfl rfl (fun w0 h0 ρb hval hdom hent => ?_)
   obtain ⟨hc1, H⟩ := of_must H
   refine W.sr env [] [] [0, 2, 3, 4, 5, 6, 8] [8, 90000, 90001, 90002, 90003, 90004, 90005, 90006] rfl rfl rfl (.cons hc1 .nil) .nil ?_
   refine W.seq ?_
   refine W.rg env [0, 2, 3, 4, 5, 6, 8, 19] [8, 90000, 90001, 90002, 90003, 90004, 90005, 90006] ?_
   refine W.cond rfl (fun hb2 => ?_) (fun hb2 => ?_)
   · have H := of_true H hb2
     refine W.seq ?_
     obtain ⟨hc3, H⟩ := of_must H
     refine W.region env [] [] rfl rfl rfl (.cons (⟨by first | rfl | (simp; done) | omega | (simp; omega), by have := hc3; first | simpa using this | (unfold room at this ⊢; simp at this ⊢; omega)⟩) .nil) .nil (At.keep (ts := []) (ids := [90000, 90001, 90002, 90003, 90004, 90005, 90006]) rfl rfl ?_)
     refine At.convM (.cons (.refl _) (.cons (.refl _) (.cons (y := bufL 3 1 enc_Int (c1 ++ ([p0] : List Int))) (BSim.seg (Seg.push (Seg.refl enc_Int _) (Seg.lit (f := enc_Int) (sz := 1) ([p0] : List Int) rfl rfl (fun _ => rfl)))) (.cons (.refl _) (.cons (.refl _) (.cons (.refl _) (.cons (.refl _) .nil))))))) ?_
     refine At.thenC ?_
     refine W.ret ?_
     refine At.rthen ?_
     cases H
     exact At.retL env.ty [90000, 90001, 90002, 90003, 90004, 90005, 90006] rfl rfl rfl rfl (.cons (.refl _) (.cons (BSim.cells (.cons .qc .nil)) (.cons (.refl _) (.cons (.refl _) (.cons (.refl _) (.cons (.refl _) (.cons (.refl _) .nil))))))) (.refl _) hval hdom hent rfl rfl
   · have H := of_false H hb2
     refine W.skip ?_
     refine At.thenC ?_
     refine W.seq ?_
     obtain ⟨y4, hy5, H⟩ := of_bindO H
     refine W.region env [] [⟨.int .i64 (y4), [], 0, []⟩] rfl rfl rfl .nil (.free (c_fog_moment c2 ((c0.getD (p0).toNat default).Minute) hy5) .nil) (At.keep (ts := [3, 4, 5, 6, 8, 9]) (ids := [8, 90000, 90001, 90002, 90003, 90004, 90005, 90006]) rfl rfl ?_)
     refine At.thenC ?_
     refine W.seq ?_
     obtain ⟨y6, hy7, H⟩ := of_bindO H
     refine W.region env [] [⟨.int .i64 (y6), [], 0, []⟩] rfl rfl rfl .nil (.free (c_fog_tell fuel (c0.getD (p0).toNat default) c3 c2 (min y4 c4) hy7) .nil) (At.keep (ts := [5, 6, 8, 9, 10]) (ids := [8, 90000, 90001, 90002, 90003, 90004, 90005, 90006]) rfl rfl ?_)
     refine At.thenC ?_
     refine W.seq ?_
     refine W.sr env [] [] [6, 8, 10, 41] [8, 90000, 90001, 90002, 90003, 90004, 90005, 90006] rfl rfl rfl (.cons (fun h => h) (.cons (fun h => h) .nil)) .nil ?_
     refine W.cond rfl (fun hb8 => ?_) (fun hb8 => ?_)
     · have H := of_true H hb8
       refine W.seq ?_
       refine W.seq ?_
       refine W.region env [] [] rfl rfl rfl .nil .nil (At.keep (ts := [6, 48, 49, 50]) (ids := [90000, 90001, 90002, 90003, 90004, 90005, 90006]) rfl rfl ?_)
       refine At.slot (t := 48) (v := roL 1 enc_Int ([(c0.getD (p0).toNat default).Yes, (c0.getD (p0).toNat default).No, (c0.getD (p0).toNat default).Maybe] : List Int)) (Sim.lit (f := enc_Int) ([(c0.getD (p0).toNat default).Yes, (c0.getD (p0).toNat default).No, (c0.getD (p0).toNat default).Maybe] : List Int) rfl rfl (fun _ => rfl)) ?_
       refine At.thenC ?_
       refine W.block ?_
       refine At.keep (ts := [6, 48, 49, 50]) (ids := [90000, 90001, 90002, 90003, 90004, 90005, 90006]) rfl rfl ?_
       refine W.len (t := 48) rfl (fun (hn9 : ([(c0.getD (p0).toNat default).Yes, (c0.getD (p0).toNat default).No, (c0.getD (p0).toNat default).Maybe] : List Int).length ≤ maxLen) => ?_)
       refine W.rangeGo H (fun i9 (s9 : (List Int)) => [(6, .lp 90006 0), (48, roL 1 enc_Int ([(c0.getD (p0).toNat default).Yes, (c0.getD (p0).toNat default).No, (c0.getD (p0).toNat default).Maybe] : List Int)), (49, .int .i64 (((([(c0.getD (p0).toNat default).Yes, (c0.getD (p0).toNat default).No, (c0.getD (p0).toNat default).Maybe] : List Int).length : Nat) : Int))), (50, .int .i64 ((i9 : Int)))]) (fun i9 (s9 : (List Int)) => [(90000, .cells [roL 8 enc_Node c0]), (90001, .cells [.buf 90002 (s9).length]), (90002, bufL 3 1 enc_Int s9), (90003, .cells [.int .i64 (c2)]), (90004, .cells [roL 9 enc_Report c3]), (90005, .cells [.int .i64 (c4)]), (90006, .cells [.fn (.func 122) [] [.lp 90000 0, .lp 90001 0, .lp 90003 0, .lp 90004 0, .lp 90005 0, .lp 90006 0]])]) (.cons .q (.cons .q (.cons .qi (.cons .qi .nil)))) (.cons .q (.cons (BSim.cells (.cons .qc .nil)) (.cons .q (.cons .q (.cons .q (.cons .q (.cons .q .nil))))))) (fun k9 i9 s9 hle9 H1 H2 K0 hK9 => ?_)
       refine W.rg env [6, 48, 49, 50, 51] [90000, 90001, 90002, 90003, 90004, 90005, 90006] ?_
       refine W.seq ?_
       refine W.cond rfl (fun hb10 => ?_) (fun hb10 => ?_)
       · have hi9 : i9 < ([(c0.getD (p0).toNat default).Yes, (c0.getD (p0).toNat default).No, (c0.getD (p0).toNat default).Maybe] : List Int).length := by have := of_decide_eq_true hb10; omega
         have H := H1 hi9
         refine W.skip ?_
         refine At.thenC ?_
         refine W.seq ?_
         refine W.block ?_
         refine W.sr env [] [] [6, 12, 48, 49, 50] [90000, 90001, 90002, 90003, 90004, 90005, 90006] rfl rfl rfl (.cons (⟨by omega, by omega⟩ : 0 ≤ (i9 : Int) ∧ (i9 : Int) < ((([(c0.getD (p0).toNat default).Yes, (c0.getD (p0).toNat default).No, (c0.getD (p0).toNat default).Maybe] : List Int).length : Nat) : Int)) .nil) .nil ?_
         obtain ⟨y11, hy12, H⟩ := of_bindO H
         refine W.region env [] [⟨.tup [], [(90000, .cells [roL 8 enc_Node c0]), (90001, .cells [.buf 90002 (y11).length]), (90002, bufL 3 1 enc_Int y11), (90003, .cells [.int .i64 (c2)]), (90004, .cells [roL 9 enc_Report c3]), (90005, .cells [.int .i64 (c4)]), (90006, .cells [.fn (.func 122) [] [.lp 90000 0, .lp 90001 0, .lp 90003 0, .lp 90004 0, .lp 90005 0, .lp 90006 0]])], 0, [90000, 90001, 90002, 90003, 90004, 90005, 90006]⟩] rfl rfl (by kernel_rfl) .nil (.free (CtrO.sim (CtrO.ren (ih (([(c0.getD (p0).toNat default).Yes, (c0.getD (p0).toNat default).No, (c0.getD (p0).toNat default).Maybe] : List Int).getD i9 default) c0 s9 c2 c3 c4 hy12) [(90000, 90000), (90001, 90001), (90002, 90002), (90003, 90003), (90004, 90004), (90005, 90005), (90006, 90006)]) (.cons (.refl _) (.cons (.refl _) (.cons (.refl _) (.cons (.refl _) (.cons (.refl _) (.cons (.refl _) (.cons (.refl _) .nil))))))) (.cons (.refl _) (.cons (BSim.cells (.cons .qc .nil)) (.cons (.refl _) (.cons (.refl _) (.cons (.refl _) (.cons (.refl _) (.cons (.refl _) .nil)))))))) .nil) (At.keep (ts := [6, 48, 49, 50]) (ids := [90000, 90001, 90002, 90003, 90004, 90005, 90006]) rfl rfl ?_)
         refine At.inb ?_
         refine At.thenC ?_
         refine W.region env [] [] rfl rfl rfl (.cons (by unfold inI; have := hn9; (try unfold maxLen at this); omega) .nil) .nil (At.keep (ts := [6, 48, 49, 50]) (ids := [90000, 90001, 90002, 90003, 90004, 90005, 90006]) rfl rfl ?_)
         refine At.thenK (At.keep (ts := [6, 48, 49, 50]) (ids := [90000, 90001, 90002, 90003, 90004, 90005, 90006]) rfl rfl ?_)
         exact At.conv (.cons .q (.cons .q (.cons .qi (.cons .qi .nil)))) (.cons .q (.cons (BSim.cells (.cons .qc .nil)) (.cons .q (.cons .q (.cons .q (.cons .q (.cons .q .nil))))))) (hK9 hi9 y11 H)
       · have H := H2 (by have := of_decide_eq_false hb10; omega)
         refine W.exit ?_
         refine At.xthen ?_
         refine At.xthen ?_
         refine At.xhere ?_
         refine At.thenC ?_
         refine W.ret ?_
         refine At.rthen ?_
         cases H
         exact At.retL env.ty [90000, 90001, 90002, 90003, 90004, 90005, 90006] rfl rfl rfl rfl (.cons (.refl _) (.cons (BSim.cells (.cons .qc .nil)) (.cons (.refl _) (.cons (.refl _) (.cons (.refl _) (.cons (.refl _) (.cons (.refl _) .nil))))))) (.refl _) hval hdom hent rfl rfl
     · have H := of_false H hb8
       refine W.skip ?_
       refine At.thenC ?_
       obtain ⟨y13, hy14, H⟩ := of_bindO H
       refine W.region env [] [⟨romL (.int .i64 0) (fun (x : Int) => .int .i64 (x)) (fog_next (c0.getD (p0).toNat default)), [], 0, []⟩, ⟨.tup [], [(90000, .cells [roL 8 enc_Node c0]), (90001, .cells [.buf 90002 (y13).length]), (90002, bufL 3 1 enc_Int y13), (90003, .cells [.int .i64 (c2)]), (90004, .cells [roL 9 enc_Report c3]), (90005, .cells [.int .i64 (c4)]), (90006, .cells [.fn (.func 122) [] [.lp 90000 0, .lp 90001 0, .lp 90003 0, .lp 90004 0, .lp 90005 0, .lp 90006 0]])], 0, [90000, 90001, 90002, 90003, 90004, 90005, 90006]⟩] rfl rfl (by kernel_rfl) (.cons rfl .nil) (.free (c_fog_next (c0.getD (p0).toNat default)) (.free (CtrO.sim (CtrO.ren (ih (((fog_next (c0.getD (p0).toNat default)).get y6).getD default) c0 c1 c2 c3 c4 hy14) [(90000, 90000), (90001, 90001), (90002, 90002), (90003, 90003), (90004, 90004), (90005, 90005), (90006, 90006)]) (.cons (.refl _) (.cons (.refl _) (.cons (.refl _) (.cons (.refl _) (.cons (.refl _) (.cons (.refl _) (.cons (.refl _) .nil))))))) (.cons (.refl _) (.cons (BSim.cells (.cons .qc .nil)) (.cons (.refl _) (.cons (.refl _) (.cons (.refl _) (.cons (.refl _) (.cons (.refl _) .nil)))))))) .nil)) (At.keep (ts := []) (ids := [90000, 90001, 90002, 90003, 90004, 90005, 90006]) rfl rfl ?_)
       refine At.oofNormal ?_
       cases H
       exact At.retL env.ty [90000, 90001, 90002, 90003, 90004, 90005, 90006] rfl rfl rfl rfl (.cons (.refl _) (.cons (BSim.cells (.cons .qc .nil)) (.cons (.refl _) (.cons (.refl _) (.cons (.refl _) (.cons (.refl _) (.cons (.refl _) .nil))))))) (.refl _) hval hdom hent rfl rfl
theorem cl_slices_Sort_int (p0 : List Int) {r : List Int} (H : slices_Sort_int_l p0 = some r) : CtrO Tryz.prog 126 [.buf 90000 p0.length] [(90000, bufL 3 1 enc_Int p0)] (.tup []) [(90000, bufL 3 1 enc_Int r)] :=
 sort_ctr (Go.Av.enters_of Tryz.func126 (by kernel_rfl) (c := _) rfl) (Any.slices_Sort_int sort_lays) (Any.slices_Sort_int_none sort_lays) 3 p0 H
theorem c_fog_possible (fuel : Nat) (p0 : (List Node)) (p1 : (List Report)) (p2 : Int) (p3 : Int) {r : (List Int)} (H : fog_possible fuel p0 p1 p2 p3 = some r) : Ctr Tryz.prog 61 [roL 8 enc_Node p0, roL 9 enc_Report p1, .int .i64 (p2), .int .i64 (p3)] (roL 1 enc_Int r) := by
 unfold fog_possible at H
 refine Ctr.of_body (N := 17) Tryz.func61 (by kernel_rfl) (c := _) rfl Tryz.ntmps61 rfl (fun w0 h0 hval => ?_)
 refine W.rg env [4, 5, 6, 7] [4, 5, 6, 7] ?_
 refine W.rg env [4, 5, 6, 7, 9] [4, 5, 6, 7, 9] ?_
 refine W.rg env [4, 5, 6, 7, 9, 10] [4, 5, 6, 7, 9, 10] ?_
 refine W.rg env [9, 10] [4, 5, 6, 7, 9, 10] ?_
 refine W.seq ?_
 refine At.nilOwnCell 9 0 1050 3 1 (e := fun i => enc_Int (([] : List Int).getD i default)) rfl rfl rfl ?_
 obtain ⟨y1, hy2, H⟩ := of_bindO H
 refine W.region env [] [⟨.tup [], [(4, .cells [roL 8 enc_Node p0]), (9, .cells [.buf 1050 (y1).length]), (1050, bufL 3 1 enc_Int y1), (6, .cells [.int .i64 (p2)]), (5, .cells [roL 9 enc_Report p1]), (7, .cells [.int .i64 (p3)]), (10, .cells [.fn (.func 122) [] [.lp 4 0, .lp 9 0, .lp 6 0, .lp 5 0, .lp 7 0, .lp 10 0]])], 0, [4, 9, 1050, 6, 5, 7, 10]⟩] rfl rfl (by kernel_rfl) .nil (.free (CtrO.sim (CtrO.ren (cl_fog_possible_1_l fuel fuel 0 p0 ([] : List Int) p2 p1 p3 hy2) [(90000, 4), (90001, 9), (90002, 1050), (90003, 6), (90004, 5), (90005, 7), (90006, 10)]) (.cons (.refl _) (.cons (.refl _) (.cons (.refl _) (.cons (.refl _) (.cons (.refl _) (.cons (.refl _) (.cons (.refl _) .nil))))))) (.cons (.refl _) (.cons (BSim.cells (.cons .qc .nil)) (.cons (.refl _) (.cons (.refl _) (.cons (.refl _) (.cons (.refl _) (.cons (.refl _) .nil)))))))) .nil) (At.keep (ts := [9]) (ids := [9, 1050]) rfl rfl ?_)
 refine At.thenC ?_
 refine W.seq ?_
 obtain ⟨y3, hy4, H⟩ := of_bindO H
 obtain ⟨hc5, H⟩ := of_must H
 refine W.region env [] [⟨.tup [], [(1050, bufL 3 1 enc_Int y3)], 0, [1050]⟩] rfl rfl (by kernel_rfl) .nil (.free (CtrO.sim (CtrO.ren (cl_slices_Sort_int y1 hy4) [(90000, 1050)]) (.cons .qc .nil) (.cons (.refl _) .nil)) .nil) (At.keep (ts := [9]) (ids := [9, 1050]) rfl rfl ?_)
 refine At.thenC ?_
 refine W.rg env [8] [1050] ?_
 refine W.ret ?_
 cases H
 exact At.ret env.ty rfl rfl (fun q hq => by cases hq; exact (by first | rfl | (simp; done) | omega | (simp; omega))) (.refl _) hval
theorem c_fog_Possible (fuel : Nat) (p0 : (List Node)) (p1 : (List Report)) (p2 : Int) (p3 : Int) {r : ((List Int) × Int)} (H : fog_Possible fuel p0 p1 p2 p3 = some r) : Ctr Tryz.prog 40 [roL 8 enc_Node p0, roL 9 enc_Report p1, .int .i64 (p2), .int .i64 (p3)] (.tup [roL 1 enc_Int r.1, .int .i64 (r.2)]) := by
 unfold fog_Possible at H
 refine Ctr.of_body (N := 24) Tryz.func40 (by kernel_rfl) (c := _) rfl Tryz.ntmps40 rfl (fun w0 h0 hval => ?_)
 refine W.rg env [0, 1, 2, 3] [] ?_
 refine W.seq ?_
 refine W.seq ?_
 obtain ⟨y1, hy2, H⟩ := of_bindO H
 refine W.region env [] [⟨.int .i64 (y1), [], 0, []⟩] rfl rfl rfl .nil (.free (c_fog_asked p0 p1 p2 p3 hy2) .nil) (At.keep (ts := [0, 1, 2, 3, 10]) (ids := []) rfl rfl ?_)
 refine At.thenC ?_
 refine W.rg env [0, 1, 2, 3, 10, 17] [] ?_
 refine W.cond rfl (fun hb3 => ?_) (fun hb3 => ?_)
 · have H := of_true H hb3
   refine W.rg env [8, 9] [] ?_
   refine W.ret ?_
   refine At.rthen ?_
   cases H
   exact At.ret env.ty rfl rfl (fun q hq => by cases hq) (Sim.tupL (.cons (Sim.nil _ _) (.cons (.refl _) .nil))) hval
 · have H := of_false H hb3
   refine W.skip ?_
   refine At.thenC ?_
   refine W.seq ?_
   obtain ⟨y4, hy5, H⟩ := of_bindO H
   refine W.region env [] [⟨roL 1 enc_Int y4, [], 0, []⟩] rfl rfl rfl .nil (.free (c_fog_possible fuel p0 p1 p2 p3 hy5) .nil) (At.keep (ts := [8, 9]) (ids := []) rfl rfl ?_)
   refine At.thenC ?_
   refine W.ret ?_
   cases H
   exact At.ret env.ty rfl rfl (fun q hq => by cases hq) (.refl _) hval
theorem c_fog_Moved_1 (p0 : Report) (c0 : Int) : Ctr Tryz.prog 65 [.agg [.int .i64 (p0.Source), .int .i64 (p0.District), .int .i64 (p0.Night), .int .i64 (p0.From), .int .i64 (p0.To), .int .i64 (p0.Sight.Lo), .int .i64 (p0.Sight.Hi), .int .i64 (p0.Known), .int .i64 (p0.Until)], .rp [.int .i64 (c0)]] (.bool ((fog_Moved_1 p0 c0))) := by
 obtain ⟨r, H⟩ : ∃ r, fog_Moved_1 p0 c0 = r := ⟨_, rfl⟩
 rw [H]
 unfold fog_Moved_1 at H
 refine Ctr.of_body (N := 8) Tryz.func65 (by kernel_rfl) (c := _) rfl Tryz.ntmps65 rfl (fun w0 h0 hval => ?_)
 refine W.rg env [1, 2] [2] ?_
 refine W.rg env [3] [] ?_
 refine W.ret ?_
 cases H
 exact At.ret env.ty rfl rfl (fun q hq => by cases hq) (.refl _) hval
theorem co_slices_Delete_Report (p0 : (List Report)) (p1 : Int) (p2 : Int) {r : (List Report)} (H : slices_Delete_Report p0 p1 p2 = some r) : CtrO Tryz.prog 66 [.buf 700 (p0).length, .int .i64 (p1), .int .i64 (p2)] [(700, bufL 90 9 enc_Report p0)] (.buf 900 r.length) [(900, bufL 90 9 enc_Report r)] := by
 unfold slices_Delete_Report at H
 refine CtrO.of_body (N := 33) Tryz.func66 (by kernel_rfl) (c := _) rfl Tryz.ntmps66 rfl (fun w0 h0 ρb hval hdom => ?_)
 refine W.rg env [0, 1, 2] [700] ?_
 obtain ⟨hc1, H⟩ := of_must H
 refine W.sr env [] [] [0, 1, 2] [700] rfl rfl rfl (.cons (by first | rfl | (simp; done) | omega | (simp; omega)) (.cons (⟨by first | rfl | (simp; done) | omega | (simp; omega), hc1⟩) .nil)) .nil ?_
 refine W.seq ?_
 refine W.rg env [0, 1, 2, 16] [700] ?_
 refine W.cond rfl (fun hb2 => ?_) (fun hb2 => ?_)
 · have H := of_true H hb2
   refine W.rg env [6] [700] ?_
   refine W.ret ?_
   refine At.rthen ?_
   cases H
   exact At.retK env.ty [700] 200 rfl rfl rfl rfl (.cons (.refl _) .nil) (.of_eq (by refine bufEq ?_; first | (simp [copyAt]; done) | omega | (simp [copyAt]; omega) | rfl)) hval hdom rfl
 · have H := of_false H hb2
   refine W.skip ?_
   refine At.thenC ?_
   refine W.sr env [] [] [0, 1, 2, 7] [700] rfl rfl rfl (.cons (by first | rfl | (simp; done) | omega | (simp; omega)) .nil) .nil ?_
   refine W.seq ?_
   obtain ⟨hc3, H⟩ := of_must H
   obtain ⟨hc4, H⟩ := of_must H
   obtain ⟨hc5, H⟩ := of_must H
   refine W.region env [] [] rfl rfl (by first | rfl | kernel_rfl) (.cons (⟨by first | rfl | (simp; done) | omega | (simp; omega), hc3⟩) (.cons (⟨by first | rfl | (simp; done) | omega | (simp; omega), hc4⟩) (.cons (⟨rfl, rfl, by omega, by omega, by omega⟩) .nil))) .nil (At.keep (ts := [0, 7]) (ids := [26]) rfl rfl ?_)
   refine At.convM (.cons (y := bufkL 90 9 p0.length enc_Report (p0.take ((p1).toNat) ++ p0.drop ((p2).toNat))) (BSim.kseg (Seg.moved (f := enc_Report) (l := p0) ((p1).toNat) ((p2).toNat) (by omega) (by omega))) .nil) ?_
   refine At.thenC ?_
   refine W.seq ?_
   obtain ⟨hc6, H⟩ := of_must H
   refine W.region env [] [] rfl rfl rfl (.cons (by first | rfl | (simp; done) | omega | (simp; omega)) (.cons (⟨by first | rfl | (simp; done) | omega | (simp; omega), hc6⟩) (.cons (⟨by first | rfl | (simp; done) | omega | (simp; omega), by first | rfl | (simp; done) | omega | (simp; omega), by first | omega | (simp; omega)⟩) .nil))) .nil (At.keep (ts := [0]) (ids := [26]) rfl rfl ?_)
   refine At.convM (.cons (y := bufkL 90 9 p0.length enc_Report (p0.take ((p1).toNat) ++ p0.drop ((p2).toNat))) (BSim.kseg (Seg.refl enc_Report _)) .nil) ?_
   refine At.thenC ?_
   refine W.rg env [6] [26] ?_
   refine W.ret ?_
   cases H
   exact At.retK env.ty [26] 874 rfl rfl rfl rfl (.cons (.bufk (.refl _)) .nil) (.of_eq (by refine bufEq ?_; first | (simp [copyAt]; done) | omega | (simp [copyAt]; omega) | rfl)) hval hdom rfl
theorem c_fog_Moved (fuel : Nat) (p0 : (List Node)) (p1 : (List Report)) (p2 : Int) (p3 : Int) (p4 : Int) {r : (Bool × (List Int) × Int)} (H : fog_Moved fuel p0 p1 p2 p3 p4 = some r) : Ctr Tryz.prog 12 [roL 8 enc_Node p0, roL 9 enc_Report p1, .int .i64 (p2), .int .i64 (p3), .int .i64 (p4)] (.tup [.bool (r.1), roL 1 enc_Int r.2.1, .int .i64 (r.2.2)]) := by
 unfold fog_Moved at H
 refine Ctr.of_body (N := 119) Tryz.func12 (by kernel_rfl) (c := _) rfl Tryz.ntmps12 rfl (fun w0 h0 hval => ?_)
 refine W.rg env [0, 1, 3, 4, 7] [7] ?_
 refine W.seq ?_
 refine W.seq ?_
 obtain ⟨y1, hy2, H⟩ := of_bindO H
 refine W.region env [] [⟨.int .i64 (y1), [], 0, []⟩] rfl rfl rfl .nil (.free (c_fog_asked p0 p1 p3 p4 hy2) .nil) (At.keep (ts := [0, 1, 3, 4, 7, 13]) (ids := [7]) rfl rfl ?_)
 refine At.thenC ?_
 refine W.rg env [0, 1, 3, 4, 7, 13, 32] [7] ?_
 refine W.cond rfl (fun hb3 => ?_) (fun hb3 => ?_)
 · have H := of_true H hb3
   refine W.rg env [10, 11, 12] [] ?_
   refine W.ret ?_
   refine At.rthen ?_
   cases H
   exact At.ret env.ty rfl rfl (fun q hq => by cases hq) (Sim.tupL (.cons (.refl _) (.cons (Sim.nil _ _) (.cons (.refl _) .nil)))) hval
 · have H := of_false H hb3
   refine W.skip ?_
   refine At.thenC ?_
   refine W.seq ?_
   obtain ⟨y4, hy5, H⟩ := of_bindO H
   refine W.region env [] [⟨.int .i64 (y4), [], 0, []⟩] rfl rfl rfl .nil (.free (c_slices_IndexFunc_Report p1 (fun x0 => some (fog_Moved_1 x0 p2)) 65 [] ([.rp [.int .i64 (p2)]]) (fun x0 r h => by cases h; exact c_fog_Moved_1 x0 p2) hy5) .nil) (At.keep (ts := [0, 1, 3, 4, 14]) (ids := []) rfl rfl ?_)
   refine At.thenC ?_
   refine W.seq ?_
   refine W.rg env [0, 1, 3, 4, 14, 38] [] ?_
   refine W.cond rfl (fun hb6 => ?_) (fun hb6 => ?_)
   · have H := of_true H hb6
     refine W.rg env [10, 11, 12] [] ?_
     refine W.ret ?_
     refine At.rthen ?_
     cases H
     exact At.ret env.ty rfl rfl (fun q hq => by cases hq) (Sim.tupL (.cons (.refl _) (.cons (Sim.nil _ _) (.cons (.refl _) .nil)))) hval
   · have H := of_false H hb6
     refine W.skip ?_
     refine At.thenC ?_
     refine W.seq ?_
     obtain ⟨y7, hy8, H⟩ := of_bindO H
     obtain ⟨hc9, H⟩ := of_must H
     obtain ⟨y10, hy11, H⟩ := of_bindO H
     refine W.region env [] [⟨.buf 900 y7.length, [(900, bufL 90 9 enc_Report y7)], 41000, []⟩, ⟨.buf 900 y10.length, [(41900, .dead), (900, bufL 90 9 enc_Report y10)], 45000, []⟩] rfl rfl (by kernel_rfl) (.cons hc9 .nil) (.free ((Ctr.ofO (co_slices_Clone_Report p1 hy8))) (.free (CtrO.sim (CtrO.at (co_slices_Delete_Report y7 y4 (y4 + 1) hy11) rfl 41900) (.cons .qc (.cons (.refl _) (.cons (.refl _) .nil))) (.cons (.refl _) .nil)) .nil)) (At.keep (ts := [0, 1, 3, 4, 14, 15]) (ids := [45900]) rfl rfl ?_)
     refine At.thenC ?_
     refine W.seq ?_
     refine At.freezeA 45900 (K := []) (ts := [0, 1, 3, 4, 14, 15]) rfl rfl rfl rfl (.cons (by first | rfl | (simp; done) | omega | (simp; omega)) .nil) .nil (fun _ h => h) ?_
     obtain ⟨y12, hy13, H⟩ := of_bindO H
     obtain ⟨y14, hy15, H⟩ := of_bindO H
     refine W.region env [] [⟨roL 1 enc_Int y12, [], 0, []⟩, ⟨roL 1 enc_Int y14, [], 0, []⟩] rfl rfl rfl .nil (.free (c_fog_path fuel p0 p1 p3 hy13) (.free (c_fog_path fuel p0 y10 p3 hy15) .nil)) (At.keep (ts := [1, 3, 4, 14, 15, 16, 17]) (ids := []) rfl rfl ?_)
     refine At.thenC ?_
     refine W.seq ?_
     obtain ⟨hc16, H⟩ := of_must H
     obtain ⟨y17, hy18, H⟩ := of_bindO H
     obtain ⟨hc19, H⟩ := of_must H
     obtain ⟨y20, hy21, H⟩ := of_bindO H
     refine W.region env [] [⟨roL 9 enc_Report y17, [], 0, []⟩, ⟨roL 9 enc_Report y20, [], 0, []⟩] rfl rfl (by kernel_rfl) (.cons hc16 (.cons hc19 .nil)) (.free (c_fog_see fuel p1 ((p1.getD (y4).toNat default).District) p3 p4 hy18) (.free (c_fog_see fuel y10 ((p1.getD (y4).toNat default).District) p3 p4 hy21) .nil)) (At.keep (ts := [16, 17, 18, 19]) (ids := []) rfl rfl ?_)
     refine At.thenC ?_
     refine W.seq ?_
     obtain ⟨y22, hy23, H⟩ := of_bindO H
     refine W.region env [] [⟨.tup [roL 1 enc_Int y22.1, .bool (y22.2)], [], 0, []⟩] rfl rfl rfl .nil (.free (c_fog_view__pair y17 hy23) .nil) (At.keep (ts := [16, 17, 18, 19, 21]) (ids := []) rfl rfl ?_)
     refine At.thenC ?_
     refine W.seq ?_
     obtain ⟨y24, hy25, H⟩ := of_bindO H
     refine W.region env [] [⟨.tup [roL 1 enc_Int y24.1, .bool (y24.2)], [], 0, []⟩] rfl rfl rfl .nil (.free (c_fog_view__pair y20 hy25) .nil) (At.keep (ts := [16, 17, 18, 19, 21, 23]) (ids := []) rfl rfl ?_)
     refine At.thenC ?_
     refine W.rg env [16, 17, 18, 19, 21, 23, 24] [] ?_
     refine W.seq ?_
     refine W.rg env [16, 17, 18, 19, 21, 23, 24, 81] [] ?_
     refine W.block ?_
     refine At.nilOwn 24 524 3 1 (e := fun i => enc_Int (([] : List Int).getD i default)) rfl rfl ?_
     refine At.keep (ts := [16, 17, 18, 19, 21, 23, 24, 81]) (ids := [524]) rfl rfl ?_
     have hn26 : 1440 ≤ 9223372036854775807 := by decide
     refine W.rangeGo H (fun i26 (s26 : (List Int)) => [(16, roL 1 enc_Int y12), (17, roL 1 enc_Int y14), (18, roL 9 enc_Report y17), (19, roL 9 enc_Report y20), (21, .bool (y22.2)), (23, .bool (y24.2)), (24, .buf 524 (s26).length), (81, .int .i64 ((i26 : Int)))]) (fun i26 (s26 : (List Int)) => [(524, bufL 3 1 enc_Int s26)]) (.cons .q (.cons .q (.cons .q (.cons .q (.cons .q (.cons .q (.cons .qb (.cons .qi .nil)))))))) (.cons .q .nil) (fun k26 i26 s26 hle26 H1 H2 K0 hK26 => ?_)
     refine W.rg env [16, 17, 18, 19, 21, 23, 24, 81, 82] [524] ?_
     refine W.seq ?_
     refine W.cond rfl (fun hb27 => ?_) (fun hb27 => ?_)
     · have hi26 : i26 < 1440 := by have := of_decide_eq_true hb27; omega
       have H := H1 hi26
       refine W.skip ?_
       refine At.thenC ?_
       refine W.seq ?_
       refine W.block ?_
       refine W.rg env [16, 17, 18, 19, 21, 23, 24, 25, 81] [524] ?_
       refine W.seq ?_
       obtain ⟨y28, hy29, H⟩ := of_bindO H
       obtain ⟨y30, hy31, H⟩ := of_bindO H
       refine W.region env [] [⟨.agg [.int .i64 (y28.Lo), .int .i64 (y28.Hi)], [], 0, []⟩, ⟨.agg [.int .i64 (y30.Lo), .int .i64 (y30.Hi)], [], 0, []⟩] rfl rfl rfl (.cons (fun h => h) (.cons (fun h => h) (.cons (fun h => h) (.cons (fun h => h) (.cons (fun h => h) (.cons (fun h => h) (.cons (fun h => h) (.cons (fun h => h) (.cons (fun h => h) (.cons (fun hW h => by revert hW h; first | (simp +contextual; done) | grind) (.cons (fun h => by rw [h]; rfl) .nil))))))))))) (.on (fun hW => c_fog_view__sight y17 (i26 : Int) (of_true hy29 hW)) (.on (fun hW => c_fog_view__sight y20 (i26 : Int) (of_true hy31 hW)) .nil)) (At.keep (ts := [16, 17, 18, 19, 21, 23, 24, 25, 81, 99]) (ids := [524]) rfl rfl ?_)
       refine At.thenC ?_
       refine W.cond rfl (fun hb32 => ?_) (fun hb32 => ?_)
       · have H := of_true H hb32
         obtain ⟨hc33, H⟩ := of_must H
         refine W.region env [] [] rfl rfl rfl (.cons (⟨by first | rfl | (simp; done) | omega | (simp; omega), by have := hc33; first | simpa using this | (unfold room at this ⊢; simp at this ⊢; omega)⟩) .nil) .nil (At.keep (ts := [16, 17, 18, 19, 21, 23, 24, 81]) (ids := [524]) rfl rfl ?_)
         refine At.convM (.cons (y := bufL 3 1 enc_Int (s26 ++ ([(i26 : Int)] : List Int))) (BSim.seg (Seg.push (Seg.refl enc_Int _) (Seg.lit (f := enc_Int) (sz := 1) ([(i26 : Int)] : List Int) rfl rfl (fun _ => rfl)))) .nil) ?_
         refine At.inb ?_
         refine At.thenC ?_
         refine W.region env [] [] rfl rfl rfl (.cons (by unfold inI; have := hn26; (try unfold maxLen at this); omega) .nil) .nil (At.keep (ts := [16, 17, 18, 19, 21, 23, 24, 81]) (ids := [524]) rfl rfl ?_)
         refine At.thenK (At.keep (ts := [16, 17, 18, 19, 21, 23, 24, 81]) (ids := [524]) rfl rfl ?_)
         exact At.conv (.cons .q (.cons .q (.cons .q (.cons .q (.cons .q (.cons .q (.cons .qb (.cons .qi .nil)))))))) (.cons .q .nil) (hK26 hi26 (s26 ++ ([(i26 : Int)] : List Int)) H)
       · have H := of_false H hb32
         refine W.skip ?_
         refine At.inb ?_
         refine At.thenC ?_
         refine W.region env [] [] rfl rfl rfl (.cons (by unfold inI; have := hn26; (try unfold maxLen at this); omega) .nil) .nil (At.keep (ts := [16, 17, 18, 19, 21, 23, 24, 81]) (ids := [524]) rfl rfl ?_)
         refine At.thenK (At.keep (ts := [16, 17, 18, 19, 21, 23, 24, 81]) (ids := [524]) rfl rfl ?_)
         exact At.conv (.cons .q (.cons .q (.cons .q (.cons .q (.cons .q (.cons .q (.cons .qb (.cons .qi .nil)))))))) (.cons .q .nil) (hK26 hi26 s26 H)
     · have H := H2 (by have := of_decide_eq_false hb27; omega)
       refine W.exit ?_
       refine At.xthen ?_
       refine At.xthen ?_
       refine At.xhere ?_
       refine At.thenC ?_
       obtain ⟨hc34, H⟩ := of_must H
       obtain ⟨hc35, H⟩ := of_must H
       obtain ⟨hc36, H⟩ := of_must H
       obtain ⟨hc37, H⟩ := of_must H
       refine W.sr env [] [] [10, 11, 12] [524] rfl rfl (by first | rfl | kernel_rfl) (.cons hc34 (.cons hc35 (.cons hc36 (.cons hc37 .nil)))) .nil ?_
       refine W.ret ?_
       cases H
       exact At.ret env.ty rfl rfl (fun q hq => by cases hq; exact (by first | rfl | (simp; done) | omega | (simp; omega))) (.refl _) hval
theorem c_gasolierlaw05_sane (fuel : Nat) {r : Bool} (H : gasolierlaw05_sane fuel = some r) : Ctr Tryz.prog 15 [] (.bool (r)) := by
 unfold gasolierlaw05_sane at H
 refine Ctr.of_body (N := 177) Tryz.func15 (by kernel_rfl) (c := _) rfl Tryz.ntmps15 rfl (fun w0 h0 hval => ?_)
 refine W.rg env [] [] ?_
 refine W.sr env [] [⟨roL 9 enc_Report (gasolierlaw05_reports), [], 0, []⟩] [1] [] rfl rfl rfl .nil (.free (c_gasolierlaw05_reports) .nil) ?_
 refine W.sr env [] [⟨roL 8 enc_Node (gasolierlaw05_policy), [], 0, []⟩] [1, 2] [] rfl rfl rfl .nil (.free (c_gasolierlaw05_policy) .nil) ?_
 refine W.sr env [] [⟨roL 2 enc_Runner (gasolierlaw05_runners), [], 0, []⟩] [1, 2, 3] [] rfl rfl rfl .nil (.free (c_gasolierlaw05_runners) .nil) ?_
 refine W.seq ?_
 obtain ⟨hc1, H⟩ := of_must H
 obtain ⟨hc2, H⟩ := of_must H
 refine W.region env [] [] rfl rfl (by first | rfl | kernel_rfl) (.cons hc1 (.cons hc2 .nil)) .nil (At.keep (ts := [1, 2, 3, 4]) (ids := []) rfl rfl ?_)
 refine At.slot (t := 4) (v := roL 2 enc_Runner ([((gasolierlaw05_runners).getD 0 default), ((gasolierlaw05_runners).getD 2 default)] : List Runner)) (Sim.lit (f := enc_Runner) ([((gasolierlaw05_runners).getD 0 default), ((gasolierlaw05_runners).getD 2 default)] : List Runner) rfl rfl (fun _ => rfl)) ?_
 refine At.thenC ?_
 refine W.seq ?_
 obtain ⟨y3, hy4, H⟩ := of_bindO H
 refine W.region env [] [⟨.tup [.agg [.int .i64 (y3.1.Lo), .int .i64 (y3.1.Hi)], .int .i64 (y3.2)], [], 0, []⟩] rfl rfl rfl .nil (.free (c_fog_Sight fuel (gasolierlaw05_reports) 1 2 450 3400 hy4) .nil) (At.keep (ts := [1, 2, 3, 4, 5, 6]) (ids := [5]) rfl rfl ?_)
 refine At.thenC ?_
 refine W.seq ?_
 obtain ⟨y5, hy6, H⟩ := of_bindO H
 refine W.region env [] [⟨.tup [.int .i64 (y5.1), .int .i64 (y5.2)], [], 0, []⟩] rfl rfl rfl .nil (.free (c_fog_Below fuel (gasolierlaw05_reports) 1 2 450 200 3300 hy6) .nil) (At.keep (ts := [1, 2, 3, 4, 5, 6, 7, 8]) (ids := [5]) rfl rfl ?_)
 refine At.thenC ?_
 refine W.seq ?_
 obtain ⟨y7, hy8, H⟩ := of_bindO H
 refine W.region env [] [⟨.tup [roL 1 enc_Int y7.1, .int .i64 (y7.2)], [], 0, []⟩] rfl rfl rfl .nil (.free (c_fog_Clash fuel (gasolierlaw05_reports) 1 2 3500 hy8) .nil) (At.keep (ts := [1, 2, 3, 4, 5, 6, 7, 8, 9, 10]) (ids := [5]) rfl rfl ?_)
 refine At.thenC ?_
 refine W.seq ?_
 obtain ⟨y9, hy10, H⟩ := of_bindO H
 refine W.region env [] [⟨.tup [.agg [.int .i64 (y9.1.Lo), .int .i64 (y9.1.Hi)], .int .i64 (y9.2)], [], 0, []⟩] rfl rfl rfl .nil (.free (c_fog_Worst fuel (gasolierlaw05_reports) 1 2 (⟨300, 600⟩ : Range) 3400 hy10) .nil) (At.keep (ts := [1, 2, 3, 4, 5, 6, 7, 8, 9, 10, 11, 12]) (ids := [5, 11]) rfl rfl ?_)
 refine At.thenC ?_
 refine W.seq ?_
 obtain ⟨y11, hy12, H⟩ := of_bindO H
 refine W.region env [] [⟨.tup [roL 1 enc_Int y11.1, .int .i64 (y11.2)], [], 0, []⟩] rfl rfl rfl .nil (.free (c_fog_Path fuel (gasolierlaw05_policy) (gasolierlaw05_reports) 2 hy12) .nil) (At.keep (ts := [1, 2, 3, 4, 5, 6, 7, 8, 9, 10, 11, 12, 13, 14]) (ids := [5, 11]) rfl rfl ?_)
 refine At.thenC ?_
 refine W.seq ?_
 obtain ⟨y13, hy14, H⟩ := of_bindO H
 refine W.region env [] [⟨.tup [roL 1 enc_Int y13.1, .int .i64 (y13.2)], [], 0, []⟩] rfl rfl rfl .nil (.free (c_fog_Possible fuel (gasolierlaw05_policy) (gasolierlaw05_reports) 2 3300 hy14) .nil) (At.keep (ts := [1, 2, 3, 4, 5, 6, 7, 8, 9, 10, 11, 12, 13, 14, 15, 16]) (ids := [5, 11]) rfl rfl ?_)
 refine At.thenC ?_
 refine W.seq ?_
 obtain ⟨y15, hy16, H⟩ := of_bindO H
 refine W.region env [] [⟨.tup [roL 1 enc_Int y15.1, .int .i64 (y15.2)], [], 0, []⟩] rfl rfl rfl .nil (.free (c_fog_Assign fuel (gasolierlaw05_policy) (gasolierlaw05_runners) 1 hy16) .nil) (At.keep (ts := [1, 2, 4, 5, 6, 7, 8, 9, 10, 11, 12, 13, 14, 15, 16, 17, 18]) (ids := [5, 11]) rfl rfl ?_)
 refine At.thenC ?_
 refine W.seq ?_
 obtain ⟨y17, hy18, H⟩ := of_bindO H
 refine W.region env [] [⟨.tup [roL 1 enc_Int y17.1, .int .i64 (y17.2)], [], 0, []⟩] rfl rfl rfl .nil (.free (c_fog_Short fuel (gasolierlaw05_policy) ([((gasolierlaw05_runners).getD 0 default), ((gasolierlaw05_runners).getD 2 default)] : List Runner) 1 hy18) .nil) (At.keep (ts := [1, 2, 5, 6, 7, 8, 9, 10, 11, 12, 13, 14, 15, 16, 17, 18, 19, 20]) (ids := [5, 11]) rfl rfl ?_)
 refine At.thenC ?_
 refine W.seq ?_
 obtain ⟨y19, hy20, H⟩ := of_bindO H
 refine W.region env [] [⟨.tup [.bool (y19.1), roL 1 enc_Int y19.2.1, .int .i64 (y19.2.2)], [], 0, []⟩] rfl rfl rfl .nil (.free (c_fog_Moved fuel (gasolierlaw05_policy) (gasolierlaw05_reports) 2 2 3400 hy20) .nil) (At.keep (ts := [5, 6, 7, 8, 9, 10, 11, 12, 13, 14, 15, 16, 17, 18, 19, 20, 21, 22, 23]) (ids := [5, 11]) rfl rfl ?_)
 refine At.thenC ?_
 refine W.sr env [] [] [5, 7, 9, 11, 13, 15, 17, 19, 21, 22, 24] [5, 11] rfl rfl rfl (.cons (fun h => h) (.cons (fun h => h) (.cons (fun h => h) (.cons (fun h => h) (.cons (fun h => h) (.cons (fun h => h) (.cons (fun h => h) (.cons (fun h => h) (.cons (fun h => h) (.cons (fun h => h) (.cons (fun h => h) (.cons (fun h => h) (.cons (fun h => h) (.cons (fun h => h) (.cons (fun h => h) (.cons (fun h => h) .nil)))))))))))))))) .nil ?_
 refine W.seq ?_
 obtain ⟨y21, hy22, H⟩ := of_bindO H
 obtain ⟨y23, hy24, H⟩ := of_bindO H
 refine W.region env [] [⟨.bool (y21), [], 0, []⟩, ⟨.bool (y23), [], 0, []⟩] rfl rfl rfl (.cons (fun h => h) (.cons (fun h => h) (.cons (fun h => h) (.cons (fun h => h) (.cons (fun h => h) (.cons (fun h => h) (.cons (fun h => h) (.cons (fun h => h) (.cons (fun h => h) (.cons (fun h => h) (.cons (fun h => h) .nil))))))))))) (.on (fun hW => Ctr.sim (.cons (.refl _) (.cons (Sim.lit (f := enc_Int) ([2, 3] : List Int) rfl rfl (fun _ => rfl)) .nil)) (c_gasolierref05_Same fuel y7.1 ([2, 3] : List Int) (of_true hy22 hW))) (.on (fun hW => Ctr.sim (.cons (.refl _) (.cons (Sim.lit (f := enc_Int) ([0, 1] : List Int) rfl rfl (fun _ => rfl)) .nil)) (c_gasolierref05_Same fuel y11.1 ([0, 1] : List Int) (of_true hy24 hW))) .nil)) (At.keep (ts := [15, 17, 19, 21, 22, 24, 25]) (ids := []) rfl rfl ?_)
 refine At.thenC ?_
 refine W.seq ?_
 obtain ⟨y25, hy26, H⟩ := of_bindO H
 obtain ⟨y27, hy28, H⟩ := of_bindO H
 obtain ⟨y29, hy30, H⟩ := of_bindO H
 obtain ⟨hc31, H⟩ := of_must H
 refine W.region env [] [⟨.bool (y25), [], 0, []⟩, ⟨.bool (y27), [], 0, []⟩, ⟨.bool (y29), [], 0, []⟩] rfl rfl rfl (.cons (fun h => h) (.cons (fun h => h) (.cons (fun h => h) (.cons (fun h => h) (.cons (fun h => h) (.cons (fun h => h) (.cons (fun h => h) (.cons (fun h => h) (.cons (fun h => h) (.cons (fun h => h) (.cons (fun h => h) (.cons (fun h => h) (.cons (fun h => h) (.cons (fun h => h) (.cons hc31 (.cons (fun h => h) (.cons (fun h => h) (.cons (fun h => h) (.cons (fun h => h) .nil))))))))))))))))))) (.on (fun hW => Ctr.sim (.cons (.refl _) (.cons (Sim.lit (f := enc_Int) ([1, 2, 3] : List Int) rfl rfl (fun _ => rfl)) .nil)) (c_gasolierref05_Same fuel y13.1 ([1, 2, 3] : List Int) (of_true hy26 hW))) (.on (fun hW => Ctr.sim (.cons (.refl _) (.cons (Sim.lit (f := enc_Int) ([10, 11, 12] : List Int) rfl rfl (fun _ => rfl)) .nil)) (c_gasolierref05_Same fuel y15.1 ([10, 11, 12] : List Int) (of_true hy28 hW))) (.on (fun hW => Ctr.sim (.cons (.refl _) (.cons (Sim.lit (f := enc_Int) ([1] : List Int) rfl rfl (fun _ => rfl)) .nil)) (c_gasolierref05_Same fuel y17.1 ([1] : List Int) (of_true hy30 hW))) .nil))) (At.keep (ts := [0]) (ids := []) rfl rfl ?_)
 refine At.thenC ?_
 refine W.ret ?_
 cases H
 exact At.ret env.ty rfl rfl (fun q hq => by cases hq) (.refl _) hval
theorem c_gasolierlaw05_FogRunners (fuel : Nat) (p0 : (List Node)) (p1 : (List Runner)) (p2 : gasolierlaw05_Given) {r : Bool} (H : gasolierlaw05_FogRunners fuel p0 p1 p2 = some r) : Ctr Tryz.prog 5 [roL 8 enc_Node p0, roL 2 enc_Runner p1, .agg [.int .i64 (p2.Leaf), roL 1 enc_Int p2.Ids, roL 1 enc_Int p2.Districts]] (.bool (r)) := by
 unfold gasolierlaw05_FogRunners at H
 refine Ctr.of_body (N := 109) Tryz.func5 (by kernel_rfl) (c := _) rfl Tryz.ntmps5 rfl (fun w0 h0 hval => ?_)
 refine W.rg env [0, 1, 5] [5] ?_
 refine W.seq ?_
 obtain ⟨y1, hy2, H⟩ := of_bindO H
 refine W.region env [] [⟨.tup [roL 1 enc_Int y1.1, .int .i64 (y1.2)], [], 0, []⟩] rfl rfl rfl .nil (.free (c_fog_Assign fuel p0 p1 p2.Leaf hy2) .nil) (At.keep (ts := [0, 1, 5, 7, 8]) (ids := [5]) rfl rfl ?_)
 refine At.thenC ?_
 refine W.seq ?_
 obtain ⟨y3, hy4, H⟩ := of_bindO H
 refine W.region env [] [⟨.tup [roL 1 enc_Int y3.1, .int .i64 (y3.2)], [], 0, []⟩] rfl rfl rfl .nil (.free (c_gasolierref05_Assign fuel p0 p1 p2.Leaf hy4) .nil) (At.keep (ts := [0, 1, 5, 7, 8, 9, 10]) (ids := [5]) rfl rfl ?_)
 refine At.thenC ?_
 refine W.seq ?_
 obtain ⟨y5, hy6, H⟩ := of_bindO H
 refine W.region env [] [⟨.tup [roL 1 enc_Int y5.1, .int .i64 (y5.2)], [], 0, []⟩] rfl rfl rfl .nil (.free (c_fog_Short fuel p0 p1 p2.Leaf hy6) .nil) (At.keep (ts := [0, 1, 5, 7, 8, 9, 10, 11, 12]) (ids := [5]) rfl rfl ?_)
 refine At.thenC ?_
 refine W.seq ?_
 obtain ⟨y7, hy8, H⟩ := of_bindO H
 refine W.region env [] [⟨.tup [roL 1 enc_Int y7.1, .int .i64 (y7.2)], [], 0, []⟩] rfl rfl rfl .nil (.free (c_gasolierref05_Short fuel p0 p1 p2.Leaf hy8) .nil) (At.keep (ts := [0, 1, 5, 7, 8, 9, 10, 11, 12, 13, 14]) (ids := [5]) rfl rfl ?_)
 refine At.thenC ?_
 refine W.seq ?_
 refine W.seq ?_
 obtain ⟨y9, hy10, H⟩ := of_bindO H
 obtain ⟨y11, hy12, H⟩ := of_bindO H
 obtain ⟨y13, hy14, H⟩ := of_bindO H
 obtain ⟨y15, hy16, H⟩ := of_bindO H
 refine W.region env [] [⟨.bool (y9), [], 0, []⟩, ⟨.bool (y11), [], 0, []⟩, ⟨.int .i64 (y13), [], 0, []⟩, ⟨.int .i64 (y15), [], 0, []⟩] rfl rfl rfl (.cons (fun h => h) (.cons (fun h => h) (.cons (fun h => by rw [h]; rfl) (.cons (fun h => h) (.cons (fun h => h) (.cons (fun h => h) (.cons (fun h => by rw [h]; rfl) (.cons (fun h => h) (.cons (fun h => h) (.cons (fun h => by rw [h]; rfl) (.cons (fun h => h) (.cons (fun h => h) (.cons (fun h => h) (.cons (fun h => h) (.cons (fun h => by rw [h]; rfl) .nil))))))))))))))) (.free (c_gasolierref05_Same fuel y1.1 y3.1 hy10) (.on (fun hW => c_gasolierref05_Same fuel y5.1 y7.1 (of_true hy12 hW)) (.on (fun hW => c_fog_CheckRunners p1 (of_true hy14 hW)) (.on (fun hW => c_gasolierref05_CheckRunners fuel p1 (of_true hy16 hW)) .nil)))) (At.keep (ts := [0, 1, 5, 73]) (ids := [5]) rfl rfl ?_)
 refine At.thenC ?_
 refine W.cond rfl (fun hb17 => ?_) (fun hb17 => ?_)
 · have H := of_true H hb17
   refine W.rg env [6] [] ?_
   refine W.ret ?_
   refine At.rthen ?_
   cases H
   exact At.ret env.ty rfl rfl (fun q hq => by cases hq) (.refl _) hval
 · have H := of_false H hb17
   refine W.skip ?_
   refine At.thenC ?_
   refine W.seq ?_
   obtain ⟨y18, hy19, H⟩ := of_bindO H
   obtain ⟨y20, hy21, H⟩ := of_bindO H
   obtain ⟨y22, hy23, H⟩ := of_bindO H
   obtain ⟨y24, hy25, H⟩ := of_bindO H
   obtain ⟨y26, hy27, H⟩ := of_bindO H
   refine W.region env [] [⟨.int .i64 (y18), [], 0, []⟩, ⟨.int .i64 (y20), [], 0, []⟩, ⟨.int .i64 (y22), [], 0, []⟩, ⟨.int .i64 (y24), [], 0, []⟩, ⟨.bool (y26), [], 0, []⟩] rfl rfl (by kernel_rfl) (.cons (fun h => h) (.cons (fun h => h) (.cons (fun h => h) (.cons (fun h => h) (.cons (fun h => h) (.cons (fun h => h) (.cons (fun h => h) (.cons (fun h => h) (.cons (fun h => h) (.cons (fun h => h) (.cons (fun h => h) (.cons (fun h => h) (.cons (fun h => h) (.cons (fun h => h) (.cons (fun h => h) (.cons (fun h => h) .nil)))))))))))))))) (.free (c_fog_CheckAssign p0 p1 p2.Leaf p2.Ids hy19) (.free (c_gasolierref05_CheckAssign fuel p0 p1 p2.Leaf p2.Ids hy21) (.on (fun hW => c_fog_CheckShort p0 p1 p2.Leaf p2.Districts (of_true hy23 hW)) (.on (fun hW => c_gasolierref05_CheckShort fuel p0 p1 p2.Leaf p2.Districts (of_true hy25 hW)) (.on (fun hW => c_gasolierlaw05_sane 20000 (of_true hy27 hW)) .nil))))) (At.keep (ts := [6]) (ids := []) rfl rfl ?_)
   refine At.thenC ?_
   refine W.ret ?_
   cases H
   exact At.ret env.ty rfl rfl (fun q hq => by cases hq) (.refl _) hval
end Go.Sp
