/- Printed by gen.py: contracts, part 2. -/
import Derived.Test.YtnaodipmfaglfaaCtr1
set_option linter.all false
set_option maxRecDepth 100000
set_option maxHeartbeats 1000000
namespace Go.Sp
open Go Go.Av Go.Proofs
theorem c_slices_ContainsFunc_int (p0 : (List Int)) (p1 : Int → Option Bool) (p1_g : Nat) (p1_a p1_b : List AV) (p1_h : ∀ x0 r, p1 x0 = some r → Ctr Try.prog p1_g (p1_a ++ ([.int .i64 (x0)] ++ p1_b)) (.bool (r))) {r : Bool} (H : slices_ContainsFunc_int p0 p1 = some r) : Ctr Try.prog 77 [roL 1 enc_Int p0, .clo (.func p1_g) p1_a p1_b] (.bool (r)) := by
 unfold slices_ContainsFunc_int at H
 refine Ctr.of_body (N := 9) Try.func77 (by kernel_rfl) (c := _) rfl Try.ntmps77 rfl (fun w0 h0 hval => ?_)
 refine W.rg env [0, 1] [] ?_
 refine W.seq ?_
 obtain ⟨y1, hy2, H⟩ := of_bindO H
 refine W.region env [] [⟨.int .i64 (y1), [], 0, []⟩] rfl rfl rfl .nil (.free (c_slices_IndexFunc_int p0 p1 p1_g p1_a p1_b p1_h hy2) .nil) (At.keep (ts := [4]) (ids := []) rfl rfl ?_)
 refine At.thenC ?_
 refine W.ret ?_
 cases H
 exact At.ret env.ty rfl rfl (fun q hq => by cases hq) (.refl _) hval
theorem c_crew_areWalks_1 (p0 : Int) : Ctr Try.prog 92 [.int .i64 (p0)] (.bool ((crew_areWalks_1 p0))) := by
 obtain ⟨r, H⟩ : ∃ r, crew_areWalks_1 p0 = r := ⟨_, rfl⟩
 rw [H]
 unfold crew_areWalks_1 at H
 refine Ctr.of_body (N := 6) Try.func92 (by kernel_rfl) (c := _) rfl Try.ntmps92 rfl (fun w0 h0 hval => ?_)
 refine W.rg env [0] [] ?_
 refine W.sr env [] [⟨.bool ((crew_in p0 0 600)), [], 0, []⟩] [2] [] rfl rfl rfl .nil (.free (c_crew_in p0 0 600) .nil) ?_
 refine W.ret ?_
 cases H
 exact At.ret env.ty rfl rfl (fun q hq => by cases hq) (.refl _) hval
theorem c_crew_areWalks (p0 : (List (List Int))) (p1 : (List (List Int))) {r : Bool} (H : crew_areWalks p0 p1 = some r) : Ctr Try.prog 47 [roL 1 enc_ListInt p0, roL 1 enc_ListInt p1] (.bool (r)) := by
 unfold crew_areWalks at H
 refine Ctr.of_body (N := 33) Try.func47 (by kernel_rfl) (c := _) rfl Try.ntmps47 rfl (fun w0 h0 hval => ?_)
 refine W.rg env [0, 1] [] ?_
 refine W.seq ?_
 refine W.rg env [0, 1, 11] [] ?_
 refine W.cond rfl (fun hb1 => ?_) (fun hb1 => ?_)
 · have H := of_true H hb1
   refine W.rg env [4] [] ?_
   refine W.ret ?_
   refine At.rthen ?_
   cases H
   exact At.ret env.ty rfl rfl (fun q hq => by cases hq) (.refl _) hval
 · have H := of_false H hb1
   refine W.skip ?_
   refine At.thenC ?_
   refine W.seq ?_
   refine W.rg env [0, 12, 13, 14] [] ?_
   refine W.block ?_
   refine At.keep (ts := [0, 12, 13, 14]) (ids := []) rfl rfl ?_
   refine W.len (t := 12) rfl (fun (hn2 : p1.length ≤ maxLen) => ?_)
   refine W.rangeGo H (fun i2 (s2 : Unit) => [(0, roL 1 enc_ListInt p0), (12, roL 1 enc_ListInt p1), (13, .int .i64 (((p1.length : Nat) : Int))), (14, .int .i64 ((i2 : Int)))]) (fun i2 (s2 : Unit) => []) (.cons .q (.cons .q (.cons .qi (.cons .qi .nil)))) .nil (fun k2 i2 s2 hle2 H1 H2 K0 hK2 => ?_)
   refine W.rg env [0, 12, 13, 14, 15] [] ?_
   refine W.seq ?_
   refine W.cond rfl (fun hb3 => ?_) (fun hb3 => ?_)
   · have hi2 : i2 < p1.length := by have := of_decide_eq_true hb3; omega
     have H := H1 hi2
     refine W.skip ?_
     refine At.thenC ?_
     refine W.seq ?_
     refine W.block ?_
     refine W.sr env [] [] [0, 5, 6, 12, 13, 14] [] rfl rfl rfl (.cons (⟨by omega, by omega⟩ : 0 ≤ (i2 : Int) ∧ (i2 : Int) < ((p1.length : Nat) : Int)) .nil) .nil ?_
     refine W.seq ?_
     obtain ⟨hc4, H⟩ := of_must H
     obtain ⟨hc5, H⟩ := of_must H
     obtain ⟨y6, hy7, H⟩ := of_bindO H
     refine W.region env [] [⟨.bool (y6), [], 0, []⟩] rfl rfl rfl (.cons hc4 (.cons hc5 (.cons (fun h => h) (.cons (fun h => by rw [h]; rfl) .nil)))) (.on (fun hW => c_slices_ContainsFunc_int (p1.getD i2 default) (fun x0 => some (crew_areWalks_1 x0)) 92 [] [] (fun x0 r h => by cases h; exact c_crew_areWalks_1 x0) (of_true hy7 hW)) .nil) (At.keep (ts := [0, 12, 13, 14, 31]) (ids := []) rfl rfl ?_)
     refine At.thenC ?_
     refine W.cond rfl (fun hb8 => ?_) (fun hb8 => ?_)
     · have H := of_true H hb8
       refine W.rg env [4] [] ?_
       refine W.ret ?_
       refine At.rinb ?_
       refine At.rthen ?_
       refine At.rthen ?_
       refine At.rinb ?_
       refine At.rthen ?_
       cases H
       exact At.ret env.ty rfl rfl (fun q hq => by cases hq) (.refl _) hval
     · have H := of_false H hb8
       refine W.skip ?_
       refine At.inb ?_
       refine At.thenC ?_
       refine W.region env [] [] rfl rfl rfl (.cons (by unfold inI; have := hn2; (try unfold maxLen at this); omega) .nil) .nil (At.keep (ts := [0, 12, 13, 14]) (ids := []) rfl rfl ?_)
       refine At.thenK (At.keep (ts := [0, 12, 13, 14]) (ids := []) rfl rfl ?_)
       exact At.conv (.cons .q (.cons .q (.cons .qi (.cons .qi .nil)))) .nil (hK2 hi2 () H)
   · have H := H2 (by have := of_decide_eq_false hb3; omega)
     refine W.exit ?_
     refine At.xthen ?_
     refine At.xthen ?_
     refine At.xhere ?_
     refine At.thenC ?_
     refine W.rg env [4] [] ?_
     refine W.ret ?_
     cases H
     exact At.ret env.ty rfl rfl (fun q hq => by cases hq) (.refl _) hval
theorem cl_slices_Sort_int (p0 : List Int) {r : List Int} (H : slices_Sort_int_l p0 = some r) : CtrO Try.prog 48 [.buf 90000 p0.length] [(90000, bufL 3 1 enc_Int p0)] (.tup []) [(90000, bufL 3 1 enc_Int r)] :=
 sort_ctr (Go.Av.enters_of Try.func48 (by kernel_rfl) (c := _) rfl) (Any.slices_Sort_int sort_lays) (Any.slices_Sort_int_none sort_lays) 3 p0 H
theorem c_crew_Late (p0 : Crew) (p1 : (List (List Int))) (p2 : (List (List Int))) {r : ((List Int) × Int)} (H : crew_Late p0 p1 p2 = some r) : Ctr Try.prog 11 [.agg [roL 4 enc_Task p0.Tasks, roL 1 enc_ListRange p0.Travel, roL 3 enc_Hand p0.Hands], roL 1 enc_ListInt p1, roL 1 enc_ListInt p2] (.tup [roL 1 enc_Int r.1, .int .i64 (r.2)]) := by
 unfold crew_Late at H
 refine Ctr.of_body (N := 96) Try.func11 (by kernel_rfl) (c := _) rfl Try.ntmps11 rfl (fun w0 h0 hval => ?_)
 refine W.rg env [1, 2, 3] [3] ?_
 refine W.seq ?_
 refine W.seq ?_
 obtain ⟨y1, hy2, H⟩ := of_bindO H
 refine W.region env [] [⟨.tup [.po y1.1.isSome [roL 4 enc_Task ((y1.1.getD default).Crew.Tasks), roL 1 enc_ListRange ((y1.1.getD default).Crew.Travel), roL 3 enc_Hand ((y1.1.getD default).Crew.Hands), roL 1 enc_Int ((y1.1.getD default).next)], .int .i64 (y1.2)], [], 0, []⟩] rfl rfl rfl .nil (.free (c_crew_asked p0 p1 hy2) .nil) (At.keep (ts := [1, 2, 3, 9]) (ids := [3]) rfl rfl ?_)
 refine At.thenC ?_
 refine W.rg env [1, 2, 3, 9, 23] [3] ?_
 refine W.cond rfl (fun hb3 => ?_) (fun hb3 => ?_)
 · have H := of_true H hb3
   refine W.rg env [6, 7] [] ?_
   refine W.ret ?_
   refine At.rthen ?_
   cases H
   exact At.ret env.ty rfl rfl (fun q hq => by cases hq) (Sim.tupL (.cons (Sim.nil _ _) (.cons (.refl _) .nil))) hval
 · have H := of_false H hb3
   refine W.skip ?_
   refine At.thenC ?_
   refine W.seq ?_
   refine W.seq ?_
   obtain ⟨y4, hy5, H⟩ := of_bindO H
   refine W.region env [] [⟨.bool (y4), [], 0, []⟩] rfl rfl rfl .nil (.free (c_crew_areWalks p1 p2 hy5) .nil) (At.keep (ts := [1, 2, 3, 28]) (ids := [3]) rfl rfl ?_)
   refine At.thenC ?_
   refine W.cond rfl (fun hb6 => ?_) (fun hb6 => ?_)
   · have H := of_true H hb6
     refine W.rg env [6, 7] [] ?_
     refine W.ret ?_
     refine At.rthen ?_
     cases H
     exact At.ret env.ty rfl rfl (fun q hq => by cases hq) (Sim.tupL (.cons (Sim.nil _ _) (.cons (.refl _) .nil))) hval
   · have H := of_false H hb6
     refine W.skip ?_
     refine At.thenC ?_
     refine W.rg env [1, 2, 3, 10] [3] ?_
     refine W.seq ?_
     refine W.rg env [2, 3, 10, 29, 30, 31] [3] ?_
     refine W.block ?_
     refine At.nilOwn 10 510 3 1 (e := fun i => enc_Int (([] : List Int).getD i default)) rfl rfl ?_
     refine At.keep (ts := [2, 3, 10, 29, 30, 31]) (ids := [3, 510]) rfl rfl ?_
     refine W.len (t := 29) rfl (fun (hn7 : p1.length ≤ maxLen) => ?_)
     refine W.rangeGo H (fun i7 (s7 : (List Int)) => [(2, roL 1 enc_ListInt p2), (3, .lp 3 0), (10, .buf 510 (s7).length), (29, roL 1 enc_ListInt p1), (30, .int .i64 (((p1.length : Nat) : Int))), (31, .int .i64 ((i7 : Int)))]) (fun i7 (s7 : (List Int)) => [(3, .cells [roL 4 enc_Task p0.Tasks, roL 1 enc_ListRange p0.Travel, roL 3 enc_Hand p0.Hands]), (510, bufL 3 1 enc_Int s7)]) (.cons .q (.cons .q (.cons .qb (.cons .q (.cons .qi (.cons .qi .nil)))))) (.cons .q (.cons .q .nil)) (fun k7 i7 s7 hle7 H1 H2 K0 hK7 => ?_)
     refine W.rg env [2, 3, 10, 29, 30, 31, 32] [3, 510] ?_
     refine W.seq ?_
     refine W.cond rfl (fun hb8 => ?_) (fun hb8 => ?_)
     · have hi7 : i7 < p1.length := by have := of_decide_eq_true hb8; omega
       have H := H1 hi7
       refine W.skip ?_
       refine At.thenC ?_
       refine W.seq ?_
       refine W.block ?_
       refine W.sr env [] [] [2, 3, 10, 11, 12, 29, 30, 31] [3, 510] rfl rfl rfl (.cons (⟨by omega, by omega⟩ : 0 ≤ (i7 : Int) ∧ (i7 : Int) < ((p1.length : Nat) : Int)) .nil) .nil ?_
       obtain ⟨hc9, H⟩ := of_must H
       obtain ⟨hc10, H⟩ := of_must H
       refine W.sr env [] [] [2, 3, 10, 11, 12, 13, 29, 30, 31] [3, 510] rfl rfl (by first | rfl | kernel_rfl) (.cons hc9 (.cons hc10 .nil)) .nil ?_
       refine W.seq ?_
       obtain ⟨hc11, H⟩ := of_must H
       refine W.region env [] [] rfl rfl rfl (.cons hc11 .nil) .nil (At.keep (ts := [2, 3, 10, 11, 12, 13, 29, 30, 31, 45, 46, 47]) (ids := [3, 510]) rfl rfl ?_)
       refine At.slot (t := 45) (v := roL 1 enc_Int ((p1.getD i7 default).drop 1)) (Sim.seg (Seg.drop enc_Int (p1.getD i7 default) 1)) ?_
       refine At.thenC ?_
       refine W.block ?_
       refine At.keep (ts := [2, 3, 10, 11, 12, 13, 29, 30, 31, 45, 46, 47]) (ids := [3, 510]) rfl rfl ?_
       refine W.len (t := 45) rfl (fun (hn12 : ((p1.getD i7 default).drop 1).length ≤ maxLen) => ?_)
       refine W.rangeGo H (fun i12 (s12 : Int × (List Int)) => [(2, roL 1 enc_ListInt p2), (3, .lp 3 0), (10, .buf 510 (s12.2).length), (11, .int .i64 ((i7 : Int))), (12, roL 1 enc_Int (p1.getD i7 default)), (13, .int .i64 (s12.1)), (29, roL 1 enc_ListInt p1), (30, .int .i64 (((p1.length : Nat) : Int))), (31, .int .i64 ((i7 : Int))), (45, roL 1 enc_Int ((p1.getD i7 default).drop 1)), (46, .int .i64 (((((p1.getD i7 default).drop 1).length : Nat) : Int))), (47, .int .i64 ((i12 : Int)))]) (fun i12 (s12 : Int × (List Int)) => [(3, .cells [roL 4 enc_Task p0.Tasks, roL 1 enc_ListRange p0.Travel, roL 3 enc_Hand p0.Hands]), (510, bufL 3 1 enc_Int s12.2)]) (.cons .q (.cons .q (.cons .qb (.cons .qi (.cons .q (.cons .qi (.cons .q (.cons .qi (.cons .qi (.cons .q (.cons .qi (.cons .qi .nil)))))))))))) (.cons .q (.cons .q .nil)) (fun k12 i12 s12 hle12 H1 H2 K0 hK12 => ?_)
       refine W.rg env [2, 3, 10, 11, 12, 13, 29, 30, 31, 45, 46, 47, 48] [3, 510] ?_
       refine W.seq ?_
       refine W.cond rfl (fun hb13 => ?_) (fun hb13 => ?_)
       · have hi12 : i12 < ((p1.getD i7 default).drop 1).length := by have := of_decide_eq_true hb13; omega
         have H := H1 hi12
         refine W.skip ?_
         refine At.thenC ?_
         refine W.seq ?_
         refine W.block ?_
         refine W.sr env [] [] [2, 3, 10, 11, 12, 13, 14, 15, 29, 30, 31, 45, 46, 47] [3, 510] rfl rfl rfl (.cons (⟨by omega, by omega⟩ : 0 ≤ (i12 : Int) ∧ (i12 : Int) < ((((p1.getD i7 default).drop 1).length : Nat) : Int)) .nil) .nil ?_
         obtain ⟨hc14, H⟩ := of_must H
         obtain ⟨hc15, H⟩ := of_must H
         obtain ⟨hc16, H⟩ := of_must H
         obtain ⟨hc17, H⟩ := of_must H
         obtain ⟨hc18, H⟩ := of_must H
         obtain ⟨hc19, H⟩ := of_must H
         refine W.sr env [] [] [2, 3, 10, 11, 12, 13, 15, 29, 30, 31, 45, 46, 47] [3, 510] rfl rfl (by first | rfl | kernel_rfl) (.cons hc14 (.cons hc15 (.cons hc16 (.cons hc17 (.cons hc18 (.cons hc19 .nil)))))) .nil ?_
         refine W.seq ?_
         obtain ⟨hc20, H⟩ := of_must H
         refine W.sr env [] [] [2, 3, 10, 11, 12, 13, 15, 29, 30, 31, 45, 46, 47, 78] [3, 510] rfl rfl rfl (.cons hc20 .nil) .nil ?_
         refine W.joinC H (fun (s21 : (List Int)) => [(2, roL 1 enc_ListInt p2), (3, .lp 3 0), (10, .buf 510 (s21).length), (11, .int .i64 ((i7 : Int))), (12, roL 1 enc_Int (p1.getD i7 default)), (13, .int .i64 ((s12.1 + ((p0.Tasks.getD (((p1.getD i7 default).getD i12 default)).toNat default).Serve + ((p2.getD i7 default).getD i12 default))))), (15, .int .i64 ((((p1.getD i7 default).drop 1).getD i12 default))), (29, roL 1 enc_ListInt p1), (30, .int .i64 (((p1.length : Nat) : Int))), (31, .int .i64 ((i7 : Int))), (45, roL 1 enc_Int ((p1.getD i7 default).drop 1)), (46, .int .i64 (((((p1.getD i7 default).drop 1).length : Nat) : Int))), (47, .int .i64 ((i12 : Int)))]) (fun (s21 : (List Int)) => [(3, .cells [roL 4 enc_Task p0.Tasks, roL 1 enc_ListRange p0.Travel, roL 3 enc_Hand p0.Hands]), (510, bufL 3 1 enc_Int s21)]) (fun s21 H => ?_) (fun k21 H hK21 => ?_)
         · obtain ⟨hc22, H⟩ := of_must H
           refine W.region env [] [] rfl rfl rfl (.cons hc22 .nil) .nil (At.keep (ts := [2, 3, 10, 11, 12, 13, 29, 30, 31, 45, 46, 47]) (ids := [3, 510]) rfl rfl ?_)
           refine At.inb ?_
           refine At.thenC ?_
           refine W.region env [] [] rfl rfl rfl (.cons (by unfold inI; have := hn12; (try unfold maxLen at this); omega) .nil) .nil (At.keep (ts := [2, 3, 10, 11, 12, 13, 29, 30, 31, 45, 46, 47]) (ids := [3, 510]) rfl rfl ?_)
           refine At.thenK (At.keep (ts := [2, 3, 10, 11, 12, 13, 29, 30, 31, 45, 46, 47]) (ids := [3, 510]) rfl rfl ?_)
           exact At.conv (.cons .q (.cons .q (.cons .qb (.cons .qi (.cons .q (.cons .qi (.cons .q (.cons .qi (.cons .qi (.cons .q (.cons .qi (.cons .qi .nil)))))))))))) (.cons .q (.cons .q .nil)) (hK12 hi12 ((max (s12.1 + ((p0.Tasks.getD (((p1.getD i7 default).getD i12 default)).toNat default).Serve + ((p2.getD i7 default).getD i12 default))) ((p0.Tasks.getD ((((p1.getD i7 default).drop 1).getD i12 default)).toNat default).At)), s21) H)
         · refine W.cond rfl (fun hb23 => ?_) (fun hb23 => ?_)
           · have H := of_true H hb23
             obtain ⟨hc24, H⟩ := of_must H
             refine W.region env [] [] rfl rfl rfl (.cons (⟨by first | rfl | (simp; done) | omega | (simp; omega), by have := hc24; first | simpa using this | (unfold room at this ⊢; simp at this ⊢; omega)⟩) .nil) .nil (At.keep (ts := [2, 3, 10, 11, 12, 13, 15, 29, 30, 31, 45, 46, 47]) (ids := [3, 510]) rfl rfl ?_)
             refine At.convM (.cons (.refl _) (.cons (y := bufL 3 1 enc_Int (s12.2 ++ ([(((p1.getD i7 default).drop 1).getD i12 default)] : List Int))) (BSim.seg (Seg.push (Seg.refl enc_Int _) (Seg.lit (f := enc_Int) (sz := 1) ([(((p1.getD i7 default).drop 1).getD i12 default)] : List Int) rfl rfl (fun _ => rfl)))) .nil)) ?_
             refine At.thenK (At.keep (ts := [2, 3, 10, 11, 12, 13, 15, 29, 30, 31, 45, 46, 47]) (ids := [3, 510]) rfl rfl ?_)
             exact At.conv (.cons .q (.cons .q (.cons .qb (.cons .qi (.cons .q (.cons .qi (.cons .qi (.cons .q (.cons .qi (.cons .qi (.cons .q (.cons .qi (.cons .qi .nil))))))))))))) (.cons .q (.cons .q .nil)) (hK21 (s12.2 ++ ([(((p1.getD i7 default).drop 1).getD i12 default)] : List Int)) H)
           · have H := of_false H hb23
             refine W.skip ?_
             refine At.thenK (At.keep (ts := [2, 3, 10, 11, 12, 13, 15, 29, 30, 31, 45, 46, 47]) (ids := [3, 510]) rfl rfl ?_)
             exact At.conv (.cons .q (.cons .q (.cons .qb (.cons .qi (.cons .q (.cons .qi (.cons .qi (.cons .q (.cons .qi (.cons .qi (.cons .q (.cons .qi (.cons .qi .nil))))))))))))) (.cons .q (.cons .q .nil)) (hK21 s12.2 H)
       · have H := H2 (by have := of_decide_eq_false hb13; omega)
         refine W.exit ?_
         refine At.xthen ?_
         refine At.xthen ?_
         refine At.xhere ?_
         refine At.inb ?_
         refine At.thenC ?_
         refine W.region env [] [] rfl rfl rfl (.cons (by unfold inI; have := hn7; (try unfold maxLen at this); omega) .nil) .nil (At.keep (ts := [2, 3, 10, 29, 30, 31]) (ids := [3, 510]) rfl rfl ?_)
         refine At.thenK (At.keep (ts := [2, 3, 10, 29, 30, 31]) (ids := [3, 510]) rfl rfl ?_)
         exact At.conv (.cons .q (.cons .q (.cons .qb (.cons .q (.cons .qi (.cons .qi .nil)))))) (.cons .q (.cons .q .nil)) (hK7 hi7 s12.2 H)
     · have H := H2 (by have := of_decide_eq_false hb8; omega)
       refine W.exit ?_
       refine At.xthen ?_
       refine At.xthen ?_
       refine At.xhere ?_
       refine At.thenC ?_
       refine W.seq ?_
       obtain ⟨y25, hy26, H⟩ := of_bindO H
       obtain ⟨hc27, H⟩ := of_must H
       refine W.region env [] [⟨.tup [], [(510, bufL 3 1 enc_Int y25)], 0, [510]⟩] rfl rfl (by kernel_rfl) .nil (.free (CtrO.sim (CtrO.ren (cl_slices_Sort_int s7 hy26) [(90000, 510)]) (.cons .qc .nil) (.cons (.refl _) .nil)) .nil) (At.keep (ts := [10]) (ids := [510]) rfl rfl ?_)
       refine At.thenC ?_
       refine W.rg env [6, 7] [510] ?_
       refine W.ret ?_
       cases H
       exact At.ret env.ty rfl rfl (fun q hq => by cases hq; exact (by first | rfl | (simp; done) | omega | (simp; omega))) (.refl _) hval
theorem c_crew_shift__free (p0 : crew_shift) {r : (List Int)} (H : crew_shift__free p0 = some r) : Ctr Try.prog 70 [.agg [.po p0.plan.isSome [roL 4 enc_Task ((p0.plan.getD default).Crew.Tasks), roL 1 enc_ListRange ((p0.plan.getD default).Crew.Travel), roL 3 enc_Hand ((p0.plan.getD default).Crew.Hands), roL 1 enc_Int ((p0.plan.getD default).next)], roL 1 enc_ListInt p0.rounds]] (roL 1 enc_Int r) := by
 unfold crew_shift__free at H
 refine Ctr.of_body (N := 19) Try.func70 (by kernel_rfl) (c := _) rfl Try.ntmps70 rfl (fun w0 h0 hval => ?_)
 refine W.rg env [1] [1] ?_
 refine W.seq ?_
 obtain ⟨hc1, H⟩ := of_must H
 refine W.region env [] [] rfl rfl rfl (.cons hc1 .nil) .nil (At.keep (ts := [3]) (ids := [8]) rfl rfl ?_)
 refine At.convM (.cons (y := bufL 3 1 enc_Int (List.replicate (((p0.rounds.length : Nat) : Int)).toNat (0 : Int))) (BSim.seg (Seg.made (f := enc_Int) 0 rfl)) .nil) ?_
 refine At.thenC ?_
 refine W.seq ?_
 refine W.sr env [] [] [3, 10, 11] [8] rfl rfl rfl (.cons (by first | rfl | (simp; done) | omega | (simp; omega)) .nil) .nil ?_
 refine W.block ?_
 refine At.keep (ts := [3, 10, 11]) (ids := [8]) rfl rfl ?_
 obtain ⟨hn2, H⟩ := of_must H
 refine W.rangeGo H (fun i2 (s2 : (List Int)) => [(3, .buf 8 (s2).length), (10, .int .i64 ((((List.replicate (((p0.rounds.length : Nat) : Int)).toNat (0 : Int)).length : Nat) : Int))), (11, .int .i64 ((i2 : Int)))]) (fun i2 (s2 : (List Int)) => [(8, bufL 3 1 enc_Int s2)]) (.cons .qb (.cons .qi (.cons .qi .nil))) (.cons .q .nil) (fun k2 i2 s2 hle2 H1 H2 K0 hK2 => ?_)
 refine W.rg env [3, 10, 11, 12] [8] ?_
 refine W.seq ?_
 refine W.cond rfl (fun hb3 => ?_) (fun hb3 => ?_)
 · have hi2 : i2 < (List.replicate (((p0.rounds.length : Nat) : Int)).toNat (0 : Int)).length := by have := of_decide_eq_true hb3; omega
   have H := H1 hi2
   refine W.skip ?_
   refine At.thenC ?_
   refine W.seq ?_
   refine W.block ?_
   refine W.rg env [3, 4, 10, 11] [8] ?_
   obtain ⟨hc4, H⟩ := of_must H
   refine W.region env [] [] rfl rfl rfl (.cons (⟨by first | rfl | (simp; done) | omega | (simp; omega), hc4⟩) (.cons (⟨by first | rfl | (simp; done) | omega | (simp; omega), (by have := hc4; first | omega | (simp only [List.length_set]; omega) | (simp only [Int.toNat_natCast] at *; omega) | (simp at this ⊢; omega))⟩) .nil)) .nil (At.keep (ts := [3, 10, 11]) (ids := [8]) rfl rfl ?_)
   refine At.convM (.cons (y := bufL 3 1 enc_Int (s2.set i2 (-1))) (BSim.seg (Seg.set (Seg.refl enc_Int _) (-1) rfl)) .nil) ?_
   refine At.inb ?_
   refine At.thenC ?_
   refine W.region env [] [] rfl rfl rfl (.cons (by unfold inI; have := hn2; (try unfold maxLen at this); omega) .nil) .nil (At.keep (ts := [3, 10, 11]) (ids := [8]) rfl rfl ?_)
   refine At.thenK (At.keep (ts := [3, 10, 11]) (ids := [8]) rfl rfl ?_)
   exact At.conv (.cons .qb (.cons .qi (.cons .qi .nil))) (.cons .q .nil) (hK2 hi2 (s2.set i2 (-1)) H)
 · have H := H2 (by have := of_decide_eq_false hb3; omega)
   refine W.exit ?_
   refine At.xthen ?_
   refine At.xthen ?_
   refine At.xhere ?_
   refine At.thenC ?_
   refine W.rg env [2] [8] ?_
   refine W.ret ?_
   cases H
   exact At.ret env.ty rfl rfl (fun q hq => by cases hq; exact (by first | rfl | (simp; done) | omega | (simp; omega))) (.refl _) hval
theorem c_crew_shift__indices (p0 : crew_shift) {r : (List Int)} (H : crew_shift__indices p0 = some r) : Ctr Try.prog 72 [.agg [.po p0.plan.isSome [roL 4 enc_Task ((p0.plan.getD default).Crew.Tasks), roL 1 enc_ListRange ((p0.plan.getD default).Crew.Travel), roL 3 enc_Hand ((p0.plan.getD default).Crew.Hands), roL 1 enc_Int ((p0.plan.getD default).next)], roL 1 enc_ListInt p0.rounds]] (roL 1 enc_Int r) := by
 unfold crew_shift__indices at H
 refine Ctr.of_body (N := 17) Try.func72 (by kernel_rfl) (c := _) rfl Try.ntmps72 rfl (fun w0 h0 hval => ?_)
 refine W.rg env [1] [1] ?_
 refine W.rg env [1, 3] [1] ?_
 refine W.seq ?_
 refine W.rg env [3, 7, 8] [] ?_
 refine W.block ?_
 refine At.nilOwn 3 503 3 1 (e := fun i => enc_Int (([] : List Int).getD i default)) rfl rfl ?_
 refine At.keep (ts := [3, 7, 8]) (ids := [503]) rfl rfl ?_
 obtain ⟨hn1, H⟩ := of_must H
 refine W.rangeGo H (fun i1 (s1 : (List Int)) => [(3, .buf 503 (s1).length), (7, .int .i64 (((p0.rounds.length : Nat) : Int))), (8, .int .i64 ((i1 : Int)))]) (fun i1 (s1 : (List Int)) => [(503, bufL 3 1 enc_Int s1)]) (.cons .qb (.cons .qi (.cons .qi .nil))) (.cons .q .nil) (fun k1 i1 s1 hle1 H1 H2 K0 hK1 => ?_)
 refine W.rg env [3, 7, 8, 9] [503] ?_
 refine W.seq ?_
 refine W.cond rfl (fun hb2 => ?_) (fun hb2 => ?_)
 · have hi1 : i1 < p0.rounds.length := by have := of_decide_eq_true hb2; omega
   have H := H1 hi1
   refine W.skip ?_
   refine At.thenC ?_
   refine W.seq ?_
   refine W.block ?_
   refine W.rg env [3, 4, 7, 8] [503] ?_
   obtain ⟨hc3, H⟩ := of_must H
   refine W.region env [] [] rfl rfl rfl (.cons (⟨by first | rfl | (simp; done) | omega | (simp; omega), by have := hc3; first | simpa using this | (unfold room at this ⊢; simp at this ⊢; omega)⟩) .nil) .nil (At.keep (ts := [3, 7, 8]) (ids := [503]) rfl rfl ?_)
   refine At.convM (.cons (y := bufL 3 1 enc_Int (s1 ++ ([(i1 : Int)] : List Int))) (BSim.seg (Seg.push (Seg.refl enc_Int _) (Seg.lit (f := enc_Int) (sz := 1) ([(i1 : Int)] : List Int) rfl rfl (fun _ => rfl)))) .nil) ?_
   refine At.inb ?_
   refine At.thenC ?_
   refine W.region env [] [] rfl rfl rfl (.cons (by unfold inI; have := hn1; (try unfold maxLen at this); omega) .nil) .nil (At.keep (ts := [3, 7, 8]) (ids := [503]) rfl rfl ?_)
   refine At.thenK (At.keep (ts := [3, 7, 8]) (ids := [503]) rfl rfl ?_)
   exact At.conv (.cons .qb (.cons .qi (.cons .qi .nil))) (.cons .q .nil) (hK1 hi1 (s1 ++ ([(i1 : Int)] : List Int)) H)
 · have H := H2 (by have := of_decide_eq_false hb2; omega)
   refine W.exit ?_
   refine At.xthen ?_
   refine At.xthen ?_
   refine At.xhere ?_
   refine At.thenC ?_
   refine W.rg env [2] [503] ?_
   refine W.ret ?_
   cases H
   exact At.ret env.ty rfl rfl (fun q hq => by cases hq; exact (by first | rfl | (simp; done) | omega | (simp; omega))) (.refl _) hval
theorem c_crew_plan__able (p0 : crew_plan) (p1 : Hand) (p2 : (List Int)) {r : Bool} (H : crew_plan__able p0 p1 p2 = some r) : Ctr Try.prog 73 [.rp [roL 4 enc_Task p0.Crew.Tasks, roL 1 enc_ListRange p0.Crew.Travel, roL 3 enc_Hand p0.Crew.Hands, roL 1 enc_Int p0.next], .agg [.int .i64 (p1.Id), .int .i64 (p1.From), .int .i64 (p1.To)], roL 1 enc_Int p2] (.bool (r)) := by
 unfold crew_plan__able at H
 refine Ctr.of_body (N := 47) Try.func73 (by kernel_rfl) (c := _) rfl Try.ntmps73 rfl (fun w0 h0 hval => ?_)
 refine W.rg env [0, 2, 4] [4] ?_
 obtain ⟨hc1, H⟩ := of_must H
 obtain ⟨hc2, H⟩ := of_must H
 obtain ⟨hc3, H⟩ := of_must H
 obtain ⟨hc4, H⟩ := of_must H
 obtain ⟨hc5, H⟩ := of_must H
 refine W.sr env [] [] [4, 7, 8] [4, 7, 8] rfl rfl (by first | rfl | kernel_rfl) (.cons hc1 (.cons hc2 (.cons hc3 (.cons hc4 (.cons hc5 .nil))))) .nil ?_
 obtain ⟨hc6, H⟩ := of_must H
 refine W.sr env [] [] [6] [] rfl rfl rfl (.cons (fun h => h) (.cons (fun h => h) (.cons (fun h => h) (.cons hc6 (.cons (fun h => h) (.cons (fun h => h) (.cons (fun h => h) (.cons (fun h => h) (.cons (fun h => h) .nil))))))))) .nil ?_
 refine W.ret ?_
 cases H
 exact At.ret env.ty rfl rfl (fun q hq => by cases hq) (.refl _) hval
theorem cl_crew_shift__all_1_l (fuel : Nat) : ∀ (n : Nat) (p0 : Int) (c0 : crew_shift) (c1 : Int) (c2 : (List Int)) (c3 : (List Int)) {r : (Bool × Int × (List Int))} (H : crew_shift__all_1_l fuel n p0 c0 c1 c2 c3 = some r), CtrO Try.prog 99 [.int .i64 (p0), .lp 90000 0, .lp 90001 0, .lp 90002 0, .lp 90004 0, .lp 90005 0] [(90000, .cells [.po c0.plan.isSome [roL 4 enc_Task ((c0.plan.getD default).Crew.Tasks), roL 1 enc_ListRange ((c0.plan.getD default).Crew.Travel), roL 3 enc_Hand ((c0.plan.getD default).Crew.Hands), roL 1 enc_Int ((c0.plan.getD default).next)], roL 1 enc_ListInt c0.rounds]), (90001, .cells [.int .i64 (c1)]), (90002, .cells [.buf 90003 (c2).length]), (90003, bufL 3 1 enc_Int c2), (90004, .cells [roL 1 enc_Int c3]), (90005, .cells [.fn (.func 99) [] [.lp 90000 0, .lp 90001 0, .lp 90002 0, .lp 90004 0, .lp 90005 0]])] (.bool (r.1)) [(90000, .cells [.po c0.plan.isSome [roL 4 enc_Task ((c0.plan.getD default).Crew.Tasks), roL 1 enc_ListRange ((c0.plan.getD default).Crew.Travel), roL 3 enc_Hand ((c0.plan.getD default).Crew.Hands), roL 1 enc_Int ((c0.plan.getD default).next)], roL 1 enc_ListInt c0.rounds]), (90001, .cells [.int .i64 (r.2.1)]), (90002, .cells [.buf 90003 (r.2.2).length]), (90003, bufL 3 1 enc_Int r.2.2), (90004, .cells [roL 1 enc_Int c3]), (90005, .cells [.fn (.func 99) [] [.lp 90000 0, .lp 90001 0, .lp 90002 0, .lp 90004 0, .lp 90005 0]])] := by
 intro n; induction n with
 | zero => intro p0 c0 c1 c2 c3 r H; cases H
 | succ n ih =>
   intro p0 c0 c1 c2 c3 r H
   have H : crew_shift__all_1_l_F fuel (crew_shift__all_1_l fuel n) p0 c0 c1 c2 c3 = some r := H
   unfold crew_shift__all_1_l_F at H
   refine CtrL.of_body (N := 81) Try.func99 (by kernel_rfl) (c := _) rfl Try.ntmps99 rfl rfl (fun w0 h0 ρb hval hdom hent => ?_)
   refine W.rg env [0, 1, 2, 3, 4, 5] [90000, 90001, 90002, 90003, 90004, 90005] ?_
   refine W.seq ?_
   obtain ⟨hc1, H⟩ := of_must H
   refine W.sr env [] [] [0, 1, 2, 3, 4, 5, 15, 16, 17] [90000, 90001, 90002, 90003, 90004, 90005] rfl rfl rfl (.cons hc1 .nil) .nil ?_
   refine W.block ?_
   refine At.keep (ts := [0, 1, 2, 3, 4, 5, 15, 16, 17]) (ids := [90000, 90001, 90002, 90003, 90004, 90005]) rfl rfl ?_
   refine W.len (t := 15) rfl (fun (hn2 : ((c0.plan.getD default).Crew.Hands).length ≤ maxLen) => ?_)
   refine W.rangeGo H (fun i2 (s2 : (List Int) × Int) => [(0, .int .i64 (p0)), (1, .lp 90000 0), (2, .lp 90001 0), (3, .lp 90002 0), (4, .lp 90004 0), (5, .lp 90005 0), (15, roL 3 enc_Hand ((c0.plan.getD default).Crew.Hands)), (16, .int .i64 (((((c0.plan.getD default).Crew.Hands).length : Nat) : Int))), (17, .int .i64 ((i2 : Int)))]) (fun i2 (s2 : (List Int) × Int) => [(90000, .cells [.po c0.plan.isSome [roL 4 enc_Task ((c0.plan.getD default).Crew.Tasks), roL 1 enc_ListRange ((c0.plan.getD default).Crew.Travel), roL 3 enc_Hand ((c0.plan.getD default).Crew.Hands), roL 1 enc_Int ((c0.plan.getD default).next)], roL 1 enc_ListInt c0.rounds]), (90001, .cells [.int .i64 (s2.2)]), (90002, .cells [.buf 90003 (s2.1).length]), (90003, bufL 3 1 enc_Int s2.1), (90004, .cells [roL 1 enc_Int c3]), (90005, .cells [.fn (.func 99) [] [.lp 90000 0, .lp 90001 0, .lp 90002 0, .lp 90004 0, .lp 90005 0]])]) (.cons .qi (.cons .q (.cons .q (.cons .q (.cons .q (.cons .q (.cons .q (.cons .qi (.cons .qi .nil))))))))) (.cons .q (.cons .q (.cons (BSim.cells (.cons .qc .nil)) (.cons .q (.cons .q (.cons .q .nil)))))) (fun k2 i2 s2 hle2 H1 H2 K0 hK2 => ?_)
   refine W.rg env [0, 1, 2, 3, 4, 5, 15, 16, 17, 18] [90000, 90001, 90002, 90003, 90004, 90005] ?_
   refine W.seq ?_
   refine W.cond rfl (fun hb3 => ?_) (fun hb3 => ?_)
   · have hi2 : i2 < ((c0.plan.getD default).Crew.Hands).length := by have := of_decide_eq_true hb3; omega
     have H := H1 hi2
     refine W.skip ?_
     refine At.thenC ?_
     refine W.seq ?_
     refine W.joinC H (fun (s4 : Int × (List Int)) => [(0, .int .i64 (p0)), (1, .lp 90000 0), (2, .lp 90001 0), (3, .lp 90002 0), (4, .lp 90004 0), (5, .lp 90005 0), (15, roL 3 enc_Hand ((c0.plan.getD default).Crew.Hands)), (16, .int .i64 (((((c0.plan.getD default).Crew.Hands).length : Nat) : Int))), (17, .int .i64 ((i2 : Int)))]) (fun (s4 : Int × (List Int)) => [(90000, .cells [.po c0.plan.isSome [roL 4 enc_Task ((c0.plan.getD default).Crew.Tasks), roL 1 enc_ListRange ((c0.plan.getD default).Crew.Travel), roL 3 enc_Hand ((c0.plan.getD default).Crew.Hands), roL 1 enc_Int ((c0.plan.getD default).next)], roL 1 enc_ListInt c0.rounds]), (90001, .cells [.int .i64 (s4.1)]), (90002, .cells [.buf 90003 (s4.2).length]), (90003, bufL 3 1 enc_Int s4.2), (90004, .cells [roL 1 enc_Int c3]), (90005, .cells [.fn (.func 99) [] [.lp 90000 0, .lp 90001 0, .lp 90002 0, .lp 90004 0, .lp 90005 0]])]) (fun s4 H => ?_) (fun k4 H hK4 => ?_)
     · refine W.region env [] [] rfl rfl rfl (.cons (by unfold inI; have := hn2; (try unfold maxLen at this); omega) .nil) .nil (At.keep (ts := [0, 1, 2, 3, 4, 5, 15, 16, 17]) (ids := [90000, 90001, 90002, 90003, 90004, 90005]) rfl rfl ?_)
       refine At.thenK (At.keep (ts := [0, 1, 2, 3, 4, 5, 15, 16, 17]) (ids := [90000, 90001, 90002, 90003, 90004, 90005]) rfl rfl ?_)
       exact At.conv (.cons .qi (.cons .q (.cons .q (.cons .q (.cons .q (.cons .q (.cons .q (.cons .qi (.cons .qi .nil))))))))) (.cons .q (.cons .q (.cons (BSim.cells (.cons .qc .nil)) (.cons .q (.cons .q (.cons .q .nil)))))) (hK2 hi2 (s4.2, s4.1) H)
     · refine W.block ?_
       refine W.sr env [] [] [0, 1, 2, 3, 4, 5, 8, 9, 15, 16, 17] [9, 90000, 90001, 90002, 90003, 90004, 90005] rfl rfl rfl (.cons (⟨by omega, by omega⟩ : 0 ≤ (i2 : Int) ∧ (i2 : Int) < ((((c0.plan.getD default).Crew.Hands).length : Nat) : Int)) .nil) .nil ?_
       refine W.seq ?_
       refine W.seq ?_
       obtain ⟨hc5, H⟩ := of_must H
       obtain ⟨hc6, H⟩ := of_must H
       obtain ⟨hc7, H⟩ := of_must H
       obtain ⟨hc8, H⟩ := of_must H
       obtain ⟨y9, hy10, H⟩ := of_bindO H
       obtain ⟨hc11, H⟩ := of_must H
       obtain ⟨hc12, H⟩ := of_must H
       obtain ⟨hc13, H⟩ := of_must H
       obtain ⟨hc14, H⟩ := of_must H
       refine W.region env [] [⟨.bool (y9), [], 0, []⟩] rfl rfl (by kernel_rfl) (.cons hc5 (.cons hc6 (.cons (fun h => h) (.cons (fun h => h) (.cons hc7 (.cons (fun h => h) (.cons (fun h => h) (.cons (fun h => h) (.cons (fun h => h) (.cons (fun h => h) (.cons (fun h => h) (.cons (fun h => h) (.cons (fun h => by rw [h]; rfl) (.cons (fun hW => ⟨by first | rfl | (simp; done) | omega | (simp; omega), hc11 hW⟩) (.cons (fun h => h) (.cons (fun h => h) (.cons (fun hW => (⟨by first | rfl | (simp; done) | omega | (simp; omega), (by have := hc11 hW; first | omega | (simp only [List.length_set]; omega) | (simp only [Int.toNat_natCast] at *; omega) | (simp at this ⊢; omega))⟩)) (.cons (fun h => h) (.cons (fun h => h) (.cons (fun h => h) (.cons (fun hW => ⟨by first | rfl | (simp; done) | omega | (simp; omega), hc12 hW⟩) (.cons (fun h => h) (.cons (fun h => h) (.cons (fun hW => (⟨by first | rfl | (simp; done) | omega | (simp; omega), (by have := hc12 hW; first | omega | (simp only [List.length_set]; omega) | (simp only [Int.toNat_natCast] at *; omega) | (simp at this ⊢; omega))⟩)) (.cons (fun h => h) (.cons hc13 (.cons (fun h => h) (.cons hc14 (.cons (fun h => h) (.cons (fun h => h) (.cons (fun h => h) (.cons (fun h => h) (.cons (fun h => h) (.cons (fun hW h => by revert hW h; first | (simp +contextual; done) | grind) (.cons (fun h => by rw [h]; rfl) .nil))))))))))))))))))))))))))))))))))) (.on (fun hW => Ctr.sim (.cons (Sim.rp_po (hc8 hW)) (.cons (.refl _) (.cons (.refl _) .nil))) (c_crew_plan__able (c0.plan.getD default) (((c0.plan.getD default).Crew.Hands).getD i2 default) (c0.rounds.getD (p0).toNat default) (of_true hy10 hW))) .nil) (At.keep (ts := [0, 1, 2, 3, 4, 5, 8, 15, 16, 17, 56]) (ids := [90000, 90001, 90002, 90003, 90004, 90005]) rfl rfl ?_)
       refine At.thenC ?_
       refine W.cond rfl (fun hb15 => ?_) (fun hb15 => ?_)
       · have H := of_true H hb15
         refine W.exit ?_
         refine At.xthen ?_
         refine At.xhere ?_
         refine At.thenK (At.keep (ts := [0, 1, 2, 3, 4, 5, 15, 16, 17]) (ids := [90000, 90001, 90002, 90003, 90004, 90005]) rfl rfl ?_)
         exact At.conv (.cons .qi (.cons .q (.cons .q (.cons .q (.cons .q (.cons .q (.cons .q (.cons .qi (.cons .qi .nil))))))))) (.cons .q (.cons .q (.cons (BSim.cells (.cons .qc .nil)) (.cons .q (.cons .q (.cons .q .nil)))))) (hK4 (s2.2, s2.1) H)
       · have H := of_false H hb15
         refine W.skip ?_
         refine At.thenC ?_
         obtain ⟨hc16, H⟩ := of_must H
         obtain ⟨hc17, H⟩ := of_must H
         refine W.sr env [] [] [0, 1, 2, 3, 4, 5, 8, 15, 16, 17] [90000, 90001, 90002, 90003, 90004, 90005] rfl rfl (by first | rfl | kernel_rfl) (.cons hc16 (.cons hc17 .nil)) .nil ?_
         refine W.seq ?_
         obtain ⟨hc18, H⟩ := of_must H
         obtain ⟨hc19, H⟩ := of_must H
         obtain ⟨hc20, H⟩ := of_must H
         obtain ⟨y21, hy22, H⟩ := of_bindO H
         obtain ⟨hc23, H⟩ := of_must H
         refine W.region env [] [⟨.bool (y21.1), [(90000, .cells [.po c0.plan.isSome [roL 4 enc_Task ((c0.plan.getD default).Crew.Tasks), roL 1 enc_ListRange ((c0.plan.getD default).Crew.Travel), roL 3 enc_Hand ((c0.plan.getD default).Crew.Hands), roL 1 enc_Int ((c0.plan.getD default).next)], roL 1 enc_ListInt c0.rounds]), (90001, .cells [.int .i64 (y21.2.1)]), (90002, .cells [.buf 90003 (y21.2.2).length]), (90003, bufL 3 1 enc_Int y21.2.2), (90004, .cells [roL 1 enc_Int c3]), (90005, .cells [.fn (.func 99) [] [.lp 90000 0, .lp 90001 0, .lp 90002 0, .lp 90004 0, .lp 90005 0]])], 0, [90000, 90001, 90002, 90003, 90004, 90005]⟩] rfl rfl (by kernel_rfl) (.cons (⟨by first | rfl | (simp; done) | omega | (simp; omega), hc18⟩) (.cons (⟨by first | rfl | (simp; done) | omega | (simp; omega), (by have := hc18; first | omega | (simp only [List.length_set]; omega) | (simp only [Int.toNat_natCast] at *; omega) | (simp at this ⊢; omega))⟩) (.cons (fun hW => ⟨by first | rfl | (simp; done) | omega | (simp; omega), hc19 hW⟩) (.cons (fun h => h) (.cons (fun h => h) (.cons (fun hW => (⟨by first | rfl | (simp; done) | omega | (simp; omega), (by have := hc19 hW; first | omega | (simp only [List.length_set]; omega) | (simp only [Int.toNat_natCast] at *; omega) | (simp at this ⊢; omega))⟩)) (.cons (fun h => h) (.cons hc20 (.cons (fun h => h) (.cons (fun hW => by obtain rfl := lend_off hy22 hW; first | exact .refl _ | exact .q) (.cons (fun hW => by obtain rfl := lend_off hy22 hW; first | exact .refl _ | exact .q) (.cons (fun hW => by obtain rfl := lend_off hy22 hW; first | exact .refl _ | exact .q) (.cons (fun hW => by obtain rfl := lend_off hy22 hW; first | exact .refl _ | exact .q) (.cons (fun hW => by obtain rfl := lend_off hy22 hW; first | exact .refl _ | exact .q) (.cons (fun hW => by obtain rfl := lend_off hy22 hW; first | exact .refl _ | exact .q) (.cons (fun h => h) (.cons (fun h => h) (.cons (fun h => by rw [h]; rfl) .nil)))))))))))))))))) (.on (fun hW => (CtrO.sim (CtrO.ren (ih ((s2.1.getD i2 default) - 1) c0 (((s2.2 : Int).toNat ||| (((1 : Int) * 2 ^ ((i2 : Int) : Int).toNat) : Int).toNat : Nat) : Int) s2.1 c3 (of_true hy22 hW)) [(90000, 90000), (90001, 90001), (90002, 90002), (90003, 90003), (90004, 90004), (90005, 90005)]) (.cons (.refl _) (.cons (.refl _) (.cons (.refl _) (.cons (.refl _) (.cons (.refl _) (.cons (.refl _) .nil)))))) (.cons (.refl _) (.cons (.refl _) (.cons (BSim.cells (.cons .qc .nil)) (.cons (.refl _) (.cons (.refl _) (.cons (.refl _) .nil)))))))) .nil) (At.keep (ts := [0, 1, 2, 3, 4, 5, 8, 15, 16, 17, 74]) (ids := [90000, 90001, 90002, 90003, 90004, 90005]) rfl rfl ?_)
         refine At.thenC ?_
         refine W.cond rfl (fun hb24 => ?_) (fun hb24 => ?_)
         · have H := of_true H hb24
           refine W.seq ?_
           obtain ⟨hc25, H⟩ := of_must H
           obtain ⟨hc26, H⟩ := of_must H
           refine W.region env [] [] rfl rfl rfl (.cons hc25 (.cons (⟨by first | rfl | (simp; done) | omega | (simp; omega), hc26⟩) (.cons (⟨by first | rfl | (simp; done) | omega | (simp; omega), (by have := hc26; first | omega | (simp only [List.length_set]; omega) | (simp only [Int.toNat_natCast] at *; omega) | (simp at this ⊢; omega))⟩) .nil))) .nil (At.keep (ts := []) (ids := [90000, 90001, 90002, 90003, 90004, 90005]) rfl rfl ?_)
           refine At.convM (.cons (.refl _) (.cons (.refl _) (.cons (.refl _) (.cons (y := bufL 3 1 enc_Int (y21.2.2.set i2 (p0 + 1))) (BSim.seg (Seg.set (Seg.refl enc_Int _) (p0 + 1) rfl)) (.cons (.refl _) (.cons (.refl _) .nil)))))) ?_
           refine At.thenC ?_
           refine W.rg env [7] [90000, 90001, 90002, 90003, 90004, 90005] ?_
           refine W.ret ?_
           refine At.rinb ?_
           refine At.rthen ?_
           refine At.rthen ?_
           refine At.rinb ?_
           refine At.rthen ?_
           cases H
           exact At.retL env.ty [90000, 90001, 90002, 90003, 90004, 90005] rfl rfl rfl rfl (.cons (.refl _) (.cons (.refl _) (.cons (BSim.cells (.cons .qc .nil)) (.cons (.refl _) (.cons (.refl _) (.cons (.refl _) .nil)))))) (.refl _) hval hdom hent rfl rfl
         · have H := of_false H hb24
           refine W.skip ?_
           refine At.inb ?_
           refine At.thenK (At.keep (ts := [0, 1, 2, 3, 4, 5, 15, 16, 17]) (ids := [90000, 90001, 90002, 90003, 90004, 90005]) rfl rfl ?_)
           exact At.conv (.cons .qi (.cons .q (.cons .q (.cons .q (.cons .q (.cons .q (.cons .q (.cons .qi (.cons .qi .nil))))))))) (.cons .q (.cons .q (.cons (BSim.cells (.cons .qc .nil)) (.cons .q (.cons .q (.cons .q .nil)))))) (hK4 (y21.2.1, y21.2.2) H)
   · have H := H2 (by have := of_decide_eq_false hb3; omega)
     refine W.exit ?_
     refine At.xthen ?_
     refine At.xthen ?_
     refine At.xhere ?_
     refine At.thenC ?_
     refine W.rg env [7] [90000, 90001, 90002, 90003, 90004, 90005] ?_
     refine W.ret ?_
     cases H
     exact At.retL env.ty [90000, 90001, 90002, 90003, 90004, 90005] rfl rfl rfl rfl (.cons (.refl _) (.cons (.refl _) (.cons (BSim.cells (.cons .qc .nil)) (.cons (.refl _) (.cons (.refl _) (.cons (.refl _) .nil)))))) (.refl _) hval hdom hent rfl rfl
theorem c_crew_shift__all (fuel : Nat) (p0 : crew_shift) (p1 : (List Int)) (p2 : (List Int)) {r : Bool} (H : crew_shift__all fuel p0 p1 p2 = some r) : Ctr Try.prog 71 [.agg [.po p0.plan.isSome [roL 4 enc_Task ((p0.plan.getD default).Crew.Tasks), roL 1 enc_ListRange ((p0.plan.getD default).Crew.Travel), roL 3 enc_Hand ((p0.plan.getD default).Crew.Hands), roL 1 enc_Int ((p0.plan.getD default).next)], roL 1 enc_ListInt p0.rounds], roL 1 enc_Int p1, roL 1 enc_Int p2] (.bool (r)) := by
 unfold crew_shift__all at H
 refine Ctr.of_body (N := 59) Try.func71 (by kernel_rfl) (c := _) rfl Try.ntmps71 rfl (fun w0 h0 hval => ?_)
 refine W.rg env [1, 3, 5] [3, 5] ?_
 refine W.scope ?_
 refine W.seq ?_
 obtain ⟨hc1, H⟩ := of_must H
 obtain ⟨hc2, H⟩ := of_must H
 refine W.region env [] [] rfl rfl rfl (.cons hc1 (.cons hc2 .nil)) .nil (At.keep (ts := [1, 3, 5, 7]) (ids := [3, 5, 7, 21]) rfl rfl ?_)
 refine At.convM (.cons (.refl _) (.cons (.refl _) (.cons (.refl _) (.cons (y := bufL 3 1 enc_Int (List.replicate (((((p0.plan.getD default).Crew.Hands).length : Nat) : Int)).toNat (0 : Int))) (BSim.seg (Seg.made (f := enc_Int) 0 rfl)) .nil)))) ?_
 refine At.thenC ?_
 refine W.seq ?_
 refine W.rg env [1, 3, 5, 7, 22, 23, 24] [3, 5, 7, 21] ?_
 refine W.block ?_
 refine At.keep (ts := [1, 3, 5, 7, 22, 23, 24]) (ids := [3, 5, 7, 21]) rfl rfl ?_
 refine W.len (t := 22) rfl (fun (hn3 : p1.length ≤ maxLen) => ?_)
 refine W.rangeGo H (fun i3 (s3 : (List Int)) => [(1, roL 1 enc_Int p1), (3, .lp 3 0), (5, .lp 5 0), (7, .lp 7 0), (22, roL 1 enc_Int p1), (23, .int .i64 (((p1.length : Nat) : Int))), (24, .int .i64 ((i3 : Int)))]) (fun i3 (s3 : (List Int)) => [(3, .cells [.po p0.plan.isSome [roL 4 enc_Task ((p0.plan.getD default).Crew.Tasks), roL 1 enc_ListRange ((p0.plan.getD default).Crew.Travel), roL 3 enc_Hand ((p0.plan.getD default).Crew.Hands), roL 1 enc_Int ((p0.plan.getD default).next)], roL 1 enc_ListInt p0.rounds]), (5, .cells [roL 1 enc_Int p2]), (7, .cells [.buf 21 (s3).length]), (21, bufL 3 1 enc_Int s3)]) (.cons .q (.cons .q (.cons .q (.cons .q (.cons .q (.cons .qi (.cons .qi .nil))))))) (.cons .q (.cons .q (.cons (BSim.cells (.cons .qc .nil)) (.cons .q .nil)))) (fun k3 i3 s3 hle3 H1 H2 K0 hK3 => ?_)
 refine W.rg env [1, 3, 5, 7, 22, 23, 24, 25] [3, 5, 7, 21] ?_
 refine W.seq ?_
 refine W.cond rfl (fun hb4 => ?_) (fun hb4 => ?_)
 · have hi3 : i3 < p1.length := by have := of_decide_eq_true hb4; omega
   have H := H1 hi3
   refine W.skip ?_
   refine At.thenC ?_
   refine W.seq ?_
   refine W.block ?_
   refine W.sr env [] [] [1, 3, 5, 7, 9, 22, 23, 24] [3, 5, 7, 21] rfl rfl rfl (.cons (⟨by omega, by omega⟩ : 0 ≤ (i3 : Int) ∧ (i3 : Int) < ((p1.length : Nat) : Int)) .nil) .nil ?_
   obtain ⟨hc5, H⟩ := of_must H
   refine W.sr env [] [] [1, 3, 5, 7, 9, 22, 23, 24, 32] [3, 5, 7, 21] rfl rfl rfl (.cons hc5 .nil) .nil ?_
   refine W.cond rfl (fun hb6 => ?_) (fun hb6 => ?_)
   · have H := of_true H hb6
     obtain ⟨hc7, H⟩ := of_must H
     obtain ⟨hc8, H⟩ := of_must H
     obtain ⟨hc9, H⟩ := of_must H
     refine W.region env [] [] rfl rfl (by first | rfl | kernel_rfl) (.cons hc7 (.cons hc8 (.cons (⟨by first | rfl | (simp; done) | omega | (simp; omega), hc9⟩) (.cons (⟨by first | rfl | (simp; done) | omega | (simp; omega), (by have := hc9; first | omega | (simp only [List.length_set]; omega) | (simp only [Int.toNat_natCast] at *; omega) | (simp at this ⊢; omega))⟩) .nil)))) .nil (At.keep (ts := [1, 3, 5, 7, 22, 23, 24]) (ids := [3, 5, 7, 21]) rfl rfl ?_)
     refine At.convM (.cons (.refl _) (.cons (.refl _) (.cons (.refl _) (.cons (y := bufL 3 1 enc_Int (s3.set ((p2.getD ((p1.getD i3 default)).toNat default)).toNat ((p1.getD i3 default) + 1))) (BSim.seg (Seg.set (Seg.refl enc_Int _) ((p1.getD i3 default) + 1) rfl)) .nil)))) ?_
     refine At.inb ?_
     refine At.thenC ?_
     refine W.region env [] [] rfl rfl rfl (.cons (by unfold inI; have := hn3; (try unfold maxLen at this); omega) .nil) .nil (At.keep (ts := [1, 3, 5, 7, 22, 23, 24]) (ids := [3, 5, 7, 21]) rfl rfl ?_)
     refine At.thenK (At.keep (ts := [1, 3, 5, 7, 22, 23, 24]) (ids := [3, 5, 7, 21]) rfl rfl ?_)
     exact At.conv (.cons .q (.cons .q (.cons .q (.cons .q (.cons .q (.cons .qi (.cons .qi .nil))))))) (.cons .q (.cons .q (.cons (BSim.cells (.cons .qc .nil)) (.cons .q .nil)))) (hK3 hi3 (s3.set ((p2.getD ((p1.getD i3 default)).toNat default)).toNat ((p1.getD i3 default) + 1)) H)
   · have H := of_false H hb6
     refine W.skip ?_
     refine At.inb ?_
     refine At.thenC ?_
     refine W.region env [] [] rfl rfl rfl (.cons (by unfold inI; have := hn3; (try unfold maxLen at this); omega) .nil) .nil (At.keep (ts := [1, 3, 5, 7, 22, 23, 24]) (ids := [3, 5, 7, 21]) rfl rfl ?_)
     refine At.thenK (At.keep (ts := [1, 3, 5, 7, 22, 23, 24]) (ids := [3, 5, 7, 21]) rfl rfl ?_)
     exact At.conv (.cons .q (.cons .q (.cons .q (.cons .q (.cons .q (.cons .qi (.cons .qi .nil))))))) (.cons .q (.cons .q (.cons (BSim.cells (.cons .qc .nil)) (.cons .q .nil)))) (hK3 hi3 s3 H)
 · have H := H2 (by have := of_decide_eq_false hb4; omega)
   refine W.exit ?_
   refine At.xthen ?_
   refine At.xthen ?_
   refine At.xhere ?_
   refine At.thenC ?_
   refine W.seq ?_
   refine W.label ?_
   refine At.thenC ?_
   refine W.seq ?_
   refine W.rg env [3, 5, 7, 42, 43, 44] [3, 5, 7, 21] ?_
   refine W.block ?_
   refine At.keep (ts := [3, 5, 7, 42, 43, 44]) (ids := [3, 5, 7, 21]) rfl rfl ?_
   refine W.len (t := 42) rfl (fun (hn10 : p1.length ≤ maxLen) => ?_)
   refine W.rangeGo H (fun i10 (s10 : (List Int)) => [(3, .lp 3 0), (5, .lp 5 0), (7, .lp 7 0), (42, roL 1 enc_Int p1), (43, .int .i64 (((p1.length : Nat) : Int))), (44, .int .i64 ((i10 : Int)))]) (fun i10 (s10 : (List Int)) => [(3, .cells [.po p0.plan.isSome [roL 4 enc_Task ((p0.plan.getD default).Crew.Tasks), roL 1 enc_ListRange ((p0.plan.getD default).Crew.Travel), roL 3 enc_Hand ((p0.plan.getD default).Crew.Hands), roL 1 enc_Int ((p0.plan.getD default).next)], roL 1 enc_ListInt p0.rounds]), (5, .cells [roL 1 enc_Int p2]), (7, .cells [.buf 21 (s10).length]), (21, bufL 3 1 enc_Int s10)]) (.cons .q (.cons .q (.cons .q (.cons .q (.cons .qi (.cons .qi .nil)))))) (.cons .q (.cons .q (.cons (BSim.cells (.cons .qc .nil)) (.cons .q .nil)))) (fun k10 i10 s10 hle10 H1 H2 K0 hK10 => ?_)
   refine W.rg env [3, 5, 7, 42, 43, 44, 45] [3, 5, 7, 21] ?_
   refine W.seq ?_
   refine W.cond rfl (fun hb11 => ?_) (fun hb11 => ?_)
   · have hi10 : i10 < p1.length := by have := of_decide_eq_true hb11; omega
     have H := H1 hi10
     refine W.skip ?_
     refine At.thenC ?_
     refine W.seq ?_
     refine W.joinC H (fun (s12 : (List Int)) => [(3, .lp 3 0), (5, .lp 5 0), (7, .lp 7 0), (42, roL 1 enc_Int p1), (43, .int .i64 (((p1.length : Nat) : Int))), (44, .int .i64 ((i10 : Int)))]) (fun (s12 : (List Int)) => [(3, .cells [.po p0.plan.isSome [roL 4 enc_Task ((p0.plan.getD default).Crew.Tasks), roL 1 enc_ListRange ((p0.plan.getD default).Crew.Travel), roL 3 enc_Hand ((p0.plan.getD default).Crew.Hands), roL 1 enc_Int ((p0.plan.getD default).next)], roL 1 enc_ListInt p0.rounds]), (5, .cells [roL 1 enc_Int p2]), (7, .cells [.buf 21 (s12).length]), (21, bufL 3 1 enc_Int s12)]) (fun s12 H => ?_) (fun k12 H hK12 => ?_)
     · refine W.region env [] [] rfl rfl rfl (.cons (by unfold inI; have := hn10; (try unfold maxLen at this); omega) .nil) .nil (At.keep (ts := [3, 5, 7, 42, 43, 44]) (ids := [3, 5, 7, 21]) rfl rfl ?_)
       refine At.thenK (At.keep (ts := [3, 5, 7, 42, 43, 44]) (ids := [3, 5, 7, 21]) rfl rfl ?_)
       exact At.conv (.cons .q (.cons .q (.cons .q (.cons .q (.cons .qi (.cons .qi .nil)))))) (.cons .q (.cons .q (.cons (BSim.cells (.cons .qc .nil)) (.cons .q .nil)))) (hK10 hi10 s12 H)
     · refine W.block ?_
       refine W.sr env [] [] [3, 5, 7, 11, 42, 43, 44] [3, 5, 7, 21] rfl rfl rfl (.cons (⟨by omega, by omega⟩ : 0 ≤ (i10 : Int) ∧ (i10 : Int) < ((p1.length : Nat) : Int)) .nil) .nil ?_
       refine W.seq ?_
       obtain ⟨hc13, H⟩ := of_must H
       refine W.sr env [] [] [3, 5, 7, 11, 42, 43, 44, 52] [3, 5, 7, 21] rfl rfl rfl (.cons hc13 .nil) .nil ?_
       refine W.cond rfl (fun hb14 => ?_) (fun hb14 => ?_)
       · have H := of_true H hb14
         refine W.exit ?_
         refine At.xthen ?_
         refine At.xhere ?_
         refine At.thenK (At.keep (ts := [3, 5, 7, 42, 43, 44]) (ids := [3, 5, 7, 21]) rfl rfl ?_)
         exact At.conv (.cons .q (.cons .q (.cons .q (.cons .q (.cons .qi (.cons .qi .nil)))))) (.cons .q (.cons .q (.cons (BSim.cells (.cons .qc .nil)) (.cons .q .nil)))) (hK12 s10 H)
       · have H := of_false H hb14
         refine W.skip ?_
         refine At.thenC ?_
         refine W.rg env [3, 5, 7, 11, 12, 42, 43, 44] [3, 5, 7, 12, 21] ?_
         refine W.rg env [3, 5, 7, 11, 12, 13, 42, 43, 44] [3, 5, 7, 12, 13, 21] ?_
         refine W.rg env [3, 5, 7, 11, 13, 42, 43, 44] [3, 5, 7, 12, 13, 21] ?_
         refine W.seq ?_
         obtain ⟨y15, hy16, H⟩ := of_bindO H
         refine W.region env [] [⟨.bool (y15.1), [(3, .cells [.po p0.plan.isSome [roL 4 enc_Task ((p0.plan.getD default).Crew.Tasks), roL 1 enc_ListRange ((p0.plan.getD default).Crew.Travel), roL 3 enc_Hand ((p0.plan.getD default).Crew.Hands), roL 1 enc_Int ((p0.plan.getD default).next)], roL 1 enc_ListInt p0.rounds]), (12, .cells [.int .i64 (y15.2.1)]), (7, .cells [.buf 21 (y15.2.2).length]), (21, bufL 3 1 enc_Int y15.2.2), (5, .cells [roL 1 enc_Int p2]), (13, .cells [.fn (.func 99) [] [.lp 3 0, .lp 12 0, .lp 7 0, .lp 5 0, .lp 13 0]])], 0, [3, 12, 7, 21, 5, 13]⟩] rfl rfl (by kernel_rfl) .nil (.free (CtrO.sim (CtrO.ren (cl_crew_shift__all_1_l fuel fuel (p1.getD i10 default) p0 0 s10 p2 hy16) [(90000, 3), (90001, 12), (90002, 7), (90003, 21), (90004, 5), (90005, 13)]) (.cons (.refl _) (.cons (.refl _) (.cons (.refl _) (.cons (.refl _) (.cons (.refl _) (.cons (.refl _) .nil)))))) (.cons (.refl _) (.cons (.refl _) (.cons (BSim.cells (.cons .qc .nil)) (.cons (.refl _) (.cons (.refl _) (.cons (.refl _) .nil))))))) .nil) (At.keep (ts := [3, 5, 7, 42, 43, 44, 57]) (ids := [3, 5, 7, 21]) rfl rfl ?_)
         refine At.thenC ?_
         refine W.cond rfl (fun hb17 => ?_) (fun hb17 => ?_)
         · have H := of_true H hb17
           refine W.rg env [6] [] ?_
           refine W.ret ?_
           refine At.rinb ?_
           refine At.rthen ?_
           refine At.rthen ?_
           refine At.rinb ?_
           refine At.rthen ?_
           refine At.rins ?_
           cases H
           exact At.ret env.ty rfl rfl (fun q hq => by cases hq) (.refl _) hval
         · have H := of_false H hb17
           refine W.skip ?_
           refine At.inb ?_
           refine At.thenK (At.keep (ts := [3, 5, 7, 42, 43, 44]) (ids := [3, 5, 7, 21]) rfl rfl ?_)
           exact At.conv (.cons .q (.cons .q (.cons .q (.cons .q (.cons .qi (.cons .qi .nil)))))) (.cons .q (.cons .q (.cons (BSim.cells (.cons .qc .nil)) (.cons .q .nil)))) (hK12 y15.2.2 H)
   · have H := H2 (by have := of_decide_eq_false hb11; omega)
     refine W.exit ?_
     refine At.xthen ?_
     refine At.xthen ?_
     refine At.xhere ?_
     refine At.thenC ?_
     refine W.rg env [6] [] ?_
     refine W.ret ?_
     refine At.rins ?_
     cases H
     exact At.ret env.ty rfl rfl (fun q hq => by cases hq) (.refl _) hval
theorem c_slices_Index_int (p0 : (List Int)) (p1 : Int) {r : Int} (H : slices_Index_int p0 p1 = some r) : Ctr Try.prog 100 [roL 1 enc_Int p0, .int .i64 (p1)] (.int .i64 (r)) := by
 unfold slices_Index_int at H
 refine Ctr.of_body (N := 19) Try.func100 (by kernel_rfl) (c := _) rfl Try.ntmps100 rfl (fun w0 h0 hval => ?_)
 refine W.rg env [0, 1] [] ?_
 refine W.seq ?_
 refine W.rg env [0, 1, 7, 8] [] ?_
 refine W.block ?_
 refine At.keep (ts := [0, 1, 7, 8]) (ids := []) rfl rfl ?_
 refine W.len (t := 0) rfl (fun (hn1 : p0.length ≤ maxLen) => ?_)
 refine W.rangeGo H (fun i1 (s1 : Unit) => [(0, roL 1 enc_Int p0), (1, .int .i64 (p1)), (7, .int .i64 (((p0.length : Nat) : Int))), (8, .int .i64 ((i1 : Int)))]) (fun i1 (s1 : Unit) => []) (.cons .q (.cons .qi (.cons .qi (.cons .qi .nil)))) .nil (fun k1 i1 s1 hle1 H1 H2 K0 hK1 => ?_)
 refine W.rg env [0, 1, 7, 8, 9] [] ?_
 refine W.seq ?_
 refine W.cond rfl (fun hb2 => ?_) (fun hb2 => ?_)
 · have hi1 : i1 < p0.length := by have := of_decide_eq_true hb2; omega
   have H := H1 hi1
   refine W.skip ?_
   refine At.thenC ?_
   refine W.seq ?_
   refine W.block ?_
   refine W.rg env [0, 1, 5, 7, 8] [] ?_
   refine W.sr env [] [] [0, 1, 5, 7, 8, 16] [] rfl rfl rfl (.cons (⟨by omega, by omega⟩ : 0 ≤ (i1 : Int) ∧ (i1 : Int) < ((p0.length : Nat) : Int)) .nil) .nil ?_
   refine W.cond rfl (fun hb3 => ?_) (fun hb3 => ?_)
   · have H := of_true H hb3
     refine W.rg env [4] [] ?_
     refine W.ret ?_
     refine At.rinb ?_
     refine At.rthen ?_
     refine At.rthen ?_
     refine At.rinb ?_
     refine At.rthen ?_
     cases H
     exact At.ret env.ty rfl rfl (fun q hq => by cases hq) (.refl _) hval
   · have H := of_false H hb3
     refine W.skip ?_
     refine At.inb ?_
     refine At.thenC ?_
     refine W.region env [] [] rfl rfl rfl (.cons (by unfold inI; have := hn1; (try unfold maxLen at this); omega) .nil) .nil (At.keep (ts := [0, 1, 7, 8]) (ids := []) rfl rfl ?_)
     refine At.thenK (At.keep (ts := [0, 1, 7, 8]) (ids := []) rfl rfl ?_)
     exact At.conv (.cons .q (.cons .qi (.cons .qi (.cons .qi .nil)))) .nil (hK1 hi1 () H)
 · have H := H2 (by have := of_decide_eq_false hb2; omega)
   refine W.exit ?_
   refine At.xthen ?_
   refine At.xthen ?_
   refine At.xhere ?_
   refine At.thenC ?_
   refine W.rg env [4] [] ?_
   refine W.ret ?_
   cases H
   exact At.ret env.ty rfl rfl (fun q hq => by cases hq) (.refl _) hval
theorem c_slices_Contains_int (p0 : (List Int)) (p1 : Int) {r : Bool} (H : slices_Contains_int p0 p1 = some r) : Ctr Try.prog 74 [roL 1 enc_Int p0, .int .i64 (p1)] (.bool (r)) := by
 unfold slices_Contains_int at H
 refine Ctr.of_body (N := 9) Try.func74 (by kernel_rfl) (c := _) rfl Try.ntmps74 rfl (fun w0 h0 hval => ?_)
 refine W.rg env [0, 1] [] ?_
 refine W.seq ?_
 obtain ⟨y1, hy2, H⟩ := of_bindO H
 refine W.region env [] [⟨.int .i64 (y1), [], 0, []⟩] rfl rfl rfl .nil (.free (c_slices_Index_int p0 p1 hy2) .nil) (At.keep (ts := [4]) (ids := []) rfl rfl ?_)
 refine At.thenC ?_
 refine W.ret ?_
 cases H
 exact At.ret env.ty rfl rfl (fun q hq => by cases hq) (.refl _) hval
theorem co_crew_shift__free (p0 : crew_shift) {r : (List Int)} (H : crew_shift__free p0 = some r) : CtrO Try.prog 70 [.agg [.po p0.plan.isSome [roL 4 enc_Task ((p0.plan.getD default).Crew.Tasks), roL 1 enc_ListRange ((p0.plan.getD default).Crew.Travel), roL 3 enc_Hand ((p0.plan.getD default).Crew.Hands), roL 1 enc_Int ((p0.plan.getD default).next)], roL 1 enc_ListInt p0.rounds]] [] (.buf 900 r.length) [(900, bufL 3 1 enc_Int r)] := by
 unfold crew_shift__free at H
 refine CtrO.of_body (N := 19) Try.func70 (by kernel_rfl) (c := _) rfl Try.ntmps70 rfl (fun w0 h0 ρb hval hdom => ?_)
 refine W.rg env [1] [1] ?_
 refine W.seq ?_
 obtain ⟨hc1, H⟩ := of_must H
 refine W.region env [] [] rfl rfl rfl (.cons hc1 .nil) .nil (At.keep (ts := [3]) (ids := [8]) rfl rfl ?_)
 refine At.convM (.cons (y := bufL 3 1 enc_Int (List.replicate (((p0.rounds.length : Nat) : Int)).toNat (0 : Int))) (BSim.seg (Seg.made (f := enc_Int) 0 rfl)) .nil) ?_
 refine At.thenC ?_
 refine W.seq ?_
 refine W.sr env [] [] [3, 10, 11] [8] rfl rfl rfl (.cons (by first | rfl | (simp; done) | omega | (simp; omega)) .nil) .nil ?_
 refine W.block ?_
 refine At.keep (ts := [3, 10, 11]) (ids := [8]) rfl rfl ?_
 obtain ⟨hn2, H⟩ := of_must H
 refine W.rangeGo H (fun i2 (s2 : (List Int)) => [(3, .buf 8 (s2).length), (10, .int .i64 ((((List.replicate (((p0.rounds.length : Nat) : Int)).toNat (0 : Int)).length : Nat) : Int))), (11, .int .i64 ((i2 : Int)))]) (fun i2 (s2 : (List Int)) => [(8, bufL 3 1 enc_Int s2)]) (.cons .qb (.cons .qi (.cons .qi .nil))) (.cons .q .nil) (fun k2 i2 s2 hle2 H1 H2 K0 hK2 => ?_)
 refine W.rg env [3, 10, 11, 12] [8] ?_
 refine W.seq ?_
 refine W.cond rfl (fun hb3 => ?_) (fun hb3 => ?_)
 · have hi2 : i2 < (List.replicate (((p0.rounds.length : Nat) : Int)).toNat (0 : Int)).length := by have := of_decide_eq_true hb3; omega
   have H := H1 hi2
   refine W.skip ?_
   refine At.thenC ?_
   refine W.seq ?_
   refine W.block ?_
   refine W.rg env [3, 4, 10, 11] [8] ?_
   obtain ⟨hc4, H⟩ := of_must H
   refine W.region env [] [] rfl rfl rfl (.cons (⟨by first | rfl | (simp; done) | omega | (simp; omega), hc4⟩) (.cons (⟨by first | rfl | (simp; done) | omega | (simp; omega), (by have := hc4; first | omega | (simp only [List.length_set]; omega) | (simp only [Int.toNat_natCast] at *; omega) | (simp at this ⊢; omega))⟩) .nil)) .nil (At.keep (ts := [3, 10, 11]) (ids := [8]) rfl rfl ?_)
   refine At.convM (.cons (y := bufL 3 1 enc_Int (s2.set i2 (-1))) (BSim.seg (Seg.set (Seg.refl enc_Int _) (-1) rfl)) .nil) ?_
   refine At.inb ?_
   refine At.thenC ?_
   refine W.region env [] [] rfl rfl rfl (.cons (by unfold inI; have := hn2; (try unfold maxLen at this); omega) .nil) .nil (At.keep (ts := [3, 10, 11]) (ids := [8]) rfl rfl ?_)
   refine At.thenK (At.keep (ts := [3, 10, 11]) (ids := [8]) rfl rfl ?_)
   exact At.conv (.cons .qb (.cons .qi (.cons .qi .nil))) (.cons .q .nil) (hK2 hi2 (s2.set i2 (-1)) H)
 · have H := H2 (by have := of_decide_eq_false hb3; omega)
   refine W.exit ?_
   refine At.xthen ?_
   refine At.xthen ?_
   refine At.xhere ?_
   refine At.thenC ?_
   refine W.rg env [2] [8] ?_
   refine W.ret ?_
   cases H
   exact At.retK env.ty [8] 892 rfl rfl rfl rfl (.cons (.refl _) .nil) (.of_eq (by refine bufEq ?_; first | (simp [copyAt]; done) | omega | (simp [copyAt]; omega) | rfl)) hval hdom rfl
theorem c_crew_Assign (fuel : Nat) (p0 : Crew) (p1 : (List (List Int))) {r : ((List Int) × Int)} (H : crew_Assign fuel p0 p1 = some r) : Ctr Try.prog 30 [.agg [roL 4 enc_Task p0.Tasks, roL 1 enc_ListRange p0.Travel, roL 3 enc_Hand p0.Hands], roL 1 enc_ListInt p1] (.tup [roL 1 enc_Int r.1, .int .i64 (r.2)]) := by
 unfold crew_Assign at H
 refine Ctr.of_body (N := 87) Try.func30 (by kernel_rfl) (c := _) rfl Try.ntmps30 rfl (fun w0 h0 hval => ?_)
 refine W.rg env [1, 2] [2] ?_
 refine W.seq ?_
 obtain ⟨y1, hy2, H⟩ := of_bindO H
 refine W.region env [] [⟨.tup [.po y1.1.isSome [roL 4 enc_Task ((y1.1.getD default).Crew.Tasks), roL 1 enc_ListRange ((y1.1.getD default).Crew.Travel), roL 3 enc_Hand ((y1.1.getD default).Crew.Hands), roL 1 enc_Int ((y1.1.getD default).next)], .int .i64 (y1.2)], [], 0, []⟩] rfl rfl rfl .nil (.free (c_crew_asked p0 p1 hy2) .nil) (At.keep (ts := [1, 2, 6, 7]) (ids := [2]) rfl rfl ?_)
 refine At.thenC ?_
 refine W.seq ?_
 refine W.rg env [1, 2, 6, 7, 21] [2] ?_
 refine W.cond rfl (fun hb3 => ?_) (fun hb3 => ?_)
 · have H := of_true H hb3
   refine W.rg env [4, 5] [] ?_
   refine W.ret ?_
   refine At.rthen ?_
   cases H
   exact At.ret env.ty rfl rfl (fun q hq => by cases hq) (Sim.tupL (.cons (Sim.nil _ _) (.cons (.refl _) .nil))) hval
 · have H := of_false H hb3
   refine W.skip ?_
   refine At.thenC ?_
   refine W.rg env [1, 2, 8] [2, 8] ?_
   refine W.seq ?_
   obtain ⟨y4, hy5, H⟩ := of_bindO H
   refine W.region env [] [⟨.buf 900 y4.length, [(900, bufL 3 1 enc_Int y4)], 28000, []⟩] rfl rfl (by kernel_rfl) .nil (.free ((Ctr.ofO (co_crew_shift__free (⟨y1.1, p1⟩ : crew_shift) hy5))) .nil) (At.keep (ts := [1, 2, 8, 9]) (ids := [2, 8, 28900]) rfl rfl ?_)
   refine At.thenC ?_
   refine W.seq ?_
   refine W.seq ?_
   obtain ⟨y6, hy7, H⟩ := of_bindO H
   obtain ⟨y8, hy9, H⟩ := of_bindO H
   refine W.region env [] [⟨roL 1 enc_Int y6, [], 0, []⟩, ⟨.bool (y8), [], 0, []⟩] rfl rfl (by kernel_rfl) (.cons (by first | rfl | (simp; done) | omega | (simp; omega)) .nil) (.free (c_crew_shift__indices (⟨y1.1, p1⟩ : crew_shift) hy7) (.free (c_crew_shift__all fuel (⟨y1.1, p1⟩ : crew_shift) y6 y4 hy9) .nil)) (At.keep (ts := [1, 2, 8, 9, 33]) (ids := [2, 8, 28900]) rfl rfl ?_)
   refine At.thenC ?_
   refine W.cond rfl (fun hb10 => ?_) (fun hb10 => ?_)
   · have H := of_true H hb10
     refine W.rg env [4, 5] [] ?_
     refine W.ret ?_
     refine At.rthen ?_
     cases H
     exact At.ret env.ty rfl rfl (fun q hq => by cases hq) (Sim.tupL (.cons (Sim.nil _ _) (.cons (.refl _) .nil))) hval
   · have H := of_false H hb10
     refine W.skip ?_
     refine At.thenC ?_
     refine W.rg env [1, 2, 8, 9, 10] [2, 8, 28900] ?_
     refine W.seq ?_
     refine W.rg env [1, 2, 8, 9, 10, 35, 36] [2, 8, 28900] ?_
     refine W.block ?_
     refine At.nilOwn 10 510 3 1 (e := fun i => enc_Int (([] : List Int).getD i default)) rfl rfl ?_
     refine At.keep (ts := [1, 2, 8, 9, 10, 35, 36]) (ids := [2, 8, 510, 28900]) rfl rfl ?_
     refine W.len (t := 1) rfl (fun (hn11 : p1.length ≤ maxLen) => ?_)
     refine W.rangeGo H (fun i11 (s11 : (List Int) × (List Int)) => [(1, roL 1 enc_ListInt p1), (2, .lp 2 0), (8, .lp 8 0), (9, .buf 28900 (s11.1).length), (10, .buf 510 (s11.2).length), (35, .int .i64 (((p1.length : Nat) : Int))), (36, .int .i64 ((i11 : Int)))]) (fun i11 (s11 : (List Int) × (List Int)) => [(2, .cells [roL 4 enc_Task p0.Tasks, roL 1 enc_ListRange p0.Travel, roL 3 enc_Hand p0.Hands]), (8, .cells [.po y1.1.isSome [roL 4 enc_Task ((y1.1.getD default).Crew.Tasks), roL 1 enc_ListRange ((y1.1.getD default).Crew.Travel), roL 3 enc_Hand ((y1.1.getD default).Crew.Hands), roL 1 enc_Int ((y1.1.getD default).next)], roL 1 enc_ListInt p1]), (510, bufL 3 1 enc_Int s11.2), (28900, bufL 3 1 enc_Int s11.1)]) (.cons .q (.cons .q (.cons .q (.cons .qb (.cons .qb (.cons .qi (.cons .qi .nil))))))) (.cons .q (.cons .q (.cons .q (.cons .q .nil)))) (fun k11 i11 s11 hle11 H1 H2 K0 hK11 => ?_)
     refine W.rg env [1, 2, 8, 9, 10, 35, 36, 37] [2, 8, 510, 28900] ?_
     refine W.seq ?_
     refine W.cond rfl (fun hb12 => ?_) (fun hb12 => ?_)
     · have hi11 : i11 < p1.length := by have := of_decide_eq_true hb12; omega
       have H := H1 hi11
       refine W.skip ?_
       refine At.thenC ?_
       refine W.seq ?_
       refine W.block ?_
       refine W.rg env [1, 2, 8, 9, 10, 11, 35, 36] [2, 8, 510, 28900] ?_
       refine W.seq ?_
       refine W.rg env [1, 2, 8, 9, 10, 11, 35, 36, 40, 41, 42] [2, 8, 510, 28900] ?_
       refine W.block ?_
       refine At.keep (ts := [1, 2, 8, 9, 10, 11, 35, 36, 40, 41, 42]) (ids := [2, 8, 510, 28900]) rfl rfl ?_
       refine W.len (t := 40) rfl (fun (hn13 : p0.Hands.length ≤ maxLen) => ?_)
       refine W.rangeGo H (fun i13 (s13 : (List Int)) => [(1, roL 1 enc_ListInt p1), (2, .lp 2 0), (8, .lp 8 0), (9, .buf 28900 (s13).length), (10, .buf 510 (s11.2).length), (11, .int .i64 ((i11 : Int))), (35, .int .i64 (((p1.length : Nat) : Int))), (36, .int .i64 ((i11 : Int))), (40, roL 3 enc_Hand p0.Hands), (41, .int .i64 (((p0.Hands.length : Nat) : Int))), (42, .int .i64 ((i13 : Int)))]) (fun i13 (s13 : (List Int)) => [(2, .cells [roL 4 enc_Task p0.Tasks, roL 1 enc_ListRange p0.Travel, roL 3 enc_Hand p0.Hands]), (8, .cells [.po y1.1.isSome [roL 4 enc_Task ((y1.1.getD default).Crew.Tasks), roL 1 enc_ListRange ((y1.1.getD default).Crew.Travel), roL 3 enc_Hand ((y1.1.getD default).Crew.Hands), roL 1 enc_Int ((y1.1.getD default).next)], roL 1 enc_ListInt p1]), (510, bufL 3 1 enc_Int s11.2), (28900, bufL 3 1 enc_Int s13)]) (.cons .q (.cons .q (.cons .q (.cons .qb (.cons .qb (.cons .qi (.cons .qi (.cons .qi (.cons .q (.cons .qi (.cons .qi .nil))))))))))) (.cons .q (.cons .q (.cons .q (.cons .q .nil)))) (fun k13 i13 s13 hle13 H1 H2 K0 hK13 => ?_)
       refine W.rg env [1, 2, 8, 9, 10, 11, 35, 36, 40, 41, 42, 43] [2, 8, 510, 28900] ?_
       refine W.seq ?_
       refine W.cond rfl (fun hb14 => ?_) (fun hb14 => ?_)
       · have hi13 : i13 < p0.Hands.length := by have := of_decide_eq_true hb14; omega
         have H := H1 hi13
         refine W.skip ?_
         refine At.thenC ?_
         refine W.seq ?_
         refine W.block ?_
         refine W.sr env [] [] [1, 2, 8, 9, 10, 11, 12, 13, 35, 36, 40, 41, 42] [2, 8, 13, 510, 28900] rfl rfl rfl (.cons (⟨by omega, by omega⟩ : 0 ≤ (i13 : Int) ∧ (i13 : Int) < ((p0.Hands.length : Nat) : Int)) .nil) .nil ?_
         refine W.seq ?_
         refine W.seq ?_
         obtain ⟨hc15, H⟩ := of_must H
         obtain ⟨y16, hy17, H⟩ := of_bindO H
         obtain ⟨hc18, H⟩ := of_must H
         obtain ⟨y19, hy20, H⟩ := of_bindO H
         refine W.region env [] [⟨.bool (y16), [], 0, []⟩, ⟨.bool (y19), [], 0, []⟩] rfl rfl (by kernel_rfl) (.cons (⟨by omega, by omega⟩ : 0 ≤ (i11 : Int) ∧ (i11 : Int) < ((p1.length : Nat) : Int)) (.cons (fun hW => ⟨by first | rfl | (simp; done) | omega | (simp; omega), hc18 hW⟩) (.cons (fun h => h) (.cons (fun h => h) (.cons (fun hW => (by have := hc18 hW; first | omega | (simp only [Int.toNat_natCast] at *; omega) | (simp at this ⊢; omega))) (.cons (fun h => h) (.cons (fun h => h) (.cons (fun h => by rw [h]; rfl) .nil)))))))) (.free (Ctr.sim (.cons (Sim.rp_po hc15) (.cons (.refl _) (.cons (.refl _) .nil))) (c_crew_plan__able (y1.1.getD default) (p0.Hands.getD i13 default) (p1.getD i11 default) hy17)) (.on (fun hW => Ctr.sim (.cons (Sim.seg (Seg.cut enc_Int s13 0 i11 (by have := hc18 hW; omega))) (.cons (.refl _) .nil)) (c_slices_Contains_int ((s13.take i11).drop 0) (i13 : Int) (of_true hy20 hW))) .nil)) (At.keep (ts := [1, 2, 8, 9, 10, 11, 12, 35, 36, 40, 41, 42, 62]) (ids := [2, 8, 510, 28900]) rfl rfl ?_)
         refine At.thenC ?_
         refine W.cond rfl (fun hb21 => ?_) (fun hb21 => ?_)
         · have H := of_true H hb21
           refine W.exit ?_
           refine At.xthen ?_
           refine At.xhere ?_
           refine At.thenC ?_
           refine W.region env [] [] rfl rfl rfl (.cons (by unfold inI; have := hn13; (try unfold maxLen at this); omega) .nil) .nil (At.keep (ts := [1, 2, 8, 9, 10, 11, 35, 36, 40, 41, 42]) (ids := [2, 8, 510, 28900]) rfl rfl ?_)
           refine At.thenK (At.keep (ts := [1, 2, 8, 9, 10, 11, 35, 36, 40, 41, 42]) (ids := [2, 8, 510, 28900]) rfl rfl ?_)
           exact At.conv (.cons .q (.cons .q (.cons .q (.cons .qb (.cons .qb (.cons .qi (.cons .qi (.cons .qi (.cons .q (.cons .qi (.cons .qi .nil))))))))))) (.cons .q (.cons .q (.cons .q (.cons .q .nil)))) (hK13 hi13 s13 H)
         · have H := of_false H hb21
           refine W.skip ?_
           refine At.thenC ?_
           refine W.seq ?_
           obtain ⟨hc22, H⟩ := of_must H
           refine W.region env [] [] rfl rfl rfl (.cons (⟨by first | rfl | (simp; done) | omega | (simp; omega), hc22⟩) (.cons (⟨by first | rfl | (simp; done) | omega | (simp; omega), (by have := hc22; first | omega | (simp only [List.length_set]; omega) | (simp only [Int.toNat_natCast] at *; omega) | (simp at this ⊢; omega))⟩) .nil)) .nil (At.keep (ts := [1, 2, 8, 9, 10, 11, 35, 36, 40, 41, 42]) (ids := [2, 8, 510, 28900]) rfl rfl ?_)
           refine At.convM (.cons (.refl _) (.cons (.refl _) (.cons (.refl _) (.cons (y := bufL 3 1 enc_Int (s13.set i11 (i13 : Int))) (BSim.seg (Seg.set (Seg.refl enc_Int _) (i13 : Int) rfl)) .nil)))) ?_
           refine At.thenC ?_
           refine W.seq ?_
           obtain ⟨y23, hy24, H⟩ := of_bindO H
           obtain ⟨y25, hy26, H⟩ := of_bindO H
           refine W.region env [] [⟨roL 1 enc_Int y23, [], 0, []⟩, ⟨.bool (y25), [], 0, []⟩] rfl rfl (by kernel_rfl) (.cons (by first | rfl | (simp; done) | omega | (simp; omega)) .nil) (.free (c_crew_shift__indices (⟨y1.1, p1⟩ : crew_shift) hy24) (.free (c_crew_shift__all fuel (⟨y1.1, p1⟩ : crew_shift) y23 (s13.set i11 (i13 : Int)) hy26) .nil)) (At.keep (ts := [1, 2, 8, 9, 10, 11, 35, 36, 40, 41, 42, 71]) (ids := [2, 8, 510, 28900]) rfl rfl ?_)
           refine At.thenC ?_
           refine W.cond rfl (fun hb27 => ?_) (fun hb27 => ?_)
           · have H := of_true H hb27
             refine W.exit ?_
             refine At.xpast rfl ?_
             refine At.xthen ?_
             refine At.xthen ?_
             refine At.xhere ?_
             refine At.thenC ?_
             obtain ⟨hc28, H⟩ := of_must H
             obtain ⟨hc29, H⟩ := of_must H
             obtain ⟨hc30, H⟩ := of_must H
             refine W.region env [] [] rfl rfl (by first | rfl | kernel_rfl) (.cons (⟨by first | rfl | (simp; done) | omega | (simp; omega), hc28⟩) (.cons (⟨by first | rfl | (simp; done) | omega | (simp; omega), (by have := hc28; first | omega | (simp only [List.length_set]; omega) | (simp only [Int.toNat_natCast] at *; omega) | (simp at this ⊢; omega))⟩) (.cons hc29 (.cons (⟨by first | rfl | (simp; done) | omega | (simp; omega), by have := hc30; first | simpa using this | (unfold room at this ⊢; simp at this ⊢; omega)⟩) .nil)))) .nil (At.keep (ts := [1, 2, 8, 9, 10, 35, 36]) (ids := [2, 8, 510, 28900]) rfl rfl ?_)
             refine At.convM (.cons (.refl _) (.cons (.refl _) (.cons (y := bufL 3 1 enc_Int (s11.2 ++ ([(p0.Hands.getD (((s13.set i11 (i13 : Int)).getD i11 default)).toNat default).Id] : List Int))) (BSim.seg (Seg.push (Seg.refl enc_Int _) (Seg.lit (f := enc_Int) (sz := 1) ([(p0.Hands.getD (((s13.set i11 (i13 : Int)).getD i11 default)).toNat default).Id] : List Int) rfl rfl (fun _ => rfl)))) (.cons (.refl _) .nil)))) ?_
             refine At.inb ?_
             refine At.thenC ?_
             refine W.region env [] [] rfl rfl rfl (.cons (by unfold inI; have := hn11; (try unfold maxLen at this); omega) .nil) .nil (At.keep (ts := [1, 2, 8, 9, 10, 35, 36]) (ids := [2, 8, 510, 28900]) rfl rfl ?_)
             refine At.thenK (At.keep (ts := [1, 2, 8, 9, 10, 35, 36]) (ids := [2, 8, 510, 28900]) rfl rfl ?_)
             exact At.conv (.cons .q (.cons .q (.cons .q (.cons .qb (.cons .qb (.cons .qi (.cons .qi .nil))))))) (.cons .q (.cons .q (.cons .q (.cons .q .nil)))) (hK11 hi11 ((s13.set i11 (i13 : Int)), (s11.2 ++ ([(p0.Hands.getD (((s13.set i11 (i13 : Int)).getD i11 default)).toNat default).Id] : List Int))) H)
           · have H := of_false H hb27
             refine W.skip ?_
             refine At.inb ?_
             refine At.thenC ?_
             refine W.region env [] [] rfl rfl rfl (.cons (by unfold inI; have := hn13; (try unfold maxLen at this); omega) .nil) .nil (At.keep (ts := [1, 2, 8, 9, 10, 11, 35, 36, 40, 41, 42]) (ids := [2, 8, 510, 28900]) rfl rfl ?_)
             refine At.thenK (At.keep (ts := [1, 2, 8, 9, 10, 11, 35, 36, 40, 41, 42]) (ids := [2, 8, 510, 28900]) rfl rfl ?_)
             exact At.conv (.cons .q (.cons .q (.cons .q (.cons .qb (.cons .qb (.cons .qi (.cons .qi (.cons .qi (.cons .q (.cons .qi (.cons .qi .nil))))))))))) (.cons .q (.cons .q (.cons .q (.cons .q .nil)))) (hK13 hi13 (s13.set i11 (i13 : Int)) H)
       · have H := H2 (by have := of_decide_eq_false hb14; omega)
         refine W.exit ?_
         refine At.xthen ?_
         refine At.xthen ?_
         refine At.xhere ?_
         refine At.thenC ?_
         obtain ⟨hc31, H⟩ := of_must H
         obtain ⟨hc32, H⟩ := of_must H
         obtain ⟨hc33, H⟩ := of_must H
         refine W.region env [] [] rfl rfl (by first | rfl | kernel_rfl) (.cons (⟨by first | rfl | (simp; done) | omega | (simp; omega), hc31⟩) (.cons (⟨by first | rfl | (simp; done) | omega | (simp; omega), (by have := hc31; first | omega | (simp only [List.length_set]; omega) | (simp only [Int.toNat_natCast] at *; omega) | (simp at this ⊢; omega))⟩) (.cons hc32 (.cons (⟨by first | rfl | (simp; done) | omega | (simp; omega), by have := hc33; first | simpa using this | (unfold room at this ⊢; simp at this ⊢; omega)⟩) .nil)))) .nil (At.keep (ts := [1, 2, 8, 9, 10, 35, 36]) (ids := [2, 8, 510, 28900]) rfl rfl ?_)
         refine At.convM (.cons (.refl _) (.cons (.refl _) (.cons (y := bufL 3 1 enc_Int (s11.2 ++ ([(p0.Hands.getD ((s13.getD i11 default)).toNat default).Id] : List Int))) (BSim.seg (Seg.push (Seg.refl enc_Int _) (Seg.lit (f := enc_Int) (sz := 1) ([(p0.Hands.getD ((s13.getD i11 default)).toNat default).Id] : List Int) rfl rfl (fun _ => rfl)))) (.cons (.refl _) .nil)))) ?_
         refine At.inb ?_
         refine At.thenC ?_
         refine W.region env [] [] rfl rfl rfl (.cons (by unfold inI; have := hn11; (try unfold maxLen at this); omega) .nil) .nil (At.keep (ts := [1, 2, 8, 9, 10, 35, 36]) (ids := [2, 8, 510, 28900]) rfl rfl ?_)
         refine At.thenK (At.keep (ts := [1, 2, 8, 9, 10, 35, 36]) (ids := [2, 8, 510, 28900]) rfl rfl ?_)
         exact At.conv (.cons .q (.cons .q (.cons .q (.cons .qb (.cons .qb (.cons .qi (.cons .qi .nil))))))) (.cons .q (.cons .q (.cons .q (.cons .q .nil)))) (hK11 hi11 (s13, (s11.2 ++ ([(p0.Hands.getD ((s13.getD i11 default)).toNat default).Id] : List Int))) H)
     · have H := H2 (by have := of_decide_eq_false hb12; omega)
       refine W.exit ?_
       refine At.xthen ?_
       refine At.xthen ?_
       refine At.xhere ?_
       refine At.thenC ?_
       refine W.rg env [4, 5] [510] ?_
       refine W.ret ?_
       cases H
       exact At.ret env.ty rfl rfl (fun q hq => by cases hq; exact (by first | rfl | (simp; done) | omega | (simp; omega))) (.refl _) hval
theorem c_slices_Clone_Task (p0 : (List Task)) {r : (List Task)} (H : slices_Clone_Task p0 = some r) : Ctr Try.prog 103 [roL 4 enc_Task p0] (roL 4 enc_Task r) := by
 unfold slices_Clone_Task at H
 refine Ctr.of_body (N := 8) Try.func103 (by kernel_rfl) (c := _) rfl Try.ntmps103 rfl (fun w0 h0 hval => ?_)
 refine W.rg env [0] [] ?_
 refine W.seq ?_
 refine W.rg env [0, 4] [] ?_
 refine W.condNz rfl (fun hz => ?_) ?_
 · obtain rfl : p0 = [] := List.length_eq_zero_iff.1 hz
   obtain ⟨hc1, H⟩ := of_must H
   refine W.rg env [2] [] ?_
   refine W.ret ?_
   refine At.rthen ?_
   cases H
   exact At.ret env.ty rfl rfl (fun q hq => by cases hq) (Sim.nil _ _) hval
 · refine W.skip ?_
   refine At.thenC ?_
   refine W.seq ?_
   obtain ⟨hc1, H⟩ := of_must H
   refine W.region env [5] [] rfl rfl rfl (.cons (⟨by first | rfl | (simp; done) | omega | (simp; omega), by have := hc1; first | simpa using this | (unfold room at this ⊢; simp at this ⊢; omega)⟩) .nil) .nil (At.keep (ts := [2]) (ids := [5]) rfl rfl ?_)
   refine At.convM (.cons (y := bufL 67 4 enc_Task (([] : List Task) ++ p0)) (BSim.seg (Seg.push (Seg.lit (f := enc_Task) (sz := 4) ([] : List Task) rfl rfl (fun _ => rfl)) (Seg.refl enc_Task p0))) .nil) ?_
   refine At.thenC ?_
   refine W.ret ?_
   cases H
   exact At.ret env.ty rfl rfl (fun q hq => by cases hq; exact (by first | rfl | (simp; done) | omega | (simp; omega))) (.refl _) hval
theorem c_slices_Clone_Hand (p0 : (List Hand)) {r : (List Hand)} (H : slices_Clone_Hand p0 = some r) : Ctr Try.prog 104 [roL 3 enc_Hand p0] (roL 3 enc_Hand r) := by
 unfold slices_Clone_Hand at H
 refine Ctr.of_body (N := 8) Try.func104 (by kernel_rfl) (c := _) rfl Try.ntmps104 rfl (fun w0 h0 hval => ?_)
 refine W.rg env [0] [] ?_
 refine W.seq ?_
 refine W.rg env [0, 4] [] ?_
 refine W.condNz rfl (fun hz => ?_) ?_
 · obtain rfl : p0 = [] := List.length_eq_zero_iff.1 hz
   obtain ⟨hc1, H⟩ := of_must H
   refine W.rg env [2] [] ?_
   refine W.ret ?_
   refine At.rthen ?_
   cases H
   exact At.ret env.ty rfl rfl (fun q hq => by cases hq) (Sim.nil _ _) hval
 · refine W.skip ?_
   refine At.thenC ?_
   refine W.seq ?_
   obtain ⟨hc1, H⟩ := of_must H
   refine W.region env [5] [] rfl rfl rfl (.cons (⟨by first | rfl | (simp; done) | omega | (simp; omega), by have := hc1; first | simpa using this | (unfold room at this ⊢; simp at this ⊢; omega)⟩) .nil) .nil (At.keep (ts := [2]) (ids := [5]) rfl rfl ?_)
   refine At.convM (.cons (y := bufL 59 3 enc_Hand (([] : List Hand) ++ p0)) (BSim.seg (Seg.push (Seg.lit (f := enc_Hand) (sz := 3) ([] : List Hand) rfl rfl (fun _ => rfl)) (Seg.refl enc_Hand p0))) .nil) ?_
   refine At.thenC ?_
   refine W.ret ?_
   cases H
   exact At.ret env.ty rfl rfl (fun q hq => by cases hq; exact (by first | rfl | (simp; done) | omega | (simp; omega))) (.refl _) hval
theorem c_slices_Clone_Range (p0 : (List Range)) {r : (List Range)} (H : slices_Clone_Range p0 = some r) : Ctr Try.prog 105 [roL 2 enc_Range p0] (roL 2 enc_Range r) := by
 unfold slices_Clone_Range at H
 refine Ctr.of_body (N := 8) Try.func105 (by kernel_rfl) (c := _) rfl Try.ntmps105 rfl (fun w0 h0 hval => ?_)
 refine W.rg env [0] [] ?_
 refine W.seq ?_
 refine W.rg env [0, 4] [] ?_
 refine W.condNz rfl (fun hz => ?_) ?_
 · obtain rfl : p0 = [] := List.length_eq_zero_iff.1 hz
   obtain ⟨hc1, H⟩ := of_must H
   refine W.rg env [2] [] ?_
   refine W.ret ?_
   refine At.rthen ?_
   cases H
   exact At.ret env.ty rfl rfl (fun q hq => by cases hq) (Sim.nil _ _) hval
 · refine W.skip ?_
   refine At.thenC ?_
   refine W.seq ?_
   obtain ⟨hc1, H⟩ := of_must H
   refine W.region env [5] [] rfl rfl rfl (.cons (⟨by first | rfl | (simp; done) | omega | (simp; omega), by have := hc1; first | simpa using this | (unfold room at this ⊢; simp at this ⊢; omega)⟩) .nil) .nil (At.keep (ts := [2]) (ids := [5]) rfl rfl ?_)
   refine At.convM (.cons (y := bufL 49 2 enc_Range (([] : List Range) ++ p0)) (BSim.seg (Seg.push (Seg.lit (f := enc_Range) (sz := 2) ([] : List Range) rfl rfl (fun _ => rfl)) (Seg.refl enc_Range p0))) .nil) ?_
   refine At.thenC ?_
   refine W.ret ?_
   cases H
   exact At.ret env.ty rfl rfl (fun q hq => by cases hq; exact (by first | rfl | (simp; done) | omega | (simp; omega))) (.refl _) hval
theorem c_crew_copied (p0 : Crew) {r : Crew} (H : crew_copied p0 = some r) : Ctr Try.prog 83 [.agg [roL 4 enc_Task p0.Tasks, roL 1 enc_ListRange p0.Travel, roL 3 enc_Hand p0.Hands]] (.agg [roL 4 enc_Task r.Tasks, roL 1 enc_ListRange r.Travel, roL 3 enc_Hand r.Hands]) := by
 unfold crew_copied at H
 refine Ctr.of_body (N := 29) Try.func83 (by kernel_rfl) (c := _) rfl Try.ntmps83 rfl (fun w0 h0 hval => ?_)
 refine W.rg env [1, 2] [1, 2] ?_
 refine W.seq ?_
 obtain ⟨y1, hy2, H⟩ := of_bindO H
 obtain ⟨y3, hy4, H⟩ := of_bindO H
 refine W.region env [] [⟨roL 4 enc_Task y1, [], 0, []⟩, ⟨roL 3 enc_Hand y3, [], 0, []⟩] rfl rfl (by kernel_rfl) .nil (.free (c_slices_Clone_Task p0.Tasks hy2) (.free (c_slices_Clone_Hand p0.Hands hy4) .nil)) (At.keep (ts := [1, 2, 3]) (ids := [1, 2, 3]) rfl rfl ?_)
 refine At.thenC ?_
 refine W.seq ?_
 refine W.rg env [2, 3, 14, 15, 16] [2, 3] ?_
 refine W.block ?_
 refine At.nilOwnCell 3 1 751 71 1 (e := fun i => enc_ListRange (([] : List (List Range)).getD i default)) rfl rfl rfl ?_
 refine At.keep (ts := [2, 3, 14, 15, 16]) (ids := [2, 3, 751]) rfl rfl ?_
 refine W.len (t := 14) rfl (fun (hn5 : p0.Travel.length ≤ maxLen) => ?_)
 refine W.rangeGo H (fun i5 (s5 : (List (List Range))) => [(2, .lp 2 0), (3, .lp 3 0), (14, roL 1 enc_ListRange p0.Travel), (15, .int .i64 (((p0.Travel.length : Nat) : Int))), (16, .int .i64 ((i5 : Int)))]) (fun i5 (s5 : (List (List Range))) => [(2, .cells [.nilS, .nilS, .nilS]), (3, .cells [roL 4 enc_Task y1, .buf 751 (s5).length, roL 3 enc_Hand y3]), (751, bufL 71 1 enc_ListRange s5)]) (.cons .q (.cons .q (.cons .q (.cons .qi (.cons .qi .nil))))) (.cons .q (.cons (BSim.cells (.cons .q (.cons .qc (.cons .q .nil)))) (.cons .q .nil))) (fun k5 i5 s5 hle5 H1 H2 K0 hK5 => ?_)
 refine W.rg env [2, 3, 14, 15, 16, 17] [2, 3, 751] ?_
 refine W.seq ?_
 refine W.cond rfl (fun hb6 => ?_) (fun hb6 => ?_)
 · have hi5 : i5 < p0.Travel.length := by have := of_decide_eq_true hb6; omega
   have H := H1 hi5
   refine W.skip ?_
   refine At.thenC ?_
   refine W.seq ?_
   refine W.block ?_
   refine W.sr env [] [] [2, 3, 5, 14, 15, 16] [2, 3, 751] rfl rfl rfl (.cons (⟨by omega, by omega⟩ : 0 ≤ (i5 : Int) ∧ (i5 : Int) < ((p0.Travel.length : Nat) : Int)) .nil) .nil ?_
   obtain ⟨y7, hy8, H⟩ := of_bindO H
   obtain ⟨hc9, H⟩ := of_must H
   refine W.region env [] [⟨roL 2 enc_Range y7, [], 0, []⟩] rfl rfl (by kernel_rfl) (.cons (⟨by first | rfl | (simp; done) | omega | (simp; omega), by have := hc9; first | simpa using this | (unfold room at this ⊢; simp at this ⊢; omega)⟩) .nil) (.free (c_slices_Clone_Range (p0.Travel.getD i5 default) hy8) .nil) (At.keep (ts := [2, 3, 14, 15, 16]) (ids := [2, 3, 751]) rfl rfl ?_)
   refine At.convM (.cons (.refl _) (.cons (.refl _) (.cons (y := bufL 71 1 enc_ListRange (s5 ++ ([y7] : List (List Range)))) (BSim.seg (Seg.push (Seg.refl enc_ListRange _) (Seg.lit (f := enc_ListRange) (sz := 1) ([y7] : List (List Range)) rfl rfl (fun _ => rfl)))) .nil))) ?_
   refine At.inb ?_
   refine At.thenC ?_
   refine W.region env [] [] rfl rfl rfl (.cons (by unfold inI; have := hn5; (try unfold maxLen at this); omega) .nil) .nil (At.keep (ts := [2, 3, 14, 15, 16]) (ids := [2, 3, 751]) rfl rfl ?_)
   refine At.thenK (At.keep (ts := [2, 3, 14, 15, 16]) (ids := [2, 3, 751]) rfl rfl ?_)
   exact At.conv (.cons .q (.cons .q (.cons .q (.cons .qi (.cons .qi .nil))))) (.cons .q (.cons (BSim.cells (.cons .q (.cons .qc (.cons .q .nil)))) (.cons .q .nil))) (hK5 hi5 (s5 ++ ([y7] : List (List Range))) H)
 · have H := H2 (by have := of_decide_eq_false hb6; omega)
   refine W.exit ?_
   refine At.xthen ?_
   refine At.xthen ?_
   refine At.xhere ?_
   refine At.thenC ?_
   refine W.rg env [2] [2, 751] ?_
   refine W.ret ?_
   cases H
   exact At.ret env.ty rfl rfl (fun q hq => by cases hq; exact (by first | rfl | (simp; done) | omega | (simp; omega))) (.refl _) hval
theorem c_slices_IndexFunc_Hand (p0 : (List Hand)) (p1 : Hand → Option Bool) (p1_g : Nat) (p1_a p1_b : List AV) (p1_h : ∀ x0 r, p1 x0 = some r → Ctr Try.prog p1_g (p1_a ++ ([.agg [.int .i64 (x0.Id), .int .i64 (x0.From), .int .i64 (x0.To)]] ++ p1_b)) (.bool (r))) {r : Int} (H : slices_IndexFunc_Hand p0 p1 = some r) : Ctr Try.prog 79 [roL 3 enc_Hand p0, .clo (.func p1_g) p1_a p1_b] (.int .i64 (r)) := by
 unfold slices_IndexFunc_Hand at H
 refine Ctr.of_body (N := 19) Try.func79 (by kernel_rfl) (c := _) rfl Try.ntmps79 rfl (fun w0 h0 hval => ?_)
 refine W.rg env [0, 1] [] ?_
 refine W.seq ?_
 refine W.rg env [0, 1, 7, 8] [] ?_
 refine W.block ?_
 refine At.keep (ts := [0, 1, 7, 8]) (ids := []) rfl rfl ?_
 refine W.len (t := 0) rfl (fun (hn1 : p0.length ≤ maxLen) => ?_)
 refine W.rangeGo H (fun i1 (s1 : Unit) => [(0, roL 3 enc_Hand p0), (1, .clo (.func p1_g) p1_a p1_b), (7, .int .i64 (((p0.length : Nat) : Int))), (8, .int .i64 ((i1 : Int)))]) (fun i1 (s1 : Unit) => []) (.cons .q (.cons .q (.cons .qi (.cons .qi .nil)))) .nil (fun k1 i1 s1 hle1 H1 H2 K0 hK1 => ?_)
 refine W.rg env [0, 1, 7, 8, 9] [] ?_
 refine W.seq ?_
 refine W.cond rfl (fun hb2 => ?_) (fun hb2 => ?_)
 · have hi1 : i1 < p0.length := by have := of_decide_eq_true hb2; omega
   have H := H1 hi1
   refine W.skip ?_
   refine At.thenC ?_
   refine W.seq ?_
   refine W.block ?_
   refine W.rg env [0, 1, 5, 7, 8] [] ?_
   refine W.seq ?_
   obtain ⟨y3, hy4, H⟩ := of_bindO H
   refine W.region env [] [⟨.bool (y3), [], 0, []⟩] rfl rfl rfl (.cons (⟨by omega, by omega⟩ : 0 ≤ (i1 : Int) ∧ (i1 : Int) < ((p0.length : Nat) : Int)) .nil) (.free (p1_h (p0.getD i1 default) _ hy4) .nil) (At.keep (ts := [0, 1, 5, 7, 8, 16]) (ids := []) rfl rfl ?_)
   refine At.thenC ?_
   refine W.cond rfl (fun hb5 => ?_) (fun hb5 => ?_)
   · have H := of_true H hb5
     refine W.rg env [4] [] ?_
     refine W.ret ?_
     refine At.rinb ?_
     refine At.rthen ?_
     refine At.rthen ?_
     refine At.rinb ?_
     refine At.rthen ?_
     cases H
     exact At.ret env.ty rfl rfl (fun q hq => by cases hq) (.refl _) hval
   · have H := of_false H hb5
     refine W.skip ?_
     refine At.inb ?_
     refine At.thenC ?_
     refine W.region env [] [] rfl rfl rfl (.cons (by unfold inI; have := hn1; (try unfold maxLen at this); omega) .nil) .nil (At.keep (ts := [0, 1, 7, 8]) (ids := []) rfl rfl ?_)
     refine At.thenK (At.keep (ts := [0, 1, 7, 8]) (ids := []) rfl rfl ?_)
     exact At.conv (.cons .q (.cons .q (.cons .qi (.cons .qi .nil)))) .nil (hK1 hi1 () H)
 · have H := H2 (by have := of_decide_eq_false hb2; omega)
   refine W.exit ?_
   refine At.xthen ?_
   refine At.xthen ?_
   refine At.xhere ?_
   refine At.thenC ?_
   refine W.rg env [4] [] ?_
   refine W.ret ?_
   cases H
   exact At.ret env.ty rfl rfl (fun q hq => by cases hq) (.refl _) hval
theorem c_crew_Ill_1 (p0 : Hand) (c0 : Int) : Ctr Try.prog 84 [.agg [.int .i64 (p0.Id), .int .i64 (p0.From), .int .i64 (p0.To)], .rp [.int .i64 (c0)]] (.bool ((crew_Ill_1 p0 c0))) := by
 obtain ⟨r, H⟩ : ∃ r, crew_Ill_1 p0 c0 = r := ⟨_, rfl⟩
 rw [H]
 unfold crew_Ill_1 at H
 refine Ctr.of_body (N := 8) Try.func84 (by kernel_rfl) (c := _) rfl Try.ntmps84 rfl (fun w0 h0 hval => ?_)
 refine W.rg env [1, 2] [2] ?_
 refine W.rg env [3] [] ?_
 refine W.ret ?_
 cases H
 exact At.ret env.ty rfl rfl (fun q hq => by cases hq) (.refl _) hval
theorem co_slices_Clone_Hand (p0 : (List Hand)) {r : (List Hand)} (H : slices_Clone_Hand p0 = some r) : CtrO Try.prog 104 [roL 3 enc_Hand p0] [] (.buf 900 r.length) [(900, bufL 59 3 enc_Hand r)] := by
 unfold slices_Clone_Hand at H
 refine CtrO.of_body (N := 8) Try.func104 (by kernel_rfl) (c := _) rfl Try.ntmps104 rfl (fun w0 h0 ρb hval hdom => ?_)
 refine W.rg env [0] [] ?_
 refine W.seq ?_
 refine W.rg env [0, 4] [] ?_
 refine W.condNz rfl (fun hz => ?_) ?_
 · obtain rfl : p0 = [] := List.length_eq_zero_iff.1 hz
   obtain ⟨hc1, H⟩ := of_must H
   refine W.rg env [2] [] ?_
   refine W.ret ?_
   refine At.rthen ?_
   cases H
   refine At.nilOwn 2 800 59 3 (e := fun i => enc_Hand (([] : List Hand).getD i default)) rfl rfl ?_
   exact At.retK env.ty [800] 100 rfl rfl rfl rfl (.cons (.refl _) .nil) (.of_eq (by refine bufEq ?_; first | (simp [copyAt]; done) | omega | (simp [copyAt]; omega) | rfl)) hval hdom rfl
 · refine W.skip ?_
   refine At.thenC ?_
   refine W.seq ?_
   obtain ⟨hc1, H⟩ := of_must H
   refine W.region env [5] [] rfl rfl rfl (.cons (⟨by first | rfl | (simp; done) | omega | (simp; omega), by have := hc1; first | simpa using this | (unfold room at this ⊢; simp at this ⊢; omega)⟩) .nil) .nil (At.keep (ts := [2]) (ids := [5]) rfl rfl ?_)
   refine At.convM (.cons (y := bufL 59 3 enc_Hand (([] : List Hand) ++ p0)) (BSim.seg (Seg.push (Seg.lit (f := enc_Hand) (sz := 3) ([] : List Hand) rfl rfl (fun _ => rfl)) (Seg.refl enc_Hand p0))) .nil) ?_
   refine At.thenC ?_
   refine W.ret ?_
   cases H
   exact At.retK env.ty [5] 895 rfl rfl rfl rfl (.cons (.refl _) .nil) (.of_eq (by refine bufEq ?_; first | (simp [copyAt]; done) | omega | (simp [copyAt]; omega) | rfl)) hval hdom rfl
theorem co_crew_copied_o1_2 (p0 : Crew) {r : Crew} (H : crew_copied p0 = some r) : CtrO Try.prog 83 [.agg [roL 4 enc_Task p0.Tasks, roL 1 enc_ListRange p0.Travel, roL 3 enc_Hand p0.Hands]] [] (.agg [roL 4 enc_Task r.Tasks, .buf 940 (r.Travel).length, .buf 941 (r.Hands).length]) [(940, bufL 71 1 enc_ListRange r.Travel), (941, bufL 59 3 enc_Hand r.Hands)] := by
 unfold crew_copied at H
 refine CtrO.of_body (N := 29) Try.func83 (by kernel_rfl) (c := _) rfl Try.ntmps83 rfl (fun w0 h0 ρb hval hdom => ?_)
 refine W.rg env [1, 2] [1, 2] ?_
 refine W.seq ?_
 obtain ⟨y1, hy2, H⟩ := of_bindO H
 obtain ⟨y3, hy4, H⟩ := of_bindO H
 refine W.region env [] [⟨roL 4 enc_Task y1, [], 0, []⟩, ⟨.buf 900 y3.length, [(900, bufL 59 3 enc_Hand y3)], 12000, []⟩] rfl rfl (by kernel_rfl) .nil (.free (c_slices_Clone_Task p0.Tasks hy2) (.free ((Ctr.ofO (co_slices_Clone_Hand p0.Hands hy4))) .nil)) (At.keep (ts := [1, 2, 3]) (ids := [1, 2, 3, 12900]) rfl rfl ?_)
 refine At.thenC ?_
 refine W.seq ?_
 refine W.rg env [2, 3, 14, 15, 16] [2, 3, 12900] ?_
 refine W.block ?_
 refine At.nilOwnCell 3 1 751 71 1 (e := fun i => enc_ListRange (([] : List (List Range)).getD i default)) rfl rfl rfl ?_
 refine At.keep (ts := [2, 3, 14, 15, 16]) (ids := [2, 3, 751, 12900]) rfl rfl ?_
 refine W.len (t := 14) rfl (fun (hn5 : p0.Travel.length ≤ maxLen) => ?_)
 refine W.rangeGo H (fun i5 (s5 : (List (List Range))) => [(2, .lp 2 0), (3, .lp 3 0), (14, roL 1 enc_ListRange p0.Travel), (15, .int .i64 (((p0.Travel.length : Nat) : Int))), (16, .int .i64 ((i5 : Int)))]) (fun i5 (s5 : (List (List Range))) => [(2, .cells [.nilS, .nilS, .nilS]), (3, .cells [roL 4 enc_Task y1, .buf 751 (s5).length, .buf 12900 (y3).length]), (751, bufL 71 1 enc_ListRange s5), (12900, bufL 59 3 enc_Hand y3)]) (.cons .q (.cons .q (.cons .q (.cons .qi (.cons .qi .nil))))) (.cons .q (.cons (BSim.cells (.cons .q (.cons .qc (.cons .qc .nil)))) (.cons .q (.cons .q .nil)))) (fun k5 i5 s5 hle5 H1 H2 K0 hK5 => ?_)
 refine W.rg env [2, 3, 14, 15, 16, 17] [2, 3, 751, 12900] ?_
 refine W.seq ?_
 refine W.cond rfl (fun hb6 => ?_) (fun hb6 => ?_)
 · have hi5 : i5 < p0.Travel.length := by have := of_decide_eq_true hb6; omega
   have H := H1 hi5
   refine W.skip ?_
   refine At.thenC ?_
   refine W.seq ?_
   refine W.block ?_
   refine W.sr env [] [] [2, 3, 5, 14, 15, 16] [2, 3, 751, 12900] rfl rfl rfl (.cons (⟨by omega, by omega⟩ : 0 ≤ (i5 : Int) ∧ (i5 : Int) < ((p0.Travel.length : Nat) : Int)) .nil) .nil ?_
   obtain ⟨y7, hy8, H⟩ := of_bindO H
   obtain ⟨hc9, H⟩ := of_must H
   refine W.region env [] [⟨roL 2 enc_Range y7, [], 0, []⟩] rfl rfl (by kernel_rfl) (.cons (⟨by first | rfl | (simp; done) | omega | (simp; omega), by have := hc9; first | simpa using this | (unfold room at this ⊢; simp at this ⊢; omega)⟩) .nil) (.free (c_slices_Clone_Range (p0.Travel.getD i5 default) hy8) .nil) (At.keep (ts := [2, 3, 14, 15, 16]) (ids := [2, 3, 751, 12900]) rfl rfl ?_)
   refine At.convM (.cons (.refl _) (.cons (.refl _) (.cons (y := bufL 71 1 enc_ListRange (s5 ++ ([y7] : List (List Range)))) (BSim.seg (Seg.push (Seg.refl enc_ListRange _) (Seg.lit (f := enc_ListRange) (sz := 1) ([y7] : List (List Range)) rfl rfl (fun _ => rfl)))) (.cons (.refl _) .nil)))) ?_
   refine At.inb ?_
   refine At.thenC ?_
   refine W.region env [] [] rfl rfl rfl (.cons (by unfold inI; have := hn5; (try unfold maxLen at this); omega) .nil) .nil (At.keep (ts := [2, 3, 14, 15, 16]) (ids := [2, 3, 751, 12900]) rfl rfl ?_)
   refine At.thenK (At.keep (ts := [2, 3, 14, 15, 16]) (ids := [2, 3, 751, 12900]) rfl rfl ?_)
   exact At.conv (.cons .q (.cons .q (.cons .q (.cons .qi (.cons .qi .nil))))) (.cons .q (.cons (BSim.cells (.cons .q (.cons .qc (.cons .qc .nil)))) (.cons .q (.cons .q .nil)))) (hK5 hi5 (s5 ++ ([y7] : List (List Range))) H)
 · have H := H2 (by have := of_decide_eq_false hb6; omega)
   refine W.exit ?_
   refine At.xthen ?_
   refine At.xthen ?_
   refine At.xhere ?_
   refine At.thenC ?_
   refine W.rg env [2] [2, 751, 12900] ?_
   refine W.ret ?_
   cases H
   refine At.ren [(751, 940), (12900, 941)] (K := [2, 751, 12900]) (ts := [2]) rfl rfl rfl rfl rfl ?_
   exact At.retK env.ty [940, 941] 0 rfl rfl rfl rfl (.cons (.refl _) (.cons (.refl _) .nil)) (Sim.aggL (.cons (.refl _) (.cons .qc (.cons .qc .nil)))) hval hdom rfl
theorem co_slices_Delete_Hand (p0 : (List Hand)) (p1 : Int) (p2 : Int) {r : (List Hand)} (H : slices_Delete_Hand p0 p1 p2 = some r) : CtrO Try.prog 85 [.buf 700 (p0).length, .int .i64 (p1), .int .i64 (p2)] [(700, bufL 59 3 enc_Hand p0)] (.buf 900 r.length) [(900, bufL 59 3 enc_Hand r)] := by
 unfold slices_Delete_Hand at H
 refine CtrO.of_body (N := 33) Try.func85 (by kernel_rfl) (c := _) rfl Try.ntmps85 rfl (fun w0 h0 ρb hval hdom => ?_)
 refine W.rg env [0, 1, 2] [700] ?_
 obtain ⟨hc1, H⟩ := of_must H
 refine W.sr env [] [] [0, 1, 2] [700] rfl rfl rfl (.cons (by first | rfl | (simp; done) | omega | (simp; omega)) (.cons (⟨by first | rfl | (simp; done) | omega | (simp; omega), hc1⟩) .nil)) .nil ?_
 refine W.seq ?_
 refine W.rg env [0, 1, 2, 16] [700] ?_
 refine W.cond rfl (fun hb2 => ?_) (fun hb2 => ?_)
 · have H := of_true H hb2
   refine W.rg env [6] [700] ?_
   refine W.ret ?_
   refine At.rthen ?_
   cases H
   exact At.retK env.ty [700] 200 rfl rfl rfl rfl (.cons (.refl _) .nil) (.of_eq (by refine bufEq ?_; first | (simp [copyAt]; done) | omega | (simp [copyAt]; omega) | rfl)) hval hdom rfl
 · have H := of_false H hb2
   refine W.skip ?_
   refine At.thenC ?_
   refine W.sr env [] [] [0, 1, 2, 7] [700] rfl rfl rfl (.cons (by first | rfl | (simp; done) | omega | (simp; omega)) .nil) .nil ?_
   refine W.seq ?_
   obtain ⟨hc3, H⟩ := of_must H
   obtain ⟨hc4, H⟩ := of_must H
   obtain ⟨hc5, H⟩ := of_must H
   refine W.region env [] [] rfl rfl (by first | rfl | kernel_rfl) (.cons (⟨by first | rfl | (simp; done) | omega | (simp; omega), hc3⟩) (.cons (⟨by first | rfl | (simp; done) | omega | (simp; omega), hc4⟩) (.cons (⟨rfl, rfl, by omega, by omega, by omega⟩) .nil))) .nil (At.keep (ts := [0, 7]) (ids := [26]) rfl rfl ?_)
   refine At.convM (.cons (y := bufkL 59 3 p0.length enc_Hand (p0.take ((p1).toNat) ++ p0.drop ((p2).toNat))) (BSim.kseg (Seg.moved (f := enc_Hand) (l := p0) ((p1).toNat) ((p2).toNat) (by omega) (by omega))) .nil) ?_
   refine At.thenC ?_
   refine W.seq ?_
   obtain ⟨hc6, H⟩ := of_must H
   refine W.region env [] [] rfl rfl rfl (.cons (by first | rfl | (simp; done) | omega | (simp; omega)) (.cons (⟨by first | rfl | (simp; done) | omega | (simp; omega), hc6⟩) (.cons (⟨by first | rfl | (simp; done) | omega | (simp; omega), by first | rfl | (simp; done) | omega | (simp; omega), by first | omega | (simp; omega)⟩) .nil))) .nil (At.keep (ts := [0]) (ids := [26]) rfl rfl ?_)
   refine At.convM (.cons (y := bufkL 59 3 p0.length enc_Hand (p0.take ((p1).toNat) ++ p0.drop ((p2).toNat))) (BSim.kseg (Seg.refl enc_Hand _)) .nil) ?_
   refine At.thenC ?_
   refine W.rg env [6] [26] ?_
   refine W.ret ?_
   cases H
   exact At.retK env.ty [26] 874 rfl rfl rfl rfl (.cons (.bufk (.refl _)) .nil) (.of_eq (by refine bufEq ?_; first | (simp [copyAt]; done) | omega | (simp [copyAt]; omega) | rfl)) hval hdom rfl
theorem c_crew_Ill (p0 : Crew) (p1 : Int) (p2 : Int) {r : (Crew × Int)} (H : crew_Ill p0 p1 p2 = some r) : Ctr Try.prog 36 [.agg [roL 4 enc_Task p0.Tasks, roL 1 enc_ListRange p0.Travel, roL 3 enc_Hand p0.Hands], .int .i64 (p1), .int .i64 (p2)] (.tup [.agg [roL 4 enc_Task r.1.Tasks, roL 1 enc_ListRange r.1.Travel, roL 3 enc_Hand r.1.Hands], .int .i64 (r.2)]) := by
 unfold crew_Ill at H
 refine Ctr.of_body (N := 61) Try.func36 (by kernel_rfl) (c := _) rfl Try.ntmps36 rfl (fun w0 h0 hval => ?_)
 refine W.rg env [2, 3, 4, 6] [3, 4, 6] ?_
 refine W.seq ?_
 refine W.seq ?_
 obtain ⟨y1, hy2, H⟩ := of_bindO H
 refine W.region env [] [⟨.int .i64 (y1), [], 0, []⟩] rfl rfl rfl .nil (.free (c_crew_Check p0 hy2) .nil) (At.keep (ts := [2, 3, 4, 6, 8]) (ids := [3, 4, 6]) rfl rfl ?_)
 refine At.thenC ?_
 refine W.rg env [2, 3, 4, 6, 8, 15] [3, 4, 6] ?_
 refine W.cond rfl (fun hb3 => ?_) (fun hb3 => ?_)
 · have H := of_true H hb3
   refine W.rg env [6, 7] [6] ?_
   refine W.ret ?_
   refine At.rthen ?_
   cases H
   exact At.ret env.ty rfl rfl (fun q hq => by cases hq) (Sim.tupL (.cons (Sim.aggL (.cons (Sim.nil _ _) (.cons (Sim.nil _ _) (.cons (Sim.nil _ _) .nil)))) (.cons (.refl _) .nil))) hval
 · have H := of_false H hb3
   refine W.skip ?_
   refine At.thenC ?_
   refine W.seq ?_
   refine W.sr env [] [⟨.bool ((crew_isMinute p2)), [], 0, []⟩] [2, 3, 4, 6, 20] [3, 4, 6] rfl rfl rfl .nil (.free (c_crew_isMinute p2) .nil) ?_
   refine W.cond rfl (fun hb4 => ?_) (fun hb4 => ?_)
   · have H := of_true H hb4
     refine W.rg env [6, 7] [6] ?_
     refine W.ret ?_
     refine At.rthen ?_
     cases H
     exact At.ret env.ty rfl rfl (fun q hq => by cases hq) (Sim.tupL (.cons (Sim.aggL (.cons (Sim.nil _ _) (.cons (Sim.nil _ _) (.cons (Sim.nil _ _) .nil)))) (.cons (.refl _) .nil))) hval
   · have H := of_false H hb4
     refine W.skip ?_
     refine At.thenC ?_
     refine W.seq ?_
     obtain ⟨y5, hy6, H⟩ := of_bindO H
     refine W.region env [] [⟨.agg [roL 4 enc_Task y5.Tasks, .buf 940 (y5.Travel).length, .buf 941 (y5.Hands).length], [(940, bufL 71 1 enc_ListRange y5.Travel), (941, bufL 59 3 enc_Hand y5.Hands)], 24000, []⟩] rfl rfl (by kernel_rfl) .nil (.free ((Ctr.ofO (co_crew_copied_o1_2 p0 hy6))) .nil) (At.keep (ts := [2, 4, 6, 9]) (ids := [4, 6, 9, 24940, 24941]) rfl rfl ?_)
     refine At.thenC ?_
     refine W.seq ?_
     obtain ⟨y7, hy8, H⟩ := of_bindO H
     refine W.region env [] [⟨.int .i64 (y7), [], 0, []⟩] rfl rfl rfl (.cons (by first | rfl | (simp; done) | omega | (simp; omega)) .nil) (.free (c_slices_IndexFunc_Hand y5.Hands (fun x0 => some (crew_Ill_1 x0 p1)) 84 [] ([.rp [.int .i64 (p1)]]) (fun x0 r h => by cases h; exact c_crew_Ill_1 x0 p1) hy8) .nil) (At.keep (ts := [2, 6, 9, 10]) (ids := [6, 9, 24940, 24941]) rfl rfl ?_)
     refine At.thenC ?_
     refine W.seq ?_
     refine W.rg env [2, 6, 9, 10, 29] [6, 9, 24940, 24941] ?_
     refine W.cond rfl (fun hb9 => ?_) (fun hb9 => ?_)
     · have H := of_true H hb9
       refine W.rg env [6, 7] [6] ?_
       refine W.ret ?_
       refine At.rthen ?_
       cases H
       exact At.ret env.ty rfl rfl (fun q hq => by cases hq) (Sim.tupL (.cons (Sim.aggL (.cons (Sim.nil _ _) (.cons (Sim.nil _ _) (.cons (Sim.nil _ _) .nil)))) (.cons (.refl _) .nil))) hval
     · have H := of_false H hb9
       refine W.skip ?_
       refine At.thenC ?_
       obtain ⟨hc10, H⟩ := of_must H
       refine W.sr env [] [] [2, 6, 9, 10, 11] [6, 9, 24940, 24941] rfl rfl rfl (.cons (⟨by first | rfl | (simp; done) | omega | (simp; omega), hc10⟩) .nil) .nil ?_
       refine W.seq ?_
       refine W.region env [] [] rfl rfl rfl (.cons (⟨by first | rfl | (simp; done) | omega | (simp; omega), (by have := hc10; first | omega | (simp only [List.length_set]; omega) | (simp only [Int.toNat_natCast] at *; omega) | (simp at this ⊢; omega))⟩) (.cons (⟨by first | rfl | (simp; done) | omega | (simp; omega), (by have := hc10; first | omega | (simp only [List.length_set]; omega) | (simp only [Int.toNat_natCast] at *; omega) | (simp at this ⊢; omega))⟩) .nil)) .nil (At.keep (ts := [6, 9, 10, 11]) (ids := [6, 9, 24940, 24941]) rfl rfl ?_)
       refine At.convM (.cons (.refl _) (.cons (.refl _) (.cons (.refl _) (.cons (y := bufL 59 3 enc_Hand (y5.Hands.set (y7).toNat (⟨(y5.Hands.getD (y7).toNat default).Id, (y5.Hands.getD (y7).toNat default).From, (min ((y5.Hands.getD (y7).toNat default).To) p2)⟩ : Hand))) (BSim.seg (Seg.set (Seg.refl enc_Hand _) (⟨(y5.Hands.getD (y7).toNat default).Id, (y5.Hands.getD (y7).toNat default).From, (min ((y5.Hands.getD (y7).toNat default).To) p2)⟩ : Hand) rfl)) .nil)))) ?_
       refine At.thenC ?_
       refine W.seq ?_
       refine W.sr env [] [] [6, 9, 10, 52] [6, 9, 24940, 24941] rfl rfl (by first | rfl | kernel_rfl) (.cons (⟨by first | rfl | (simp; done) | omega | (simp; omega), (by have := hc10; first | omega | (simp only [List.length_set]; omega) | (simp only [Int.toNat_natCast] at *; omega) | (simp at this ⊢; omega))⟩) (.cons (⟨by first | rfl | (simp; done) | omega | (simp; omega), (by have := hc10; first | omega | (simp only [List.length_set]; omega) | (simp only [Int.toNat_natCast] at *; omega) | (simp at this ⊢; omega))⟩) .nil)) .nil ?_
       refine W.cond rfl (fun hb11 => ?_) (fun hb11 => ?_)
       · have H := of_true H hb11
         obtain ⟨hc12, H⟩ := of_must H
         obtain ⟨y13, hy14, H⟩ := of_bindO H
         refine W.region env [] [⟨.buf 900 y13.length, [(24941, .dead), (900, bufL 59 3 enc_Hand y13)], 59000, []⟩] rfl rfl (by kernel_rfl) (.cons hc12 .nil) (.free (CtrO.sim (CtrO.at (co_slices_Delete_Hand (y5.Hands.set (y7).toNat (⟨(y5.Hands.getD (y7).toNat default).Id, (y5.Hands.getD (y7).toNat default).From, (min ((y5.Hands.getD (y7).toNat default).To) p2)⟩ : Hand)) y7 (y7 + 1) hy14) rfl 24941) (.cons .qc (.cons (.refl _) (.cons (.refl _) .nil))) (.cons (.refl _) .nil)) .nil) (At.keep (ts := [6, 9]) (ids := [6, 9, 24940, 59900]) rfl rfl ?_)
         refine At.thenC ?_
         refine W.rg env [6, 7] [6, 24940, 59900] ?_
         refine W.ret ?_
         cases H
         exact At.ret env.ty rfl rfl (fun q hq => by cases hq; exact ⟨by first | rfl | (simp; done) | omega | (simp; omega), (by first | rfl | (simp; done) | omega | (simp; omega))⟩) (.refl _) hval
       · have H := of_false H hb11
         refine W.skip ?_
         refine At.thenC ?_
         refine W.rg env [6, 7] [6, 24940, 24941] ?_
         refine W.ret ?_
         cases H
         exact At.ret env.ty rfl rfl (fun q hq => by cases hq; exact ⟨by first | rfl | (simp; done) | omega | (simp; omega), (by first | rfl | (simp; done) | omega | (simp; omega))⟩) (.refl _) hval
theorem c_slices_Clone_int (p0 : (List Int)) {r : (List Int)} (H : slices_Clone_int p0 = some r) : Ctr Try.prog 76 [roL 1 enc_Int p0] (roL 1 enc_Int r) := by
 unfold slices_Clone_int at H
 refine Ctr.of_body (N := 8) Try.func76 (by kernel_rfl) (c := _) rfl Try.ntmps76 rfl (fun w0 h0 hval => ?_)
 refine W.rg env [0] [] ?_
 refine W.seq ?_
 refine W.rg env [0, 4] [] ?_
 refine W.condNz rfl (fun hz => ?_) ?_
 · obtain rfl : p0 = [] := List.length_eq_zero_iff.1 hz
   obtain ⟨hc1, H⟩ := of_must H
   refine W.rg env [2] [] ?_
   refine W.ret ?_
   refine At.rthen ?_
   cases H
   exact At.ret env.ty rfl rfl (fun q hq => by cases hq) (Sim.nil _ _) hval
 · refine W.skip ?_
   refine At.thenC ?_
   refine W.seq ?_
   obtain ⟨hc1, H⟩ := of_must H
   refine W.region env [5] [] rfl rfl rfl (.cons (⟨by first | rfl | (simp; done) | omega | (simp; omega), by have := hc1; first | simpa using this | (unfold room at this ⊢; simp at this ⊢; omega)⟩) .nil) .nil (At.keep (ts := [2]) (ids := [5]) rfl rfl ?_)
   refine At.convM (.cons (y := bufL 3 1 enc_Int (([] : List Int) ++ p0)) (BSim.seg (Seg.push (Seg.lit (f := enc_Int) (sz := 1) ([] : List Int) rfl rfl (fun _ => rfl)) (Seg.refl enc_Int p0))) .nil) ?_
   refine At.thenC ?_
   refine W.ret ?_
   cases H
   exact At.ret env.ty rfl rfl (fun q hq => by cases hq; exact (by first | rfl | (simp; done) | omega | (simp; omega))) (.refl _) hval
theorem co_slices_Delete_int (p0 : (List Int)) (p1 : Int) (p2 : Int) {r : (List Int)} (H : slices_Delete_int p0 p1 p2 = some r) : CtrO Try.prog 75 [.buf 700 (p0).length, .int .i64 (p1), .int .i64 (p2)] [(700, bufL 3 1 enc_Int p0)] (.buf 900 r.length) [(900, bufL 3 1 enc_Int r)] := by
 unfold slices_Delete_int at H
 refine CtrO.of_body (N := 33) Try.func75 (by kernel_rfl) (c := _) rfl Try.ntmps75 rfl (fun w0 h0 ρb hval hdom => ?_)
 refine W.rg env [0, 1, 2] [700] ?_
 obtain ⟨hc1, H⟩ := of_must H
 refine W.sr env [] [] [0, 1, 2] [700] rfl rfl rfl (.cons (by first | rfl | (simp; done) | omega | (simp; omega)) (.cons (⟨by first | rfl | (simp; done) | omega | (simp; omega), hc1⟩) .nil)) .nil ?_
 refine W.seq ?_
 refine W.rg env [0, 1, 2, 16] [700] ?_
 refine W.cond rfl (fun hb2 => ?_) (fun hb2 => ?_)
 · have H := of_true H hb2
   refine W.rg env [6] [700] ?_
   refine W.ret ?_
   refine At.rthen ?_
   cases H
   exact At.retK env.ty [700] 200 rfl rfl rfl rfl (.cons (.refl _) .nil) (.of_eq (by refine bufEq ?_; first | (simp [copyAt]; done) | omega | (simp [copyAt]; omega) | rfl)) hval hdom rfl
 · have H := of_false H hb2
   refine W.skip ?_
   refine At.thenC ?_
   refine W.sr env [] [] [0, 1, 2, 7] [700] rfl rfl rfl (.cons (by first | rfl | (simp; done) | omega | (simp; omega)) .nil) .nil ?_
   refine W.seq ?_
   obtain ⟨hc3, H⟩ := of_must H
   obtain ⟨hc4, H⟩ := of_must H
   obtain ⟨hc5, H⟩ := of_must H
   refine W.region env [] [] rfl rfl (by first | rfl | kernel_rfl) (.cons (⟨by first | rfl | (simp; done) | omega | (simp; omega), hc3⟩) (.cons (⟨by first | rfl | (simp; done) | omega | (simp; omega), hc4⟩) (.cons (⟨rfl, rfl, by omega, by omega, by omega⟩) .nil))) .nil (At.keep (ts := [0, 7]) (ids := [26]) rfl rfl ?_)
   refine At.convM (.cons (y := bufkL 3 1 p0.length enc_Int (p0.take ((p1).toNat) ++ p0.drop ((p2).toNat))) (BSim.kseg (Seg.moved (f := enc_Int) (l := p0) ((p1).toNat) ((p2).toNat) (by omega) (by omega))) .nil) ?_
   refine At.thenC ?_
   refine W.seq ?_
   obtain ⟨hc6, H⟩ := of_must H
   refine W.region env [] [] rfl rfl rfl (.cons (by first | rfl | (simp; done) | omega | (simp; omega)) (.cons (⟨by first | rfl | (simp; done) | omega | (simp; omega), hc6⟩) (.cons (⟨by first | rfl | (simp; done) | omega | (simp; omega), by first | rfl | (simp; done) | omega | (simp; omega), by first | omega | (simp; omega)⟩) .nil))) .nil (At.keep (ts := [0]) (ids := [26]) rfl rfl ?_)
   refine At.convM (.cons (y := bufkL 3 1 p0.length enc_Int (p0.take ((p1).toNat) ++ p0.drop ((p2).toNat))) (BSim.kseg (Seg.refl enc_Int _)) .nil) ?_
   refine At.thenC ?_
   refine W.rg env [6] [26] ?_
   refine W.ret ?_
   cases H
   exact At.retK env.ty [26] 874 rfl rfl rfl rfl (.cons (.bufk (.refl _)) .nil) (.of_eq (by refine bufEq ?_; first | (simp [copyAt]; done) | omega | (simp [copyAt]; omega) | rfl)) hval hdom rfl
theorem co_slices_Clone_int (p0 : (List Int)) {r : (List Int)} (H : slices_Clone_int p0 = some r) : CtrO Try.prog 76 [roL 1 enc_Int p0] [] (.buf 900 r.length) [(900, bufL 3 1 enc_Int r)] := by
 unfold slices_Clone_int at H
 refine CtrO.of_body (N := 8) Try.func76 (by kernel_rfl) (c := _) rfl Try.ntmps76 rfl (fun w0 h0 ρb hval hdom => ?_)
 refine W.rg env [0] [] ?_
 refine W.seq ?_
 refine W.rg env [0, 4] [] ?_
 refine W.condNz rfl (fun hz => ?_) ?_
 · obtain rfl : p0 = [] := List.length_eq_zero_iff.1 hz
   obtain ⟨hc1, H⟩ := of_must H
   refine W.rg env [2] [] ?_
   refine W.ret ?_
   refine At.rthen ?_
   cases H
   refine At.nilOwn 2 800 3 1 (e := fun i => enc_Int (([] : List Int).getD i default)) rfl rfl ?_
   exact At.retK env.ty [800] 100 rfl rfl rfl rfl (.cons (.refl _) .nil) (.of_eq (by refine bufEq ?_; first | (simp [copyAt]; done) | omega | (simp [copyAt]; omega) | rfl)) hval hdom rfl
 · refine W.skip ?_
   refine At.thenC ?_
   refine W.seq ?_
   obtain ⟨hc1, H⟩ := of_must H
   refine W.region env [5] [] rfl rfl rfl (.cons (⟨by first | rfl | (simp; done) | omega | (simp; omega), by have := hc1; first | simpa using this | (unfold room at this ⊢; simp at this ⊢; omega)⟩) .nil) .nil (At.keep (ts := [2]) (ids := [5]) rfl rfl ?_)
   refine At.convM (.cons (y := bufL 3 1 enc_Int (([] : List Int) ++ p0)) (BSim.seg (Seg.push (Seg.lit (f := enc_Int) (sz := 1) ([] : List Int) rfl rfl (fun _ => rfl)) (Seg.refl enc_Int p0))) .nil) ?_
   refine At.thenC ?_
   refine W.ret ?_
   cases H
   exact At.retK env.ty [5] 895 rfl rfl rfl rfl (.cons (.refl _) .nil) (.of_eq (by refine bufEq ?_; first | (simp [copyAt]; done) | omega | (simp [copyAt]; omega) | rfl)) hval hdom rfl
theorem c_crew_Short (fuel : Nat) (p0 : Crew) (p1 : (List (List Int))) {r : ((List Int) × Int)} (H : crew_Short fuel p0 p1 = some r) : Ctr Try.prog 31 [.agg [roL 4 enc_Task p0.Tasks, roL 1 enc_ListRange p0.Travel, roL 3 enc_Hand p0.Hands], roL 1 enc_ListInt p1] (.tup [roL 1 enc_Int r.1, .int .i64 (r.2)]) := by
 unfold crew_Short at H
 refine Ctr.of_body (N := 52) Try.func31 (by kernel_rfl) (c := _) rfl Try.ntmps31 rfl (fun w0 h0 hval => ?_)
 refine W.rg env [1, 2] [2] ?_
 refine W.seq ?_
 obtain ⟨y1, hy2, H⟩ := of_bindO H
 refine W.region env [] [⟨.tup [.po y1.1.isSome [roL 4 enc_Task ((y1.1.getD default).Crew.Tasks), roL 1 enc_ListRange ((y1.1.getD default).Crew.Travel), roL 3 enc_Hand ((y1.1.getD default).Crew.Hands), roL 1 enc_Int ((y1.1.getD default).next)], .int .i64 (y1.2)], [], 0, []⟩] rfl rfl rfl .nil (.free (c_crew_asked p0 p1 hy2) .nil) (At.keep (ts := [1, 6, 7]) (ids := []) rfl rfl ?_)
 refine At.thenC ?_
 refine W.seq ?_
 refine W.rg env [1, 6, 7, 19] [] ?_
 refine W.cond rfl (fun hb3 => ?_) (fun hb3 => ?_)
 · have H := of_true H hb3
   refine W.rg env [4, 5] [] ?_
   refine W.ret ?_
   refine At.rthen ?_
   cases H
   exact At.ret env.ty rfl rfl (fun q hq => by cases hq) (Sim.tupL (.cons (Sim.nil _ _) (.cons (.refl _) .nil))) hval
 · have H := of_false H hb3
   refine W.skip ?_
   refine At.thenC ?_
   refine W.rg env [8] [8] ?_
   refine W.seq ?_
   obtain ⟨y4, hy5, H⟩ := of_bindO H
   refine W.region env [] [⟨roL 1 enc_Int y4, [], 0, []⟩] rfl rfl rfl .nil (.free (c_crew_shift__indices (⟨y1.1, p1⟩ : crew_shift) hy5) .nil) (At.keep (ts := [8, 9]) (ids := [8]) rfl rfl ?_)
   refine At.thenC ?_
   refine W.seq ?_
   refine W.seq ?_
   obtain ⟨y6, hy7, H⟩ := of_bindO H
   obtain ⟨y8, hy9, H⟩ := of_bindO H
   refine W.region env [] [⟨roL 1 enc_Int y6, [], 0, []⟩, ⟨.bool (y8), [], 0, []⟩] rfl rfl (by kernel_rfl) .nil (.free (c_crew_shift__free (⟨y1.1, p1⟩ : crew_shift) hy7) (.free (c_crew_shift__all fuel (⟨y1.1, p1⟩ : crew_shift) y4 y6 hy9) .nil)) (At.keep (ts := [8, 9, 30]) (ids := [8]) rfl rfl ?_)
   refine At.thenC ?_
   refine W.cond rfl (fun hb10 => ?_) (fun hb10 => ?_)
   · have H := of_true H hb10
     refine W.rg env [4, 5] [] ?_
     refine W.ret ?_
     refine At.rthen ?_
     cases H
     exact At.ret env.ty rfl rfl (fun q hq => by cases hq) (Sim.tupL (.cons (Sim.nil _ _) (.cons (.refl _) .nil))) hval
   · have H := of_false H hb10
     refine W.skip ?_
     refine At.thenC ?_
     refine W.seq ?_
     obtain ⟨hc11, H⟩ := of_must H
     refine W.sr env [] [] [8, 9, 10] [8] rfl rfl rfl (.cons hc11 .nil) .nil ?_
     refine W.block ?_
     refine At.keep (ts := [8, 9, 10]) (ids := [8]) rfl rfl ?_
     refine W.loopGo H (fun (s12 : Int × (List Int)) => [(8, .lp 8 0), (9, roL 1 enc_Int s12.2), (10, .int .i64 (s12.1))]) (fun (s12 : Int × (List Int)) => [(8, .cells [.po y1.1.isSome [roL 4 enc_Task ((y1.1.getD default).Crew.Tasks), roL 1 enc_ListRange ((y1.1.getD default).Crew.Travel), roL 3 enc_Hand ((y1.1.getD default).Crew.Hands), roL 1 enc_Int ((y1.1.getD default).next)], roL 1 enc_ListInt p1])]) (.cons .q (.cons .q (.cons .qi .nil))) (.cons .q .nil) (fun k12 s12 H K0 hK12 => ?_)
     refine W.seq ?_
     refine W.rg env [8, 9, 10, 35] [8] ?_
     refine W.cond rfl (fun hb13 => ?_) (fun hb13 => ?_)
     · have H := of_true H hb13
       refine W.skip ?_
       refine At.thenC ?_
       refine W.seq ?_
       refine W.block ?_
       refine W.seq ?_
       obtain ⟨y14, hy15, H⟩ := of_bindO H
       obtain ⟨hc16, H⟩ := of_must H
       obtain ⟨y17, hy18, H⟩ := of_bindO H
       refine W.region env [] [⟨.buf 900 y14.length, [(900, bufL 3 1 enc_Int y14)], 40000, []⟩, ⟨.buf 900 y17.length, [(40900, .dead), (900, bufL 3 1 enc_Int y17)], 44000, []⟩] rfl rfl (by kernel_rfl) (.cons hc16 .nil) (.free ((Ctr.ofO (co_slices_Clone_int s12.2 hy15))) (.free (CtrO.sim (CtrO.at (co_slices_Delete_int y14 s12.1 (s12.1 + 1) hy18) rfl 40900) (.cons .qc (.cons (.refl _) (.cons (.refl _) .nil))) (.cons (.refl _) .nil)) .nil)) (At.keep (ts := [8, 9, 10, 11]) (ids := [8, 44900]) rfl rfl ?_)
       refine At.thenC ?_
       refine W.seq ?_
       obtain ⟨y19, hy20, H⟩ := of_bindO H
       obtain ⟨y21, hy22, H⟩ := of_bindO H
       refine W.region env [] [⟨roL 1 enc_Int y19, [], 0, []⟩, ⟨.bool (y21), [], 0, []⟩] rfl rfl (by kernel_rfl) (.cons (by first | rfl | (simp; done) | omega | (simp; omega)) .nil) (.free (c_crew_shift__free (⟨y1.1, p1⟩ : crew_shift) hy20) (.free (c_crew_shift__all fuel (⟨y1.1, p1⟩ : crew_shift) y17 y19 hy22) .nil)) (At.keep (ts := [8, 9, 10, 11, 49]) (ids := [8, 44900]) rfl rfl ?_)
       refine At.thenC ?_
       refine W.cond rfl (fun hb23 => ?_) (fun hb23 => ?_)
       · have H := of_true H hb23
         refine W.region env [] [] rfl rfl rfl .nil .nil (At.keep (ts := [8, 9, 10]) (ids := [8, 44900]) rfl rfl ?_)
         refine At.inb ?_
         refine At.thenC ?_
         obtain ⟨hc24, H⟩ := of_must H
         refine W.region env [] [] rfl rfl rfl (.cons hc24 .nil) .nil (At.keep (ts := [8, 9, 10]) (ids := [8, 44900]) rfl rfl ?_)
         refine At.freezeA 44900 (K := [8]) (ts := [8, 9, 10]) rfl rfl rfl rfl (.cons (by first | rfl | (simp; done) | omega | (simp; omega)) .nil) .nil (fun _ h => h) ?_
         refine At.thenK (At.keep (ts := [8, 9, 10]) (ids := [8]) rfl rfl ?_)
         exact At.conv (.cons .q (.cons .q (.cons .qi .nil))) (.cons .q .nil) (hK12 ((s12.1 - 1), y17) H)
       · have H := of_false H hb23
         refine W.skip ?_
         refine At.inb ?_
         refine At.thenC ?_
         obtain ⟨hc25, H⟩ := of_must H
         refine W.region env [] [] rfl rfl rfl (.cons hc25 .nil) .nil (At.keep (ts := [8, 9, 10]) (ids := [8]) rfl rfl ?_)
         refine At.thenK (At.keep (ts := [8, 9, 10]) (ids := [8]) rfl rfl ?_)
         exact At.conv (.cons .q (.cons .q (.cons .qi .nil))) (.cons .q .nil) (hK12 ((s12.1 - 1), s12.2) H)
     · have H := of_false H hb13
       refine W.exit ?_
       refine At.xthen ?_
       refine At.xthen ?_
       refine At.xhere ?_
       refine At.thenC ?_
       refine W.rg env [4, 5] [] ?_
       refine W.ret ?_
       cases H
       exact At.ret env.ty rfl rfl (fun q hq => by cases hq) (.refl _) hval
theorem co_slices_Delete_Task (p0 : (List Task)) (p1 : Int) (p2 : Int) {r : (List Task)} (H : slices_Delete_Task p0 p1 p2 = some r) : CtrO Try.prog 86 [.buf 700 (p0).length, .int .i64 (p1), .int .i64 (p2)] [(700, bufL 67 4 enc_Task p0)] (.buf 900 r.length) [(900, bufL 67 4 enc_Task r)] := by
 unfold slices_Delete_Task at H
 refine CtrO.of_body (N := 33) Try.func86 (by kernel_rfl) (c := _) rfl Try.ntmps86 rfl (fun w0 h0 ρb hval hdom => ?_)
 refine W.rg env [0, 1, 2] [700] ?_
 obtain ⟨hc1, H⟩ := of_must H
 refine W.sr env [] [] [0, 1, 2] [700] rfl rfl rfl (.cons (by first | rfl | (simp; done) | omega | (simp; omega)) (.cons (⟨by first | rfl | (simp; done) | omega | (simp; omega), hc1⟩) .nil)) .nil ?_
 refine W.seq ?_
 refine W.rg env [0, 1, 2, 16] [700] ?_
 refine W.cond rfl (fun hb2 => ?_) (fun hb2 => ?_)
 · have H := of_true H hb2
   refine W.rg env [6] [700] ?_
   refine W.ret ?_
   refine At.rthen ?_
   cases H
   exact At.retK env.ty [700] 200 rfl rfl rfl rfl (.cons (.refl _) .nil) (.of_eq (by refine bufEq ?_; first | (simp [copyAt]; done) | omega | (simp [copyAt]; omega) | rfl)) hval hdom rfl
 · have H := of_false H hb2
   refine W.skip ?_
   refine At.thenC ?_
   refine W.sr env [] [] [0, 1, 2, 7] [700] rfl rfl rfl (.cons (by first | rfl | (simp; done) | omega | (simp; omega)) .nil) .nil ?_
   refine W.seq ?_
   obtain ⟨hc3, H⟩ := of_must H
   obtain ⟨hc4, H⟩ := of_must H
   obtain ⟨hc5, H⟩ := of_must H
   refine W.region env [] [] rfl rfl (by first | rfl | kernel_rfl) (.cons (⟨by first | rfl | (simp; done) | omega | (simp; omega), hc3⟩) (.cons (⟨by first | rfl | (simp; done) | omega | (simp; omega), hc4⟩) (.cons (⟨rfl, rfl, by omega, by omega, by omega⟩) .nil))) .nil (At.keep (ts := [0, 7]) (ids := [26]) rfl rfl ?_)
   refine At.convM (.cons (y := bufkL 67 4 p0.length enc_Task (p0.take ((p1).toNat) ++ p0.drop ((p2).toNat))) (BSim.kseg (Seg.moved (f := enc_Task) (l := p0) ((p1).toNat) ((p2).toNat) (by omega) (by omega))) .nil) ?_
   refine At.thenC ?_
   refine W.seq ?_
   obtain ⟨hc6, H⟩ := of_must H
   refine W.region env [] [] rfl rfl rfl (.cons (by first | rfl | (simp; done) | omega | (simp; omega)) (.cons (⟨by first | rfl | (simp; done) | omega | (simp; omega), hc6⟩) (.cons (⟨by first | rfl | (simp; done) | omega | (simp; omega), by first | rfl | (simp; done) | omega | (simp; omega), by first | omega | (simp; omega)⟩) .nil))) .nil (At.keep (ts := [0]) (ids := [26]) rfl rfl ?_)
   refine At.convM (.cons (y := bufkL 67 4 p0.length enc_Task (p0.take ((p1).toNat) ++ p0.drop ((p2).toNat))) (BSim.kseg (Seg.refl enc_Task _)) .nil) ?_
   refine At.thenC ?_
   refine W.rg env [6] [26] ?_
   refine W.ret ?_
   cases H
   exact At.retK env.ty [26] 874 rfl rfl rfl rfl (.cons (.bufk (.refl _)) .nil) (.of_eq (by refine bufEq ?_; first | (simp [copyAt]; done) | omega | (simp [copyAt]; omega) | rfl)) hval hdom rfl
theorem co_slices_Clone_Task (p0 : (List Task)) {r : (List Task)} (H : slices_Clone_Task p0 = some r) : CtrO Try.prog 103 [roL 4 enc_Task p0] [] (.buf 900 r.length) [(900, bufL 67 4 enc_Task r)] := by
 unfold slices_Clone_Task at H
 refine CtrO.of_body (N := 8) Try.func103 (by kernel_rfl) (c := _) rfl Try.ntmps103 rfl (fun w0 h0 ρb hval hdom => ?_)
 refine W.rg env [0] [] ?_
 refine W.seq ?_
 refine W.rg env [0, 4] [] ?_
 refine W.condNz rfl (fun hz => ?_) ?_
 · obtain rfl : p0 = [] := List.length_eq_zero_iff.1 hz
   obtain ⟨hc1, H⟩ := of_must H
   refine W.rg env [2] [] ?_
   refine W.ret ?_
   refine At.rthen ?_
   cases H
   refine At.nilOwn 2 800 67 4 (e := fun i => enc_Task (([] : List Task).getD i default)) rfl rfl ?_
   exact At.retK env.ty [800] 100 rfl rfl rfl rfl (.cons (.refl _) .nil) (.of_eq (by refine bufEq ?_; first | (simp [copyAt]; done) | omega | (simp [copyAt]; omega) | rfl)) hval hdom rfl
 · refine W.skip ?_
   refine At.thenC ?_
   refine W.seq ?_
   obtain ⟨hc1, H⟩ := of_must H
   refine W.region env [5] [] rfl rfl rfl (.cons (⟨by first | rfl | (simp; done) | omega | (simp; omega), by have := hc1; first | simpa using this | (unfold room at this ⊢; simp at this ⊢; omega)⟩) .nil) .nil (At.keep (ts := [2]) (ids := [5]) rfl rfl ?_)
   refine At.convM (.cons (y := bufL 67 4 enc_Task (([] : List Task) ++ p0)) (BSim.seg (Seg.push (Seg.lit (f := enc_Task) (sz := 4) ([] : List Task) rfl rfl (fun _ => rfl)) (Seg.refl enc_Task p0))) .nil) ?_
   refine At.thenC ?_
   refine W.ret ?_
   cases H
   exact At.retK env.ty [5] 895 rfl rfl rfl rfl (.cons (.refl _) .nil) (.of_eq (by refine bufEq ?_; first | (simp [copyAt]; done) | omega | (simp [copyAt]; omega) | rfl)) hval hdom rfl
theorem co_crew_copied_o0_1_2 (p0 : Crew) {r : Crew} (H : crew_copied p0 = some r) : CtrO Try.prog 83 [.agg [roL 4 enc_Task p0.Tasks, roL 1 enc_ListRange p0.Travel, roL 3 enc_Hand p0.Hands]] [] (.agg [.buf 940 (r.Tasks).length, .buf 941 (r.Travel).length, .buf 942 (r.Hands).length]) [(940, bufL 67 4 enc_Task r.Tasks), (941, bufL 71 1 enc_ListRange r.Travel), (942, bufL 59 3 enc_Hand r.Hands)] := by
 unfold crew_copied at H
 refine CtrO.of_body (N := 29) Try.func83 (by kernel_rfl) (c := _) rfl Try.ntmps83 rfl (fun w0 h0 ρb hval hdom => ?_)
 refine W.rg env [1, 2] [1, 2] ?_
 refine W.seq ?_
 obtain ⟨y1, hy2, H⟩ := of_bindO H
 obtain ⟨y3, hy4, H⟩ := of_bindO H
 refine W.region env [] [⟨.buf 900 y1.length, [(900, bufL 67 4 enc_Task y1)], 9000, []⟩, ⟨.buf 900 y3.length, [(900, bufL 59 3 enc_Hand y3)], 12000, []⟩] rfl rfl (by kernel_rfl) .nil (.free ((Ctr.ofO (co_slices_Clone_Task p0.Tasks hy2))) (.free ((Ctr.ofO (co_slices_Clone_Hand p0.Hands hy4))) .nil)) (At.keep (ts := [1, 2, 3]) (ids := [1, 2, 3, 9900, 12900]) rfl rfl ?_)
 refine At.thenC ?_
 refine W.seq ?_
 refine W.rg env [2, 3, 14, 15, 16] [2, 3, 9900, 12900] ?_
 refine W.block ?_
 refine At.nilOwnCell 3 1 751 71 1 (e := fun i => enc_ListRange (([] : List (List Range)).getD i default)) rfl rfl rfl ?_
 refine At.keep (ts := [2, 3, 14, 15, 16]) (ids := [2, 3, 751, 9900, 12900]) rfl rfl ?_
 refine W.len (t := 14) rfl (fun (hn5 : p0.Travel.length ≤ maxLen) => ?_)
 refine W.rangeGo H (fun i5 (s5 : (List (List Range))) => [(2, .lp 2 0), (3, .lp 3 0), (14, roL 1 enc_ListRange p0.Travel), (15, .int .i64 (((p0.Travel.length : Nat) : Int))), (16, .int .i64 ((i5 : Int)))]) (fun i5 (s5 : (List (List Range))) => [(2, .cells [.nilS, .nilS, .nilS]), (3, .cells [.buf 9900 (y1).length, .buf 751 (s5).length, .buf 12900 (y3).length]), (751, bufL 71 1 enc_ListRange s5), (9900, bufL 67 4 enc_Task y1), (12900, bufL 59 3 enc_Hand y3)]) (.cons .q (.cons .q (.cons .q (.cons .qi (.cons .qi .nil))))) (.cons .q (.cons (BSim.cells (.cons .qc (.cons .qc (.cons .qc .nil)))) (.cons .q (.cons .q (.cons .q .nil))))) (fun k5 i5 s5 hle5 H1 H2 K0 hK5 => ?_)
 refine W.rg env [2, 3, 14, 15, 16, 17] [2, 3, 751, 9900, 12900] ?_
 refine W.seq ?_
 refine W.cond rfl (fun hb6 => ?_) (fun hb6 => ?_)
 · have hi5 : i5 < p0.Travel.length := by have := of_decide_eq_true hb6; omega
   have H := H1 hi5
   refine W.skip ?_
   refine At.thenC ?_
   refine W.seq ?_
   refine W.block ?_
   refine W.sr env [] [] [2, 3, 5, 14, 15, 16] [2, 3, 751, 9900, 12900] rfl rfl rfl (.cons (⟨by omega, by omega⟩ : 0 ≤ (i5 : Int) ∧ (i5 : Int) < ((p0.Travel.length : Nat) : Int)) .nil) .nil ?_
   obtain ⟨y7, hy8, H⟩ := of_bindO H
   obtain ⟨hc9, H⟩ := of_must H
   refine W.region env [] [⟨roL 2 enc_Range y7, [], 0, []⟩] rfl rfl (by kernel_rfl) (.cons (⟨by first | rfl | (simp; done) | omega | (simp; omega), by have := hc9; first | simpa using this | (unfold room at this ⊢; simp at this ⊢; omega)⟩) .nil) (.free (c_slices_Clone_Range (p0.Travel.getD i5 default) hy8) .nil) (At.keep (ts := [2, 3, 14, 15, 16]) (ids := [2, 3, 751, 9900, 12900]) rfl rfl ?_)
   refine At.convM (.cons (.refl _) (.cons (.refl _) (.cons (y := bufL 71 1 enc_ListRange (s5 ++ ([y7] : List (List Range)))) (BSim.seg (Seg.push (Seg.refl enc_ListRange _) (Seg.lit (f := enc_ListRange) (sz := 1) ([y7] : List (List Range)) rfl rfl (fun _ => rfl)))) (.cons (.refl _) (.cons (.refl _) .nil))))) ?_
   refine At.inb ?_
   refine At.thenC ?_
   refine W.region env [] [] rfl rfl rfl (.cons (by unfold inI; have := hn5; (try unfold maxLen at this); omega) .nil) .nil (At.keep (ts := [2, 3, 14, 15, 16]) (ids := [2, 3, 751, 9900, 12900]) rfl rfl ?_)
   refine At.thenK (At.keep (ts := [2, 3, 14, 15, 16]) (ids := [2, 3, 751, 9900, 12900]) rfl rfl ?_)
   exact At.conv (.cons .q (.cons .q (.cons .q (.cons .qi (.cons .qi .nil))))) (.cons .q (.cons (BSim.cells (.cons .qc (.cons .qc (.cons .qc .nil)))) (.cons .q (.cons .q (.cons .q .nil))))) (hK5 hi5 (s5 ++ ([y7] : List (List Range))) H)
 · have H := H2 (by have := of_decide_eq_false hb6; omega)
   refine W.exit ?_
   refine At.xthen ?_
   refine At.xthen ?_
   refine At.xhere ?_
   refine At.thenC ?_
   refine W.rg env [2] [2, 751, 9900, 12900] ?_
   refine W.ret ?_
   cases H
   refine At.ren [(9900, 940), (751, 941), (12900, 942)] (K := [2, 751, 9900, 12900]) (ts := [2]) rfl rfl rfl rfl rfl ?_
   exact At.retK env.ty [940, 941, 942] 0 rfl rfl rfl rfl (.cons (.refl _) (.cons (.refl _) (.cons (.refl _) .nil))) (Sim.aggL (.cons .qc (.cons .qc (.cons .qc .nil)))) hval hdom rfl
theorem c_crew_Moved (fuel : Nat) (p0 : Crew) {r : ((List Int) × Int)} (H : crew_Moved fuel p0 = some r) : Ctr Try.prog 38 [.agg [roL 4 enc_Task p0.Tasks, roL 1 enc_ListRange p0.Travel, roL 3 enc_Hand p0.Hands]] (.tup [roL 1 enc_Int r.1, .int .i64 (r.2)]) := by
 unfold crew_Moved at H
 refine Ctr.of_body (N := 52) Try.func38 (by kernel_rfl) (c := _) rfl Try.ntmps38 rfl (fun w0 h0 hval => ?_)
 refine W.rg env [1] [1] ?_
 refine W.seq ?_
 obtain ⟨y1, hy2, H⟩ := of_bindO H
 refine W.region env [] [⟨.tup [.int .i64 (y1.1), .int .i64 (y1.2)], [], 0, []⟩] rfl rfl rfl .nil (.free (c_crew_Count fuel p0 hy2) .nil) (At.keep (ts := [1, 4, 5]) (ids := [1]) rfl rfl ?_)
 refine At.thenC ?_
 refine W.seq ?_
 refine W.rg env [1, 4, 5, 18] [1] ?_
 refine W.cond rfl (fun hb3 => ?_) (fun hb3 => ?_)
 · have H := of_true H hb3
   refine W.rg env [2, 3] [] ?_
   refine W.ret ?_
   refine At.rthen ?_
   cases H
   exact At.ret env.ty rfl rfl (fun q hq => by cases hq) (Sim.tupL (.cons (Sim.nil _ _) (.cons (.refl _) .nil))) hval
 · have H := of_false H hb3
   refine W.skip ?_
   refine At.thenC ?_
   refine W.rg env [1, 4, 6] [1] ?_
   refine W.seq ?_
   refine W.rg env [1, 4, 6, 21, 22, 23] [1] ?_
   refine W.block ?_
   refine At.nilOwn 6 506 3 1 (e := fun i => enc_Int (([] : List Int).getD i default)) rfl rfl ?_
   refine At.keep (ts := [1, 4, 6, 21, 22, 23]) (ids := [1, 506]) rfl rfl ?_
   refine W.len (t := 21) rfl (fun (hn4 : p0.Tasks.length ≤ maxLen) => ?_)
   refine W.rangeGo H (fun i4 (s4 : (List Int)) => [(1, .lp 1 0), (4, .int .i64 (y1.1)), (6, .buf 506 (s4).length), (21, roL 4 enc_Task p0.Tasks), (22, .int .i64 (((p0.Tasks.length : Nat) : Int))), (23, .int .i64 ((i4 : Int)))]) (fun i4 (s4 : (List Int)) => [(1, .cells [roL 4 enc_Task p0.Tasks, roL 1 enc_ListRange p0.Travel, roL 3 enc_Hand p0.Hands]), (506, bufL 3 1 enc_Int s4)]) (.cons .q (.cons .qi (.cons .qb (.cons .q (.cons .qi (.cons .qi .nil)))))) (.cons .q (.cons .q .nil)) (fun k4 i4 s4 hle4 H1 H2 K0 hK4 => ?_)
   refine W.rg env [1, 4, 6, 21, 22, 23, 24] [1, 506] ?_
   refine W.seq ?_
   refine W.cond rfl (fun hb5 => ?_) (fun hb5 => ?_)
   · have hi4 : i4 < p0.Tasks.length := by have := of_decide_eq_true hb5; omega
     have H := H1 hi4
     refine W.skip ?_
     refine At.thenC ?_
     refine W.seq ?_
     refine W.block ?_
     refine W.sr env [] [] [1, 4, 6, 7, 8, 21, 22, 23] [1, 8, 506] rfl rfl rfl (.cons (⟨by omega, by omega⟩ : 0 ≤ (i4 : Int) ∧ (i4 : Int) < ((p0.Tasks.length : Nat) : Int)) .nil) .nil ?_
     refine W.seq ?_
     obtain ⟨y6, hy7, H⟩ := of_bindO H
     refine W.region env [] [⟨.agg [.buf 940 (y6.Tasks).length, .buf 941 (y6.Travel).length, .buf 942 (y6.Hands).length], [(940, bufL 67 4 enc_Task y6.Tasks), (941, bufL 71 1 enc_ListRange y6.Travel), (942, bufL 59 3 enc_Hand y6.Hands)], 30000, []⟩] rfl rfl (by kernel_rfl) .nil (.free ((Ctr.ofO (co_crew_copied_o0_1_2 p0 hy7))) .nil) (At.keep (ts := [1, 4, 6, 7, 8, 9, 21, 22, 23]) (ids := [1, 8, 9, 506, 30940, 30941, 30942]) rfl rfl ?_)
     refine At.thenC ?_
     refine W.seq ?_
     obtain ⟨y8, hy9, H⟩ := of_bindO H
     refine W.region env [] [⟨.buf 900 y8.length, [(30940, .dead), (900, bufL 67 4 enc_Task y8)], 36000, []⟩] rfl rfl (by kernel_rfl) (.cons (by unfold inI; have := hn4; (try unfold maxLen at this); omega) .nil) (.free (CtrO.sim (CtrO.at (co_slices_Delete_Task y6.Tasks (i4 : Int) ((i4 : Int) + 1) hy9) rfl 30940) (.cons .qc (.cons (.refl _) (.cons (.refl _) .nil))) (.cons (.refl _) .nil)) .nil) (At.keep (ts := [1, 4, 6, 8, 9, 21, 22, 23]) (ids := [1, 8, 9, 506, 30941, 30942, 36900]) rfl rfl ?_)
     refine At.thenC ?_
     refine W.seq ?_
     obtain ⟨y10, hy11, H⟩ := of_bindO H
     refine W.region env [] [⟨.tup [.int .i64 (y10.1), .int .i64 (y10.2)], [], 0, []⟩] rfl rfl rfl (.cons ⟨by first | rfl | (simp; done) | omega | (simp; omega), ⟨by first | rfl | (simp; done) | omega | (simp; omega), (by first | rfl | (simp; done) | omega | (simp; omega))⟩⟩ .nil) (.free (c_crew_Count fuel (⟨y8, y6.Travel, y6.Hands⟩ : Crew) hy11) .nil) (At.keep (ts := [1, 4, 6, 8, 10, 21, 22, 23]) (ids := [1, 8, 506]) rfl rfl ?_)
     refine At.thenC ?_
     refine W.rg env [1, 4, 6, 8, 21, 22, 23, 44] [1, 8, 506] ?_
     refine W.cond rfl (fun hb12 => ?_) (fun hb12 => ?_)
     · have H := of_true H hb12
       obtain ⟨hc13, H⟩ := of_must H
       refine W.region env [] [] rfl rfl rfl (.cons (⟨by first | rfl | (simp; done) | omega | (simp; omega), by have := hc13; first | simpa using this | (unfold room at this ⊢; simp at this ⊢; omega)⟩) .nil) .nil (At.keep (ts := [1, 4, 6, 21, 22, 23]) (ids := [1, 506]) rfl rfl ?_)
       refine At.convM (.cons (.refl _) (.cons (y := bufL 3 1 enc_Int (s4 ++ ([(p0.Tasks.getD i4 default).Lamp] : List Int))) (BSim.seg (Seg.push (Seg.refl enc_Int _) (Seg.lit (f := enc_Int) (sz := 1) ([(p0.Tasks.getD i4 default).Lamp] : List Int) rfl rfl (fun _ => rfl)))) .nil)) ?_
       refine At.inb ?_
       refine At.thenC ?_
       refine W.region env [] [] rfl rfl rfl (.cons (by unfold inI; have := hn4; (try unfold maxLen at this); omega) .nil) .nil (At.keep (ts := [1, 4, 6, 21, 22, 23]) (ids := [1, 506]) rfl rfl ?_)
       refine At.thenK (At.keep (ts := [1, 4, 6, 21, 22, 23]) (ids := [1, 506]) rfl rfl ?_)
       exact At.conv (.cons .q (.cons .qi (.cons .qb (.cons .q (.cons .qi (.cons .qi .nil)))))) (.cons .q (.cons .q .nil)) (hK4 hi4 (s4 ++ ([(p0.Tasks.getD i4 default).Lamp] : List Int)) H)
     · have H := of_false H hb12
       refine W.skip ?_
       refine At.inb ?_
       refine At.thenC ?_
       refine W.region env [] [] rfl rfl rfl (.cons (by unfold inI; have := hn4; (try unfold maxLen at this); omega) .nil) .nil (At.keep (ts := [1, 4, 6, 21, 22, 23]) (ids := [1, 506]) rfl rfl ?_)
       refine At.thenK (At.keep (ts := [1, 4, 6, 21, 22, 23]) (ids := [1, 506]) rfl rfl ?_)
       exact At.conv (.cons .q (.cons .qi (.cons .qb (.cons .q (.cons .qi (.cons .qi .nil)))))) (.cons .q (.cons .q .nil)) (hK4 hi4 s4 H)
   · have H := H2 (by have := of_decide_eq_false hb5; omega)
     refine W.exit ?_
     refine At.xthen ?_
     refine At.xthen ?_
     refine At.xhere ?_
     refine At.thenC ?_
     refine W.rg env [2, 3] [506] ?_
     refine W.ret ?_
     cases H
     exact At.ret env.ty rfl rfl (fun q hq => by cases hq; exact (by first | rfl | (simp; done) | omega | (simp; omega))) (.refl _) hval
theorem c_gasolierref01_Same (p0 : (List Int)) (p1 : (List Int)) {r : Bool} (H : gasolierref01_Same p0 p1 = some r) : Ctr Try.prog 13 [roL 1 enc_Int p0, roL 1 enc_Int p1] (.bool (r)) := by
 unfold gasolierref01_Same at H
 refine Ctr.of_body (N := 26) Try.func13 (by kernel_rfl) (c := _) rfl Try.ntmps13 rfl (fun w0 h0 hval => ?_)
 refine W.rg env [0, 1] [] ?_
 refine W.seq ?_
 refine W.rg env [0, 1, 10] [] ?_
 refine W.cond rfl (fun hb1 => ?_) (fun hb1 => ?_)
 · have H := of_true H hb1
   refine W.rg env [4] [] ?_
   refine W.ret ?_
   refine At.rthen ?_
   cases H
   exact At.ret env.ty rfl rfl (fun q hq => by cases hq) (.refl _) hval
 · have H := of_false H hb1
   refine W.skip ?_
   refine At.thenC ?_
   refine W.seq ?_
   refine W.rg env [0, 1, 12, 13] [] ?_
   refine W.block ?_
   refine At.keep (ts := [0, 1, 12, 13]) (ids := []) rfl rfl ?_
   refine W.len (t := 0) rfl (fun (hn2 : p0.length ≤ maxLen) => ?_)
   refine W.rangeGo H (fun i2 (s2 : Unit) => [(0, roL 1 enc_Int p0), (1, roL 1 enc_Int p1), (12, .int .i64 (((p0.length : Nat) : Int))), (13, .int .i64 ((i2 : Int)))]) (fun i2 (s2 : Unit) => []) (.cons .q (.cons .q (.cons .qi (.cons .qi .nil)))) .nil (fun k2 i2 s2 hle2 H1 H2 K0 hK2 => ?_)
   refine W.rg env [0, 1, 12, 13, 14] [] ?_
   refine W.seq ?_
   refine W.cond rfl (fun hb3 => ?_) (fun hb3 => ?_)
   · have hi2 : i2 < p0.length := by have := of_decide_eq_true hb3; omega
     have H := H1 hi2
     refine W.skip ?_
     refine At.thenC ?_
     refine W.seq ?_
     refine W.block ?_
     refine W.rg env [0, 1, 5, 12, 13] [] ?_
     obtain ⟨hc4, H⟩ := of_must H
     refine W.sr env [] [] [0, 1, 12, 13, 24] [] rfl rfl (by first | rfl | kernel_rfl) (.cons (⟨by omega, by omega⟩ : 0 ≤ (i2 : Int) ∧ (i2 : Int) < ((p0.length : Nat) : Int)) (.cons hc4 .nil)) .nil ?_
     refine W.cond rfl (fun hb5 => ?_) (fun hb5 => ?_)
     · have H := of_true H hb5
       refine W.rg env [4] [] ?_
       refine W.ret ?_
       refine At.rinb ?_
       refine At.rthen ?_
       refine At.rthen ?_
       refine At.rinb ?_
       refine At.rthen ?_
       cases H
       exact At.ret env.ty rfl rfl (fun q hq => by cases hq) (.refl _) hval
     · have H := of_false H hb5
       refine W.skip ?_
       refine At.inb ?_
       refine At.thenC ?_
       refine W.region env [] [] rfl rfl rfl (.cons (by unfold inI; have := hn2; (try unfold maxLen at this); omega) .nil) .nil (At.keep (ts := [0, 1, 12, 13]) (ids := []) rfl rfl ?_)
       refine At.thenK (At.keep (ts := [0, 1, 12, 13]) (ids := []) rfl rfl ?_)
       exact At.conv (.cons .q (.cons .q (.cons .qi (.cons .qi .nil)))) .nil (hK2 hi2 () H)
   · have H := H2 (by have := of_decide_eq_false hb3; omega)
     refine W.exit ?_
     refine At.xthen ?_
     refine At.xthen ?_
     refine At.xhere ?_
     refine At.thenC ?_
     refine W.rg env [4] [] ?_
     refine W.ret ?_
     cases H
     exact At.ret env.ty rfl rfl (fun q hq => by cases hq) (.refl _) hval
theorem c_gasolierlaw04_sane (fuel : Nat) {r : Bool} (H : gasolierlaw04_sane fuel = some r) : Ctr Try.prog 14 [] (.bool (r)) := by
 unfold gasolierlaw04_sane at H
 refine Ctr.of_body (N := 164) Try.func14 (by kernel_rfl) (c := _) rfl Try.ntmps14 rfl (fun w0 h0 hval => ?_)
 refine W.rg env [] [] ?_
 refine W.sr env [] [⟨.agg [roL 4 enc_Task ((gasolierlaw04_team).Tasks), roL 1 enc_ListRange ((gasolierlaw04_team).Travel), roL 3 enc_Hand ((gasolierlaw04_team).Hands)], [], 0, []⟩] [1] [1] rfl rfl rfl .nil (.free (c_gasolierlaw04_team) .nil) ?_
 refine W.seq ?_
 refine W.region env [] [] rfl rfl rfl .nil .nil (At.keep (ts := [1, 2]) (ids := [1]) rfl rfl ?_)
 refine At.slot (t := 2) (v := roL 1 enc_ListInt ([([0, 2, 3] : List Int), ([1] : List Int)] : List (List Int))) (Sim.lit2 (f := enc_ListInt) ([([0, 2, 3] : List Int), ([1] : List Int)] : List (List Int)) (.cons (Sim.lit (f := enc_Int) ([0, 2, 3] : List Int) rfl rfl (fun _ => rfl)) (.cons (Sim.lit (f := enc_Int) ([1] : List Int) rfl rfl (fun _ => rfl)) .nil)) rfl rfl (fun _ => rfl)) ?_
 refine At.thenC ?_
 refine W.seq ?_
 obtain ⟨y1, hy2, H⟩ := of_bindO H
 refine W.region env [] [⟨.tup [.int .i64 (y1.1), .int .i64 (y1.2)], [], 0, []⟩] rfl rfl rfl .nil (.free (c_crew_Follows (gasolierlaw04_team) 0 1 hy2) .nil) (At.keep (ts := [1, 2, 3, 4]) (ids := [1]) rfl rfl ?_)
 refine At.thenC ?_
 refine W.seq ?_
 obtain ⟨y3, hy4, H⟩ := of_bindO H
 refine W.region env [] [⟨.tup [.int .i64 (y3.1), .int .i64 (y3.2)], [], 0, []⟩] rfl rfl rfl .nil (.free (c_crew_Count fuel (gasolierlaw04_team) hy4) .nil) (At.keep (ts := [1, 2, 3, 4, 5, 6]) (ids := [1]) rfl rfl ?_)
 refine At.thenC ?_
 refine W.seq ?_
 obtain ⟨y5, hy6, H⟩ := of_bindO H
 refine W.region env [] [⟨.tup [.agg [.int .i64 (y5.1.Lo), .int .i64 (y5.1.Hi)], .int .i64 (y5.2)], [], 0, []⟩] rfl rfl rfl .nil (.free (c_crew_Bounds fuel (gasolierlaw04_team) hy6) .nil) (At.keep (ts := [1, 2, 3, 4, 5, 6, 7, 8]) (ids := [1, 7]) rfl rfl ?_)
 refine At.thenC ?_
 refine W.seq ?_
 obtain ⟨y7, hy8, H⟩ := of_bindO H
 refine W.region env [] [⟨.tup [.int .i64 (y7.1), .int .i64 (y7.2)], [], 0, []⟩] rfl rfl rfl .nil (.free (c_crew_Slack fuel (gasolierlaw04_team) ([([0, 2, 3] : List Int), ([1] : List Int)] : List (List Int)) hy8) .nil) (At.keep (ts := [1, 2, 3, 4, 5, 6, 7, 8, 9, 10]) (ids := [1, 7]) rfl rfl ?_)
 refine At.thenC ?_
 refine W.seq ?_
 obtain ⟨y9, hy10, H⟩ := of_bindO H
 refine W.region env [] [⟨.tup [roL 1 enc_Int y9.1, .int .i64 (y9.2)], [], 0, []⟩] rfl rfl rfl .nil (.free (Ctr.sim (.cons (.refl _) (.cons (.refl _) (.cons (Sim.lit2 (f := enc_ListInt) ([([0, 24] : List Int), ([] : List Int)] : List (List Int)) (.cons (Sim.lit (f := enc_Int) ([0, 24] : List Int) rfl rfl (fun _ => rfl)) (.cons (Sim.lit (f := enc_Int) ([] : List Int) rfl rfl (fun _ => rfl)) .nil)) rfl rfl (fun _ => rfl)) .nil))) (c_crew_Late (gasolierlaw04_team) ([([0, 2, 3] : List Int), ([1] : List Int)] : List (List Int)) ([([0, 24] : List Int), ([] : List Int)] : List (List Int)) hy10)) .nil) (At.keep (ts := [1, 2, 3, 4, 5, 6, 7, 8, 9, 10, 11, 12]) (ids := [1, 7]) rfl rfl ?_)
 refine At.thenC ?_
 refine W.seq ?_
 obtain ⟨y11, hy12, H⟩ := of_bindO H
 refine W.region env [] [⟨.tup [roL 1 enc_Int y11.1, .int .i64 (y11.2)], [], 0, []⟩] rfl rfl rfl .nil (.free (c_crew_Assign fuel (gasolierlaw04_team) ([([0, 2, 3] : List Int), ([1] : List Int)] : List (List Int)) hy12) .nil) (At.keep (ts := [1, 2, 3, 4, 5, 6, 7, 8, 9, 10, 11, 12, 13, 14]) (ids := [1, 7]) rfl rfl ?_)
 refine At.thenC ?_
 refine W.seq ?_
 obtain ⟨y13, hy14, H⟩ := of_bindO H
 refine W.region env [] [⟨.tup [.agg [roL 4 enc_Task y13.1.Tasks, roL 1 enc_ListRange y13.1.Travel, roL 3 enc_Hand y13.1.Hands], .int .i64 (y13.2)], [], 0, []⟩] rfl rfl rfl .nil (.free (c_crew_Ill (gasolierlaw04_team) 8 315 hy14) .nil) (At.keep (ts := [1, 2, 3, 4, 5, 6, 7, 8, 9, 10, 11, 12, 13, 14, 15, 16]) (ids := [1, 7, 15]) rfl rfl ?_)
 refine At.thenC ?_
 refine W.seq ?_
 obtain ⟨y15, hy16, H⟩ := of_bindO H
 refine W.region env [] [⟨.tup [roL 1 enc_Int y15.1, .int .i64 (y15.2)], [], 0, []⟩] rfl rfl rfl .nil (.free (c_crew_Short fuel y13.1 ([([0, 2, 3] : List Int), ([1] : List Int)] : List (List Int)) hy16) .nil) (At.keep (ts := [1, 3, 4, 5, 6, 7, 8, 9, 10, 11, 12, 13, 14, 16, 17, 18]) (ids := [1, 7]) rfl rfl ?_)
 refine At.thenC ?_
 refine W.seq ?_
 obtain ⟨y17, hy18, H⟩ := of_bindO H
 refine W.region env [] [⟨.tup [roL 1 enc_Int y17.1, .int .i64 (y17.2)], [], 0, []⟩] rfl rfl rfl .nil (.free (c_crew_Moved fuel (gasolierlaw04_team) hy18) .nil) (At.keep (ts := [1, 3, 4, 5, 6, 7, 8, 9, 10, 11, 12, 13, 14, 16, 17, 18, 19, 20]) (ids := [1, 7]) rfl rfl ?_)
 refine At.thenC ?_
 refine W.sr env [] [] [1, 3, 5, 7, 9, 11, 13, 17, 19, 21] [1, 7] rfl rfl rfl (.cons (fun h => h) (.cons (fun h => h) (.cons (fun h => h) (.cons (fun h => h) (.cons (fun h => h) (.cons (fun h => h) (.cons (fun h => h) (.cons (fun h => h) (.cons (fun h => h) (.cons (fun h => h) (.cons (fun h => h) (.cons (fun h => h) (.cons (fun h => h) (.cons (fun h => h) (.cons (fun h => h) (.cons (fun h => h) .nil)))))))))))))))) .nil ?_
 refine W.seq ?_
 obtain ⟨y19, hy20, H⟩ := of_bindO H
 obtain ⟨y21, hy22, H⟩ := of_bindO H
 obtain ⟨y23, hy24, H⟩ := of_bindO H
 obtain ⟨y25, hy26, H⟩ := of_bindO H
 obtain ⟨y27, hy28, H⟩ := of_bindO H
 obtain ⟨y29, hy30, H⟩ := of_bindO H
 refine W.region env [] [⟨.bool (y19), [], 0, []⟩, ⟨.bool (y21), [], 0, []⟩, ⟨.bool (y23), [], 0, []⟩, ⟨.bool (y25), [], 0, []⟩, ⟨.int .i64 (y27), [], 0, []⟩, ⟨.int .i64 (y29), [], 0, []⟩] rfl rfl rfl (.cons (fun h => h) (.cons (fun h => h) (.cons (fun h => h) (.cons (fun h => h) (.cons (fun h => h) (.cons (fun h => h) (.cons (fun h => h) (.cons (fun h => h) (.cons (fun h => h) (.cons (fun h => h) (.cons (fun h => h) (.cons (fun h => h) (.cons (fun h => h) (.cons (fun h => h) (.cons (fun h => h) (.cons (fun h => h) (.cons (fun h => h) (.cons (fun h => h) (.cons (fun h => h) (.cons (fun h => h) (.cons (fun h => h) (.cons (fun h => h) (.cons (fun h => h) (.cons (fun h => h) (.cons (fun h => h) (.cons (fun h => h) (.cons (fun h => h) (.cons (fun h => h) (.cons (fun h => h) (.cons (fun h => h) (.cons (fun h => h) .nil))))))))))))))))))))))))))))))) (.on (fun hW => Ctr.sim (.cons (.refl _) (.cons (Sim.lit (f := enc_Int) ([3] : List Int) rfl rfl (fun _ => rfl)) .nil)) (c_gasolierref01_Same y9.1 ([3] : List Int) (of_true hy20 hW))) (.on (fun hW => Ctr.sim (.cons (.refl _) (.cons (Sim.lit (f := enc_Int) ([7, 8] : List Int) rfl rfl (fun _ => rfl)) .nil)) (c_gasolierref01_Same y11.1 ([7, 8] : List Int) (of_true hy22 hW))) (.on (fun hW => Ctr.sim (.cons (.refl _) (.cons (Sim.lit (f := enc_Int) ([0, 1] : List Int) rfl rfl (fun _ => rfl)) .nil)) (c_gasolierref01_Same y15.1 ([0, 1] : List Int) (of_true hy24 hW))) (.on (fun hW => Ctr.sim (.cons (.refl _) (.cons (Sim.lit (f := enc_Int) ([2] : List Int) rfl rfl (fun _ => rfl)) .nil)) (c_gasolierref01_Same y17.1 ([2] : List Int) (of_true hy26 hW))) (.on (fun hW => Ctr.sim (.cons (.refl _) (.cons (Sim.lit2 (f := enc_ListInt) ([([0, 1] : List Int), ([2, 3] : List Int)] : List (List Int)) (.cons (Sim.lit (f := enc_Int) ([0, 1] : List Int) rfl rfl (fun _ => rfl)) (.cons (Sim.lit (f := enc_Int) ([2, 3] : List Int) rfl rfl (fun _ => rfl)) .nil)) rfl rfl (fun _ => rfl)) .nil)) (c_crew_CheckRounds (gasolierlaw04_team) ([([0, 1] : List Int), ([2, 3] : List Int)] : List (List Int)) (of_true hy28 hW))) (.on (fun hW => Ctr.sim (.cons (.refl _) (.cons (Sim.lit (f := enc_Int) ([0, 1] : List Int) rfl rfl (fun _ => rfl)) (.cons (.refl _) .nil))) (c_crew_CheckCut (gasolierlaw04_team) ([0, 1] : List Int) 2 (of_true hy30 hW))) .nil)))))) (At.keep (ts := [0]) (ids := []) rfl rfl ?_)
 refine At.thenC ?_
 refine W.ret ?_
 cases H
 exact At.ret env.ty rfl rfl (fun q hq => by cases hq) (.refl _) hval
theorem c_gasolierlaw04_CrewRounds (fuel : Nat) (p0 : Crew) (p1 : gasolierlaw04_Plan) (p2 : (Arr2 Int)) {r : Bool} (H : gasolierlaw04_CrewRounds fuel p0 p1 p2 = some r) : Ctr Try.prog 5 [.agg [roL 4 enc_Task p0.Tasks, roL 1 enc_ListRange p0.Travel, roL 3 enc_Hand p0.Hands], .agg [roL 1 enc_ListInt p1.Rounds, roL 1 enc_Int p1.Cut, .int .i64 (p1.Size), roL 1 enc_ListInt p1.Walks, roL 1 enc_Int p1.Hands], .agg [.int .i64 (p2.x0), .int .i64 (p2.x1)]] (.bool (r)) := by
 unfold gasolierlaw04_CrewRounds at H
 refine Ctr.of_body (N := 182) Try.func5 (by kernel_rfl) (c := _) rfl Try.ntmps5 rfl (fun w0 h0 hval => ?_)
 refine W.rg env [3, 4, 5] [3, 4, 5] ?_
 refine W.seq ?_
 obtain ⟨y1, hy2, H⟩ := of_bindO H
 refine W.region env [] [⟨.tup [.int .i64 (y1.1), .int .i64 (y1.2)], [], 0, []⟩] rfl rfl rfl (.cons (by decide) (.cons (by decide) .nil)) (.free (c_crew_Follows p0 p2.x0 p2.x1 hy2) .nil) (At.keep (ts := [3, 4, 5, 7, 8]) (ids := [3, 4, 5]) rfl rfl ?_)
 refine At.thenC ?_
 refine W.seq ?_
 obtain ⟨y3, hy4, H⟩ := of_bindO H
 refine W.region env [] [⟨.tup [.int .i64 (y3.1), .int .i64 (y3.2)], [], 0, []⟩] rfl rfl rfl (.cons (by decide) (.cons (by decide) .nil)) (.free (c_gasolierref04_Follows p0 p2.x0 p2.x1 hy4) .nil) (At.keep (ts := [3, 4, 7, 8, 9, 10]) (ids := [3, 4]) rfl rfl ?_)
 refine At.thenC ?_
 refine W.seq ?_
 obtain ⟨y5, hy6, H⟩ := of_bindO H
 refine W.region env [] [⟨.tup [.int .i64 (y5.1), .int .i64 (y5.2)], [], 0, []⟩] rfl rfl rfl .nil (.free (c_crew_Count fuel p0 hy6) .nil) (At.keep (ts := [3, 4, 7, 8, 9, 10, 11, 12]) (ids := [3, 4]) rfl rfl ?_)
 refine At.thenC ?_
 refine W.seq ?_
 obtain ⟨y7, hy8, H⟩ := of_bindO H
 refine W.region env [] [⟨.tup [.int .i64 (y7.1), .int .i64 (y7.2)], [], 0, []⟩] rfl rfl rfl .nil (.free (c_gasolierref04_Count fuel p0 hy8) .nil) (At.keep (ts := [3, 4, 7, 8, 9, 10, 11, 12, 13, 14]) (ids := [3, 4]) rfl rfl ?_)
 refine At.thenC ?_
 refine W.seq ?_
 obtain ⟨y9, hy10, H⟩ := of_bindO H
 refine W.region env [] [⟨.tup [.agg [.int .i64 (y9.1.Lo), .int .i64 (y9.1.Hi)], .int .i64 (y9.2)], [], 0, []⟩] rfl rfl rfl .nil (.free (c_crew_Bounds fuel p0 hy10) .nil) (At.keep (ts := [3, 4, 7, 8, 9, 10, 11, 12, 13, 14, 15, 16]) (ids := [3, 4, 15]) rfl rfl ?_)
 refine At.thenC ?_
 refine W.seq ?_
 obtain ⟨y11, hy12, H⟩ := of_bindO H
 refine W.region env [] [⟨.tup [.agg [.int .i64 (y11.1.Lo), .int .i64 (y11.1.Hi)], .int .i64 (y11.2)], [], 0, []⟩] rfl rfl rfl .nil (.free (c_gasolierref04_Bounds fuel p0 hy12) .nil) (At.keep (ts := [3, 4, 7, 8, 9, 10, 11, 12, 13, 14, 15, 16, 17, 18]) (ids := [3, 4, 15, 17]) rfl rfl ?_)
 refine At.thenC ?_
 refine W.seq ?_
 refine W.seq ?_
 obtain ⟨y13, hy14, H⟩ := of_bindO H
 obtain ⟨y15, hy16, H⟩ := of_bindO H
 obtain ⟨y17, hy18, H⟩ := of_bindO H
 obtain ⟨y19, hy20, H⟩ := of_bindO H
 refine W.region env [] [⟨.int .i64 (y13), [], 0, []⟩, ⟨.int .i64 (y15), [], 0, []⟩, ⟨.int .i64 (y17), [], 0, []⟩, ⟨.int .i64 (y19), [], 0, []⟩] rfl rfl (by kernel_rfl) (.cons (fun h => h) (.cons (fun h => h) (.cons (fun h => by rw [h]; rfl) (.cons (fun h => h) (.cons (fun h => h) (.cons (fun h => by rw [h]; rfl) (.cons (fun h => h) (.cons (fun h => h) (.cons (fun h => by rw [h]; rfl) (.cons (fun h => h) (.cons (fun h => h) (.cons (fun h => by rw [h]; rfl) (.cons (fun h => h) (.cons (fun h => h) (.cons (fun h => by rw [h]; rfl) (.cons (fun h => h) (.cons (fun h => h) (.cons (fun h => h) (.cons (fun h => h) (.cons (fun h => h) (.cons (fun h => h) (.cons (fun h => h) (.cons (fun h => h) (.cons (fun h => by rw [h]; rfl) (.cons (fun h => h) (.cons (fun h => h) (.cons (fun h => h) (.cons (fun h => h) (.cons (fun h => h) (.cons (fun h => h) (.cons (fun h => h) (.cons (fun h => h) (.cons (fun h => h) (.cons (fun h => h) (.cons (fun h => h) (.cons (fun h => h) (.cons (fun h => by rw [h]; rfl) .nil))))))))))))))))))))))))))))))))))))) (.on (fun hW => c_crew_CheckRounds p0 p1.Rounds (of_true hy14 hW)) (.on (fun hW => c_gasolierref04_CheckRounds p0 p1.Rounds (of_true hy16 hW)) (.on (fun hW => c_crew_CheckCut p0 p1.Cut p1.Size (of_true hy18 hW)) (.on (fun hW => c_gasolierref04_CheckCut fuel p0 p1.Cut p1.Size (of_true hy20 hW)) .nil)))) (At.keep (ts := [3, 13, 14, 114]) (ids := [3]) rfl rfl ?_)
 refine At.thenC ?_
 refine W.cond rfl (fun hb21 => ?_) (fun hb21 => ?_)
 · have H := of_true H hb21
   refine W.rg env [6] [] ?_
   refine W.ret ?_
   refine At.rthen ?_
   cases H
   exact At.ret env.ty rfl rfl (fun q hq => by cases hq) (.refl _) hval
 · have H := of_false H hb21
   refine W.skip ?_
   refine At.thenC ?_
   refine W.seq ?_
   obtain ⟨y22, hy23, H⟩ := of_bindO H
   refine W.region env [] [⟨.tup [roL 1 enc_ListInt y22.1, .int .i64 (y22.2)], [], 0, []⟩] rfl rfl rfl .nil (.free (c_crew_Rounds fuel p0 hy23) .nil) (At.keep (ts := [3, 13, 14, 19, 20]) (ids := [3]) rfl rfl ?_)
   refine At.thenC ?_
   refine W.seq ?_
   obtain ⟨y24, hy25, H⟩ := of_bindO H
   refine W.region env [] [⟨.tup [roL 1 enc_Int y24.1, .int .i64 (y24.2)], [], 0, []⟩] rfl rfl rfl .nil (.free (c_crew_Cut fuel p0 hy25) .nil) (At.keep (ts := [3, 13, 14, 19, 20, 21, 22]) (ids := [3]) rfl rfl ?_)
   refine At.thenC ?_
   refine W.seq ?_
   refine W.rg env [3, 13, 14, 19, 20, 21, 22, 126] [3] ?_
   refine W.cond rfl (fun hb26 => ?_) (fun hb26 => ?_)
   · have H := of_true H hb26
     refine W.seq ?_
     obtain ⟨y27, hy28, H⟩ := of_bindO H
     refine W.region env [] [⟨.bool (y27), [], 0, []⟩] rfl rfl rfl (.cons (fun h => h) (.cons (fun h => h) (.cons (fun h => h) (.cons (fun h => h) (.cons (fun h => h) (.cons (fun h => h) (.cons (fun h => h) (.cons (fun h => h) (.cons (fun h => h) (.cons (fun h => h) .nil)))))))))) (.on (fun hW => c_gasolierlaw04_sane 20000 (of_true hy28 hW)) .nil) (At.keep (ts := [6]) (ids := []) rfl rfl ?_)
     refine At.thenC ?_
     refine W.ret ?_
     refine At.rthen ?_
     cases H
     exact At.ret env.ty rfl rfl (fun q hq => by cases hq) (.refl _) hval
   · have H := of_false H hb26
     refine W.skip ?_
     refine At.thenC ?_
     refine W.seq ?_
     obtain ⟨y29, hy30, H⟩ := of_bindO H
     obtain ⟨y31, hy32, H⟩ := of_bindO H
     obtain ⟨y33, hy34, H⟩ := of_bindO H
     refine W.region env [] [⟨.int .i64 (y29), [], 0, []⟩, ⟨.int .i64 (y31), [], 0, []⟩, ⟨.bool (y33), [], 0, []⟩] rfl rfl rfl (.cons (fun h => h) (.cons (fun h => h) (.cons (fun h => h) (.cons (fun h => h) (.cons (fun h => h) (.cons (fun h => h) (.cons (fun h => h) (.cons (fun h => h) (.cons (fun h => h) (.cons (fun h => h) (.cons (fun h => h) (.cons (fun h => h) (.cons (fun h => h) (.cons (fun h => h) (.cons (fun h => h) (.cons (fun h => h) (.cons (fun h => h) (.cons (fun h => h) (.cons (fun h => h) (.cons (fun h => h) .nil)))))))))))))))))))) (.on (fun hW => c_gasolierref04_CheckRounds p0 y22.1 (of_true hy30 hW)) (.on (fun hW => c_gasolierref04_CheckCut fuel p0 y24.1 y7.1 (of_true hy32 hW)) (.on (fun hW => c_gasolierlaw04_sane 20000 (of_true hy34 hW)) .nil))) (At.keep (ts := [6]) (ids := []) rfl rfl ?_)
     refine At.thenC ?_
     refine W.ret ?_
     cases H
     exact At.ret env.ty rfl rfl (fun q hq => by cases hq) (.refl _) hval
end Go.Sp
