/- Printed by gen.py: contracts, part 2. -/
import Derived.Test.YtnaodipmfaglfaaGreatCtr1
set_option linter.all false
set_option maxRecDepth 100000
set_option maxHeartbeats 1000000
namespace Go.Sp
open Go Go.Av Go.Proofs
theorem c_gasolierref04_Short (fuel : Nat) (p0 : Crew) (p1 : (List (List Int))) {r : ((List Int) × Int)} (H : gasolierref04_Short fuel p0 p1 = some r) : Ctr Tryz.prog 10 [.agg [roL 4 enc_Task p0.Tasks, roL 1 enc_ListRange p0.Travel, roL 3 enc_Hand p0.Hands], roL 1 enc_ListInt p1] (.tup [roL 1 enc_Int r.1, .int .i64 (r.2)]) := by
 unfold gasolierref04_Short at H
 refine Ctr.of_body (N := 52) Tryz.func10 (by kernel_rfl) (c := _) rfl Tryz.ntmps10 rfl (fun w0 h0 hval => ?_)
 refine W.rg env [1, 2] [2] ?_
 refine W.seq ?_
 refine W.seq ?_
 obtain ⟨y1, hy2, H⟩ := of_bindO H
 refine W.region env [] [⟨.int .i64 (y1), [], 0, []⟩] rfl rfl rfl .nil (.free (c_gasolierref04_CheckRounds p0 p1 hy2) .nil) (At.keep (ts := [1, 2, 6]) (ids := [2]) rfl rfl ?_)
 refine At.thenC ?_
 refine W.rg env [1, 2, 6, 15] [2] ?_
 refine W.cond rfl (fun hb3 => ?_) (fun hb3 => ?_)
 · have H := of_true H hb3
   refine W.rg env [4, 5] [] ?_
   refine W.ret ?_
   refine At.rthen ?_
   cases H
   exact At.ret env.ty rfl rfl (fun q hq => by cases hq) (Sim.tupL (.cons (Sim.nil _ _) (.cons (.refl _) .nil))) hval
 · have H := of_false H hb3
   refine W.skip ?_
   refine At.thenC ?_
   refine W.seq ?_
   refine W.seq ?_
   obtain ⟨y4, hy5, H⟩ := of_bindO H
   obtain ⟨y6, hy7, H⟩ := of_bindO H
   refine W.region env [] [⟨roL 1 enc_Bool y4, [], 0, []⟩, ⟨.bool (y6), [], 0, []⟩] rfl rfl (by kernel_rfl) .nil (.free (c_gasolierref04_all p0 hy5) (.free (c_gasolierref04_can fuel p0 p1 y4 hy7) .nil)) (At.keep (ts := [1, 2, 21]) (ids := [2]) rfl rfl ?_)
   refine At.thenC ?_
   refine W.cond rfl (fun hb8 => ?_) (fun hb8 => ?_)
   · have H := of_true H hb8
     refine W.rg env [4, 5] [] ?_
     refine W.ret ?_
     refine At.rthen ?_
     cases H
     exact At.ret env.ty rfl rfl (fun q hq => by cases hq) (Sim.tupL (.cons (Sim.nil _ _) (.cons (.refl _) .nil))) hval
   · have H := of_false H hb8
     refine W.skip ?_
     refine At.thenC ?_
     refine W.rg env [1, 2, 7] [2] ?_
     refine W.seq ?_
     refine W.rg env [1, 2, 7, 23, 24] [2] ?_
     refine W.block ?_
     refine At.nilOwn 7 507 3 1 (e := fun i => enc_Int (([] : List Int).getD i default)) rfl rfl ?_
     refine At.keep (ts := [1, 2, 7, 23, 24]) (ids := [2, 507]) rfl rfl ?_
     refine W.len (t := 1) rfl (fun (hn9 : p1.length ≤ maxLen) => ?_)
     refine W.rangeGo H (fun i9 (s9 : (List Int)) => [(1, roL 1 enc_ListInt p1), (2, .lp 2 0), (7, .buf 507 (s9).length), (23, .int .i64 (((p1.length : Nat) : Int))), (24, .int .i64 ((i9 : Int)))]) (fun i9 (s9 : (List Int)) => [(2, .cells [roL 4 enc_Task p0.Tasks, roL 1 enc_ListRange p0.Travel, roL 3 enc_Hand p0.Hands]), (507, bufL 3 1 enc_Int s9)]) (.cons .q (.cons .q (.cons .qb (.cons .qi (.cons .qi .nil))))) (.cons .q (.cons .q .nil)) (fun k9 i9 s9 hle9 H1 H2 K0 hK9 => ?_)
     refine W.rg env [1, 2, 7, 23, 24, 25] [2, 507] ?_
     refine W.seq ?_
     refine W.cond rfl (fun hb10 => ?_) (fun hb10 => ?_)
     · have hi9 : i9 < p1.length := by have := of_decide_eq_true hb10; omega
       have H := H1 hi9
       refine W.skip ?_
       refine At.thenC ?_
       refine W.seq ?_
       refine W.block ?_
       refine W.rg env [1, 2, 7, 8, 23, 24] [2, 507] ?_
       obtain ⟨hc11, H⟩ := of_must H
       refine W.region env [] [] rfl rfl rfl (.cons (⟨by first | rfl | (simp; done) | omega | (simp; omega), by have := hc11; first | simpa using this | (unfold room at this ⊢; simp at this ⊢; omega)⟩) .nil) .nil (At.keep (ts := [1, 2, 7, 23, 24]) (ids := [2, 507]) rfl rfl ?_)
       refine At.convM (.cons (.refl _) (.cons (y := bufL 3 1 enc_Int (s9 ++ ([(i9 : Int)] : List Int))) (BSim.seg (Seg.push (Seg.refl enc_Int _) (Seg.lit (f := enc_Int) (sz := 1) ([(i9 : Int)] : List Int) rfl rfl (fun _ => rfl)))) .nil)) ?_
       refine At.inb ?_
       refine At.thenC ?_
       refine W.region env [] [] rfl rfl rfl (.cons (by unfold inI; have := hn9; (try unfold maxLen at this); omega) .nil) .nil (At.keep (ts := [1, 2, 7, 23, 24]) (ids := [2, 507]) rfl rfl ?_)
       refine At.thenK (At.keep (ts := [1, 2, 7, 23, 24]) (ids := [2, 507]) rfl rfl ?_)
       exact At.conv (.cons .q (.cons .q (.cons .qb (.cons .qi (.cons .qi .nil))))) (.cons .q (.cons .q .nil)) (hK9 hi9 (s9 ++ ([(i9 : Int)] : List Int)) H)
     · have H := H2 (by have := of_decide_eq_false hb10; omega)
       refine W.exit ?_
       refine At.xthen ?_
       refine At.xthen ?_
       refine At.xhere ?_
       refine At.thenC ?_
       refine W.seq ?_
       obtain ⟨hc12, H⟩ := of_must H
       refine W.sr env [] [] [1, 2, 7, 9] [2, 507] rfl rfl rfl (.cons hc12 .nil) .nil ?_
       refine W.block ?_
       refine At.freezeA 507 (K := [2]) (ts := [1, 2, 7, 9]) rfl rfl rfl rfl (.cons (by first | rfl | (simp; done) | omega | (simp; omega)) .nil) .nil (fun _ h => h) ?_
       refine At.keep (ts := [1, 2, 7, 9]) (ids := [2]) rfl rfl ?_
       refine W.loopGo H (fun (s13 : Int × (List Int)) => [(1, roL 1 enc_ListInt p1), (2, .lp 2 0), (7, roL 1 enc_Int s13.2), (9, .int .i64 (s13.1))]) (fun (s13 : Int × (List Int)) => [(2, .cells [roL 4 enc_Task p0.Tasks, roL 1 enc_ListRange p0.Travel, roL 3 enc_Hand p0.Hands])]) (.cons .q (.cons .q (.cons .q (.cons .qi .nil)))) (.cons .q .nil) (fun k13 s13 H K0 hK13 => ?_)
       refine W.seq ?_
       refine W.rg env [1, 2, 7, 9, 36] [2] ?_
       refine W.cond rfl (fun hb14 => ?_) (fun hb14 => ?_)
       · have H := of_true H hb14
         refine W.skip ?_
         refine At.thenC ?_
         refine W.seq ?_
         refine W.block ?_
         refine W.seq ?_
         obtain ⟨y15, hy16, H⟩ := of_bindO H
         refine W.region env [] [⟨roL 1 enc_Int y15, [], 0, []⟩] rfl rfl rfl .nil (.free (c_gasolierref04_less s13.2 s13.1 hy16) .nil) (At.keep (ts := [1, 2, 7, 9, 10]) (ids := [2]) rfl rfl ?_)
         refine At.thenC ?_
         refine W.seq ?_
         obtain ⟨y17, hy18, H⟩ := of_bindO H
         obtain ⟨y19, hy20, H⟩ := of_bindO H
         obtain ⟨y21, hy22, H⟩ := of_bindO H
         refine W.region env [] [⟨roL 1 enc_ListInt y17, [], 0, []⟩, ⟨roL 1 enc_Bool y19, [], 0, []⟩, ⟨.bool (y21), [], 0, []⟩] rfl rfl (by kernel_rfl) .nil (.free (c_gasolierref04_some p1 y15 hy18) (.free (c_gasolierref04_all p0 hy20) (.free (c_gasolierref04_can fuel p0 y17 y19 hy22) .nil))) (At.keep (ts := [1, 2, 7, 9, 10, 49]) (ids := [2]) rfl rfl ?_)
         refine At.thenC ?_
         refine W.cond rfl (fun hb23 => ?_) (fun hb23 => ?_)
         · have H := of_true H hb23
           refine W.region env [] [] rfl rfl rfl .nil .nil (At.keep (ts := [1, 2, 7, 9]) (ids := [2]) rfl rfl ?_)
           refine At.inb ?_
           refine At.thenC ?_
           obtain ⟨hc24, H⟩ := of_must H
           refine W.region env [] [] rfl rfl rfl (.cons hc24 .nil) .nil (At.keep (ts := [1, 2, 7, 9]) (ids := [2]) rfl rfl ?_)
           refine At.thenK (At.keep (ts := [1, 2, 7, 9]) (ids := [2]) rfl rfl ?_)
           exact At.conv (.cons .q (.cons .q (.cons .q (.cons .qi .nil)))) (.cons .q .nil) (hK13 ((s13.1 - 1), y15) H)
         · have H := of_false H hb23
           refine W.skip ?_
           refine At.inb ?_
           refine At.thenC ?_
           obtain ⟨hc25, H⟩ := of_must H
           refine W.region env [] [] rfl rfl rfl (.cons hc25 .nil) .nil (At.keep (ts := [1, 2, 7, 9]) (ids := [2]) rfl rfl ?_)
           refine At.thenK (At.keep (ts := [1, 2, 7, 9]) (ids := [2]) rfl rfl ?_)
           exact At.conv (.cons .q (.cons .q (.cons .q (.cons .qi .nil)))) (.cons .q .nil) (hK13 ((s13.1 - 1), s13.2) H)
       · have H := of_false H hb14
         refine W.exit ?_
         refine At.xthen ?_
         refine At.xthen ?_
         refine At.xhere ?_
         refine At.thenC ?_
         refine W.rg env [4, 5] [] ?_
         refine W.ret ?_
         cases H
         exact At.ret env.ty rfl rfl (fun q hq => by cases hq) (.refl _) hval
theorem c_crew_plan__followers (p0 : crew_plan) (p1 : Int) : Ctr Tryz.prog 109 [.rp [roL 4 enc_Task p0.Crew.Tasks, roL 1 enc_ListRange p0.Crew.Travel, roL 3 enc_Hand p0.Crew.Hands, roL 1 enc_Int p0.next], .int .i64 (p1)] (.clo (.func 122) [] [.rp [.rp [roL 4 enc_Task p0.Crew.Tasks, roL 1 enc_ListRange p0.Crew.Travel, roL 3 enc_Hand p0.Crew.Hands, roL 1 enc_Int p0.next]], .rp [.int .i64 (p1)]]) := by
 refine Ctr.of_body (N := 6) Tryz.func109 (by kernel_rfl) (c := _) rfl Tryz.ntmps109 rfl (fun w0 h0 hval => ?_)
 refine W.rg env [2, 3] [2, 3] ?_
 refine W.rg env [4] [2, 3] ?_
 refine W.ret ?_
 exact At.ret env.ty rfl rfl (fun q hq => by cases hq) (.refl _) hval
theorem c_crew_plan__followers_1 (c0 : crew_plan) (c1 : Int) {r : List (Int)} (H : crew_plan__followers_1 c0 c1 = some r) : Iter Tryz.prog 122 [.rp [.rp [roL 4 enc_Task c0.Crew.Tasks, roL 1 enc_ListRange c0.Crew.Travel, roL 3 enc_Hand c0.Crew.Hands, roL 1 enc_Int c0.next]], .rp [.int .i64 (c1)]] (r.map (fun (x : Int) => [.int .i64 (x)])) := by
 unfold crew_plan__followers_1 at H
 have hYl := Yl.start r
 skip
 refine Iter.of_body (N := 31) Tryz.func122 (by kernel_rfl) (c := _) rfl Tryz.ntmps122 rfl (fun w0 h0 lp J hJ hval hY => ?_)
 refine W.rg env [0, 1, 2, 9, 10] [] ?_
 refine W.block ?_
 refine At.keep (ts := [0, 1, 2, 9, 10]) (ids := []) rfl rfl ?_
 obtain ⟨hn1, H⟩ := of_must H
 refine W.rangeGoI H hYl (fun i1 (s1 : Unit) => [(0, .fn (.yield lp) [] []), (1, .rp [.rp [roL 4 enc_Task c0.Crew.Tasks, roL 1 enc_ListRange c0.Crew.Travel, roL 3 enc_Hand c0.Crew.Hands, roL 1 enc_Int c0.next]]), (2, .rp [.int .i64 (c1)]), (9, .int .i64 (((c0.next.length : Nat) : Int))), (10, .int .i64 ((i1 : Int)))]) (fun i1 (s1 : Unit) => []) (.cons .q (.cons .q (.cons .q (.cons .qi (.cons .qi .nil))))) .nil (fun k1 i1 s1 g r hle1 hYl H1 H2 K0 hK1 => ?_)
 refine W.rg env [0, 1, 2, 9, 10, 11] [] ?_
 refine W.seq ?_
 refine W.cond rfl (fun hb2 => ?_) (fun hb2 => ?_)
 · have hi1 : i1 < c0.next.length := by have := of_decide_eq_true hb2; omega
   have H := H1 hi1
   refine W.skip ?_
   refine At.thenC ?_
   refine W.seq ?_
   refine W.block ?_
   refine W.rg env [0, 1, 2, 4, 9, 10] [] ?_
   refine W.seq ?_
   obtain ⟨hc3, H⟩ := of_must H
   obtain ⟨hc4, H⟩ := of_must H
   obtain ⟨hc5, H⟩ := of_must H
   refine W.regionYd env hY [] 14 [] [] rfl rfl rfl rfl rfl rfl rfl rfl (fun b => rfl) rfl (fun b => by cases b <;> rfl) (.cons hc3 (.cons hc4 (.cons hc5 .nil))) .nil (.cons (fun h => h) (.cons (fun h => h) .nil)) (fun b => (.cons (fun h => h) (.cons (fun h => h) .nil))) (fun b => .nil) (fun hW => Yl.item (fun (x : Int) => [.int .i64 (x)]) H hYl hW) (fun b g1 hg1 hg2 => ?_)
   refine At.keep (ts := [0, 1, 2, 9, 10, 29]) (ids := []) rfl rfl ?_
   refine At.thenC ?_
   rcases Yl.split hg1 hg2 with ⟨hw1, hw2, rfl⟩ | ⟨hw1, hw2, hw3⟩
   · refine W.cond rfl (fun hb => ?_) (fun hb => ?_)
     · refine W.ret ?_
       refine At.rinb ?_
       refine At.rthen ?_
       refine At.rthen ?_
       refine At.rinb ?_
       exact At.iret rfl (.inl rfl) hval
     · exact absurd hb (by rw [hw1, hw2]; simp)
   · refine W.cond rfl (fun hb => ?_) (fun hb => ?_)
     · exact absurd hb (by intro hb; simp only [Bool.and_eq_true, Bool.not_eq_true'] at hb; have := hw1 (by first | exact hb.1 | (simp only [Bool.and_eq_true]; exact hb.1)); rw [this] at hb; simp at hb)
     · obtain ⟨r, H, hYl⟩ := Yl.next H hYl hw2 hw3
       refine W.skip ?_
       refine At.inb ?_
       refine At.thenC ?_
       refine W.region env [] [] rfl rfl rfl (.cons (by unfold inI; have := hn1; (try unfold maxLen at this); omega) .nil) .nil (At.keep (ts := [0, 1, 2, 9, 10]) (ids := []) rfl rfl ?_)
       refine At.thenK (At.keep (ts := [0, 1, 2, 9, 10]) (ids := []) rfl rfl ?_)
       exact At.conv (.cons .q (.cons .q (.cons .q (.cons .qi (.cons .qi .nil))))) .nil (hK1 hi1 () _ _ hYl H)
 · have H := H2 (by have := of_decide_eq_false hb2; omega)
   refine W.exit ?_
   refine At.xthen ?_
   refine At.xthen ?_
   refine At.xhere ?_
   refine At.iofNormal ?_
   exact At.iret rfl (.inr (Yl.fin (fun (x : Int) => [.int .i64 (x)]) H hYl)) hval
theorem cl_crew_plan__pair_1_l (fuel : Nat) : ∀ (n : Nat) (p0 : Int) (c0 : crew_plan) (c1 : Int) (c2 : (List Int)) (c4 : (List Int)) {r : (Bool × Int × (List Int) × (List Int))} (H : crew_plan__pair_1_l fuel n p0 c0 c1 c2 c4 = some r), CtrO Tryz.prog 108 [.int .i64 (p0), .lp 90000 0, .lp 90001 0, .lp 90002 0, .lp 90004 0, .lp 90005 0] [(90000, .cells [.rp [roL 4 enc_Task c0.Crew.Tasks, roL 1 enc_ListRange c0.Crew.Travel, roL 3 enc_Hand c0.Crew.Hands, roL 1 enc_Int c0.next]]), (90001, .cells [.int .i64 (c1)]), (90002, .cells [.buf 90003 (c2).length]), (90003, bufL 3 1 enc_Int c2), (90004, .cells [.fn (.func 108) [] [.lp 90000 0, .lp 90001 0, .lp 90002 0, .lp 90004 0, .lp 90005 0]]), (90005, .cells [.buf 90006 (c4).length]), (90006, bufL 3 1 enc_Int c4)] (.bool (r.1)) [(90000, .cells [.rp [roL 4 enc_Task c0.Crew.Tasks, roL 1 enc_ListRange c0.Crew.Travel, roL 3 enc_Hand c0.Crew.Hands, roL 1 enc_Int c0.next]]), (90001, .cells [.int .i64 (r.2.1)]), (90002, .cells [.buf 90003 (r.2.2.1).length]), (90003, bufL 3 1 enc_Int r.2.2.1), (90004, .cells [.fn (.func 108) [] [.lp 90000 0, .lp 90001 0, .lp 90002 0, .lp 90004 0, .lp 90005 0]]), (90005, .cells [.buf 90006 (r.2.2.2).length]), (90006, bufL 3 1 enc_Int r.2.2.2)] := by
 intro n; induction n with
 | zero => intro p0 c0 c1 c2 c4 r H; cases H
 | succ n ih =>
   intro p0 c0 c1 c2 c4 r H
   have H : crew_plan__pair_1_l_F fuel (crew_plan__pair_1_l fuel n) p0 c0 c1 c2 c4 = some r := H
   unfold crew_plan__pair_1_l_F at H
   refine CtrL.of_body (N := 43) Tryz.func108 (by kernel_rfl) (c := _) rfl Tryz.ntmps108 rfl rfl (fun w0 h0 ρb hval hdom hent => ?_)
   refine W.rg env [1, 2, 3, 4, 5, 6, 7] [6, 7, 90000, 90001, 90002, 90003, 90004, 90005, 90006] ?_
   refine W.seq ?_
   refine W.sr env [] [⟨.clo (.func 122) [] [.rp [.rp [roL 4 enc_Task c0.Crew.Tasks, roL 1 enc_ListRange c0.Crew.Travel, roL 3 enc_Hand c0.Crew.Hands, roL 1 enc_Int c0.next]], .rp [.int .i64 (p0)]], [], 0, []⟩] [2, 3, 4, 5, 6, 7, 11] [6, 7, 90000, 90001, 90002, 90003, 90004, 90005, 90006] rfl rfl rfl .nil (.free (c_crew_plan__followers c0 p0) .nil) ?_
   refine W.block ?_
   obtain ⟨it1, hit1, H⟩ := of_bindO H
   refine At.keep (ts := [2, 3, 4, 5, 6, 7, 11]) (ids := [6, 7, 90000, 90001, 90002, 90003, 90004, 90005, 90006]) rfl rfl ?_
   refine W.listGo H (fun (x : Int) => [.int .i64 (x)]) (c_crew_plan__followers_1 c0 p0 hit1) rfl (fun _ => ⟨rfl, rfl⟩) rfl rfl rfl (fun (s2 : (List Int) × (List Int) × Int) => [(6, .cells [.int .i64 (p0)]), (7, .cells [.bool (false)]), (90000, .cells [.rp [roL 4 enc_Task c0.Crew.Tasks, roL 1 enc_ListRange c0.Crew.Travel, roL 3 enc_Hand c0.Crew.Hands, roL 1 enc_Int c0.next]]), (90001, .cells [.int .i64 (s2.2.2)]), (90002, .cells [.buf 90003 (s2.1).length]), (90003, bufL 3 1 enc_Int s2.1), (90004, .cells [.fn (.func 108) [] [.lp 90000 0, .lp 90001 0, .lp 90002 0, .lp 90004 0, .lp 90005 0]]), (90005, .cells [.buf 90006 (s2.2.1).length]), (90006, bufL 3 1 enc_Int s2.2.1)]) (.cons .q (.cons .q (.cons .q (.cons .q (.cons (BSim.cells (.cons .qc .nil)) (.cons .q (.cons .q (.cons (BSim.cells (.cons .qc .nil)) (.cons .q .nil))))))))) (fun (x1 : Int) => [(2, .lp 90001 0), (3, .lp 90002 0), (4, .lp 90004 0), (5, .lp 90005 0), (6, .lp 6 0), (7, .lp 7 0), (8, .int .i64 (x1))]) (fun e (sx : Bool × Int × (List Int) × (List Int)) => e = Exit.ret ∧ some (sx.1, sx.2.1, sx.2.2.1, sx.2.2.2) = some r) (fun _ (sx : Bool × Int × (List Int) × (List Int)) => [(6, .cells [.int .i64 (p0)]), (7, .cells [.bool (sx.1)]), (90000, .cells [.rp [roL 4 enc_Task c0.Crew.Tasks, roL 1 enc_ListRange c0.Crew.Travel, roL 3 enc_Hand c0.Crew.Hands, roL 1 enc_Int c0.next]]), (90001, .cells [.int .i64 (sx.2.1)]), (90002, .cells [.buf 90003 (sx.2.2.1).length]), (90003, bufL 3 1 enc_Int sx.2.2.1), (90004, .cells [.fn (.func 108) [] [.lp 90000 0, .lp 90001 0, .lp 90002 0, .lp 90004 0, .lp 90005 0]]), (90005, .cells [.buf 90006 (sx.2.2.2).length]), (90006, bufL 3 1 enc_Int sx.2.2.2)]) (fun e s h => .inl h.1) hval (fun h1 vs gh st lp x1 s2 K hK => ?_) (fun k2 h1 vs gh st lp x1 s2 H Qr hQ2 hX2 => ?_) (fun s2 H => ?_) (fun e sx h => ?_)
   · refine W.region env [] [] rfl rfl rfl .nil .nil (At.keep (ts := [2, 3, 4, 5, 6, 7, 8]) (ids := [6, 7, 90000, 90001, 90002, 90003, 90004, 90005, 90006]) rfl rfl ?_)
     refine At.thenK (At.keep (ts := [2, 3, 4, 5, 6, 7, 8]) (ids := [6, 7, 90000, 90001, 90002, 90003, 90004, 90005, 90006]) rfl rfl ?_)
     exact hK
   · refine W.block ?_
     refine W.seq ?_
     obtain ⟨hc3, H⟩ := of_must H
     obtain ⟨hc4, H⟩ := of_must H
     refine W.sr env [] [] [2, 3, 4, 5, 6, 7, 8, 17] [6, 7, 90000, 90001, 90002, 90003, 90004, 90005, 90006] rfl rfl rfl (.cons hc3 (.cons hc4 .nil)) .nil ?_
     refine W.cond rfl (fun hb5 => ?_) (fun hb5 => ?_)
     · have H := of_true H hb5
       refine W.exit ?_
       refine At.xthen ?_
       refine At.xhere ?_
       refine At.keep (ts := []) (ids := [6, 7, 90000, 90001, 90002, 90003, 90004, 90005, 90006]) rfl rfl ?_
       exact At.conv .nil (.cons .q (.cons .q (.cons .q (.cons .q (.cons (BSim.cells (.cons .qc .nil)) (.cons .q (.cons .q (.cons (BSim.cells (.cons .qc .nil)) (.cons .q .nil))))))))) (hQ2 (s2.1, s2.2.1, s2.2.2) H)
     · have H := of_false H hb5
       refine W.skip ?_
       refine At.thenC ?_
       obtain ⟨hc6, H⟩ := of_must H
       obtain ⟨hc7, H⟩ := of_must H
       refine W.sr env [] [] [3, 4, 5, 6, 7, 8] [6, 7, 90000, 90001, 90002, 90003, 90004, 90005, 90006] rfl rfl (by first | rfl | kernel_rfl) (.cons hc6 (.cons hc7 .nil)) .nil ?_
       refine W.seq ?_
       obtain ⟨hc8, H⟩ := of_must H
       obtain ⟨hc9, H⟩ := of_must H
       obtain ⟨y10, hy11, H⟩ := of_bindO H
       obtain ⟨hc12, H⟩ := of_must H
       obtain ⟨hc13, H⟩ := of_must H
       refine W.region env [] [⟨.bool (y10.1), [(90000, .cells [.rp [roL 4 enc_Task c0.Crew.Tasks, roL 1 enc_ListRange c0.Crew.Travel, roL 3 enc_Hand c0.Crew.Hands, roL 1 enc_Int c0.next]]), (90001, .cells [.int .i64 (y10.2.1)]), (90002, .cells [.buf 90003 (y10.2.2.1).length]), (90003, bufL 3 1 enc_Int y10.2.2.1), (90004, .cells [.fn (.func 108) [] [.lp 90000 0, .lp 90001 0, .lp 90002 0, .lp 90004 0, .lp 90005 0]]), (90005, .cells [.buf 90006 (y10.2.2.2).length]), (90006, bufL 3 1 enc_Int y10.2.2.2)], 0, [90000, 90001, 90002, 90003, 90004, 90005, 90006]⟩] rfl rfl (by kernel_rfl) (.cons (⟨by first | rfl | (simp; done) | omega | (simp; omega), hc8⟩) (.cons (⟨by first | rfl | (simp; done) | omega | (simp; omega), (by have := hc8; first | omega | (simp only [List.length_set]; omega) | (simp only [Int.toNat_natCast] at *; omega) | (simp at this ⊢; omega))⟩) (.cons (fun hW => ⟨by first | rfl | (simp; done) | omega | (simp; omega), hc9 hW⟩) (.cons (fun h => h) (.cons (fun h => h) (.cons (fun hW => (⟨by first | rfl | (simp; done) | omega | (simp; omega), (by have := hc9 hW; first | omega | (simp only [List.length_set]; omega) | (simp only [Int.toNat_natCast] at *; omega) | (simp at this ⊢; omega))⟩)) (.cons (fun h => h) (.cons (fun hW => by obtain rfl := lend_off hy11 hW; first | exact .refl _ | exact .q) (.cons (fun hW => by obtain rfl := lend_off hy11 hW; first | exact .refl _ | exact .q) (.cons (fun hW => by obtain rfl := lend_off hy11 hW; first | exact .refl _ | exact .q) (.cons (fun hW => by obtain rfl := lend_off hy11 hW; first | exact .refl _ | exact .q) (.cons (fun hW => by obtain rfl := lend_off hy11 hW; first | exact .refl _ | exact .q) (.cons (fun hW => by obtain rfl := lend_off hy11 hW; first | exact .refl _ | exact .q) (.cons (fun hW => by obtain rfl := lend_off hy11 hW; first | exact .refl _ | exact .q) (.cons (fun h => h) (.cons (fun h => h) (.cons (fun h => by rw [h]; rfl) .nil))))))))))))))))) (.on (fun hW => (CtrO.sim (CtrO.ren (ih (s2.1.getD (x1).toNat default) c0 (((s2.2.2 : Int).toNat ||| (((1 : Int) * 2 ^ (x1 : Int).toNat) : Int).toNat : Nat) : Int) s2.1 s2.2.1 (of_true hy11 hW)) [(90000, 90000), (90001, 90001), (90002, 90002), (90003, 90003), (90004, 90004), (90005, 90005), (90006, 90006)]) (.cons (.refl _) (.cons (.refl _) (.cons (.refl _) (.cons (.refl _) (.cons (.refl _) (.cons (.refl _) .nil)))))) (.cons (.refl _) (.cons (.refl _) (.cons (BSim.cells (.cons .qc .nil)) (.cons (.refl _) (.cons (.refl _) (.cons (BSim.cells (.cons .qc .nil)) (.cons (.refl _) .nil))))))))) .nil) (At.keep (ts := [3, 5, 6, 7, 8, 34]) (ids := [6, 7, 90000, 90001, 90002, 90003, 90004, 90005, 90006]) rfl rfl ?_)
       refine At.thenC ?_
       refine W.cond rfl (fun hb14 => ?_) (fun hb14 => ?_)
       · have H := of_true H hb14
         refine W.seq ?_
         obtain ⟨hc15, H⟩ := of_must H
         obtain ⟨hc16, H⟩ := of_must H
         refine W.region env [] [] rfl rfl (by first | rfl | kernel_rfl) (.cons (⟨by first | rfl | (simp; done) | omega | (simp; omega), hc15⟩) (.cons (⟨by first | rfl | (simp; done) | omega | (simp; omega), (by have := hc15; first | omega | (simp only [List.length_set]; omega) | (simp only [Int.toNat_natCast] at *; omega) | (simp at this ⊢; omega))⟩) (.cons (⟨by first | rfl | (simp; done) | omega | (simp; omega), hc16⟩) (.cons (⟨by first | rfl | (simp; done) | omega | (simp; omega), (by have := hc16; first | omega | (simp only [List.length_set]; omega) | (simp only [Int.toNat_natCast] at *; omega) | (simp at this ⊢; omega))⟩) .nil)))) .nil (At.keep (ts := [7]) (ids := [6, 7, 90000, 90001, 90002, 90003, 90004, 90005, 90006]) rfl rfl ?_)
         refine At.convM (.cons (.refl _) (.cons (.refl _) (.cons (.refl _) (.cons (.refl _) (.cons (.refl _) (.cons (y := bufL 3 1 enc_Int (y10.2.2.1.set (x1).toNat p0)) (BSim.seg (Seg.set (Seg.refl enc_Int _) p0 rfl)) (.cons (.refl _) (.cons (.refl _) (.cons (y := bufL 3 1 enc_Int (y10.2.2.2.set (p0).toNat x1)) (BSim.seg (Seg.set (Seg.refl enc_Int _) x1 rfl)) .nil))))))))) ?_
         refine At.thenC ?_
         refine W.rg env [7] [6, 7, 90000, 90001, 90002, 90003, 90004, 90005, 90006] ?_
         refine W.ret ?_
         refine At.rinb ?_
         refine At.keep (ts := []) (ids := [6, 7, 90000, 90001, 90002, 90003, 90004, 90005, 90006]) rfl rfl ?_
         exact At.conv .nil (.cons .q (.cons .q (.cons .q (.cons .q (.cons (BSim.cells (.cons .qc .nil)) (.cons .q (.cons .q (.cons (BSim.cells (.cons .qc .nil)) (.cons .q .nil))))))))) (hX2 .ret (true, y10.2.1, (y10.2.2.1.set (x1).toNat p0), (y10.2.2.2.set (p0).toNat x1)) ⟨rfl, H⟩)
       · have H := of_false H hb14
         refine W.skip ?_
         refine At.inb ?_
         refine At.keep (ts := []) (ids := [6, 7, 90000, 90001, 90002, 90003, 90004, 90005, 90006]) rfl rfl ?_
         exact At.conv .nil (.cons .q (.cons .q (.cons .q (.cons .q (.cons (BSim.cells (.cons .qc .nil)) (.cons .q (.cons .q (.cons (BSim.cells (.cons .qc .nil)) (.cons .q .nil))))))))) (hQ2 (y10.2.2.1, y10.2.2.2, y10.2.1) H)
   · refine At.inb ?_
     refine At.thenC ?_
     refine W.rg env [7] [7, 90000, 90001, 90002, 90003, 90004, 90005, 90006] ?_
     refine W.ret ?_
     cases H
     exact At.retL env.ty [90000, 90001, 90002, 90003, 90004, 90005, 90006] rfl rfl rfl rfl (.cons (.refl _) (.cons (.refl _) (.cons (BSim.cells (.cons .qc .nil)) (.cons (.refl _) (.cons (.refl _) (.cons (BSim.cells (.cons .qc .nil)) (.cons (.refl _) .nil))))))) (.refl _) hval hdom hent rfl rfl
   · obtain ⟨rfl, H⟩ := h
     refine At.rinb ?_
     refine At.rthen ?_
     cases H
     exact At.retL env.ty [90000, 90001, 90002, 90003, 90004, 90005, 90006] rfl rfl rfl rfl (.cons (.refl _) (.cons (.refl _) (.cons (BSim.cells (.cons .qc .nil)) (.cons (.refl _) (.cons (.refl _) (.cons (BSim.cells (.cons .qc .nil)) (.cons (.refl _) .nil))))))) (.refl _) hval hdom hent rfl rfl
theorem c_crew_plan__pair (fuel : Nat) (p0 : crew_plan) {r : ((List Int) × (List Int))} (H : crew_plan__pair fuel p0 = some r) : Ctr Tryz.prog 102 [.rp [roL 4 enc_Task p0.Crew.Tasks, roL 1 enc_ListRange p0.Crew.Travel, roL 3 enc_Hand p0.Crew.Hands, roL 1 enc_Int p0.next]] (.tup [roL 1 enc_Int r.1, roL 1 enc_Int r.2]) := by
 unfold crew_plan__pair at H
 refine Ctr.of_body (N := 47) Tryz.func102 (by kernel_rfl) (c := _) rfl Tryz.ntmps102 rfl (fun w0 h0 hval => ?_)
 refine W.rg env [1, 2, 3] [1, 2, 3] ?_
 refine W.seq ?_
 obtain ⟨hc1, H⟩ := of_must H
 obtain ⟨hc2, H⟩ := of_must H
 refine W.region env [] [] rfl rfl (by first | rfl | kernel_rfl) (.cons hc1 (.cons hc2 .nil)) .nil (At.keep (ts := [1, 2, 3]) (ids := [1, 2, 3, 13, 19]) rfl rfl ?_)
 refine At.convM (.cons (.refl _) (.cons (.refl _) (.cons (.refl _) (.cons (y := bufL 3 1 enc_Int (List.replicate (((p0.next.length : Nat) : Int)).toNat (0 : Int))) (BSim.seg (Seg.made (f := enc_Int) 0 rfl)) (.cons (y := bufL 3 1 enc_Int (List.replicate (((p0.next.length : Nat) : Int)).toNat (0 : Int))) (BSim.seg (Seg.made (f := enc_Int) 0 rfl)) .nil))))) ?_
 refine At.thenC ?_
 refine W.seq ?_
 refine W.sr env [] [] [1, 2, 3, 21, 22] [1, 2, 3, 13, 19] rfl rfl rfl (.cons (by first | rfl | (simp; done) | omega | (simp; omega)) .nil) .nil ?_
 refine W.block ?_
 refine At.keep (ts := [1, 2, 3, 21, 22]) (ids := [1, 2, 3, 13, 19]) rfl rfl ?_
 obtain ⟨hn3, H⟩ := of_must H
 refine W.rangeGo H (fun i3 (s3 : (List Int) × (List Int)) => [(1, .lp 1 0), (2, .lp 2 0), (3, .lp 3 0), (21, .int .i64 ((((List.replicate (((p0.next.length : Nat) : Int)).toNat (0 : Int)).length : Nat) : Int))), (22, .int .i64 ((i3 : Int)))]) (fun i3 (s3 : (List Int) × (List Int)) => [(1, .cells [.rp [roL 4 enc_Task p0.Crew.Tasks, roL 1 enc_ListRange p0.Crew.Travel, roL 3 enc_Hand p0.Crew.Hands, roL 1 enc_Int p0.next]]), (2, .cells [.buf 13 (s3.1).length]), (3, .cells [.buf 19 (s3.2).length]), (13, bufL 3 1 enc_Int s3.1), (19, bufL 3 1 enc_Int s3.2)]) (.cons .q (.cons .q (.cons .q (.cons .qi (.cons .qi .nil))))) (.cons .q (.cons (BSim.cells (.cons .qc .nil)) (.cons (BSim.cells (.cons .qc .nil)) (.cons .q (.cons .q .nil))))) (fun k3 i3 s3 hle3 H1 H2 K0 hK3 => ?_)
 refine W.rg env [1, 2, 3, 21, 22, 23] [1, 2, 3, 13, 19] ?_
 refine W.seq ?_
 refine W.cond rfl (fun hb4 => ?_) (fun hb4 => ?_)
 · have hi3 : i3 < (List.replicate (((p0.next.length : Nat) : Int)).toNat (0 : Int)).length := by have := of_decide_eq_true hb4; omega
   have H := H1 hi3
   refine W.skip ?_
   refine At.thenC ?_
   refine W.seq ?_
   refine W.block ?_
   refine W.rg env [1, 2, 3, 4, 21, 22] [1, 2, 3, 13, 19] ?_
   obtain ⟨hc5, H⟩ := of_must H
   obtain ⟨hc6, H⟩ := of_must H
   refine W.region env [] [] rfl rfl (by first | rfl | kernel_rfl) (.cons (⟨by first | rfl | (simp; done) | omega | (simp; omega), hc5⟩) (.cons (⟨by first | rfl | (simp; done) | omega | (simp; omega), (by have := hc5; first | omega | (simp only [List.length_set]; omega) | (simp only [Int.toNat_natCast] at *; omega) | (simp at this ⊢; omega))⟩) (.cons (⟨by first | rfl | (simp; done) | omega | (simp; omega), hc6⟩) (.cons (⟨by first | rfl | (simp; done) | omega | (simp; omega), (by have := hc6; first | omega | (simp only [List.length_set]; omega) | (simp only [Int.toNat_natCast] at *; omega) | (simp at this ⊢; omega))⟩) .nil)))) .nil (At.keep (ts := [1, 2, 3, 21, 22]) (ids := [1, 2, 3, 13, 19]) rfl rfl ?_)
   refine At.convM (.cons (.refl _) (.cons (.refl _) (.cons (.refl _) (.cons (y := bufL 3 1 enc_Int (s3.1.set i3 (-1))) (BSim.seg (Seg.set (Seg.refl enc_Int _) (-1) rfl)) (.cons (y := bufL 3 1 enc_Int (s3.2.set i3 (-1))) (BSim.seg (Seg.set (Seg.refl enc_Int _) (-1) rfl)) .nil))))) ?_
   refine At.inb ?_
   refine At.thenC ?_
   refine W.region env [] [] rfl rfl rfl (.cons (by unfold inI; have := hn3; (try unfold maxLen at this); omega) .nil) .nil (At.keep (ts := [1, 2, 3, 21, 22]) (ids := [1, 2, 3, 13, 19]) rfl rfl ?_)
   refine At.thenK (At.keep (ts := [1, 2, 3, 21, 22]) (ids := [1, 2, 3, 13, 19]) rfl rfl ?_)
   exact At.conv (.cons .q (.cons .q (.cons .q (.cons .qi (.cons .qi .nil))))) (.cons .q (.cons (BSim.cells (.cons .qc .nil)) (.cons (BSim.cells (.cons .qc .nil)) (.cons .q (.cons .q .nil))))) (hK3 hi3 ((s3.1.set i3 (-1)), (s3.2.set i3 (-1))) H)
 · have H := H2 (by have := of_decide_eq_false hb4; omega)
   refine W.exit ?_
   refine At.xthen ?_
   refine At.xthen ?_
   refine At.xhere ?_
   refine At.thenC ?_
   refine W.seq ?_
   refine W.rg env [1, 2, 3, 36, 37] [1, 2, 3, 13, 19] ?_
   refine W.block ?_
   refine At.keep (ts := [1, 2, 3, 36, 37]) (ids := [1, 2, 3, 13, 19]) rfl rfl ?_
   obtain ⟨hn7, H⟩ := of_must H
   refine W.rangeGo H (fun i7 (s7 : (List Int) × (List Int)) => [(1, .lp 1 0), (2, .lp 2 0), (3, .lp 3 0), (36, .int .i64 (((p0.next.length : Nat) : Int))), (37, .int .i64 ((i7 : Int)))]) (fun i7 (s7 : (List Int) × (List Int)) => [(1, .cells [.rp [roL 4 enc_Task p0.Crew.Tasks, roL 1 enc_ListRange p0.Crew.Travel, roL 3 enc_Hand p0.Crew.Hands, roL 1 enc_Int p0.next]]), (2, .cells [.buf 13 (s7.1).length]), (3, .cells [.buf 19 (s7.2).length]), (13, bufL 3 1 enc_Int s7.1), (19, bufL 3 1 enc_Int s7.2)]) (.cons .q (.cons .q (.cons .q (.cons .qi (.cons .qi .nil))))) (.cons .q (.cons (BSim.cells (.cons .qc .nil)) (.cons (BSim.cells (.cons .qc .nil)) (.cons .q (.cons .q .nil))))) (fun k7 i7 s7 hle7 H1 H2 K0 hK7 => ?_)
   refine W.rg env [1, 2, 3, 36, 37, 38] [1, 2, 3, 13, 19] ?_
   refine W.seq ?_
   refine W.cond rfl (fun hb8 => ?_) (fun hb8 => ?_)
   · have hi7 : i7 < p0.next.length := by have := of_decide_eq_true hb8; omega
     have H := H1 hi7
     refine W.skip ?_
     refine At.thenC ?_
     refine W.seq ?_
     refine W.block ?_
     refine W.rg env [1, 2, 3, 5, 36, 37] [1, 2, 3, 13, 19] ?_
     refine W.rg env [1, 2, 3, 5, 6, 36, 37] [1, 2, 3, 6, 13, 19] ?_
     refine W.rg env [1, 2, 3, 5, 6, 7, 36, 37] [1, 2, 3, 6, 7, 13, 19] ?_
     refine W.rg env [1, 2, 3, 5, 7, 36, 37] [1, 2, 3, 6, 7, 13, 19] ?_
     obtain ⟨y9, hy10, H⟩ := of_bindO H
     obtain ⟨hc11, H⟩ := of_must H
     obtain ⟨hc12, H⟩ := of_must H
     refine W.region env [] [⟨.bool (y9.1), [(1, .cells [.rp [roL 4 enc_Task p0.Crew.Tasks, roL 1 enc_ListRange p0.Crew.Travel, roL 3 enc_Hand p0.Crew.Hands, roL 1 enc_Int p0.next]]), (6, .cells [.int .i64 (y9.2.1)]), (2, .cells [.buf 13 (y9.2.2.1).length]), (13, bufL 3 1 enc_Int y9.2.2.1), (7, .cells [.fn (.func 108) [] [.lp 1 0, .lp 6 0, .lp 2 0, .lp 7 0, .lp 3 0]]), (3, .cells [.buf 19 (y9.2.2.2).length]), (19, bufL 3 1 enc_Int y9.2.2.2)], 0, [1, 6, 2, 13, 7, 3, 19]⟩] rfl rfl (by kernel_rfl) .nil (.free (CtrO.sim (CtrO.ren (cl_crew_plan__pair_1_l fuel fuel (i7 : Int) p0 0 s7.1 s7.2 hy10) [(90000, 1), (90001, 6), (90002, 2), (90003, 13), (90004, 7), (90005, 3), (90006, 19)]) (.cons (.refl _) (.cons (.refl _) (.cons (.refl _) (.cons (.refl _) (.cons (.refl _) (.cons (.refl _) .nil)))))) (.cons (.refl _) (.cons (.refl _) (.cons (BSim.cells (.cons .qc .nil)) (.cons (.refl _) (.cons (.refl _) (.cons (BSim.cells (.cons .qc .nil)) (.cons (.refl _) .nil)))))))) .nil) (At.keep (ts := [1, 2, 3, 36, 37]) (ids := [1, 2, 3, 13, 19]) rfl rfl ?_)
     refine At.inb ?_
     refine At.thenC ?_
     refine W.region env [] [] rfl rfl rfl (.cons (by unfold inI; have := hn7; (try unfold maxLen at this); omega) .nil) .nil (At.keep (ts := [1, 2, 3, 36, 37]) (ids := [1, 2, 3, 13, 19]) rfl rfl ?_)
     refine At.thenK (At.keep (ts := [1, 2, 3, 36, 37]) (ids := [1, 2, 3, 13, 19]) rfl rfl ?_)
     exact At.conv (.cons .q (.cons .q (.cons .q (.cons .qi (.cons .qi .nil))))) (.cons .q (.cons (BSim.cells (.cons .qc .nil)) (.cons (BSim.cells (.cons .qc .nil)) (.cons .q (.cons .q .nil))))) (hK7 hi7 (y9.2.2.1, y9.2.2.2) H)
   · have H := H2 (by have := of_decide_eq_false hb8; omega)
     refine W.exit ?_
     refine At.xthen ?_
     refine At.xthen ?_
     refine At.xhere ?_
     refine At.thenC ?_
     refine W.sr env [] [] [2, 3] [2, 3, 13, 19] rfl rfl (by first | rfl | kernel_rfl) .nil .nil ?_
     refine W.ret ?_
     cases H
     exact At.ret env.ty rfl rfl (fun q hq => by cases hq; exact ⟨by first | rfl | (simp; done) | omega | (simp; omega), (by first | rfl | (simp; done) | omega | (simp; omega))⟩) (.refl _) hval
theorem c_crew_plan__count (fuel : Nat) (p0 : crew_plan) {r : Int} (H : crew_plan__count fuel p0 = some r) : Ctr Tryz.prog 87 [.rp [roL 4 enc_Task p0.Crew.Tasks, roL 1 enc_ListRange p0.Crew.Travel, roL 3 enc_Hand p0.Crew.Hands, roL 1 enc_Int p0.next]] (.int .i64 (r)) := by
 unfold crew_plan__count at H
 refine Ctr.of_body (N := 25) Tryz.func87 (by kernel_rfl) (c := _) rfl Tryz.ntmps87 rfl (fun w0 h0 hval => ?_)
 refine W.rg env [0] [] ?_
 refine W.seq ?_
 obtain ⟨y1, hy2, H⟩ := of_bindO H
 refine W.region env [] [⟨.tup [roL 1 enc_Int y1.1, roL 1 enc_Int y1.2], [], 0, []⟩] rfl rfl rfl .nil (.free (c_crew_plan__pair fuel p0 hy2) .nil) (At.keep (ts := [3]) (ids := []) rfl rfl ?_)
 refine At.thenC ?_
 refine W.rg env [3, 5] [] ?_
 refine W.seq ?_
 refine W.rg env [5, 13, 14, 15] [] ?_
 refine W.block ?_
 refine At.keep (ts := [5, 13, 14, 15]) (ids := []) rfl rfl ?_
 refine W.len (t := 13) rfl (fun (hn3 : y1.1.length ≤ maxLen) => ?_)
 refine W.rangeGo H (fun i3 (s3 : Int) => [(5, .int .i64 (s3)), (13, roL 1 enc_Int y1.1), (14, .int .i64 (((y1.1.length : Nat) : Int))), (15, .int .i64 ((i3 : Int)))]) (fun i3 (s3 : Int) => []) (.cons .qi (.cons .q (.cons .qi (.cons .qi .nil)))) .nil (fun k3 i3 s3 hle3 H1 H2 K0 hK3 => ?_)
 refine W.rg env [5, 13, 14, 15, 16] [] ?_
 refine W.seq ?_
 refine W.cond rfl (fun hb4 => ?_) (fun hb4 => ?_)
 · have hi3 : i3 < y1.1.length := by have := of_decide_eq_true hb4; omega
   have H := H1 hi3
   refine W.skip ?_
   refine At.thenC ?_
   refine W.seq ?_
   refine W.block ?_
   refine W.sr env [] [] [5, 7, 13, 14, 15] [] rfl rfl rfl (.cons (⟨by omega, by omega⟩ : 0 ≤ (i3 : Int) ∧ (i3 : Int) < ((y1.1.length : Nat) : Int)) .nil) .nil ?_
   refine W.rg env [5, 13, 14, 15, 20] [] ?_
   refine W.cond rfl (fun hb5 => ?_) (fun hb5 => ?_)
   · have H := of_true H hb5
     obtain ⟨hc6, H⟩ := of_must H
     refine W.region env [] [] rfl rfl rfl (.cons hc6 .nil) .nil (At.keep (ts := [5, 13, 14, 15]) (ids := []) rfl rfl ?_)
     refine At.inb ?_
     refine At.thenC ?_
     refine W.region env [] [] rfl rfl rfl (.cons (by unfold inI; have := hn3; (try unfold maxLen at this); omega) .nil) .nil (At.keep (ts := [5, 13, 14, 15]) (ids := []) rfl rfl ?_)
     refine At.thenK (At.keep (ts := [5, 13, 14, 15]) (ids := []) rfl rfl ?_)
     exact At.conv (.cons .qi (.cons .q (.cons .qi (.cons .qi .nil)))) .nil (hK3 hi3 (s3 + 1) H)
   · have H := of_false H hb5
     refine W.skip ?_
     refine At.inb ?_
     refine At.thenC ?_
     refine W.region env [] [] rfl rfl rfl (.cons (by unfold inI; have := hn3; (try unfold maxLen at this); omega) .nil) .nil (At.keep (ts := [5, 13, 14, 15]) (ids := []) rfl rfl ?_)
     refine At.thenK (At.keep (ts := [5, 13, 14, 15]) (ids := []) rfl rfl ?_)
     exact At.conv (.cons .qi (.cons .q (.cons .qi (.cons .qi .nil)))) .nil (hK3 hi3 s3 H)
 · have H := H2 (by have := of_decide_eq_false hb4; omega)
   refine W.exit ?_
   refine At.xthen ?_
   refine At.xthen ?_
   refine At.xhere ?_
   refine At.thenC ?_
   refine W.rg env [2] [] ?_
   refine W.ret ?_
   cases H
   exact At.ret env.ty rfl rfl (fun q hq => by cases hq) (.refl _) hval
theorem c_crew_Count (fuel : Nat) (p0 : Crew) {r : (Int × Int)} (H : crew_Count fuel p0 = some r) : Ctr Tryz.prog 52 [.agg [roL 4 enc_Task p0.Tasks, roL 1 enc_ListRange p0.Travel, roL 3 enc_Hand p0.Hands]] (.tup [.int .i64 (r.1), .int .i64 (r.2)]) := by
 unfold crew_Count at H
 refine Ctr.of_body (N := 13) Tryz.func52 (by kernel_rfl) (c := _) rfl Tryz.ntmps52 rfl (fun w0 h0 hval => ?_)
 refine W.rg env [1] [1] ?_
 refine W.seq ?_
 refine W.seq ?_
 obtain ⟨y1, hy2, H⟩ := of_bindO H
 refine W.region env [] [⟨.int .i64 (y1), [], 0, []⟩] rfl rfl rfl .nil (.free (c_crew_Check p0 hy2) .nil) (At.keep (ts := [1, 4]) (ids := [1]) rfl rfl ?_)
 refine At.thenC ?_
 refine W.rg env [1, 4, 8] [1] ?_
 refine W.cond rfl (fun hb3 => ?_) (fun hb3 => ?_)
 · have H := of_true H hb3
   refine W.rg env [2, 3] [] ?_
   refine W.ret ?_
   refine At.rthen ?_
   cases H
   exact At.ret env.ty rfl rfl (fun q hq => by cases hq) (.refl _) hval
 · have H := of_false H hb3
   refine W.skip ?_
   refine At.thenC ?_
   refine W.seq ?_
   obtain ⟨y4, hy5, H⟩ := of_bindO H
   obtain ⟨hc6, H⟩ := of_must H
   obtain ⟨y7, hy8, H⟩ := of_bindO H
   refine W.region env [] [⟨.po y4.isSome [roL 4 enc_Task ((y4.getD default).Crew.Tasks), roL 1 enc_ListRange ((y4.getD default).Crew.Travel), roL 3 enc_Hand ((y4.getD default).Crew.Hands), roL 1 enc_Int ((y4.getD default).next)], [], 0, []⟩, ⟨.int .i64 (y7), [], 0, []⟩] rfl rfl rfl .nil (.free (c_crew_newPlan p0 (fun x0 => some (crew_most x0)) 35 [] [] (fun x0 r h => by cases h; exact c_crew_most x0) hy5) (.free (Ctr.sim (.cons (Sim.rp_po hc6) .nil) (c_crew_plan__count fuel (y4.getD default) hy8)) .nil)) (At.keep (ts := [2, 3]) (ids := []) rfl rfl ?_)
   refine At.thenC ?_
   refine W.ret ?_
   cases H
   exact At.ret env.ty rfl rfl (fun q hq => by cases hq) (.refl _) hval
theorem c_slices_Clone_Task (p0 : (List Task)) {r : (List Task)} (H : slices_Clone_Task p0 = some r) : Ctr Tryz.prog 88 [roL 4 enc_Task p0] (roL 4 enc_Task r) := by
 unfold slices_Clone_Task at H
 refine Ctr.of_body (N := 8) Tryz.func88 (by kernel_rfl) (c := _) rfl Tryz.ntmps88 rfl (fun w0 h0 hval => ?_)
 refine W.rg env [0] [] ?_
 refine W.seq ?_
 refine W.rg env [0, 4] [] ?_
 refine W.condNz rfl (fun hz => ?_) ?_
 · obtain rfl : p0 = [] := List.length_eq_zero_iff.1 hz
   obtain ⟨hc1, H⟩ := of_must H
   refine W.rg env [2] [] ?_
   refine W.ret ?_
   refine At.rthen ?_
   cases H
   exact At.ret env.ty rfl rfl (fun q hq => by cases hq) (Sim.nil _ _) hval
 · refine W.skip ?_
   refine At.thenC ?_
   refine W.seq ?_
   obtain ⟨hc1, H⟩ := of_must H
   refine W.region env [5] [] rfl rfl rfl (.cons (⟨by first | rfl | (simp; done) | omega | (simp; omega), by have := hc1; first | simpa using this | (unfold room at this ⊢; simp at this ⊢; omega)⟩) .nil) .nil (At.keep (ts := [2]) (ids := [5]) rfl rfl ?_)
   refine At.convM (.cons (y := bufL 41 4 enc_Task (([] : List Task) ++ p0)) (BSim.seg (Seg.push (Seg.lit (f := enc_Task) (sz := 4) ([] : List Task) rfl rfl (fun _ => rfl)) (Seg.refl enc_Task p0))) .nil) ?_
   refine At.thenC ?_
   refine W.ret ?_
   cases H
   exact At.ret env.ty rfl rfl (fun q hq => by cases hq; exact (by first | rfl | (simp; done) | omega | (simp; omega))) (.refl _) hval
theorem c_slices_Clone_Hand (p0 : (List Hand)) {r : (List Hand)} (H : slices_Clone_Hand p0 = some r) : Ctr Tryz.prog 89 [roL 3 enc_Hand p0] (roL 3 enc_Hand r) := by
 unfold slices_Clone_Hand at H
 refine Ctr.of_body (N := 8) Tryz.func89 (by kernel_rfl) (c := _) rfl Tryz.ntmps89 rfl (fun w0 h0 hval => ?_)
 refine W.rg env [0] [] ?_
 refine W.seq ?_
 refine W.rg env [0, 4] [] ?_
 refine W.condNz rfl (fun hz => ?_) ?_
 · obtain rfl : p0 = [] := List.length_eq_zero_iff.1 hz
   obtain ⟨hc1, H⟩ := of_must H
   refine W.rg env [2] [] ?_
   refine W.ret ?_
   refine At.rthen ?_
   cases H
   exact At.ret env.ty rfl rfl (fun q hq => by cases hq) (Sim.nil _ _) hval
 · refine W.skip ?_
   refine At.thenC ?_
   refine W.seq ?_
   obtain ⟨hc1, H⟩ := of_must H
   refine W.region env [5] [] rfl rfl rfl (.cons (⟨by first | rfl | (simp; done) | omega | (simp; omega), by have := hc1; first | simpa using this | (unfold room at this ⊢; simp at this ⊢; omega)⟩) .nil) .nil (At.keep (ts := [2]) (ids := [5]) rfl rfl ?_)
   refine At.convM (.cons (y := bufL 43 3 enc_Hand (([] : List Hand) ++ p0)) (BSim.seg (Seg.push (Seg.lit (f := enc_Hand) (sz := 3) ([] : List Hand) rfl rfl (fun _ => rfl)) (Seg.refl enc_Hand p0))) .nil) ?_
   refine At.thenC ?_
   refine W.ret ?_
   cases H
   exact At.ret env.ty rfl rfl (fun q hq => by cases hq; exact (by first | rfl | (simp; done) | omega | (simp; omega))) (.refl _) hval
theorem c_slices_Clone_Range (p0 : (List Range)) {r : (List Range)} (H : slices_Clone_Range p0 = some r) : Ctr Tryz.prog 90 [roL 2 enc_Range p0] (roL 2 enc_Range r) := by
 unfold slices_Clone_Range at H
 refine Ctr.of_body (N := 8) Tryz.func90 (by kernel_rfl) (c := _) rfl Tryz.ntmps90 rfl (fun w0 h0 hval => ?_)
 refine W.rg env [0] [] ?_
 refine W.seq ?_
 refine W.rg env [0, 4] [] ?_
 refine W.condNz rfl (fun hz => ?_) ?_
 · obtain rfl : p0 = [] := List.length_eq_zero_iff.1 hz
   obtain ⟨hc1, H⟩ := of_must H
   refine W.rg env [2] [] ?_
   refine W.ret ?_
   refine At.rthen ?_
   cases H
   exact At.ret env.ty rfl rfl (fun q hq => by cases hq) (Sim.nil _ _) hval
 · refine W.skip ?_
   refine At.thenC ?_
   refine W.seq ?_
   obtain ⟨hc1, H⟩ := of_must H
   refine W.region env [5] [] rfl rfl rfl (.cons (⟨by first | rfl | (simp; done) | omega | (simp; omega), by have := hc1; first | simpa using this | (unfold room at this ⊢; simp at this ⊢; omega)⟩) .nil) .nil (At.keep (ts := [2]) (ids := [5]) rfl rfl ?_)
   refine At.convM (.cons (y := bufL 93 2 enc_Range (([] : List Range) ++ p0)) (BSim.seg (Seg.push (Seg.lit (f := enc_Range) (sz := 2) ([] : List Range) rfl rfl (fun _ => rfl)) (Seg.refl enc_Range p0))) .nil) ?_
   refine At.thenC ?_
   refine W.ret ?_
   cases H
   exact At.ret env.ty rfl rfl (fun q hq => by cases hq; exact (by first | rfl | (simp; done) | omega | (simp; omega))) (.refl _) hval
theorem c_crew_copied (p0 : Crew) {r : Crew} (H : crew_copied p0 = some r) : Ctr Tryz.prog 53 [.agg [roL 4 enc_Task p0.Tasks, roL 1 enc_ListRange p0.Travel, roL 3 enc_Hand p0.Hands]] (.agg [roL 4 enc_Task r.Tasks, roL 1 enc_ListRange r.Travel, roL 3 enc_Hand r.Hands]) := by
 unfold crew_copied at H
 refine Ctr.of_body (N := 29) Tryz.func53 (by kernel_rfl) (c := _) rfl Tryz.ntmps53 rfl (fun w0 h0 hval => ?_)
 refine W.rg env [1, 2] [1, 2] ?_
 refine W.seq ?_
 obtain ⟨y1, hy2, H⟩ := of_bindO H
 obtain ⟨y3, hy4, H⟩ := of_bindO H
 refine W.region env [] [⟨roL 4 enc_Task y1, [], 0, []⟩, ⟨roL 3 enc_Hand y3, [], 0, []⟩] rfl rfl (by kernel_rfl) .nil (.free (c_slices_Clone_Task p0.Tasks hy2) (.free (c_slices_Clone_Hand p0.Hands hy4) .nil)) (At.keep (ts := [1, 2, 3]) (ids := [1, 2, 3]) rfl rfl ?_)
 refine At.thenC ?_
 refine W.seq ?_
 refine W.rg env [2, 3, 14, 15, 16] [2, 3] ?_
 refine W.block ?_
 refine At.nilOwnCell 3 1 751 106 1 (e := fun i => enc_ListRange (([] : List (List Range)).getD i default)) rfl rfl rfl ?_
 refine At.keep (ts := [2, 3, 14, 15, 16]) (ids := [2, 3, 751]) rfl rfl ?_
 refine W.len (t := 14) rfl (fun (hn5 : p0.Travel.length ≤ maxLen) => ?_)
 refine W.rangeGo H (fun i5 (s5 : (List (List Range))) => [(2, .lp 2 0), (3, .lp 3 0), (14, roL 1 enc_ListRange p0.Travel), (15, .int .i64 (((p0.Travel.length : Nat) : Int))), (16, .int .i64 ((i5 : Int)))]) (fun i5 (s5 : (List (List Range))) => [(2, .cells [.nilS, .nilS, .nilS]), (3, .cells [roL 4 enc_Task y1, .buf 751 (s5).length, roL 3 enc_Hand y3]), (751, bufL 106 1 enc_ListRange s5)]) (.cons .q (.cons .q (.cons .q (.cons .qi (.cons .qi .nil))))) (.cons .q (.cons (BSim.cells (.cons .q (.cons .qc (.cons .q .nil)))) (.cons .q .nil))) (fun k5 i5 s5 hle5 H1 H2 K0 hK5 => ?_)
 refine W.rg env [2, 3, 14, 15, 16, 17] [2, 3, 751] ?_
 refine W.seq ?_
 refine W.cond rfl (fun hb6 => ?_) (fun hb6 => ?_)
 · have hi5 : i5 < p0.Travel.length := by have := of_decide_eq_true hb6; omega
   have H := H1 hi5
   refine W.skip ?_
   refine At.thenC ?_
   refine W.seq ?_
   refine W.block ?_
   refine W.sr env [] [] [2, 3, 5, 14, 15, 16] [2, 3, 751] rfl rfl rfl (.cons (⟨by omega, by omega⟩ : 0 ≤ (i5 : Int) ∧ (i5 : Int) < ((p0.Travel.length : Nat) : Int)) .nil) .nil ?_
   obtain ⟨y7, hy8, H⟩ := of_bindO H
   obtain ⟨hc9, H⟩ := of_must H
   refine W.region env [] [⟨roL 2 enc_Range y7, [], 0, []⟩] rfl rfl (by kernel_rfl) (.cons (⟨by first | rfl | (simp; done) | omega | (simp; omega), by have := hc9; first | simpa using this | (unfold room at this ⊢; simp at this ⊢; omega)⟩) .nil) (.free (c_slices_Clone_Range (p0.Travel.getD i5 default) hy8) .nil) (At.keep (ts := [2, 3, 14, 15, 16]) (ids := [2, 3, 751]) rfl rfl ?_)
   refine At.convM (.cons (.refl _) (.cons (.refl _) (.cons (y := bufL 106 1 enc_ListRange (s5 ++ ([y7] : List (List Range)))) (BSim.seg (Seg.push (Seg.refl enc_ListRange _) (Seg.lit (f := enc_ListRange) (sz := 1) ([y7] : List (List Range)) rfl rfl (fun _ => rfl)))) .nil))) ?_
   refine At.inb ?_
   refine At.thenC ?_
   refine W.region env [] [] rfl rfl rfl (.cons (by unfold inI; have := hn5; (try unfold maxLen at this); omega) .nil) .nil (At.keep (ts := [2, 3, 14, 15, 16]) (ids := [2, 3, 751]) rfl rfl ?_)
   refine At.thenK (At.keep (ts := [2, 3, 14, 15, 16]) (ids := [2, 3, 751]) rfl rfl ?_)
   exact At.conv (.cons .q (.cons .q (.cons .q (.cons .qi (.cons .qi .nil))))) (.cons .q (.cons (BSim.cells (.cons .q (.cons .qc (.cons .q .nil)))) (.cons .q .nil))) (hK5 hi5 (s5 ++ ([y7] : List (List Range))) H)
 · have H := H2 (by have := of_decide_eq_false hb6; omega)
   refine W.exit ?_
   refine At.xthen ?_
   refine At.xthen ?_
   refine At.xhere ?_
   refine At.thenC ?_
   refine W.rg env [2] [2, 751] ?_
   refine W.ret ?_
   cases H
   exact At.ret env.ty rfl rfl (fun q hq => by cases hq; exact (by first | rfl | (simp; done) | omega | (simp; omega))) (.refl _) hval
theorem co_slices_Delete_Task (p0 : (List Task)) (p1 : Int) (p2 : Int) {r : (List Task)} (H : slices_Delete_Task p0 p1 p2 = some r) : CtrO Tryz.prog 54 [.buf 700 (p0).length, .int .i64 (p1), .int .i64 (p2)] [(700, bufL 41 4 enc_Task p0)] (.buf 900 r.length) [(900, bufL 41 4 enc_Task r)] := by
 unfold slices_Delete_Task at H
 refine CtrO.of_body (N := 33) Tryz.func54 (by kernel_rfl) (c := _) rfl Tryz.ntmps54 rfl (fun w0 h0 ρb hval hdom => ?_)
 refine W.rg env [0, 1, 2] [700] ?_
 obtain ⟨hc1, H⟩ := of_must H
 refine W.sr env [] [] [0, 1, 2] [700] rfl rfl rfl (.cons (by first | rfl | (simp; done) | omega | (simp; omega)) (.cons (⟨by first | rfl | (simp; done) | omega | (simp; omega), hc1⟩) .nil)) .nil ?_
 refine W.seq ?_
 refine W.rg env [0, 1, 2, 16] [700] ?_
 refine W.cond rfl (fun hb2 => ?_) (fun hb2 => ?_)
 · have H := of_true H hb2
   refine W.rg env [6] [700] ?_
   refine W.ret ?_
   refine At.rthen ?_
   cases H
   exact At.retK env.ty [700] 200 rfl rfl rfl rfl (.cons (.refl _) .nil) (.of_eq (by refine bufEq ?_; first | (simp [copyAt]; done) | omega | (simp [copyAt]; omega) | rfl)) hval hdom rfl
 · have H := of_false H hb2
   refine W.skip ?_
   refine At.thenC ?_
   refine W.sr env [] [] [0, 1, 2, 7] [700] rfl rfl rfl (.cons (by first | rfl | (simp; done) | omega | (simp; omega)) .nil) .nil ?_
   refine W.seq ?_
   obtain ⟨hc3, H⟩ := of_must H
   obtain ⟨hc4, H⟩ := of_must H
   obtain ⟨hc5, H⟩ := of_must H
   refine W.region env [] [] rfl rfl (by first | rfl | kernel_rfl) (.cons (⟨by first | rfl | (simp; done) | omega | (simp; omega), hc3⟩) (.cons (⟨by first | rfl | (simp; done) | omega | (simp; omega), hc4⟩) (.cons (⟨rfl, rfl, by omega, by omega, by omega⟩) .nil))) .nil (At.keep (ts := [0, 7]) (ids := [26]) rfl rfl ?_)
   refine At.convM (.cons (y := bufkL 41 4 p0.length enc_Task (p0.take ((p1).toNat) ++ p0.drop ((p2).toNat))) (BSim.kseg (Seg.moved (f := enc_Task) (l := p0) ((p1).toNat) ((p2).toNat) (by omega) (by omega))) .nil) ?_
   refine At.thenC ?_
   refine W.seq ?_
   obtain ⟨hc6, H⟩ := of_must H
   refine W.region env [] [] rfl rfl rfl (.cons (by first | rfl | (simp; done) | omega | (simp; omega)) (.cons (⟨by first | rfl | (simp; done) | omega | (simp; omega), hc6⟩) (.cons (⟨by first | rfl | (simp; done) | omega | (simp; omega), by first | rfl | (simp; done) | omega | (simp; omega), by first | omega | (simp; omega)⟩) .nil))) .nil (At.keep (ts := [0]) (ids := [26]) rfl rfl ?_)
   refine At.convM (.cons (y := bufkL 41 4 p0.length enc_Task (p0.take ((p1).toNat) ++ p0.drop ((p2).toNat))) (BSim.kseg (Seg.refl enc_Task _)) .nil) ?_
   refine At.thenC ?_
   refine W.rg env [6] [26] ?_
   refine W.ret ?_
   cases H
   exact At.retK env.ty [26] 874 rfl rfl rfl rfl (.cons (.bufk (.refl _)) .nil) (.of_eq (by refine bufEq ?_; first | (simp [copyAt]; done) | omega | (simp [copyAt]; omega) | rfl)) hval hdom rfl
theorem co_slices_Clone_Task (p0 : (List Task)) {r : (List Task)} (H : slices_Clone_Task p0 = some r) : CtrO Tryz.prog 88 [roL 4 enc_Task p0] [] (.buf 900 r.length) [(900, bufL 41 4 enc_Task r)] := by
 unfold slices_Clone_Task at H
 refine CtrO.of_body (N := 8) Tryz.func88 (by kernel_rfl) (c := _) rfl Tryz.ntmps88 rfl (fun w0 h0 ρb hval hdom => ?_)
 refine W.rg env [0] [] ?_
 refine W.seq ?_
 refine W.rg env [0, 4] [] ?_
 refine W.condNz rfl (fun hz => ?_) ?_
 · obtain rfl : p0 = [] := List.length_eq_zero_iff.1 hz
   obtain ⟨hc1, H⟩ := of_must H
   refine W.rg env [2] [] ?_
   refine W.ret ?_
   refine At.rthen ?_
   cases H
   refine At.nilOwn 2 800 41 4 (e := fun i => enc_Task (([] : List Task).getD i default)) rfl rfl ?_
   exact At.retK env.ty [800] 100 rfl rfl rfl rfl (.cons (.refl _) .nil) (.of_eq (by refine bufEq ?_; first | (simp [copyAt]; done) | omega | (simp [copyAt]; omega) | rfl)) hval hdom rfl
 · refine W.skip ?_
   refine At.thenC ?_
   refine W.seq ?_
   obtain ⟨hc1, H⟩ := of_must H
   refine W.region env [5] [] rfl rfl rfl (.cons (⟨by first | rfl | (simp; done) | omega | (simp; omega), by have := hc1; first | simpa using this | (unfold room at this ⊢; simp at this ⊢; omega)⟩) .nil) .nil (At.keep (ts := [2]) (ids := [5]) rfl rfl ?_)
   refine At.convM (.cons (y := bufL 41 4 enc_Task (([] : List Task) ++ p0)) (BSim.seg (Seg.push (Seg.lit (f := enc_Task) (sz := 4) ([] : List Task) rfl rfl (fun _ => rfl)) (Seg.refl enc_Task p0))) .nil) ?_
   refine At.thenC ?_
   refine W.ret ?_
   cases H
   exact At.retK env.ty [5] 895 rfl rfl rfl rfl (.cons (.refl _) .nil) (.of_eq (by refine bufEq ?_; first | (simp [copyAt]; done) | omega | (simp [copyAt]; omega) | rfl)) hval hdom rfl
theorem co_crew_copied_o0_1 (p0 : Crew) {r : Crew} (H : crew_copied p0 = some r) : CtrO Tryz.prog 53 [.agg [roL 4 enc_Task p0.Tasks, roL 1 enc_ListRange p0.Travel, roL 3 enc_Hand p0.Hands]] [] (.agg [.buf 940 (r.Tasks).length, .buf 941 (r.Travel).length, roL 3 enc_Hand r.Hands]) [(940, bufL 41 4 enc_Task r.Tasks), (941, bufL 106 1 enc_ListRange r.Travel)] := by
 unfold crew_copied at H
 refine CtrO.of_body (N := 29) Tryz.func53 (by kernel_rfl) (c := _) rfl Tryz.ntmps53 rfl (fun w0 h0 ρb hval hdom => ?_)
 refine W.rg env [1, 2] [1, 2] ?_
 refine W.seq ?_
 obtain ⟨y1, hy2, H⟩ := of_bindO H
 obtain ⟨y3, hy4, H⟩ := of_bindO H
 refine W.region env [] [⟨.buf 900 y1.length, [(900, bufL 41 4 enc_Task y1)], 9000, []⟩, ⟨roL 3 enc_Hand y3, [], 0, []⟩] rfl rfl (by kernel_rfl) .nil (.free ((Ctr.ofO (co_slices_Clone_Task p0.Tasks hy2))) (.free (c_slices_Clone_Hand p0.Hands hy4) .nil)) (At.keep (ts := [1, 2, 3]) (ids := [1, 2, 3, 9900]) rfl rfl ?_)
 refine At.thenC ?_
 refine W.seq ?_
 refine W.rg env [2, 3, 14, 15, 16] [2, 3, 9900] ?_
 refine W.block ?_
 refine At.nilOwnCell 3 1 751 106 1 (e := fun i => enc_ListRange (([] : List (List Range)).getD i default)) rfl rfl rfl ?_
 refine At.keep (ts := [2, 3, 14, 15, 16]) (ids := [2, 3, 751, 9900]) rfl rfl ?_
 refine W.len (t := 14) rfl (fun (hn5 : p0.Travel.length ≤ maxLen) => ?_)
 refine W.rangeGo H (fun i5 (s5 : (List (List Range))) => [(2, .lp 2 0), (3, .lp 3 0), (14, roL 1 enc_ListRange p0.Travel), (15, .int .i64 (((p0.Travel.length : Nat) : Int))), (16, .int .i64 ((i5 : Int)))]) (fun i5 (s5 : (List (List Range))) => [(2, .cells [.nilS, .nilS, .nilS]), (3, .cells [.buf 9900 (y1).length, .buf 751 (s5).length, roL 3 enc_Hand y3]), (751, bufL 106 1 enc_ListRange s5), (9900, bufL 41 4 enc_Task y1)]) (.cons .q (.cons .q (.cons .q (.cons .qi (.cons .qi .nil))))) (.cons .q (.cons (BSim.cells (.cons .qc (.cons .qc (.cons .q .nil)))) (.cons .q (.cons .q .nil)))) (fun k5 i5 s5 hle5 H1 H2 K0 hK5 => ?_)
 refine W.rg env [2, 3, 14, 15, 16, 17] [2, 3, 751, 9900] ?_
 refine W.seq ?_
 refine W.cond rfl (fun hb6 => ?_) (fun hb6 => ?_)
 · have hi5 : i5 < p0.Travel.length := by have := of_decide_eq_true hb6; omega
   have H := H1 hi5
   refine W.skip ?_
   refine At.thenC ?_
   refine W.seq ?_
   refine W.block ?_
   refine W.sr env [] [] [2, 3, 5, 14, 15, 16] [2, 3, 751, 9900] rfl rfl rfl (.cons (⟨by omega, by omega⟩ : 0 ≤ (i5 : Int) ∧ (i5 : Int) < ((p0.Travel.length : Nat) : Int)) .nil) .nil ?_
   obtain ⟨y7, hy8, H⟩ := of_bindO H
   obtain ⟨hc9, H⟩ := of_must H
   refine W.region env [] [⟨roL 2 enc_Range y7, [], 0, []⟩] rfl rfl (by kernel_rfl) (.cons (⟨by first | rfl | (simp; done) | omega | (simp; omega), by have := hc9; first | simpa using this | (unfold room at this ⊢; simp at this ⊢; omega)⟩) .nil) (.free (c_slices_Clone_Range (p0.Travel.getD i5 default) hy8) .nil) (At.keep (ts := [2, 3, 14, 15, 16]) (ids := [2, 3, 751, 9900]) rfl rfl ?_)
   refine At.convM (.cons (.refl _) (.cons (.refl _) (.cons (y := bufL 106 1 enc_ListRange (s5 ++ ([y7] : List (List Range)))) (BSim.seg (Seg.push (Seg.refl enc_ListRange _) (Seg.lit (f := enc_ListRange) (sz := 1) ([y7] : List (List Range)) rfl rfl (fun _ => rfl)))) (.cons (.refl _) .nil)))) ?_
   refine At.inb ?_
   refine At.thenC ?_
   refine W.region env [] [] rfl rfl rfl (.cons (by unfold inI; have := hn5; (try unfold maxLen at this); omega) .nil) .nil (At.keep (ts := [2, 3, 14, 15, 16]) (ids := [2, 3, 751, 9900]) rfl rfl ?_)
   refine At.thenK (At.keep (ts := [2, 3, 14, 15, 16]) (ids := [2, 3, 751, 9900]) rfl rfl ?_)
   exact At.conv (.cons .q (.cons .q (.cons .q (.cons .qi (.cons .qi .nil))))) (.cons .q (.cons (BSim.cells (.cons .qc (.cons .qc (.cons .q .nil)))) (.cons .q (.cons .q .nil)))) (hK5 hi5 (s5 ++ ([y7] : List (List Range))) H)
 · have H := H2 (by have := of_decide_eq_false hb6; omega)
   refine W.exit ?_
   refine At.xthen ?_
   refine At.xthen ?_
   refine At.xhere ?_
   refine At.thenC ?_
   refine W.rg env [2] [2, 751, 9900] ?_
   refine W.ret ?_
   cases H
   refine At.ren [(9900, 940), (751, 941)] (K := [2, 751, 9900]) (ts := [2]) rfl rfl rfl rfl rfl ?_
   exact At.retK env.ty [940, 941] 0 rfl rfl rfl rfl (.cons (.refl _) (.cons (.refl _) .nil)) (Sim.aggL (.cons .qc (.cons .qc (.cons (.refl _) .nil)))) hval hdom rfl
theorem c_crew_Moved (fuel : Nat) (p0 : Crew) {r : ((List Int) × Int)} (H : crew_Moved fuel p0 = some r) : Ctr Tryz.prog 11 [.agg [roL 4 enc_Task p0.Tasks, roL 1 enc_ListRange p0.Travel, roL 3 enc_Hand p0.Hands]] (.tup [roL 1 enc_Int r.1, .int .i64 (r.2)]) := by
 unfold crew_Moved at H
 refine Ctr.of_body (N := 52) Tryz.func11 (by kernel_rfl) (c := _) rfl Tryz.ntmps11 rfl (fun w0 h0 hval => ?_)
 refine W.rg env [1] [1] ?_
 refine W.seq ?_
 obtain ⟨y1, hy2, H⟩ := of_bindO H
 refine W.region env [] [⟨.tup [.int .i64 (y1.1), .int .i64 (y1.2)], [], 0, []⟩] rfl rfl rfl .nil (.free (c_crew_Count fuel p0 hy2) .nil) (At.keep (ts := [1, 4, 5]) (ids := [1]) rfl rfl ?_)
 refine At.thenC ?_
 refine W.seq ?_
 refine W.rg env [1, 4, 5, 18] [1] ?_
 refine W.cond rfl (fun hb3 => ?_) (fun hb3 => ?_)
 · have H := of_true H hb3
   refine W.rg env [2, 3] [] ?_
   refine W.ret ?_
   refine At.rthen ?_
   cases H
   exact At.ret env.ty rfl rfl (fun q hq => by cases hq) (Sim.tupL (.cons (Sim.nil _ _) (.cons (.refl _) .nil))) hval
 · have H := of_false H hb3
   refine W.skip ?_
   refine At.thenC ?_
   refine W.rg env [1, 4, 6] [1] ?_
   refine W.seq ?_
   refine W.rg env [1, 4, 6, 21, 22, 23] [1] ?_
   refine W.block ?_
   refine At.nilOwn 6 506 3 1 (e := fun i => enc_Int (([] : List Int).getD i default)) rfl rfl ?_
   refine At.keep (ts := [1, 4, 6, 21, 22, 23]) (ids := [1, 506]) rfl rfl ?_
   refine W.len (t := 21) rfl (fun (hn4 : p0.Tasks.length ≤ maxLen) => ?_)
   refine W.rangeGo H (fun i4 (s4 : (List Int)) => [(1, .lp 1 0), (4, .int .i64 (y1.1)), (6, .buf 506 (s4).length), (21, roL 4 enc_Task p0.Tasks), (22, .int .i64 (((p0.Tasks.length : Nat) : Int))), (23, .int .i64 ((i4 : Int)))]) (fun i4 (s4 : (List Int)) => [(1, .cells [roL 4 enc_Task p0.Tasks, roL 1 enc_ListRange p0.Travel, roL 3 enc_Hand p0.Hands]), (506, bufL 3 1 enc_Int s4)]) (.cons .q (.cons .qi (.cons .qb (.cons .q (.cons .qi (.cons .qi .nil)))))) (.cons .q (.cons .q .nil)) (fun k4 i4 s4 hle4 H1 H2 K0 hK4 => ?_)
   refine W.rg env [1, 4, 6, 21, 22, 23, 24] [1, 506] ?_
   refine W.seq ?_
   refine W.cond rfl (fun hb5 => ?_) (fun hb5 => ?_)
   · have hi4 : i4 < p0.Tasks.length := by have := of_decide_eq_true hb5; omega
     have H := H1 hi4
     refine W.skip ?_
     refine At.thenC ?_
     refine W.seq ?_
     refine W.block ?_
     refine W.sr env [] [] [1, 4, 6, 7, 8, 21, 22, 23] [1, 8, 506] rfl rfl rfl (.cons (⟨by omega, by omega⟩ : 0 ≤ (i4 : Int) ∧ (i4 : Int) < ((p0.Tasks.length : Nat) : Int)) .nil) .nil ?_
     refine W.seq ?_
     obtain ⟨y6, hy7, H⟩ := of_bindO H
     refine W.region env [] [⟨.agg [.buf 940 (y6.Tasks).length, .buf 941 (y6.Travel).length, roL 3 enc_Hand y6.Hands], [(940, bufL 41 4 enc_Task y6.Tasks), (941, bufL 106 1 enc_ListRange y6.Travel)], 30000, []⟩] rfl rfl (by kernel_rfl) .nil (.free ((Ctr.ofO (co_crew_copied_o0_1 p0 hy7))) .nil) (At.keep (ts := [1, 4, 6, 7, 8, 9, 21, 22, 23]) (ids := [1, 8, 9, 506, 30940, 30941]) rfl rfl ?_)
     refine At.thenC ?_
     refine W.seq ?_
     obtain ⟨y8, hy9, H⟩ := of_bindO H
     refine W.region env [] [⟨.buf 900 y8.length, [(30940, .dead), (900, bufL 41 4 enc_Task y8)], 36000, []⟩] rfl rfl (by kernel_rfl) (.cons (by unfold inI; have := hn4; (try unfold maxLen at this); omega) .nil) (.free (CtrO.sim (CtrO.at (co_slices_Delete_Task y6.Tasks (i4 : Int) ((i4 : Int) + 1) hy9) rfl 30940) (.cons .qc (.cons (.refl _) (.cons (.refl _) .nil))) (.cons (.refl _) .nil)) .nil) (At.keep (ts := [1, 4, 6, 8, 9, 21, 22, 23]) (ids := [1, 8, 9, 506, 30941, 36900]) rfl rfl ?_)
     refine At.thenC ?_
     refine W.seq ?_
     obtain ⟨y10, hy11, H⟩ := of_bindO H
     refine W.region env [] [⟨.tup [.int .i64 (y10.1), .int .i64 (y10.2)], [], 0, []⟩] rfl rfl rfl (.cons ⟨by first | rfl | (simp; done) | omega | (simp; omega), (by first | rfl | (simp; done) | omega | (simp; omega))⟩ .nil) (.free (c_crew_Count fuel (⟨y8, y6.Travel, y6.Hands⟩ : Crew) hy11) .nil) (At.keep (ts := [1, 4, 6, 8, 10, 21, 22, 23]) (ids := [1, 8, 506]) rfl rfl ?_)
     refine At.thenC ?_
     refine W.rg env [1, 4, 6, 8, 21, 22, 23, 44] [1, 8, 506] ?_
     refine W.cond rfl (fun hb12 => ?_) (fun hb12 => ?_)
     · have H := of_true H hb12
       obtain ⟨hc13, H⟩ := of_must H
       refine W.region env [] [] rfl rfl rfl (.cons (⟨by first | rfl | (simp; done) | omega | (simp; omega), by have := hc13; first | simpa using this | (unfold room at this ⊢; simp at this ⊢; omega)⟩) .nil) .nil (At.keep (ts := [1, 4, 6, 21, 22, 23]) (ids := [1, 506]) rfl rfl ?_)
       refine At.convM (.cons (.refl _) (.cons (y := bufL 3 1 enc_Int (s4 ++ ([(p0.Tasks.getD i4 default).Lamp] : List Int))) (BSim.seg (Seg.push (Seg.refl enc_Int _) (Seg.lit (f := enc_Int) (sz := 1) ([(p0.Tasks.getD i4 default).Lamp] : List Int) rfl rfl (fun _ => rfl)))) .nil)) ?_
       refine At.inb ?_
       refine At.thenC ?_
       refine W.region env [] [] rfl rfl rfl (.cons (by unfold inI; have := hn4; (try unfold maxLen at this); omega) .nil) .nil (At.keep (ts := [1, 4, 6, 21, 22, 23]) (ids := [1, 506]) rfl rfl ?_)
       refine At.thenK (At.keep (ts := [1, 4, 6, 21, 22, 23]) (ids := [1, 506]) rfl rfl ?_)
       exact At.conv (.cons .q (.cons .qi (.cons .qb (.cons .q (.cons .qi (.cons .qi .nil)))))) (.cons .q (.cons .q .nil)) (hK4 hi4 (s4 ++ ([(p0.Tasks.getD i4 default).Lamp] : List Int)) H)
     · have H := of_false H hb12
       refine W.skip ?_
       refine At.inb ?_
       refine At.thenC ?_
       refine W.region env [] [] rfl rfl rfl (.cons (by unfold inI; have := hn4; (try unfold maxLen at this); omega) .nil) .nil (At.keep (ts := [1, 4, 6, 21, 22, 23]) (ids := [1, 506]) rfl rfl ?_)
       refine At.thenK (At.keep (ts := [1, 4, 6, 21, 22, 23]) (ids := [1, 506]) rfl rfl ?_)
       exact At.conv (.cons .q (.cons .qi (.cons .qb (.cons .q (.cons .qi (.cons .qi .nil)))))) (.cons .q (.cons .q .nil)) (hK4 hi4 s4 H)
   · have H := H2 (by have := of_decide_eq_false hb5; omega)
     refine W.exit ?_
     refine At.xthen ?_
     refine At.xthen ?_
     refine At.xhere ?_
     refine At.thenC ?_
     refine W.rg env [2, 3] [506] ?_
     refine W.ret ?_
     cases H
     exact At.ret env.ty rfl rfl (fun q hq => by cases hq; exact (by first | rfl | (simp; done) | omega | (simp; omega))) (.refl _) hval
theorem cl_gasolierref04_matched_l (fuel : Nat) : ∀ (n : Nat) (p0 : Crew) (p1 : Int) (p2 : (List Int)) (p3 : (List Bool)) {r : (Bool × (List Int) × (List Bool))} (H : gasolierref04_matched_l fuel n p0 p1 p2 p3 = some r), CtrO Tryz.prog 91 [.agg [roL 4 enc_Task p0.Tasks, roL 1 enc_ListRange p0.Travel, roL 3 enc_Hand p0.Hands], .int .i64 (p1), .buf 90000 (p2).length, .buf 90001 (p3).length] [(90000, bufL 3 1 enc_Int p2), (90001, bufL 4 1 enc_Bool p3)] (.bool (r.1)) [(90000, bufL 3 1 enc_Int r.2.1), (90001, bufL 4 1 enc_Bool r.2.2)] := by
 intro n; induction n with
 | zero => intro p0 p1 p2 p3 r H; cases H
 | succ n ih =>
   intro p0 p1 p2 p3 r H
   have H : gasolierref04_matched_l_F fuel (gasolierref04_matched_l fuel n) p0 p1 p2 p3 = some r := H
   unfold gasolierref04_matched_l_F at H
   refine CtrL.of_body (N := 50) Tryz.func91 (by kernel_rfl) (c := _) rfl Tryz.ntmps91 rfl rfl (fun w0 h0 ρb hval hdom hent => ?_)
   refine W.rg env [1, 2, 3, 4] [4, 90000, 90001] ?_
   refine W.seq ?_
   refine W.rg env [1, 2, 3, 4, 12, 13] [4, 90000, 90001] ?_
   refine W.block ?_
   refine At.keep (ts := [1, 2, 3, 4, 12, 13]) (ids := [4, 90000, 90001]) rfl rfl ?_
   obtain ⟨hn1, H⟩ := of_must H
   refine W.rangeGo H (fun i1 (s1 : (List Int) × (List Bool)) => [(1, .int .i64 (p1)), (2, .buf 90000 (s1.1).length), (3, .buf 90001 (s1.2).length), (4, .lp 4 0), (12, .int .i64 (((p0.Tasks.length : Nat) : Int))), (13, .int .i64 ((i1 : Int)))]) (fun i1 (s1 : (List Int) × (List Bool)) => [(4, .cells [roL 4 enc_Task p0.Tasks, roL 1 enc_ListRange p0.Travel, roL 3 enc_Hand p0.Hands]), (90000, bufL 3 1 enc_Int s1.1), (90001, bufL 4 1 enc_Bool s1.2)]) (.cons .qi (.cons .qb (.cons .qb (.cons .q (.cons .qi (.cons .qi .nil)))))) (.cons .q (.cons .q (.cons .q .nil))) (fun k1 i1 s1 hle1 H1 H2 K0 hK1 => ?_)
   refine W.rg env [1, 2, 3, 4, 12, 13, 14] [4, 90000, 90001] ?_
   refine W.seq ?_
   refine W.cond rfl (fun hb2 => ?_) (fun hb2 => ?_)
   · have hi1 : i1 < p0.Tasks.length := by have := of_decide_eq_true hb2; omega
     have H := H1 hi1
     refine W.skip ?_
     refine At.thenC ?_
     refine W.seq ?_
     refine W.joinC H (fun (s3 : (List Int) × (List Bool)) => [(1, .int .i64 (p1)), (2, .buf 90000 (s3.1).length), (3, .buf 90001 (s3.2).length), (4, .lp 4 0), (12, .int .i64 (((p0.Tasks.length : Nat) : Int))), (13, .int .i64 ((i1 : Int)))]) (fun (s3 : (List Int) × (List Bool)) => [(4, .cells [roL 4 enc_Task p0.Tasks, roL 1 enc_ListRange p0.Travel, roL 3 enc_Hand p0.Hands]), (90000, bufL 3 1 enc_Int s3.1), (90001, bufL 4 1 enc_Bool s3.2)]) (fun s3 H => ?_) (fun k3 H hK3 => ?_)
     · refine W.region env [] [] rfl rfl rfl (.cons (by unfold inI; have := hn1; (try unfold maxLen at this); omega) .nil) .nil (At.keep (ts := [1, 2, 3, 4, 12, 13]) (ids := [4, 90000, 90001]) rfl rfl ?_)
       refine At.thenK (At.keep (ts := [1, 2, 3, 4, 12, 13]) (ids := [4, 90000, 90001]) rfl rfl ?_)
       exact At.conv (.cons .qi (.cons .qb (.cons .qb (.cons .q (.cons .qi (.cons .qi .nil)))))) (.cons .q (.cons .q (.cons .q .nil))) (hK1 hi1 (s3.1, s3.2) H)
     · refine W.block ?_
       refine W.rg env [1, 2, 3, 4, 9, 12, 13] [4, 90000, 90001] ?_
       refine W.seq ?_
       refine W.seq ?_
       obtain ⟨hc4, H⟩ := of_must H
       obtain ⟨y5, hy6, H⟩ := of_bindO H
       refine W.region env [] [⟨.int .i64 (y5), [], 0, []⟩] rfl rfl rfl (.cons (⟨by first | rfl | (simp; done) | omega | (simp; omega), hc4⟩) (.cons (⟨by first | rfl | (simp; done) | omega | (simp; omega), (by have := hc4; first | omega | (simp only [List.length_set]; omega) | (simp only [Int.toNat_natCast] at *; omega) | (simp at this ⊢; omega))⟩) (.cons (fun h => h) (.cons (fun h => h) (.cons (fun h => h) (.cons (fun h => h) (.cons (fun h => by rw [h]; rfl) .nil))))))) (.on (fun hW => c_gasolierref04_follows p0 p1 (i1 : Int) (of_true hy6 hW)) .nil) (At.keep (ts := [1, 2, 3, 4, 9, 12, 13, 26]) (ids := [4, 90000, 90001]) rfl rfl ?_)
       refine At.thenC ?_
       refine W.cond rfl (fun hb7 => ?_) (fun hb7 => ?_)
       · have H := of_true H hb7
         refine W.exit ?_
         refine At.xthen ?_
         refine At.xhere ?_
         refine At.thenK (At.keep (ts := [1, 2, 3, 4, 12, 13]) (ids := [4, 90000, 90001]) rfl rfl ?_)
         exact At.conv (.cons .qi (.cons .qb (.cons .qb (.cons .q (.cons .qi (.cons .qi .nil)))))) (.cons .q (.cons .q (.cons .q .nil))) (hK3 (s1.1, s1.2) H)
       · have H := of_false H hb7
         refine W.skip ?_
         refine At.thenC ?_
         refine W.seq ?_
         obtain ⟨hc8, H⟩ := of_must H
         refine W.region env [] [] rfl rfl rfl (.cons (⟨by first | rfl | (simp; done) | omega | (simp; omega), hc8⟩) (.cons (⟨by first | rfl | (simp; done) | omega | (simp; omega), (by have := hc8; first | omega | (simp only [List.length_set]; omega) | (simp only [Int.toNat_natCast] at *; omega) | (simp at this ⊢; omega))⟩) .nil)) .nil (At.keep (ts := [1, 2, 3, 4, 9, 12, 13]) (ids := [4, 90000, 90001]) rfl rfl ?_)
         refine At.convM (.cons (.refl _) (.cons (.refl _) (.cons (y := bufL 4 1 enc_Bool (s1.2.set i1 true)) (BSim.seg (Seg.set (Seg.refl enc_Bool _) true rfl)) .nil))) ?_
         refine At.thenC ?_
         refine W.seq ?_
         obtain ⟨hc9, H⟩ := of_must H
         obtain ⟨hc10, H⟩ := of_must H
         obtain ⟨y11, hy12, H⟩ := of_bindO H
         obtain ⟨hc13, H⟩ := of_must H
         obtain ⟨hc14, H⟩ := of_must H
         refine W.region env [] [⟨.bool (y11.1), [(90000, bufL 3 1 enc_Int y11.2.1), (90001, bufL 4 1 enc_Bool y11.2.2)], 0, [90000, 90001]⟩] rfl rfl (by kernel_rfl) (.cons (⟨by first | rfl | (simp; done) | omega | (simp; omega), hc9⟩) (.cons (⟨by first | rfl | (simp; done) | omega | (simp; omega), (by have := hc9; first | omega | (simp only [List.length_set]; omega) | (simp only [Int.toNat_natCast] at *; omega) | (simp at this ⊢; omega))⟩) (.cons (fun hW => ⟨by first | rfl | (simp; done) | omega | (simp; omega), hc10 hW⟩) (.cons (fun h => h) (.cons (fun h => h) (.cons (fun hW => (⟨by first | rfl | (simp; done) | omega | (simp; omega), (by have := hc10 hW; first | omega | (simp only [List.length_set]; omega) | (simp only [Int.toNat_natCast] at *; omega) | (simp at this ⊢; omega))⟩)) (.cons (fun h => h) (.cons (fun hW => by obtain rfl := lend_off hy12 hW; first | exact .refl _ | exact .q) (.cons (fun hW => by obtain rfl := lend_off hy12 hW; first | exact .refl _ | exact .q) (.cons (fun h => h) (.cons (fun h => h) (.cons (fun h => h) (.cons (fun h => h) (.cons (fun h => by rw [h]; rfl) .nil)))))))))))))) (.on (fun hW => (CtrO.sim (CtrO.ren (ih p0 (s1.1.getD i1 default) s1.1 (s1.2.set i1 true) (of_true hy12 hW)) [(90000, 90000), (90001, 90001)]) (.cons (.refl _) (.cons (.refl _) (.cons .qc (.cons .qc .nil)))) (.cons (.refl _) (.cons (.refl _) .nil)))) .nil) (At.keep (ts := [1, 2, 3, 4, 9, 12, 13, 44]) (ids := [4, 90000, 90001]) rfl rfl ?_)
         refine At.thenC ?_
         refine W.cond rfl (fun hb15 => ?_) (fun hb15 => ?_)
         · have H := of_true H hb15
           refine W.seq ?_
           obtain ⟨hc16, H⟩ := of_must H
           refine W.region env [] [] rfl rfl rfl (.cons (⟨by first | rfl | (simp; done) | omega | (simp; omega), hc16⟩) (.cons (⟨by first | rfl | (simp; done) | omega | (simp; omega), (by have := hc16; first | omega | (simp only [List.length_set]; omega) | (simp only [Int.toNat_natCast] at *; omega) | (simp at this ⊢; omega))⟩) .nil)) .nil (At.keep (ts := []) (ids := [90000, 90001]) rfl rfl ?_)
           refine At.convM (.cons (y := bufL 3 1 enc_Int (y11.2.1.set i1 p1)) (BSim.seg (Seg.set (Seg.refl enc_Int _) p1 rfl)) (.cons (.refl _) .nil)) ?_
           refine At.thenC ?_
           refine W.rg env [8] [90000, 90001] ?_
           refine W.ret ?_
           refine At.rinb ?_
           refine At.rthen ?_
           refine At.rthen ?_
           refine At.rinb ?_
           refine At.rthen ?_
           cases H
           exact At.retL env.ty [90000, 90001] rfl rfl rfl rfl (.cons (.refl _) (.cons (.refl _) .nil)) (.refl _) hval hdom hent rfl rfl
         · have H := of_false H hb15
           refine W.skip ?_
           refine At.inb ?_
           refine At.thenK (At.keep (ts := [1, 2, 3, 4, 12, 13]) (ids := [4, 90000, 90001]) rfl rfl ?_)
           exact At.conv (.cons .qi (.cons .qb (.cons .qb (.cons .q (.cons .qi (.cons .qi .nil)))))) (.cons .q (.cons .q (.cons .q .nil))) (hK3 (y11.2.1, y11.2.2) H)
   · have H := H2 (by have := of_decide_eq_false hb2; omega)
     refine W.exit ?_
     refine At.xthen ?_
     refine At.xthen ?_
     refine At.xhere ?_
     refine At.thenC ?_
     refine W.rg env [8] [90000, 90001] ?_
     refine W.ret ?_
     cases H
     exact At.retL env.ty [90000, 90001] rfl rfl rfl rfl (.cons (.refl _) (.cons (.refl _) .nil)) (.refl _) hval hdom hent rfl rfl
theorem c_gasolierref04_count (fuel : Nat) (p0 : Crew) {r : Int} (H : gasolierref04_count fuel p0 = some r) : Ctr Tryz.prog 55 [.agg [roL 4 enc_Task p0.Tasks, roL 1 enc_ListRange p0.Travel, roL 3 enc_Hand p0.Hands]] (.int .i64 (r)) := by
 unfold gasolierref04_count at H
 refine Ctr.of_body (N := 41) Tryz.func55 (by kernel_rfl) (c := _) rfl Tryz.ntmps55 rfl (fun w0 h0 hval => ?_)
 refine W.rg env [1] [1] ?_
 refine W.seq ?_
 obtain ⟨hc1, H⟩ := of_must H
 refine W.region env [] [] rfl rfl rfl (.cons hc1 .nil) .nil (At.keep (ts := [1, 3]) (ids := [1, 10]) rfl rfl ?_)
 refine At.convM (.cons (.refl _) (.cons (y := bufL 3 1 enc_Int (List.replicate (((p0.Tasks.length : Nat) : Int)).toNat (0 : Int))) (BSim.seg (Seg.made (f := enc_Int) 0 rfl)) .nil)) ?_
 refine At.thenC ?_
 refine W.seq ?_
 refine W.sr env [] [] [1, 3, 12, 13] [1, 10] rfl rfl rfl (.cons (by first | rfl | (simp; done) | omega | (simp; omega)) .nil) .nil ?_
 refine W.block ?_
 refine At.keep (ts := [1, 3, 12, 13]) (ids := [1, 10]) rfl rfl ?_
 obtain ⟨hn2, H⟩ := of_must H
 refine W.rangeGo H (fun i2 (s2 : (List Int)) => [(1, .lp 1 0), (3, .buf 10 (s2).length), (12, .int .i64 ((((List.replicate (((p0.Tasks.length : Nat) : Int)).toNat (0 : Int)).length : Nat) : Int))), (13, .int .i64 ((i2 : Int)))]) (fun i2 (s2 : (List Int)) => [(1, .cells [roL 4 enc_Task p0.Tasks, roL 1 enc_ListRange p0.Travel, roL 3 enc_Hand p0.Hands]), (10, bufL 3 1 enc_Int s2)]) (.cons .q (.cons .qb (.cons .qi (.cons .qi .nil)))) (.cons .q (.cons .q .nil)) (fun k2 i2 s2 hle2 H1 H2 K0 hK2 => ?_)
 refine W.rg env [1, 3, 12, 13, 14] [1, 10] ?_
 refine W.seq ?_
 refine W.cond rfl (fun hb3 => ?_) (fun hb3 => ?_)
 · have hi2 : i2 < (List.replicate (((p0.Tasks.length : Nat) : Int)).toNat (0 : Int)).length := by have := of_decide_eq_true hb3; omega
   have H := H1 hi2
   refine W.skip ?_
   refine At.thenC ?_
   refine W.seq ?_
   refine W.block ?_
   refine W.rg env [1, 3, 4, 12, 13] [1, 10] ?_
   obtain ⟨hc4, H⟩ := of_must H
   refine W.region env [] [] rfl rfl rfl (.cons (⟨by first | rfl | (simp; done) | omega | (simp; omega), hc4⟩) (.cons (⟨by first | rfl | (simp; done) | omega | (simp; omega), (by have := hc4; first | omega | (simp only [List.length_set]; omega) | (simp only [Int.toNat_natCast] at *; omega) | (simp at this ⊢; omega))⟩) .nil)) .nil (At.keep (ts := [1, 3, 12, 13]) (ids := [1, 10]) rfl rfl ?_)
   refine At.convM (.cons (.refl _) (.cons (y := bufL 3 1 enc_Int (s2.set i2 (-1))) (BSim.seg (Seg.set (Seg.refl enc_Int _) (-1) rfl)) .nil)) ?_
   refine At.inb ?_
   refine At.thenC ?_
   refine W.region env [] [] rfl rfl rfl (.cons (by unfold inI; have := hn2; (try unfold maxLen at this); omega) .nil) .nil (At.keep (ts := [1, 3, 12, 13]) (ids := [1, 10]) rfl rfl ?_)
   refine At.thenK (At.keep (ts := [1, 3, 12, 13]) (ids := [1, 10]) rfl rfl ?_)
   exact At.conv (.cons .q (.cons .qb (.cons .qi (.cons .qi .nil)))) (.cons .q (.cons .q .nil)) (hK2 hi2 (s2.set i2 (-1)) H)
 · have H := H2 (by have := of_decide_eq_false hb3; omega)
   refine W.exit ?_
   refine At.xthen ?_
   refine At.xthen ?_
   refine At.xhere ?_
   refine At.thenC ?_
   refine W.rg env [1, 3, 5] [1, 10] ?_
   refine W.seq ?_
   refine W.rg env [1, 3, 5, 25, 26] [1, 10] ?_
   refine W.block ?_
   refine At.keep (ts := [1, 3, 5, 25, 26]) (ids := [1, 10]) rfl rfl ?_
   obtain ⟨hn5, H⟩ := of_must H
   refine W.rangeGo H (fun i5 (s5 : Int × (List Int)) => [(1, .lp 1 0), (3, .buf 10 (s5.2).length), (5, .int .i64 (s5.1)), (25, .int .i64 (((p0.Tasks.length : Nat) : Int))), (26, .int .i64 ((i5 : Int)))]) (fun i5 (s5 : Int × (List Int)) => [(1, .cells [roL 4 enc_Task p0.Tasks, roL 1 enc_ListRange p0.Travel, roL 3 enc_Hand p0.Hands]), (10, bufL 3 1 enc_Int s5.2)]) (.cons .q (.cons .qb (.cons .qi (.cons .qi (.cons .qi .nil))))) (.cons .q (.cons .q .nil)) (fun k5 i5 s5 hle5 H1 H2 K0 hK5 => ?_)
   refine W.rg env [1, 3, 5, 25, 26, 27] [1, 10] ?_
   refine W.seq ?_
   refine W.cond rfl (fun hb6 => ?_) (fun hb6 => ?_)
   · have hi5 : i5 < p0.Tasks.length := by have := of_decide_eq_true hb6; omega
     have H := H1 hi5
     refine W.skip ?_
     refine At.thenC ?_
     refine W.seq ?_
     refine W.block ?_
     refine W.rg env [1, 3, 5, 6, 25, 26] [1, 10] ?_
     refine W.seq ?_
     obtain ⟨hc7, H⟩ := of_must H
     obtain ⟨y8, hy9, H⟩ := of_bindO H
     obtain ⟨hc10, H⟩ := of_must H
     obtain ⟨hc11, H⟩ := of_must H
     refine W.region env [] [⟨.bool (y8.1), [(10, bufL 3 1 enc_Int y8.2.1), (35, bufL 4 1 enc_Bool y8.2.2)], 0, [10, 35]⟩] rfl rfl (by kernel_rfl) (.cons hc7 .nil) (.free (CtrO.sim (CtrO.ren (cl_gasolierref04_matched_l fuel fuel p0 (i5 : Int) s5.2 (List.replicate (((p0.Tasks.length : Nat) : Int)).toNat (false : Bool)) hy9) [(90000, 10), (90001, 35)]) (.cons (.refl _) (.cons (.refl _) (.cons .qc (.cons .qc .nil)))) (.cons (.refl _) (.cons (BSim.seg (Seg.made (f := enc_Bool) false rfl)) .nil))) .nil) (At.keep (ts := [1, 3, 5, 25, 26, 36]) (ids := [1, 10]) rfl rfl ?_)
     refine At.thenC ?_
     refine W.cond rfl (fun hb12 => ?_) (fun hb12 => ?_)
     · have H := of_true H hb12
       obtain ⟨hc13, H⟩ := of_must H
       refine W.region env [] [] rfl rfl rfl (.cons hc13 .nil) .nil (At.keep (ts := [1, 3, 5, 25, 26]) (ids := [1, 10]) rfl rfl ?_)
       refine At.inb ?_
       refine At.thenC ?_
       refine W.region env [] [] rfl rfl rfl (.cons (by unfold inI; have := hn5; (try unfold maxLen at this); omega) .nil) .nil (At.keep (ts := [1, 3, 5, 25, 26]) (ids := [1, 10]) rfl rfl ?_)
       refine At.thenK (At.keep (ts := [1, 3, 5, 25, 26]) (ids := [1, 10]) rfl rfl ?_)
       exact At.conv (.cons .q (.cons .qb (.cons .qi (.cons .qi (.cons .qi .nil))))) (.cons .q (.cons .q .nil)) (hK5 hi5 ((s5.1 - 1), y8.2.1) H)
     · have H := of_false H hb12
       refine W.skip ?_
       refine At.inb ?_
       refine At.thenC ?_
       refine W.region env [] [] rfl rfl rfl (.cons (by unfold inI; have := hn5; (try unfold maxLen at this); omega) .nil) .nil (At.keep (ts := [1, 3, 5, 25, 26]) (ids := [1, 10]) rfl rfl ?_)
       refine At.thenK (At.keep (ts := [1, 3, 5, 25, 26]) (ids := [1, 10]) rfl rfl ?_)
       exact At.conv (.cons .q (.cons .qb (.cons .qi (.cons .qi (.cons .qi .nil))))) (.cons .q (.cons .q .nil)) (hK5 hi5 (s5.1, y8.2.1) H)
   · have H := H2 (by have := of_decide_eq_false hb6; omega)
     refine W.exit ?_
     refine At.xthen ?_
     refine At.xthen ?_
     refine At.xhere ?_
     refine At.thenC ?_
     refine W.rg env [2] [] ?_
     refine W.ret ?_
     cases H
     exact At.ret env.ty rfl rfl (fun q hq => by cases hq) (.refl _) hval
theorem c_gasolierref04_Copy (p0 : Crew) {r : Crew} (H : gasolierref04_Copy p0 = some r) : Ctr Tryz.prog 72 [.agg [roL 4 enc_Task p0.Tasks, roL 1 enc_ListRange p0.Travel, roL 3 enc_Hand p0.Hands]] (.agg [roL 4 enc_Task r.Tasks, roL 1 enc_ListRange r.Travel, roL 3 enc_Hand r.Hands]) := by
 unfold gasolierref04_Copy at H
 refine Ctr.of_body (N := 32) Tryz.func72 (by kernel_rfl) (c := _) rfl Tryz.ntmps72 rfl (fun w0 h0 hval => ?_)
 refine W.rg env [1, 2] [1, 2] ?_
 refine W.seq ?_
 obtain ⟨hc1, H⟩ := of_must H
 obtain ⟨hc2, H⟩ := of_must H
 refine W.region env [6, 10] [] rfl rfl (by first | rfl | kernel_rfl) (.cons (⟨by first | rfl | (simp; done) | omega | (simp; omega), by have := hc1; first | simpa using this | (unfold room at this ⊢; simp at this ⊢; omega)⟩) (.cons (⟨by first | rfl | (simp; done) | omega | (simp; omega), by have := hc2; first | simpa using this | (unfold room at this ⊢; simp at this ⊢; omega)⟩) .nil)) .nil (At.keep (ts := [1, 2, 3]) (ids := [1, 2, 3, 6, 10]) rfl rfl ?_)
 refine At.convM (.cons (.refl _) (.cons (.refl _) (.cons (.refl _) (.cons (y := bufL 41 4 enc_Task (([] : List Task) ++ p0.Tasks)) (BSim.seg (Seg.push (Seg.lit (f := enc_Task) (sz := 4) ([] : List Task) rfl rfl (fun _ => rfl)) (Seg.refl enc_Task p0.Tasks))) (.cons (y := bufL 43 3 enc_Hand (([] : List Hand) ++ p0.Hands)) (BSim.seg (Seg.push (Seg.lit (f := enc_Hand) (sz := 3) ([] : List Hand) rfl rfl (fun _ => rfl)) (Seg.refl enc_Hand p0.Hands))) .nil))))) ?_
 refine At.thenC ?_
 refine W.seq ?_
 refine W.rg env [2, 3, 16, 17, 18] [2, 3, 6, 10] ?_
 refine W.block ?_
 refine At.nilOwnCell 3 1 751 106 1 (e := fun i => enc_ListRange (([] : List (List Range)).getD i default)) rfl rfl rfl ?_
 refine At.keep (ts := [2, 3, 16, 17, 18]) (ids := [2, 3, 6, 10, 751]) rfl rfl ?_
 refine W.len (t := 16) rfl (fun (hn3 : p0.Travel.length ≤ maxLen) => ?_)
 refine W.rangeGo H (fun i3 (s3 : (List (List Range))) => [(2, .lp 2 0), (3, .lp 3 0), (16, roL 1 enc_ListRange p0.Travel), (17, .int .i64 (((p0.Travel.length : Nat) : Int))), (18, .int .i64 ((i3 : Int)))]) (fun i3 (s3 : (List (List Range))) => [(2, .cells [.nilS, .nilS, .nilS]), (3, .cells [.buf 6 ((([] : List Task) ++ p0.Tasks)).length, .buf 751 (s3).length, .buf 10 ((([] : List Hand) ++ p0.Hands)).length]), (6, bufL 41 4 enc_Task (([] : List Task) ++ p0.Tasks)), (10, bufL 43 3 enc_Hand (([] : List Hand) ++ p0.Hands)), (751, bufL 106 1 enc_ListRange s3)]) (.cons .q (.cons .q (.cons .q (.cons .qi (.cons .qi .nil))))) (.cons .q (.cons (BSim.cells (.cons .qc (.cons .qc (.cons .qc .nil)))) (.cons .q (.cons .q (.cons .q .nil))))) (fun k3 i3 s3 hle3 H1 H2 K0 hK3 => ?_)
 refine W.rg env [2, 3, 16, 17, 18, 19] [2, 3, 6, 10, 751] ?_
 refine W.seq ?_
 refine W.cond rfl (fun hb4 => ?_) (fun hb4 => ?_)
 · have hi3 : i3 < p0.Travel.length := by have := of_decide_eq_true hb4; omega
   have H := H1 hi3
   refine W.skip ?_
   refine At.thenC ?_
   refine W.seq ?_
   refine W.block ?_
   refine W.sr env [] [] [2, 3, 5, 16, 17, 18] [2, 3, 6, 10, 751] rfl rfl rfl (.cons (⟨by omega, by omega⟩ : 0 ≤ (i3 : Int) ∧ (i3 : Int) < ((p0.Travel.length : Nat) : Int)) .nil) .nil ?_
   obtain ⟨hc5, H⟩ := of_must H
   obtain ⟨hc6, H⟩ := of_must H
   refine W.region env [24, 16777242] [] rfl rfl (by first | rfl | kernel_rfl) (.cons (⟨(by first | rfl | (simp; done) | omega | (simp; omega)), (⟨by first | rfl | (simp; done) | omega | (simp; omega), by have := hc5; first | simpa using this | (unfold room at this ⊢; simp at this ⊢; omega)⟩)⟩) (.cons (⟨by first | rfl | (simp; done) | omega | (simp; omega), by have := hc6; first | simpa using this | (unfold room at this ⊢; simp at this ⊢; omega)⟩) .nil)) .nil (At.keep (ts := [2, 3, 16, 17, 18]) (ids := [2, 3, 6, 10, 751]) rfl rfl ?_)
   refine At.convM (.cons (.refl _) (.cons (.refl _) (.cons (.refl _) (.cons (.refl _) (.cons (y := bufL 106 1 enc_ListRange (s3 ++ ([(([] : List Range) ++ (p0.Travel.getD i3 default))] : List (List Range)))) (BSim.pushS (f := enc_ListRange) (sz := 1) (Seg.refl enc_ListRange _) ([(([] : List Range) ++ (p0.Travel.getD i3 default))] : List (List Range)) (.cons (Sim.seg (Seg.push (Seg.lit (f := enc_Range) (sz := 2) ([] : List Range) rfl rfl (fun _ => rfl)) (Seg.refl enc_Range (p0.Travel.getD i3 default)))) .nil) rfl rfl (fun _ => rfl)) .nil))))) ?_
   refine At.inb ?_
   refine At.thenC ?_
   refine W.region env [] [] rfl rfl rfl (.cons (by unfold inI; have := hn3; (try unfold maxLen at this); omega) .nil) .nil (At.keep (ts := [2, 3, 16, 17, 18]) (ids := [2, 3, 6, 10, 751]) rfl rfl ?_)
   refine At.thenK (At.keep (ts := [2, 3, 16, 17, 18]) (ids := [2, 3, 6, 10, 751]) rfl rfl ?_)
   exact At.conv (.cons .q (.cons .q (.cons .q (.cons .qi (.cons .qi .nil))))) (.cons .q (.cons (BSim.cells (.cons .qc (.cons .qc (.cons .qc .nil)))) (.cons .q (.cons .q (.cons .q .nil))))) (hK3 hi3 (s3 ++ ([(([] : List Range) ++ (p0.Travel.getD i3 default))] : List (List Range))) H)
 · have H := H2 (by have := of_decide_eq_false hb4; omega)
   refine W.exit ?_
   refine At.xthen ?_
   refine At.xthen ?_
   refine At.xhere ?_
   refine At.thenC ?_
   refine W.rg env [2] [2, 6, 10, 751] ?_
   refine W.ret ?_
   cases H
   exact At.ret env.ty rfl rfl (fun q hq => by cases hq; exact ⟨by first | rfl | (simp; done) | omega | (simp; omega), ⟨by first | rfl | (simp; done) | omega | (simp; omega), (by first | rfl | (simp; done) | omega | (simp; omega))⟩⟩) (.refl _) hval
theorem c_gasolierref04_Without (p0 : Crew) (p1 : Int) {r : (Crew × Int)} (H : gasolierref04_Without p0 p1 = some r) : Ctr Tryz.prog 22 [.agg [roL 4 enc_Task p0.Tasks, roL 1 enc_ListRange p0.Travel, roL 3 enc_Hand p0.Hands], .int .i64 (p1)] (.tup [.agg [roL 4 enc_Task r.1.Tasks, roL 1 enc_ListRange r.1.Travel, roL 3 enc_Hand r.1.Hands], .int .i64 (r.2)]) := by
 unfold gasolierref04_Without at H
 refine Ctr.of_body (N := 46) Tryz.func22 (by kernel_rfl) (c := _) rfl Tryz.ntmps22 rfl (fun w0 h0 hval => ?_)
 refine W.rg env [1, 2, 4] [2, 4] ?_
 refine W.seq ?_
 refine W.seq ?_
 obtain ⟨y1, hy2, H⟩ := of_bindO H
 refine W.region env [] [⟨.int .i64 (y1), [], 0, []⟩] rfl rfl rfl .nil (.free (c_gasolierref04_Check p0 hy2) .nil) (At.keep (ts := [1, 2, 4, 6]) (ids := [2, 4]) rfl rfl ?_)
 refine At.thenC ?_
 refine W.rg env [1, 2, 4, 6, 13] [2, 4] ?_
 refine W.cond rfl (fun hb3 => ?_) (fun hb3 => ?_)
 · have H := of_true H hb3
   refine W.rg env [4, 5] [4] ?_
   refine W.ret ?_
   refine At.rthen ?_
   cases H
   exact At.ret env.ty rfl rfl (fun q hq => by cases hq) (Sim.tupL (.cons (Sim.aggL (.cons (Sim.nil _ _) (.cons (Sim.nil _ _) (.cons (Sim.nil _ _) .nil)))) (.cons (.refl _) .nil))) hval
 · have H := of_false H hb3
   refine W.skip ?_
   refine At.thenC ?_
   refine W.seq ?_
   obtain ⟨y4, hy5, H⟩ := of_bindO H
   refine W.region env [] [⟨.agg [roL 4 enc_Task y4.Tasks, roL 1 enc_ListRange y4.Travel, roL 3 enc_Hand y4.Hands], [], 0, []⟩] rfl rfl rfl .nil (.free (c_gasolierref04_Copy p0 hy5) .nil) (At.keep (ts := [1, 2, 4, 7]) (ids := [2, 4, 7]) rfl rfl ?_)
   refine At.thenC ?_
   refine W.rg env [1, 2, 4, 7] [2, 4, 7] ?_
   refine W.seq ?_
   refine W.rg env [1, 2, 4, 7, 20, 21, 22] [2, 4, 7] ?_
   refine W.block ?_
   refine At.nilOwnCell 7 0 950 41 4 (e := fun i => enc_Task (([] : List Task).getD i default)) rfl rfl rfl ?_
   refine At.keep (ts := [1, 2, 4, 7, 20, 21, 22]) (ids := [2, 4, 7, 950]) rfl rfl ?_
   refine W.len (t := 20) rfl (fun (hn6 : p0.Tasks.length ≤ maxLen) => ?_)
   refine W.rangeGo H (fun i6 (s6 : (List Task)) => [(1, .int .i64 (p1)), (2, .lp 2 0), (4, .lp 4 0), (7, .lp 7 0), (20, roL 4 enc_Task p0.Tasks), (21, .int .i64 (((p0.Tasks.length : Nat) : Int))), (22, .int .i64 ((i6 : Int)))]) (fun i6 (s6 : (List Task)) => [(2, .cells [roL 4 enc_Task p0.Tasks, roL 1 enc_ListRange p0.Travel, roL 3 enc_Hand p0.Hands]), (4, .cells [.nilS, .nilS, .nilS]), (7, .cells [.buf 950 (s6).length, roL 1 enc_ListRange y4.Travel, roL 3 enc_Hand y4.Hands]), (950, bufL 41 4 enc_Task s6)]) (.cons .qi (.cons .q (.cons .q (.cons .q (.cons .q (.cons .qi (.cons .qi .nil))))))) (.cons .q (.cons .q (.cons (BSim.cells (.cons .qc (.cons .q (.cons .q .nil)))) (.cons .q .nil)))) (fun k6 i6 s6 hle6 H1 H2 K0 hK6 => ?_)
   refine W.rg env [1, 2, 4, 7, 20, 21, 22, 23] [2, 4, 7, 950] ?_
   refine W.seq ?_
   refine W.cond rfl (fun hb7 => ?_) (fun hb7 => ?_)
   · have hi6 : i6 < p0.Tasks.length := by have := of_decide_eq_true hb7; omega
     have H := H1 hi6
     refine W.skip ?_
     refine At.thenC ?_
     refine W.seq ?_
     refine W.block ?_
     refine W.sr env [] [] [1, 2, 4, 7, 9, 20, 21, 22] [2, 4, 7, 9, 950] rfl rfl rfl (.cons (⟨by omega, by omega⟩ : 0 ≤ (i6 : Int) ∧ (i6 : Int) < ((p0.Tasks.length : Nat) : Int)) .nil) .nil ?_
     refine W.rg env [1, 2, 4, 7, 9, 20, 21, 22, 29] [2, 4, 7, 9, 950] ?_
     refine W.cond rfl (fun hb8 => ?_) (fun hb8 => ?_)
     · have H := of_true H hb8
       obtain ⟨hc9, H⟩ := of_must H
       refine W.region env [] [] rfl rfl rfl (.cons (⟨by first | rfl | (simp; done) | omega | (simp; omega), by have := hc9; first | simpa using this | (unfold room at this ⊢; simp at this ⊢; omega)⟩) .nil) .nil (At.keep (ts := [1, 2, 4, 7, 20, 21, 22]) (ids := [2, 4, 7, 950]) rfl rfl ?_)
       refine At.convM (.cons (.refl _) (.cons (.refl _) (.cons (.refl _) (.cons (y := bufL 41 4 enc_Task (s6 ++ ([(p0.Tasks.getD i6 default)] : List Task))) (BSim.seg (Seg.push (Seg.refl enc_Task _) (Seg.lit (f := enc_Task) (sz := 4) ([(p0.Tasks.getD i6 default)] : List Task) rfl rfl (fun _ => rfl)))) .nil)))) ?_
       refine At.inb ?_
       refine At.thenC ?_
       refine W.region env [] [] rfl rfl rfl (.cons (by unfold inI; have := hn6; (try unfold maxLen at this); omega) .nil) .nil (At.keep (ts := [1, 2, 4, 7, 20, 21, 22]) (ids := [2, 4, 7, 950]) rfl rfl ?_)
       refine At.thenK (At.keep (ts := [1, 2, 4, 7, 20, 21, 22]) (ids := [2, 4, 7, 950]) rfl rfl ?_)
       exact At.conv (.cons .qi (.cons .q (.cons .q (.cons .q (.cons .q (.cons .qi (.cons .qi .nil))))))) (.cons .q (.cons .q (.cons (BSim.cells (.cons .qc (.cons .q (.cons .q .nil)))) (.cons .q .nil)))) (hK6 hi6 (s6 ++ ([(p0.Tasks.getD i6 default)] : List Task)) H)
     · have H := of_false H hb8
       refine W.skip ?_
       refine At.inb ?_
       refine At.thenC ?_
       refine W.region env [] [] rfl rfl rfl (.cons (by unfold inI; have := hn6; (try unfold maxLen at this); omega) .nil) .nil (At.keep (ts := [1, 2, 4, 7, 20, 21, 22]) (ids := [2, 4, 7, 950]) rfl rfl ?_)
       refine At.thenK (At.keep (ts := [1, 2, 4, 7, 20, 21, 22]) (ids := [2, 4, 7, 950]) rfl rfl ?_)
       exact At.conv (.cons .qi (.cons .q (.cons .q (.cons .q (.cons .q (.cons .qi (.cons .qi .nil))))))) (.cons .q (.cons .q (.cons (BSim.cells (.cons .qc (.cons .q (.cons .q .nil)))) (.cons .q .nil)))) (hK6 hi6 s6 H)
   · have H := H2 (by have := of_decide_eq_false hb7; omega)
     refine W.exit ?_
     refine At.xthen ?_
     refine At.xthen ?_
     refine At.xhere ?_
     refine At.thenC ?_
     refine W.seq ?_
     refine W.sr env [] [] [4, 7, 43] [4, 7, 950] rfl rfl rfl (.cons (by first | rfl | (simp; done) | omega | (simp; omega)) .nil) .nil ?_
     refine W.cond rfl (fun hb10 => ?_) (fun hb10 => ?_)
     · have H := of_true H hb10
       refine W.rg env [4, 5] [4] ?_
       refine W.ret ?_
       refine At.rthen ?_
       cases H
       exact At.ret env.ty rfl rfl (fun q hq => by cases hq) (Sim.tupL (.cons (Sim.aggL (.cons (Sim.nil _ _) (.cons (Sim.nil _ _) (.cons (Sim.nil _ _) .nil)))) (.cons (.refl _) .nil))) hval
     · have H := of_false H hb10
       refine W.skip ?_
       refine At.thenC ?_
       refine W.rg env [4, 5] [4, 950] ?_
       refine W.ret ?_
       cases H
       exact At.ret env.ty rfl rfl (fun q hq => by cases hq; exact (by first | rfl | (simp; done) | omega | (simp; omega))) (.refl _) hval
theorem c_gasolierref04_Moved (fuel : Nat) (p0 : Crew) {r : ((List Int) × Int)} (H : gasolierref04_Moved fuel p0 = some r) : Ctr Tryz.prog 12 [.agg [roL 4 enc_Task p0.Tasks, roL 1 enc_ListRange p0.Travel, roL 3 enc_Hand p0.Hands]] (.tup [roL 1 enc_Int r.1, .int .i64 (r.2)]) := by
 unfold gasolierref04_Moved at H
 refine Ctr.of_body (N := 43) Tryz.func12 (by kernel_rfl) (c := _) rfl Tryz.ntmps12 rfl (fun w0 h0 hval => ?_)
 refine W.rg env [1] [1] ?_
 refine W.seq ?_
 refine W.seq ?_
 obtain ⟨y1, hy2, H⟩ := of_bindO H
 refine W.region env [] [⟨.int .i64 (y1), [], 0, []⟩] rfl rfl rfl .nil (.free (c_gasolierref04_Check p0 hy2) .nil) (At.keep (ts := [1, 4]) (ids := [1]) rfl rfl ?_)
 refine At.thenC ?_
 refine W.rg env [1, 4, 14] [1] ?_
 refine W.cond rfl (fun hb3 => ?_) (fun hb3 => ?_)
 · have H := of_true H hb3
   refine W.rg env [2, 3] [] ?_
   refine W.ret ?_
   refine At.rthen ?_
   cases H
   exact At.ret env.ty rfl rfl (fun q hq => by cases hq) (Sim.tupL (.cons (Sim.nil _ _) (.cons (.refl _) .nil))) hval
 · have H := of_false H hb3
   refine W.skip ?_
   refine At.thenC ?_
   refine W.seq ?_
   obtain ⟨y4, hy5, H⟩ := of_bindO H
   refine W.region env [] [⟨.int .i64 (y4), [], 0, []⟩] rfl rfl rfl .nil (.free (c_gasolierref04_count fuel p0 hy5) .nil) (At.keep (ts := [1, 5]) (ids := [1]) rfl rfl ?_)
   refine At.thenC ?_
   refine W.rg env [1, 5, 6] [1] ?_
   refine W.seq ?_
   refine W.rg env [1, 5, 6, 19, 20, 21] [1] ?_
   refine W.block ?_
   refine At.nilOwn 6 506 3 1 (e := fun i => enc_Int (([] : List Int).getD i default)) rfl rfl ?_
   refine At.keep (ts := [1, 5, 6, 19, 20, 21]) (ids := [1, 506]) rfl rfl ?_
   refine W.len (t := 19) rfl (fun (hn6 : p0.Tasks.length ≤ maxLen) => ?_)
   refine W.rangeGo H (fun i6 (s6 : (List Int)) => [(1, .lp 1 0), (5, .int .i64 (y4)), (6, .buf 506 (s6).length), (19, roL 4 enc_Task p0.Tasks), (20, .int .i64 (((p0.Tasks.length : Nat) : Int))), (21, .int .i64 ((i6 : Int)))]) (fun i6 (s6 : (List Int)) => [(1, .cells [roL 4 enc_Task p0.Tasks, roL 1 enc_ListRange p0.Travel, roL 3 enc_Hand p0.Hands]), (506, bufL 3 1 enc_Int s6)]) (.cons .q (.cons .qi (.cons .qb (.cons .q (.cons .qi (.cons .qi .nil)))))) (.cons .q (.cons .q .nil)) (fun k6 i6 s6 hle6 H1 H2 K0 hK6 => ?_)
   refine W.rg env [1, 5, 6, 19, 20, 21, 22] [1, 506] ?_
   refine W.seq ?_
   refine W.cond rfl (fun hb7 => ?_) (fun hb7 => ?_)
   · have hi6 : i6 < p0.Tasks.length := by have := of_decide_eq_true hb7; omega
     have H := H1 hi6
     refine W.skip ?_
     refine At.thenC ?_
     refine W.seq ?_
     refine W.block ?_
     refine W.sr env [] [] [1, 5, 6, 8, 19, 20, 21] [1, 8, 506] rfl rfl rfl (.cons (⟨by omega, by omega⟩ : 0 ≤ (i6 : Int) ∧ (i6 : Int) < ((p0.Tasks.length : Nat) : Int)) .nil) .nil ?_
     refine W.seq ?_
     obtain ⟨y8, hy9, H⟩ := of_bindO H
     refine W.region env [] [⟨.tup [.agg [roL 4 enc_Task y8.1.Tasks, roL 1 enc_ListRange y8.1.Travel, roL 3 enc_Hand y8.1.Hands], .int .i64 (y8.2)], [], 0, []⟩] rfl rfl rfl .nil (.free (c_gasolierref04_Without p0 ((p0.Tasks.getD i6 default).Lamp) hy9) .nil) (At.keep (ts := [1, 5, 6, 8, 9, 19, 20, 21]) (ids := [1, 8, 9, 506]) rfl rfl ?_)
     refine At.thenC ?_
     refine W.seq ?_
     obtain ⟨y10, hy11, H⟩ := of_bindO H
     refine W.region env [] [⟨.int .i64 (y10), [], 0, []⟩] rfl rfl rfl .nil (.free (c_gasolierref04_count fuel y8.1 hy11) .nil) (At.keep (ts := [1, 5, 6, 8, 19, 20, 21, 35]) (ids := [1, 8, 506]) rfl rfl ?_)
     refine At.thenC ?_
     refine W.cond rfl (fun hb12 => ?_) (fun hb12 => ?_)
     · have H := of_true H hb12
       obtain ⟨hc13, H⟩ := of_must H
       refine W.region env [] [] rfl rfl rfl (.cons (⟨by first | rfl | (simp; done) | omega | (simp; omega), by have := hc13; first | simpa using this | (unfold room at this ⊢; simp at this ⊢; omega)⟩) .nil) .nil (At.keep (ts := [1, 5, 6, 19, 20, 21]) (ids := [1, 506]) rfl rfl ?_)
       refine At.convM (.cons (.refl _) (.cons (y := bufL 3 1 enc_Int (s6 ++ ([(p0.Tasks.getD i6 default).Lamp] : List Int))) (BSim.seg (Seg.push (Seg.refl enc_Int _) (Seg.lit (f := enc_Int) (sz := 1) ([(p0.Tasks.getD i6 default).Lamp] : List Int) rfl rfl (fun _ => rfl)))) .nil)) ?_
       refine At.inb ?_
       refine At.thenC ?_
       refine W.region env [] [] rfl rfl rfl (.cons (by unfold inI; have := hn6; (try unfold maxLen at this); omega) .nil) .nil (At.keep (ts := [1, 5, 6, 19, 20, 21]) (ids := [1, 506]) rfl rfl ?_)
       refine At.thenK (At.keep (ts := [1, 5, 6, 19, 20, 21]) (ids := [1, 506]) rfl rfl ?_)
       exact At.conv (.cons .q (.cons .qi (.cons .qb (.cons .q (.cons .qi (.cons .qi .nil)))))) (.cons .q (.cons .q .nil)) (hK6 hi6 (s6 ++ ([(p0.Tasks.getD i6 default).Lamp] : List Int)) H)
     · have H := of_false H hb12
       refine W.skip ?_
       refine At.inb ?_
       refine At.thenC ?_
       refine W.region env [] [] rfl rfl rfl (.cons (by unfold inI; have := hn6; (try unfold maxLen at this); omega) .nil) .nil (At.keep (ts := [1, 5, 6, 19, 20, 21]) (ids := [1, 506]) rfl rfl ?_)
       refine At.thenK (At.keep (ts := [1, 5, 6, 19, 20, 21]) (ids := [1, 506]) rfl rfl ?_)
       exact At.conv (.cons .q (.cons .qi (.cons .qb (.cons .q (.cons .qi (.cons .qi .nil)))))) (.cons .q (.cons .q .nil)) (hK6 hi6 s6 H)
   · have H := H2 (by have := of_decide_eq_false hb7; omega)
     refine W.exit ?_
     refine At.xthen ?_
     refine At.xthen ?_
     refine At.xhere ?_
     refine At.thenC ?_
     refine W.rg env [2, 3] [506] ?_
     refine W.ret ?_
     cases H
     exact At.ret env.ty rfl rfl (fun q hq => by cases hq; exact (by first | rfl | (simp; done) | omega | (simp; omega))) (.refl _) hval
theorem c_gasolierref01_Same (p0 : (List Int)) (p1 : (List Int)) {r : Bool} (H : gasolierref01_Same p0 p1 = some r) : Ctr Tryz.prog 13 [roL 1 enc_Int p0, roL 1 enc_Int p1] (.bool (r)) := by
 unfold gasolierref01_Same at H
 refine Ctr.of_body (N := 26) Tryz.func13 (by kernel_rfl) (c := _) rfl Tryz.ntmps13 rfl (fun w0 h0 hval => ?_)
 refine W.rg env [0, 1] [] ?_
 refine W.seq ?_
 refine W.rg env [0, 1, 10] [] ?_
 refine W.cond rfl (fun hb1 => ?_) (fun hb1 => ?_)
 · have H := of_true H hb1
   refine W.rg env [4] [] ?_
   refine W.ret ?_
   refine At.rthen ?_
   cases H
   exact At.ret env.ty rfl rfl (fun q hq => by cases hq) (.refl _) hval
 · have H := of_false H hb1
   refine W.skip ?_
   refine At.thenC ?_
   refine W.seq ?_
   refine W.rg env [0, 1, 12, 13] [] ?_
   refine W.block ?_
   refine At.keep (ts := [0, 1, 12, 13]) (ids := []) rfl rfl ?_
   refine W.len (t := 0) rfl (fun (hn2 : p0.length ≤ maxLen) => ?_)
   refine W.rangeGo H (fun i2 (s2 : Unit) => [(0, roL 1 enc_Int p0), (1, roL 1 enc_Int p1), (12, .int .i64 (((p0.length : Nat) : Int))), (13, .int .i64 ((i2 : Int)))]) (fun i2 (s2 : Unit) => []) (.cons .q (.cons .q (.cons .qi (.cons .qi .nil)))) .nil (fun k2 i2 s2 hle2 H1 H2 K0 hK2 => ?_)
   refine W.rg env [0, 1, 12, 13, 14] [] ?_
   refine W.seq ?_
   refine W.cond rfl (fun hb3 => ?_) (fun hb3 => ?_)
   · have hi2 : i2 < p0.length := by have := of_decide_eq_true hb3; omega
     have H := H1 hi2
     refine W.skip ?_
     refine At.thenC ?_
     refine W.seq ?_
     refine W.block ?_
     refine W.rg env [0, 1, 5, 12, 13] [] ?_
     obtain ⟨hc4, H⟩ := of_must H
     refine W.sr env [] [] [0, 1, 12, 13, 24] [] rfl rfl (by first | rfl | kernel_rfl) (.cons (⟨by omega, by omega⟩ : 0 ≤ (i2 : Int) ∧ (i2 : Int) < ((p0.length : Nat) : Int)) (.cons hc4 .nil)) .nil ?_
     refine W.cond rfl (fun hb5 => ?_) (fun hb5 => ?_)
     · have H := of_true H hb5
       refine W.rg env [4] [] ?_
       refine W.ret ?_
       refine At.rinb ?_
       refine At.rthen ?_
       refine At.rthen ?_
       refine At.rinb ?_
       refine At.rthen ?_
       cases H
       exact At.ret env.ty rfl rfl (fun q hq => by cases hq) (.refl _) hval
     · have H := of_false H hb5
       refine W.skip ?_
       refine At.inb ?_
       refine At.thenC ?_
       refine W.region env [] [] rfl rfl rfl (.cons (by unfold inI; have := hn2; (try unfold maxLen at this); omega) .nil) .nil (At.keep (ts := [0, 1, 12, 13]) (ids := []) rfl rfl ?_)
       refine At.thenK (At.keep (ts := [0, 1, 12, 13]) (ids := []) rfl rfl ?_)
       exact At.conv (.cons .q (.cons .q (.cons .qi (.cons .qi .nil)))) .nil (hK2 hi2 () H)
   · have H := H2 (by have := of_decide_eq_false hb3; omega)
     refine W.exit ?_
     refine At.xthen ?_
     refine At.xthen ?_
     refine At.xhere ?_
     refine At.thenC ?_
     refine W.rg env [4] [] ?_
     refine W.ret ?_
     cases H
     exact At.ret env.ty rfl rfl (fun q hq => by cases hq) (.refl _) hval
theorem c_slices_IndexFunc_Hand (p0 : (List Hand)) (p1 : Hand → Option Bool) (p1_g : Nat) (p1_a p1_b : List AV) (p1_h : ∀ x0 r, p1 x0 = some r → Ctr Tryz.prog p1_g (p1_a ++ ([.agg [.int .i64 (x0.Id), .int .i64 (x0.From), .int .i64 (x0.To)]] ++ p1_b)) (.bool (r))) {r : Int} (H : slices_IndexFunc_Hand p0 p1 = some r) : Ctr Tryz.prog 56 [roL 3 enc_Hand p0, .clo (.func p1_g) p1_a p1_b] (.int .i64 (r)) := by
 unfold slices_IndexFunc_Hand at H
 refine Ctr.of_body (N := 19) Tryz.func56 (by kernel_rfl) (c := _) rfl Tryz.ntmps56 rfl (fun w0 h0 hval => ?_)
 refine W.rg env [0, 1] [] ?_
 refine W.seq ?_
 refine W.rg env [0, 1, 7, 8] [] ?_
 refine W.block ?_
 refine At.keep (ts := [0, 1, 7, 8]) (ids := []) rfl rfl ?_
 refine W.len (t := 0) rfl (fun (hn1 : p0.length ≤ maxLen) => ?_)
 refine W.rangeGo H (fun i1 (s1 : Unit) => [(0, roL 3 enc_Hand p0), (1, .clo (.func p1_g) p1_a p1_b), (7, .int .i64 (((p0.length : Nat) : Int))), (8, .int .i64 ((i1 : Int)))]) (fun i1 (s1 : Unit) => []) (.cons .q (.cons .q (.cons .qi (.cons .qi .nil)))) .nil (fun k1 i1 s1 hle1 H1 H2 K0 hK1 => ?_)
 refine W.rg env [0, 1, 7, 8, 9] [] ?_
 refine W.seq ?_
 refine W.cond rfl (fun hb2 => ?_) (fun hb2 => ?_)
 · have hi1 : i1 < p0.length := by have := of_decide_eq_true hb2; omega
   have H := H1 hi1
   refine W.skip ?_
   refine At.thenC ?_
   refine W.seq ?_
   refine W.block ?_
   refine W.rg env [0, 1, 5, 7, 8] [] ?_
   refine W.seq ?_
   obtain ⟨y3, hy4, H⟩ := of_bindO H
   refine W.region env [] [⟨.bool (y3), [], 0, []⟩] rfl rfl rfl (.cons (⟨by omega, by omega⟩ : 0 ≤ (i1 : Int) ∧ (i1 : Int) < ((p0.length : Nat) : Int)) .nil) (.free (p1_h (p0.getD i1 default) _ hy4) .nil) (At.keep (ts := [0, 1, 5, 7, 8, 16]) (ids := []) rfl rfl ?_)
   refine At.thenC ?_
   refine W.cond rfl (fun hb5 => ?_) (fun hb5 => ?_)
   · have H := of_true H hb5
     refine W.rg env [4] [] ?_
     refine W.ret ?_
     refine At.rinb ?_
     refine At.rthen ?_
     refine At.rthen ?_
     refine At.rinb ?_
     refine At.rthen ?_
     cases H
     exact At.ret env.ty rfl rfl (fun q hq => by cases hq) (.refl _) hval
   · have H := of_false H hb5
     refine W.skip ?_
     refine At.inb ?_
     refine At.thenC ?_
     refine W.region env [] [] rfl rfl rfl (.cons (by unfold inI; have := hn1; (try unfold maxLen at this); omega) .nil) .nil (At.keep (ts := [0, 1, 7, 8]) (ids := []) rfl rfl ?_)
     refine At.thenK (At.keep (ts := [0, 1, 7, 8]) (ids := []) rfl rfl ?_)
     exact At.conv (.cons .q (.cons .q (.cons .qi (.cons .qi .nil)))) .nil (hK1 hi1 () H)
 · have H := H2 (by have := of_decide_eq_false hb2; omega)
   refine W.exit ?_
   refine At.xthen ?_
   refine At.xthen ?_
   refine At.xhere ?_
   refine At.thenC ?_
   refine W.rg env [4] [] ?_
   refine W.ret ?_
   cases H
   exact At.ret env.ty rfl rfl (fun q hq => by cases hq) (.refl _) hval
theorem c_crew_CheckAssign_1 (p0 : Hand) (c0 : Int) : Ctr Tryz.prog 57 [.agg [.int .i64 (p0.Id), .int .i64 (p0.From), .int .i64 (p0.To)], .rp [.int .i64 (c0)]] (.bool ((crew_CheckAssign_1 p0 c0))) := by
 obtain ⟨r, H⟩ : ∃ r, crew_CheckAssign_1 p0 c0 = r := ⟨_, rfl⟩
 rw [H]
 unfold crew_CheckAssign_1 at H
 refine Ctr.of_body (N := 8) Tryz.func57 (by kernel_rfl) (c := _) rfl Tryz.ntmps57 rfl (fun w0 h0 hval => ?_)
 refine W.rg env [1, 2] [2] ?_
 refine W.rg env [3] [] ?_
 refine W.ret ?_
 cases H
 exact At.ret env.ty rfl rfl (fun q hq => by cases hq) (.refl _) hval
theorem c_crew_CheckAssign (p0 : Crew) (p1 : (List (List Int))) (p2 : (List Int)) {r : Int} (H : crew_CheckAssign p0 p1 p2 = some r) : Ctr Tryz.prog 14 [.agg [roL 4 enc_Task p0.Tasks, roL 1 enc_ListRange p0.Travel, roL 3 enc_Hand p0.Hands], roL 1 enc_ListInt p1, roL 1 enc_Int p2] (.int .i64 (r)) := by
 unfold crew_CheckAssign at H
 refine Ctr.of_body (N := 61) Tryz.func14 (by kernel_rfl) (c := _) rfl Tryz.ntmps14 rfl (fun w0 h0 hval => ?_)
 refine W.rg env [1, 2, 3] [3] ?_
 refine W.seq ?_
 obtain ⟨y1, hy2, H⟩ := of_bindO H
 refine W.region env [] [⟨.tup [.po y1.1.isSome [roL 4 enc_Task ((y1.1.getD default).Crew.Tasks), roL 1 enc_ListRange ((y1.1.getD default).Crew.Travel), roL 3 enc_Hand ((y1.1.getD default).Crew.Hands), roL 1 enc_Int ((y1.1.getD default).next)], .int .i64 (y1.2)], [], 0, []⟩] rfl rfl rfl .nil (.free (c_crew_asked p0 p1 hy2) .nil) (At.keep (ts := [1, 2, 3, 7, 8]) (ids := [3]) rfl rfl ?_)
 refine At.thenC ?_
 refine W.seq ?_
 refine W.rg env [1, 2, 3, 7, 8, 19] [3] ?_
 refine W.cond rfl (fun hb3 => ?_) (fun hb3 => ?_)
 · have H := of_true H hb3
   refine W.rg env [6] [] ?_
   refine W.ret ?_
   refine At.rthen ?_
   cases H
   exact At.ret env.ty rfl rfl (fun q hq => by cases hq) (.refl _) hval
 · have H := of_false H hb3
   refine W.skip ?_
   refine At.thenC ?_
   refine W.seq ?_
   refine W.rg env [1, 2, 3, 7, 25] [3] ?_
   refine W.cond rfl (fun hb4 => ?_) (fun hb4 => ?_)
   · have H := of_true H hb4
     refine W.rg env [6] [] ?_
     refine W.ret ?_
     refine At.rthen ?_
     cases H
     exact At.ret env.ty rfl rfl (fun q hq => by cases hq) (.refl _) hval
   · have H := of_false H hb4
     refine W.skip ?_
     refine At.thenC ?_
     refine W.seq ?_
     refine W.rg env [1, 2, 3, 7, 26, 27, 28] [3] ?_
     refine W.block ?_
     refine At.keep (ts := [1, 2, 3, 7, 26, 27, 28]) (ids := [3]) rfl rfl ?_
     refine W.len (t := 26) rfl (fun (hn5 : p2.length ≤ maxLen) => ?_)
     refine W.rangeGo H (fun i5 (s5 : Unit) => [(1, roL 1 enc_ListInt p1), (2, roL 1 enc_Int p2), (3, .lp 3 0), (7, .po y1.1.isSome [roL 4 enc_Task ((y1.1.getD default).Crew.Tasks), roL 1 enc_ListRange ((y1.1.getD default).Crew.Travel), roL 3 enc_Hand ((y1.1.getD default).Crew.Hands), roL 1 enc_Int ((y1.1.getD default).next)]), (26, roL 1 enc_Int p2), (27, .int .i64 (((p2.length : Nat) : Int))), (28, .int .i64 ((i5 : Int)))]) (fun i5 (s5 : Unit) => [(3, .cells [roL 4 enc_Task p0.Tasks, roL 1 enc_ListRange p0.Travel, roL 3 enc_Hand p0.Hands])]) (.cons .q (.cons .q (.cons .q (.cons .q (.cons .q (.cons .qi (.cons .qi .nil))))))) (.cons .q .nil) (fun k5 i5 s5 hle5 H1 H2 K0 hK5 => ?_)
     refine W.rg env [1, 2, 3, 7, 26, 27, 28, 29] [3] ?_
     refine W.seq ?_
     refine W.cond rfl (fun hb6 => ?_) (fun hb6 => ?_)
     · have hi5 : i5 < p2.length := by have := of_decide_eq_true hb6; omega
       have H := H1 hi5
       refine W.skip ?_
       refine At.thenC ?_
       refine W.seq ?_
       refine W.block ?_
       refine W.sr env [] [] [1, 2, 3, 7, 9, 10, 26, 27, 28] [3, 10] rfl rfl rfl (.cons (⟨by omega, by omega⟩ : 0 ≤ (i5 : Int) ∧ (i5 : Int) < ((p2.length : Nat) : Int)) .nil) .nil ?_
       refine W.seq ?_
       obtain ⟨y7, hy8, H⟩ := of_bindO H
       refine W.region env [] [⟨.int .i64 (y7), [], 0, []⟩] rfl rfl rfl .nil (.free (c_slices_IndexFunc_Hand p0.Hands (fun x0 => some (crew_CheckAssign_1 x0 (p2.getD i5 default))) 57 [] ([.rp [.int .i64 ((p2.getD i5 default))]]) (fun x0 r h => by cases h; exact c_crew_CheckAssign_1 x0 (p2.getD i5 default)) hy8) .nil) (At.keep (ts := [1, 2, 3, 7, 9, 10, 11, 26, 27, 28]) (ids := [3, 10]) rfl rfl ?_)
       refine At.thenC ?_
       refine W.seq ?_
       obtain ⟨hc9, H⟩ := of_must H
       obtain ⟨y10, hy11, H⟩ := of_bindO H
       obtain ⟨hc12, H⟩ := of_must H
       obtain ⟨hc13, H⟩ := of_must H
       obtain ⟨hc14, H⟩ := of_must H
       obtain ⟨y15, hy16, H⟩ := of_bindO H
       refine W.region env [] [⟨.bool (y10), [], 0, []⟩, ⟨.bool (y15), [], 0, []⟩] rfl rfl (by kernel_rfl) (.cons hc9 (.cons (fun h => h) (.cons (fun h => h) (.cons (fun h => h) (.cons (fun h => h) (.cons (fun h => by rw [h]; rfl) (.cons (fun h => h) (.cons hc12 (.cons (fun h => h) (.cons (fun h => h) (.cons (fun h => h) (.cons hc13 (.cons (fun h => h) (.cons (fun h => h) (.cons (fun h => h) (.cons (fun h => h) (.cons (fun h => h) (.cons (fun h => h) (.cons (fun h => h) (.cons (fun h => by rw [h]; rfl) .nil)))))))))))))))))))) (.on (fun hW => Ctr.sim (.cons (Sim.seg (Seg.take enc_Int p2 i5 (by omega))) (.cons (.refl _) .nil)) (c_slices_Contains_int (p2.take i5) (p2.getD i5 default) (of_true hy11 hW))) (.on (fun hW => Ctr.sim (.cons (Sim.rp_po (hc14 hW)) (.cons (.refl _) (.cons (.refl _) .nil))) (c_crew_plan__able (y1.1.getD default) (p0.Hands.getD (y7).toNat default) (p1.getD i5 default) (of_true hy16 hW))) .nil)) (At.keep (ts := [1, 2, 3, 7, 26, 27, 28, 59]) (ids := [3]) rfl rfl ?_)
       refine At.thenC ?_
       refine W.cond rfl (fun hb17 => ?_) (fun hb17 => ?_)
       · have H := of_true H hb17
         refine W.rg env [6] [] ?_
         refine W.ret ?_
         refine At.rinb ?_
         refine At.rthen ?_
         refine At.rthen ?_
         refine At.rinb ?_
         refine At.rthen ?_
         cases H
         exact At.ret env.ty rfl rfl (fun q hq => by cases hq) (.refl _) hval
       · have H := of_false H hb17
         refine W.skip ?_
         refine At.inb ?_
         refine At.thenC ?_
         refine W.region env [] [] rfl rfl rfl (.cons (by unfold inI; have := hn5; (try unfold maxLen at this); omega) .nil) .nil (At.keep (ts := [1, 2, 3, 7, 26, 27, 28]) (ids := [3]) rfl rfl ?_)
         refine At.thenK (At.keep (ts := [1, 2, 3, 7, 26, 27, 28]) (ids := [3]) rfl rfl ?_)
         exact At.conv (.cons .q (.cons .q (.cons .q (.cons .q (.cons .q (.cons .qi (.cons .qi .nil))))))) (.cons .q .nil) (hK5 hi5 () H)
     · have H := H2 (by have := of_decide_eq_false hb6; omega)
       refine W.exit ?_
       refine At.xthen ?_
       refine At.xthen ?_
       refine At.xhere ?_
       refine At.thenC ?_
       refine W.rg env [6] [] ?_
       refine W.ret ?_
       cases H
       exact At.ret env.ty rfl rfl (fun q hq => by cases hq) (.refl _) hval
theorem c_gasolierref04_hand (p0 : Crew) (p1 : Int) {r : (Hand × Bool)} (H : gasolierref04_hand p0 p1 = some r) : Ctr Tryz.prog 58 [.agg [roL 4 enc_Task p0.Tasks, roL 1 enc_ListRange p0.Travel, roL 3 enc_Hand p0.Hands], .int .i64 (p1)] (.tup [.agg [.int .i64 (r.1.Id), .int .i64 (r.1.From), .int .i64 (r.1.To)], .bool (r.2)]) := by
 unfold gasolierref04_hand at H
 refine Ctr.of_body (N := 22) Tryz.func58 (by kernel_rfl) (c := _) rfl Tryz.ntmps58 rfl (fun w0 h0 hval => ?_)
 refine W.rg env [1, 2, 4] [2, 4] ?_
 refine W.seq ?_
 refine W.rg env [1, 4, 9, 10, 11] [4] ?_
 refine W.block ?_
 refine At.keep (ts := [1, 4, 9, 10, 11]) (ids := [4]) rfl rfl ?_
 refine W.len (t := 9) rfl (fun (hn1 : p0.Hands.length ≤ maxLen) => ?_)
 refine W.rangeGo H (fun i1 (s1 : Unit) => [(1, .int .i64 (p1)), (4, .lp 4 0), (9, roL 3 enc_Hand p0.Hands), (10, .int .i64 (((p0.Hands.length : Nat) : Int))), (11, .int .i64 ((i1 : Int)))]) (fun i1 (s1 : Unit) => [(4, .cells [.int .i64 (0), .int .i64 (0), .int .i64 (0)])]) (.cons .qi (.cons .q (.cons .q (.cons .qi (.cons .qi .nil))))) (.cons .q .nil) (fun k1 i1 s1 hle1 H1 H2 K0 hK1 => ?_)
 refine W.rg env [1, 4, 9, 10, 11, 12] [4] ?_
 refine W.seq ?_
 refine W.cond rfl (fun hb2 => ?_) (fun hb2 => ?_)
 · have hi1 : i1 < p0.Hands.length := by have := of_decide_eq_true hb2; omega
   have H := H1 hi1
   refine W.skip ?_
   refine At.thenC ?_
   refine W.seq ?_
   refine W.block ?_
   refine W.sr env [] [] [1, 4, 7, 9, 10, 11] [4, 7] rfl rfl rfl (.cons (⟨by omega, by omega⟩ : 0 ≤ (i1 : Int) ∧ (i1 : Int) < ((p0.Hands.length : Nat) : Int)) .nil) .nil ?_
   refine W.rg env [1, 4, 7, 9, 10, 11, 18] [4, 7] ?_
   refine W.cond rfl (fun hb3 => ?_) (fun hb3 => ?_)
   · have H := of_true H hb3
     refine W.rg env [4, 5] [4] ?_
     refine W.ret ?_
     refine At.rinb ?_
     refine At.rthen ?_
     refine At.rthen ?_
     refine At.rinb ?_
     refine At.rthen ?_
     cases H
     exact At.ret env.ty rfl rfl (fun q hq => by cases hq) (.refl _) hval
   · have H := of_false H hb3
     refine W.skip ?_
     refine At.inb ?_
     refine At.thenC ?_
     refine W.region env [] [] rfl rfl rfl (.cons (by unfold inI; have := hn1; (try unfold maxLen at this); omega) .nil) .nil (At.keep (ts := [1, 4, 9, 10, 11]) (ids := [4]) rfl rfl ?_)
     refine At.thenK (At.keep (ts := [1, 4, 9, 10, 11]) (ids := [4]) rfl rfl ?_)
     exact At.conv (.cons .qi (.cons .q (.cons .q (.cons .qi (.cons .qi .nil))))) (.cons .q .nil) (hK1 hi1 () H)
 · have H := H2 (by have := of_decide_eq_false hb2; omega)
   refine W.exit ?_
   refine At.xthen ?_
   refine At.xthen ?_
   refine At.xhere ?_
   refine At.thenC ?_
   refine W.rg env [4, 5] [4] ?_
   refine W.ret ?_
   cases H
   exact At.ret env.ty rfl rfl (fun q hq => by cases hq) (.refl _) hval
theorem c_gasolierref04_CheckAssign (fuel : Nat) (p0 : Crew) (p1 : (List (List Int))) (p2 : (List Int)) {r : Int} (H : gasolierref04_CheckAssign fuel p0 p1 p2 = some r) : Ctr Tryz.prog 15 [.agg [roL 4 enc_Task p0.Tasks, roL 1 enc_ListRange p0.Travel, roL 3 enc_Hand p0.Hands], roL 1 enc_ListInt p1, roL 1 enc_Int p2] (.int .i64 (r)) := by
 unfold gasolierref04_CheckAssign at H
 refine Ctr.of_body (N := 61) Tryz.func15 (by kernel_rfl) (c := _) rfl Tryz.ntmps15 rfl (fun w0 h0 hval => ?_)
 refine W.rg env [1, 2, 3] [3] ?_
 refine W.seq ?_
 refine W.seq ?_
 obtain ⟨y1, hy2, H⟩ := of_bindO H
 refine W.region env [] [⟨.int .i64 (y1), [], 0, []⟩] rfl rfl rfl .nil (.free (c_gasolierref04_CheckRounds p0 p1 hy2) .nil) (At.keep (ts := [1, 2, 3, 7]) (ids := [3]) rfl rfl ?_)
 refine At.thenC ?_
 refine W.rg env [1, 2, 3, 7, 17] [3] ?_
 refine W.cond rfl (fun hb3 => ?_) (fun hb3 => ?_)
 · have H := of_true H hb3
   refine W.rg env [6] [] ?_
   refine W.ret ?_
   refine At.rthen ?_
   cases H
   exact At.ret env.ty rfl rfl (fun q hq => by cases hq) (.refl _) hval
 · have H := of_false H hb3
   refine W.skip ?_
   refine At.thenC ?_
   refine W.seq ?_
   refine W.rg env [1, 2, 3, 23] [3] ?_
   refine W.cond rfl (fun hb4 => ?_) (fun hb4 => ?_)
   · have H := of_true H hb4
     refine W.rg env [6] [] ?_
     refine W.ret ?_
     refine At.rthen ?_
     cases H
     exact At.ret env.ty rfl rfl (fun q hq => by cases hq) (.refl _) hval
   · have H := of_false H hb4
     refine W.skip ?_
     refine At.thenC ?_
     refine W.seq ?_
     refine W.rg env [1, 2, 3, 24, 25, 26] [3] ?_
     refine W.block ?_
     refine At.keep (ts := [1, 2, 3, 24, 25, 26]) (ids := [3]) rfl rfl ?_
     refine W.len (t := 24) rfl (fun (hn5 : p2.length ≤ maxLen) => ?_)
     refine W.rangeGo H (fun i5 (s5 : Unit) => [(1, roL 1 enc_ListInt p1), (2, roL 1 enc_Int p2), (3, .lp 3 0), (24, roL 1 enc_Int p2), (25, .int .i64 (((p2.length : Nat) : Int))), (26, .int .i64 ((i5 : Int)))]) (fun i5 (s5 : Unit) => [(3, .cells [roL 4 enc_Task p0.Tasks, roL 1 enc_ListRange p0.Travel, roL 3 enc_Hand p0.Hands])]) (.cons .q (.cons .q (.cons .q (.cons .q (.cons .qi (.cons .qi .nil)))))) (.cons .q .nil) (fun k5 i5 s5 hle5 H1 H2 K0 hK5 => ?_)
     refine W.rg env [1, 2, 3, 24, 25, 26, 27] [3] ?_
     refine W.seq ?_
     refine W.cond rfl (fun hb6 => ?_) (fun hb6 => ?_)
     · have hi5 : i5 < p2.length := by have := of_decide_eq_true hb6; omega
       have H := H1 hi5
       refine W.skip ?_
       refine At.thenC ?_
       refine W.seq ?_
       refine W.block ?_
       refine W.sr env [] [] [1, 2, 3, 8, 9, 24, 25, 26] [3] rfl rfl rfl (.cons (⟨by omega, by omega⟩ : 0 ≤ (i5 : Int) ∧ (i5 : Int) < ((p2.length : Nat) : Int)) .nil) .nil ?_
       refine W.seq ?_
       obtain ⟨y7, hy8, H⟩ := of_bindO H
       refine W.region env [] [⟨.tup [.agg [.int .i64 (y7.1.Id), .int .i64 (y7.1.From), .int .i64 (y7.1.To)], .bool (y7.2)], [], 0, []⟩] rfl rfl rfl .nil (.free (c_gasolierref04_hand p0 (p2.getD i5 default) hy8) .nil) (At.keep (ts := [1, 2, 3, 8, 9, 10, 11, 24, 25, 26]) (ids := [3, 10]) rfl rfl ?_)
       refine At.thenC ?_
       refine W.seq ?_
       refine W.seq ?_
       obtain ⟨hc9, H⟩ := of_must H
       obtain ⟨y10, hy11, H⟩ := of_bindO H
       refine W.region env [] [⟨.bool (y10), [], 0, []⟩] rfl rfl (by kernel_rfl) (.cons hc9 (.cons (fun h => h) (.cons (fun h => h) (.cons (fun h => h) (.cons (fun h => h) (.cons (fun h => h) (.cons (fun h => h) (.cons (fun h => h) (.cons (fun h => by rw [h]; rfl) .nil))))))))) (.on (fun hW => c_gasolierref04_able p0 y7.1 (p1.getD i5 default) (of_true hy11 hW)) .nil) (At.keep (ts := [1, 2, 3, 8, 9, 24, 25, 26, 48]) (ids := [3]) rfl rfl ?_)
       refine At.thenC ?_
       refine W.cond rfl (fun hb12 => ?_) (fun hb12 => ?_)
       · have H := of_true H hb12
         refine W.rg env [6] [] ?_
         refine W.ret ?_
         refine At.rthen ?_
         refine At.rinb ?_
         refine At.rthen ?_
         refine At.rthen ?_
         refine At.rinb ?_
         refine At.rthen ?_
         cases H
         exact At.ret env.ty rfl rfl (fun q hq => by cases hq) (.refl _) hval
       · have H := of_false H hb12
         refine W.skip ?_
         refine At.thenC ?_
         refine W.rg env [1, 2, 3, 8, 9, 12, 24, 25, 26] [3] ?_
         refine W.block ?_
         refine At.keep (ts := [1, 2, 3, 8, 9, 12, 24, 25, 26]) (ids := [3]) rfl rfl ?_
         refine W.loopGo H (fun (s13 : Int) => [(1, roL 1 enc_ListInt p1), (2, roL 1 enc_Int p2), (3, .lp 3 0), (8, .int .i64 ((i5 : Int))), (9, .int .i64 ((p2.getD i5 default))), (12, .int .i64 (s13)), (24, roL 1 enc_Int p2), (25, .int .i64 (((p2.length : Nat) : Int))), (26, .int .i64 ((i5 : Int)))]) (fun (s13 : Int) => [(3, .cells [roL 4 enc_Task p0.Tasks, roL 1 enc_ListRange p0.Travel, roL 3 enc_Hand p0.Hands])]) (.cons .q (.cons .q (.cons .q (.cons .qi (.cons .qi (.cons .qi (.cons .q (.cons .qi (.cons .qi .nil))))))))) (.cons .q .nil) (fun k13 s13 H K0 hK13 => ?_)
         refine W.seq ?_
         refine W.rg env [1, 2, 3, 8, 9, 12, 24, 25, 26, 51] [3] ?_
         refine W.cond rfl (fun hb14 => ?_) (fun hb14 => ?_)
         · have H := of_true H hb14
           refine W.skip ?_
           refine At.thenC ?_
           refine W.seq ?_
           refine W.block ?_
           obtain ⟨hc15, H⟩ := of_must H
           refine W.sr env [] [] [1, 2, 3, 8, 9, 12, 24, 25, 26, 59] [3] rfl rfl rfl (.cons hc15 .nil) .nil ?_
           refine W.cond rfl (fun hb16 => ?_) (fun hb16 => ?_)
           · have H := of_true H hb16
             refine W.rg env [6] [] ?_
             refine W.ret ?_
             refine At.rinb ?_
             refine At.rthen ?_
             refine At.rthen ?_
             refine At.rinb ?_
             refine At.rinb ?_
             refine At.rthen ?_
             refine At.rthen ?_
             refine At.rinb ?_
             refine At.rthen ?_
             cases H
             exact At.ret env.ty rfl rfl (fun q hq => by cases hq) (.refl _) hval
           · have H := of_false H hb16
             refine W.skip ?_
             refine At.inb ?_
             refine At.thenC ?_
             obtain ⟨hc17, H⟩ := of_must H
             refine W.region env [] [] rfl rfl rfl (.cons hc17 .nil) .nil (At.keep (ts := [1, 2, 3, 8, 9, 12, 24, 25, 26]) (ids := [3]) rfl rfl ?_)
             refine At.thenK (At.keep (ts := [1, 2, 3, 8, 9, 12, 24, 25, 26]) (ids := [3]) rfl rfl ?_)
             exact At.conv (.cons .q (.cons .q (.cons .q (.cons .qi (.cons .qi (.cons .qi (.cons .q (.cons .qi (.cons .qi .nil))))))))) (.cons .q .nil) (hK13 (s13 + 1) H)
         · have H := of_false H hb14
           refine W.exit ?_
           refine At.xthen ?_
           refine At.xthen ?_
           refine At.xhere ?_
           refine At.inb ?_
           refine At.thenC ?_
           refine W.region env [] [] rfl rfl rfl (.cons (by unfold inI; have := hn5; (try unfold maxLen at this); omega) .nil) .nil (At.keep (ts := [1, 2, 3, 24, 25, 26]) (ids := [3]) rfl rfl ?_)
           refine At.thenK (At.keep (ts := [1, 2, 3, 24, 25, 26]) (ids := [3]) rfl rfl ?_)
           exact At.conv (.cons .q (.cons .q (.cons .q (.cons .q (.cons .qi (.cons .qi .nil)))))) (.cons .q .nil) (hK5 hi5 () H)
     · have H := H2 (by have := of_decide_eq_false hb6; omega)
       refine W.exit ?_
       refine At.xthen ?_
       refine At.xthen ?_
       refine At.xhere ?_
       refine At.thenC ?_
       refine W.rg env [6] [] ?_
       refine W.ret ?_
       cases H
       exact At.ret env.ty rfl rfl (fun q hq => by cases hq) (.refl _) hval
theorem c_slices_IndexFunc_int (p0 : (List Int)) (p1 : Int → Option Bool) (p1_g : Nat) (p1_a p1_b : List AV) (p1_h : ∀ x0 r, p1 x0 = some r → Ctr Tryz.prog p1_g (p1_a ++ ([.int .i64 (x0)] ++ p1_b)) (.bool (r))) {r : Int} (H : slices_IndexFunc_int p0 p1 = some r) : Ctr Tryz.prog 92 [roL 1 enc_Int p0, .clo (.func p1_g) p1_a p1_b] (.int .i64 (r)) := by
 unfold slices_IndexFunc_int at H
 refine Ctr.of_body (N := 19) Tryz.func92 (by kernel_rfl) (c := _) rfl Tryz.ntmps92 rfl (fun w0 h0 hval => ?_)
 refine W.rg env [0, 1] [] ?_
 refine W.seq ?_
 refine W.rg env [0, 1, 7, 8] [] ?_
 refine W.block ?_
 refine At.keep (ts := [0, 1, 7, 8]) (ids := []) rfl rfl ?_
 refine W.len (t := 0) rfl (fun (hn1 : p0.length ≤ maxLen) => ?_)
 refine W.rangeGo H (fun i1 (s1 : Unit) => [(0, roL 1 enc_Int p0), (1, .clo (.func p1_g) p1_a p1_b), (7, .int .i64 (((p0.length : Nat) : Int))), (8, .int .i64 ((i1 : Int)))]) (fun i1 (s1 : Unit) => []) (.cons .q (.cons .q (.cons .qi (.cons .qi .nil)))) .nil (fun k1 i1 s1 hle1 H1 H2 K0 hK1 => ?_)
 refine W.rg env [0, 1, 7, 8, 9] [] ?_
 refine W.seq ?_
 refine W.cond rfl (fun hb2 => ?_) (fun hb2 => ?_)
 · have hi1 : i1 < p0.length := by have := of_decide_eq_true hb2; omega
   have H := H1 hi1
   refine W.skip ?_
   refine At.thenC ?_
   refine W.seq ?_
   refine W.block ?_
   refine W.rg env [0, 1, 5, 7, 8] [] ?_
   refine W.seq ?_
   obtain ⟨y3, hy4, H⟩ := of_bindO H
   refine W.region env [] [⟨.bool (y3), [], 0, []⟩] rfl rfl rfl (.cons (⟨by omega, by omega⟩ : 0 ≤ (i1 : Int) ∧ (i1 : Int) < ((p0.length : Nat) : Int)) .nil) (.free (p1_h (p0.getD i1 default) _ hy4) .nil) (At.keep (ts := [0, 1, 5, 7, 8, 16]) (ids := []) rfl rfl ?_)
   refine At.thenC ?_
   refine W.cond rfl (fun hb5 => ?_) (fun hb5 => ?_)
   · have H := of_true H hb5
     refine W.rg env [4] [] ?_
     refine W.ret ?_
     refine At.rinb ?_
     refine At.rthen ?_
     refine At.rthen ?_
     refine At.rinb ?_
     refine At.rthen ?_
     cases H
     exact At.ret env.ty rfl rfl (fun q hq => by cases hq) (.refl _) hval
   · have H := of_false H hb5
     refine W.skip ?_
     refine At.inb ?_
     refine At.thenC ?_
     refine W.region env [] [] rfl rfl rfl (.cons (by unfold inI; have := hn1; (try unfold maxLen at this); omega) .nil) .nil (At.keep (ts := [0, 1, 7, 8]) (ids := []) rfl rfl ?_)
     refine At.thenK (At.keep (ts := [0, 1, 7, 8]) (ids := []) rfl rfl ?_)
     exact At.conv (.cons .q (.cons .q (.cons .qi (.cons .qi .nil)))) .nil (hK1 hi1 () H)
 · have H := H2 (by have := of_decide_eq_false hb2; omega)
   refine W.exit ?_
   refine At.xthen ?_
   refine At.xthen ?_
   refine At.xhere ?_
   refine At.thenC ?_
   refine W.rg env [4] [] ?_
   refine W.ret ?_
   cases H
   exact At.ret env.ty rfl rfl (fun q hq => by cases hq) (.refl _) hval
theorem c_slices_ContainsFunc_int (p0 : (List Int)) (p1 : Int → Option Bool) (p1_g : Nat) (p1_a p1_b : List AV) (p1_h : ∀ x0 r, p1 x0 = some r → Ctr Tryz.prog p1_g (p1_a ++ ([.int .i64 (x0)] ++ p1_b)) (.bool (r))) {r : Bool} (H : slices_ContainsFunc_int p0 p1 = some r) : Ctr Tryz.prog 60 [roL 1 enc_Int p0, .clo (.func p1_g) p1_a p1_b] (.bool (r)) := by
 unfold slices_ContainsFunc_int at H
 refine Ctr.of_body (N := 9) Tryz.func60 (by kernel_rfl) (c := _) rfl Tryz.ntmps60 rfl (fun w0 h0 hval => ?_)
 refine W.rg env [0, 1] [] ?_
 refine W.seq ?_
 obtain ⟨y1, hy2, H⟩ := of_bindO H
 refine W.region env [] [⟨.int .i64 (y1), [], 0, []⟩] rfl rfl rfl .nil (.free (c_slices_IndexFunc_int p0 p1 p1_g p1_a p1_b p1_h hy2) .nil) (At.keep (ts := [4]) (ids := []) rfl rfl ?_)
 refine At.thenC ?_
 refine W.ret ?_
 cases H
 exact At.ret env.ty rfl rfl (fun q hq => by cases hq) (.refl _) hval
theorem c_crew_CheckShort_1 (p0 : Int) (c0 : crew_plan) (c1 : Hand) (c2 : (List (List Int))) {r : Bool} (H : crew_CheckShort_1 p0 c0 c1 c2 = some r) : Ctr Tryz.prog 61 [.int .i64 (p0), .rp [.rp [roL 4 enc_Task c0.Crew.Tasks, roL 1 enc_ListRange c0.Crew.Travel, roL 3 enc_Hand c0.Crew.Hands, roL 1 enc_Int c0.next]], .rp [.int .i64 (c1.Id), .int .i64 (c1.From), .int .i64 (c1.To)], .rp [roL 1 enc_ListInt c2]] (.bool (r)) := by
 unfold crew_CheckShort_1 at H
 refine Ctr.of_body (N := 13) Tryz.func61 (by kernel_rfl) (c := _) rfl Tryz.ntmps61 rfl (fun w0 h0 hval => ?_)
 refine W.rg env [0, 1, 2, 3] [] ?_
 refine W.seq ?_
 obtain ⟨hc1, H⟩ := of_must H
 obtain ⟨y2, hy3, H⟩ := of_bindO H
 refine W.region env [] [⟨.bool (y2), [], 0, []⟩] rfl rfl (by kernel_rfl) (.cons hc1 .nil) (.free (c_crew_plan__able c0 c1 (c2.getD (p0).toNat default) hy3) .nil) (At.keep (ts := [5]) (ids := []) rfl rfl ?_)
 refine At.thenC ?_
 refine W.ret ?_
 cases H
 exact At.ret env.ty rfl rfl (fun q hq => by cases hq) (.refl _) hval
theorem c_crew_CheckShort (p0 : Crew) (p1 : (List (List Int))) (p2 : (List Int)) {r : Int} (H : crew_CheckShort p0 p1 p2 = some r) : Ctr Tryz.prog 16 [.agg [roL 4 enc_Task p0.Tasks, roL 1 enc_ListRange p0.Travel, roL 3 enc_Hand p0.Hands], roL 1 enc_ListInt p1, roL 1 enc_Int p2] (.int .i64 (r)) := by
 unfold crew_CheckShort at H
 refine Ctr.of_body (N := 67) Tryz.func16 (by kernel_rfl) (c := _) rfl Tryz.ntmps16 rfl (fun w0 h0 hval => ?_)
 refine W.rg env [2, 3, 4] [3, 4] ?_
 refine W.seq ?_
 obtain ⟨y1, hy2, H⟩ := of_bindO H
 refine W.region env [] [⟨.tup [.po y1.1.isSome [roL 4 enc_Task ((y1.1.getD default).Crew.Tasks), roL 1 enc_ListRange ((y1.1.getD default).Crew.Travel), roL 3 enc_Hand ((y1.1.getD default).Crew.Hands), roL 1 enc_Int ((y1.1.getD default).next)], .int .i64 (y1.2)], [], 0, []⟩] rfl rfl rfl .nil (.free (c_crew_asked p0 p1 hy2) .nil) (At.keep (ts := [2, 3, 4, 7, 8]) (ids := [3, 4, 7]) rfl rfl ?_)
 refine At.thenC ?_
 refine W.seq ?_
 refine W.rg env [2, 3, 4, 7, 8, 21] [3, 4, 7] ?_
 refine W.cond rfl (fun hb3 => ?_) (fun hb3 => ?_)
 · have H := of_true H hb3
   refine W.rg env [6] [] ?_
   refine W.ret ?_
   refine At.rthen ?_
   cases H
   exact At.ret env.ty rfl rfl (fun q hq => by cases hq) (.refl _) hval
 · have H := of_false H hb3
   refine W.skip ?_
   refine At.thenC ?_
   refine W.rg env [2, 3, 4, 7, 9] [3, 4, 7] ?_
   refine W.seq ?_
   refine W.rg env [2, 3, 4, 7, 9, 23, 24, 25] [3, 4, 7] ?_
   refine W.block ?_
   refine At.keep (ts := [2, 3, 4, 7, 9, 23, 24, 25]) (ids := [3, 4, 7]) rfl rfl ?_
   refine W.len (t := 23) rfl (fun (hn4 : p2.length ≤ maxLen) => ?_)
   refine W.rangeGo H (fun i4 (s4 : Unit) => [(2, roL 1 enc_Int p2), (3, .lp 3 0), (4, .lp 4 0), (7, .lp 7 0), (9, .int .i64 (0)), (23, roL 1 enc_Int p2), (24, .int .i64 (((p2.length : Nat) : Int))), (25, .int .i64 ((i4 : Int)))]) (fun i4 (s4 : Unit) => [(3, .cells [roL 4 enc_Task p0.Tasks, roL 1 enc_ListRange p0.Travel, roL 3 enc_Hand p0.Hands]), (4, .cells [roL 1 enc_ListInt p1]), (7, .cells [.po y1.1.isSome [roL 4 enc_Task ((y1.1.getD default).Crew.Tasks), roL 1 enc_ListRange ((y1.1.getD default).Crew.Travel), roL 3 enc_Hand ((y1.1.getD default).Crew.Hands), roL 1 enc_Int ((y1.1.getD default).next)]])]) (.cons .q (.cons .q (.cons .q (.cons .q (.cons .qi (.cons .q (.cons .qi (.cons .qi .nil)))))))) (.cons .q (.cons .q (.cons .q .nil))) (fun k4 i4 s4 hle4 H1 H2 K0 hK4 => ?_)
   refine W.rg env [2, 3, 4, 7, 9, 23, 24, 25, 26] [3, 4, 7] ?_
   refine W.seq ?_
   refine W.cond rfl (fun hb5 => ?_) (fun hb5 => ?_)
   · have hi4 : i4 < p2.length := by have := of_decide_eq_true hb5; omega
     have H := H1 hi4
     refine W.skip ?_
     refine At.thenC ?_
     refine W.seq ?_
     refine W.block ?_
     refine W.sr env [] [] [2, 3, 4, 7, 9, 10, 11, 23, 24, 25] [3, 4, 7] rfl rfl rfl (.cons (⟨by omega, by omega⟩ : 0 ≤ (i4 : Int) ∧ (i4 : Int) < ((p2.length : Nat) : Int)) .nil) .nil ?_
     obtain ⟨hc6, H⟩ := of_must H
     obtain ⟨hc7, H⟩ := of_must H
     obtain ⟨hc8, H⟩ := of_must H
     refine W.sr env [] [⟨.bool ((crew_in (p2.getD i4 default) 0 (((p1.length : Nat) : Int) - 1))), [], 0, []⟩] [2, 3, 4, 7, 9, 23, 24, 25, 48] [3, 4, 7] rfl rfl rfl (.cons hc6 (.cons (fun h => h) (.cons (fun h => h) (.cons hc7 (.cons (fun h => h) (.cons hc8 (.cons (fun h => h) (.cons (fun h => h) (.cons (fun h => h) (.cons (fun h => h) (.cons (fun h => h) (.cons (fun h => h) (.cons (fun hW h => by revert hW h; first | (simp +contextual; done) | grind) (.cons (fun h => by rw [h]; rfl) .nil)))))))))))))) (.free (c_crew_in (p2.getD i4 default) 0 (((p1.length : Nat) : Int) - 1)) .nil) ?_
     refine W.cond rfl (fun hb9 => ?_) (fun hb9 => ?_)
     · have H := of_true H hb9
       refine W.rg env [6] [] ?_
       refine W.ret ?_
       refine At.rinb ?_
       refine At.rthen ?_
       refine At.rthen ?_
       refine At.rinb ?_
       refine At.rthen ?_
       cases H
       exact At.ret env.ty rfl rfl (fun q hq => by cases hq) (.refl _) hval
     · have H := of_false H hb9
       refine W.skip ?_
       refine At.inb ?_
       refine At.thenC ?_
       refine W.region env [] [] rfl rfl rfl (.cons (by unfold inI; have := hn4; (try unfold maxLen at this); omega) .nil) .nil (At.keep (ts := [2, 3, 4, 7, 9, 23, 24, 25]) (ids := [3, 4, 7]) rfl rfl ?_)
       refine At.thenK (At.keep (ts := [2, 3, 4, 7, 9, 23, 24, 25]) (ids := [3, 4, 7]) rfl rfl ?_)
       exact At.conv (.cons .q (.cons .q (.cons .q (.cons .q (.cons .qi (.cons .q (.cons .qi (.cons .qi .nil)))))))) (.cons .q (.cons .q (.cons .q .nil))) (hK4 hi4 () H)
   · have H := H2 (by have := of_decide_eq_false hb5; omega)
     refine W.exit ?_
     refine At.xthen ?_
     refine At.xthen ?_
     refine At.xhere ?_
     refine At.thenC ?_
     refine W.seq ?_
     refine W.rg env [2, 4, 7, 9, 51, 52, 53] [4, 7] ?_
     refine W.block ?_
     refine At.keep (ts := [2, 4, 7, 9, 51, 52, 53]) (ids := [4, 7]) rfl rfl ?_
     refine W.len (t := 51) rfl (fun (hn10 : p0.Hands.length ≤ maxLen) => ?_)
     refine W.rangeGo H (fun i10 (s10 : Int) => [(2, roL 1 enc_Int p2), (4, .lp 4 0), (7, .lp 7 0), (9, .int .i64 (s10)), (51, roL 3 enc_Hand p0.Hands), (52, .int .i64 (((p0.Hands.length : Nat) : Int))), (53, .int .i64 ((i10 : Int)))]) (fun i10 (s10 : Int) => [(4, .cells [roL 1 enc_ListInt p1]), (7, .cells [.po y1.1.isSome [roL 4 enc_Task ((y1.1.getD default).Crew.Tasks), roL 1 enc_ListRange ((y1.1.getD default).Crew.Travel), roL 3 enc_Hand ((y1.1.getD default).Crew.Hands), roL 1 enc_Int ((y1.1.getD default).next)]])]) (.cons .q (.cons .q (.cons .q (.cons .qi (.cons .q (.cons .qi (.cons .qi .nil))))))) (.cons .q (.cons .q .nil)) (fun k10 i10 s10 hle10 H1 H2 K0 hK10 => ?_)
     refine W.rg env [2, 4, 7, 9, 51, 52, 53, 54] [4, 7] ?_
     refine W.seq ?_
     refine W.cond rfl (fun hb11 => ?_) (fun hb11 => ?_)
     · have hi10 : i10 < p0.Hands.length := by have := of_decide_eq_true hb11; omega
       have H := H1 hi10
       refine W.skip ?_
       refine At.thenC ?_
       refine W.seq ?_
       refine W.block ?_
       refine W.sr env [] [] [2, 4, 7, 9, 13, 51, 52, 53] [4, 7, 13] rfl rfl rfl (.cons (⟨by omega, by omega⟩ : 0 ≤ (i10 : Int) ∧ (i10 : Int) < ((p0.Hands.length : Nat) : Int)) .nil) .nil ?_
       refine W.seq ?_
       obtain ⟨hc12, H⟩ := of_must H
       obtain ⟨y13, hy14, H⟩ := of_bindO H
       refine W.region env [] [⟨.bool (y13), [], 0, []⟩] rfl rfl rfl .nil (.free (c_slices_ContainsFunc_int p2 (fun x0 => crew_CheckShort_1 x0 (y1.1.getD default) (p0.Hands.getD i10 default) p1) 61 [] ([.rp [.po y1.1.isSome [roL 4 enc_Task ((y1.1.getD default).Crew.Tasks), roL 1 enc_ListRange ((y1.1.getD default).Crew.Travel), roL 3 enc_Hand ((y1.1.getD default).Crew.Hands), roL 1 enc_Int ((y1.1.getD default).next)]], .rp [.int .i64 ((p0.Hands.getD i10 default).Id), .int .i64 ((p0.Hands.getD i10 default).From), .int .i64 ((p0.Hands.getD i10 default).To)], .rp [roL 1 enc_ListInt p1]]) (fun x0 r h => Ctr.sim (.cons (.refl _) (.cons (Sim.rp (.cons (Sim.rp_po hc12) .nil)) (.cons (.refl _) (.cons (.refl _) .nil)))) (c_crew_CheckShort_1 x0 (y1.1.getD default) (p0.Hands.getD i10 default) p1 h)) hy14) .nil) (At.keep (ts := [2, 4, 7, 9, 51, 52, 53, 59]) (ids := [4, 7]) rfl rfl ?_)
       refine At.thenC ?_
       refine W.cond rfl (fun hb15 => ?_) (fun hb15 => ?_)
       · have H := of_true H hb15
         obtain ⟨hc16, H⟩ := of_must H
         refine W.region env [] [] rfl rfl rfl (.cons hc16 .nil) .nil (At.keep (ts := [2, 4, 7, 9, 51, 52, 53]) (ids := [4, 7]) rfl rfl ?_)
         refine At.inb ?_
         refine At.thenC ?_
         refine W.region env [] [] rfl rfl rfl (.cons (by unfold inI; have := hn10; (try unfold maxLen at this); omega) .nil) .nil (At.keep (ts := [2, 4, 7, 9, 51, 52, 53]) (ids := [4, 7]) rfl rfl ?_)
         refine At.thenK (At.keep (ts := [2, 4, 7, 9, 51, 52, 53]) (ids := [4, 7]) rfl rfl ?_)
         exact At.conv (.cons .q (.cons .q (.cons .q (.cons .qi (.cons .q (.cons .qi (.cons .qi .nil))))))) (.cons .q (.cons .q .nil)) (hK10 hi10 (s10 + 1) H)
       · have H := of_false H hb15
         refine W.skip ?_
         refine At.inb ?_
         refine At.thenC ?_
         refine W.region env [] [] rfl rfl rfl (.cons (by unfold inI; have := hn10; (try unfold maxLen at this); omega) .nil) .nil (At.keep (ts := [2, 4, 7, 9, 51, 52, 53]) (ids := [4, 7]) rfl rfl ?_)
         refine At.thenK (At.keep (ts := [2, 4, 7, 9, 51, 52, 53]) (ids := [4, 7]) rfl rfl ?_)
         exact At.conv (.cons .q (.cons .q (.cons .q (.cons .qi (.cons .q (.cons .qi (.cons .qi .nil))))))) (.cons .q (.cons .q .nil)) (hK10 hi10 s10 H)
     · have H := H2 (by have := of_decide_eq_false hb11; omega)
       refine W.exit ?_
       refine At.xthen ?_
       refine At.xthen ?_
       refine At.xhere ?_
       refine At.thenC ?_
       refine W.seq ?_
       refine W.rg env [66] [] ?_
       refine W.cond rfl (fun hb17 => ?_) (fun hb17 => ?_)
       · have H := of_true H hb17
         refine W.rg env [6] [] ?_
         refine W.ret ?_
         refine At.rthen ?_
         cases H
         exact At.ret env.ty rfl rfl (fun q hq => by cases hq) (.refl _) hval
       · have H := of_false H hb17
         refine W.skip ?_
         refine At.thenC ?_
         refine W.rg env [6] [] ?_
         refine W.ret ?_
         cases H
         exact At.ret env.ty rfl rfl (fun q hq => by cases hq) (.refl _) hval
theorem c_gasolierref04_CheckShort (p0 : Crew) (p1 : (List (List Int))) (p2 : (List Int)) {r : Int} (H : gasolierref04_CheckShort p0 p1 p2 = some r) : Ctr Tryz.prog 17 [.agg [roL 4 enc_Task p0.Tasks, roL 1 enc_ListRange p0.Travel, roL 3 enc_Hand p0.Hands], roL 1 enc_ListInt p1, roL 1 enc_Int p2] (.int .i64 (r)) := by
 unfold gasolierref04_CheckShort at H
 refine Ctr.of_body (N := 80) Tryz.func17 (by kernel_rfl) (c := _) rfl Tryz.ntmps17 rfl (fun w0 h0 hval => ?_)
 refine W.rg env [1, 2, 3] [3] ?_
 refine W.seq ?_
 refine W.seq ?_
 obtain ⟨y1, hy2, H⟩ := of_bindO H
 refine W.region env [] [⟨.int .i64 (y1), [], 0, []⟩] rfl rfl rfl .nil (.free (c_gasolierref04_CheckRounds p0 p1 hy2) .nil) (At.keep (ts := [1, 2, 3, 7]) (ids := [3]) rfl rfl ?_)
 refine At.thenC ?_
 refine W.rg env [1, 2, 3, 7, 20] [3] ?_
 refine W.cond rfl (fun hb3 => ?_) (fun hb3 => ?_)
 · have H := of_true H hb3
   refine W.rg env [6] [] ?_
   refine W.ret ?_
   refine At.rthen ?_
   cases H
   exact At.ret env.ty rfl rfl (fun q hq => by cases hq) (.refl _) hval
 · have H := of_false H hb3
   refine W.skip ?_
   refine At.thenC ?_
   refine W.seq ?_
   refine W.rg env [1, 2, 3, 22, 23, 24] [3] ?_
   refine W.block ?_
   refine At.keep (ts := [1, 2, 3, 22, 23, 24]) (ids := [3]) rfl rfl ?_
   refine W.len (t := 22) rfl (fun (hn4 : p2.length ≤ maxLen) => ?_)
   refine W.rangeGo H (fun i4 (s4 : Unit) => [(1, roL 1 enc_ListInt p1), (2, roL 1 enc_Int p2), (3, .lp 3 0), (22, roL 1 enc_Int p2), (23, .int .i64 (((p2.length : Nat) : Int))), (24, .int .i64 ((i4 : Int)))]) (fun i4 (s4 : Unit) => [(3, .cells [roL 4 enc_Task p0.Tasks, roL 1 enc_ListRange p0.Travel, roL 3 enc_Hand p0.Hands])]) (.cons .q (.cons .q (.cons .q (.cons .q (.cons .qi (.cons .qi .nil)))))) (.cons .q .nil) (fun k4 i4 s4 hle4 H1 H2 K0 hK4 => ?_)
   refine W.rg env [1, 2, 3, 22, 23, 24, 25] [3] ?_
   refine W.seq ?_
   refine W.cond rfl (fun hb5 => ?_) (fun hb5 => ?_)
   · have hi4 : i4 < p2.length := by have := of_decide_eq_true hb5; omega
     have H := H1 hi4
     refine W.skip ?_
     refine At.thenC ?_
     refine W.seq ?_
     refine W.block ?_
     refine W.sr env [] [] [1, 2, 3, 8, 9, 22, 23, 24] [3] rfl rfl rfl (.cons (⟨by omega, by omega⟩ : 0 ≤ (i4 : Int) ∧ (i4 : Int) < ((p2.length : Nat) : Int)) .nil) .nil ?_
     obtain ⟨hc6, H⟩ := of_must H
     obtain ⟨hc7, H⟩ := of_must H
     obtain ⟨hc8, H⟩ := of_must H
     refine W.sr env [] [⟨.bool ((gasolierref01_Within (p2.getD i4 default) 0 (((p1.length : Nat) : Int) - 1))), [], 0, []⟩] [1, 2, 3, 22, 23, 24, 47] [3] rfl rfl rfl (.cons hc6 (.cons (fun h => h) (.cons (fun h => h) (.cons hc7 (.cons (fun h => h) (.cons hc8 (.cons (fun h => h) (.cons (fun h => h) (.cons (fun h => h) (.cons (fun h => h) (.cons (fun h => h) (.cons (fun h => h) (.cons (fun hW h => by revert hW h; first | (simp +contextual; done) | grind) (.cons (fun h => by rw [h]; rfl) .nil)))))))))))))) (.free (c_gasolierref01_Within (p2.getD i4 default) 0 (((p1.length : Nat) : Int) - 1)) .nil) ?_
     refine W.cond rfl (fun hb9 => ?_) (fun hb9 => ?_)
     · have H := of_true H hb9
       refine W.rg env [6] [] ?_
       refine W.ret ?_
       refine At.rinb ?_
       refine At.rthen ?_
       refine At.rthen ?_
       refine At.rinb ?_
       refine At.rthen ?_
       cases H
       exact At.ret env.ty rfl rfl (fun q hq => by cases hq) (.refl _) hval
     · have H := of_false H hb9
       refine W.skip ?_
       refine At.inb ?_
       refine At.thenC ?_
       refine W.region env [] [] rfl rfl rfl (.cons (by unfold inI; have := hn4; (try unfold maxLen at this); omega) .nil) .nil (At.keep (ts := [1, 2, 3, 22, 23, 24]) (ids := [3]) rfl rfl ?_)
       refine At.thenK (At.keep (ts := [1, 2, 3, 22, 23, 24]) (ids := [3]) rfl rfl ?_)
       exact At.conv (.cons .q (.cons .q (.cons .q (.cons .q (.cons .qi (.cons .qi .nil)))))) (.cons .q .nil) (hK4 hi4 () H)
   · have H := H2 (by have := of_decide_eq_false hb5; omega)
     refine W.exit ?_
     refine At.xthen ?_
     refine At.xthen ?_
     refine At.xhere ?_
     refine At.thenC ?_
     refine W.rg env [1, 2, 3, 10] [3] ?_
     refine W.seq ?_
     refine W.rg env [1, 2, 3, 10, 50, 51, 52] [3] ?_
     refine W.block ?_
     refine At.keep (ts := [1, 2, 3, 10, 50, 51, 52]) (ids := [3]) rfl rfl ?_
     refine W.len (t := 50) rfl (fun (hn10 : p0.Hands.length ≤ maxLen) => ?_)
     refine W.rangeGo H (fun i10 (s10 : Int) => [(1, roL 1 enc_ListInt p1), (2, roL 1 enc_Int p2), (3, .lp 3 0), (10, .int .i64 (s10)), (50, roL 3 enc_Hand p0.Hands), (51, .int .i64 (((p0.Hands.length : Nat) : Int))), (52, .int .i64 ((i10 : Int)))]) (fun i10 (s10 : Int) => [(3, .cells [roL 4 enc_Task p0.Tasks, roL 1 enc_ListRange p0.Travel, roL 3 enc_Hand p0.Hands])]) (.cons .q (.cons .q (.cons .q (.cons .qi (.cons .q (.cons .qi (.cons .qi .nil))))))) (.cons .q .nil) (fun k10 i10 s10 hle10 H1 H2 K0 hK10 => ?_)
     refine W.rg env [1, 2, 3, 10, 50, 51, 52, 53] [3] ?_
     refine W.seq ?_
     refine W.cond rfl (fun hb11 => ?_) (fun hb11 => ?_)
     · have hi10 : i10 < p0.Hands.length := by have := of_decide_eq_true hb11; omega
       have H := H1 hi10
       refine W.skip ?_
       refine At.thenC ?_
       refine W.seq ?_
       refine W.block ?_
       refine W.sr env [] [] [1, 2, 3, 10, 12, 50, 51, 52] [3, 12] rfl rfl rfl (.cons (⟨by omega, by omega⟩ : 0 ≤ (i10 : Int) ∧ (i10 : Int) < ((p0.Hands.length : Nat) : Int)) .nil) .nil ?_
       refine W.rg env [1, 2, 3, 10, 12, 13, 50, 51, 52] [3, 12] ?_
       refine W.seq ?_
       refine W.seq ?_
       obtain ⟨y12, hy13, H⟩ := of_bindO H
       refine W.region env [] [⟨roL 1 enc_ListInt y12, [], 0, []⟩] rfl rfl rfl .nil (.free (c_gasolierref04_some p1 p2 hy13) .nil) (At.keep (ts := [1, 2, 3, 10, 12, 13, 50, 51, 52, 58, 59, 60]) (ids := [3, 12]) rfl rfl ?_)
       refine At.thenC ?_
       refine W.block ?_
       refine At.keep (ts := [1, 2, 3, 10, 12, 13, 50, 51, 52, 58, 59, 60]) (ids := [3, 12]) rfl rfl ?_
       refine W.len (t := 58) rfl (fun (hn14 : y12.length ≤ maxLen) => ?_)
       refine W.rangeGo H (fun i14 (s14 : Bool) => [(1, roL 1 enc_ListInt p1), (2, roL 1 enc_Int p2), (3, .lp 3 0), (10, .int .i64 (s10)), (12, .lp 12 0), (13, .bool (s14)), (50, roL 3 enc_Hand p0.Hands), (51, .int .i64 (((p0.Hands.length : Nat) : Int))), (52, .int .i64 ((i10 : Int))), (58, roL 1 enc_ListInt y12), (59, .int .i64 (((y12.length : Nat) : Int))), (60, .int .i64 ((i14 : Int)))]) (fun i14 (s14 : Bool) => [(3, .cells [roL 4 enc_Task p0.Tasks, roL 1 enc_ListRange p0.Travel, roL 3 enc_Hand p0.Hands]), (12, .cells [.int .i64 ((p0.Hands.getD i10 default).Id), .int .i64 ((p0.Hands.getD i10 default).From), .int .i64 ((p0.Hands.getD i10 default).To)])]) (.cons .q (.cons .q (.cons .q (.cons .qi (.cons .q (.cons .q (.cons .q (.cons .qi (.cons .qi (.cons .q (.cons .qi (.cons .qi .nil)))))))))))) (.cons .q (.cons .q .nil)) (fun k14 i14 s14 hle14 H1 H2 K0 hK14 => ?_)
       refine W.rg env [1, 2, 3, 10, 12, 13, 50, 51, 52, 58, 59, 60, 61] [3, 12] ?_
       refine W.seq ?_
       refine W.cond rfl (fun hb15 => ?_) (fun hb15 => ?_)
       · have hi14 : i14 < y12.length := by have := of_decide_eq_true hb15; omega
         have H := H1 hi14
         refine W.skip ?_
         refine At.thenC ?_
         refine W.seq ?_
         refine W.block ?_
         refine W.sr env [] [] [1, 2, 3, 10, 12, 13, 15, 50, 51, 52, 58, 59, 60] [3, 12] rfl rfl rfl (.cons (⟨by omega, by omega⟩ : 0 ≤ (i14 : Int) ∧ (i14 : Int) < ((y12.length : Nat) : Int)) .nil) .nil ?_
         obtain ⟨y16, hy17, H⟩ := of_bindO H
         refine W.region env [] [⟨.bool (y16), [], 0, []⟩] rfl rfl rfl (.cons (fun h => h) (.cons (fun h => h) (.cons (fun h => h) (.cons (fun h => by rw [h]; rfl) .nil)))) (.on (fun hW => c_gasolierref04_able p0 (p0.Hands.getD i10 default) (y12.getD i14 default) (of_true hy17 hW)) .nil) (At.keep (ts := [1, 2, 3, 10, 12, 13, 50, 51, 52, 58, 59, 60]) (ids := [3, 12]) rfl rfl ?_)
         refine At.inb ?_
         refine At.thenC ?_
         refine W.region env [] [] rfl rfl rfl (.cons (by unfold inI; have := hn14; (try unfold maxLen at this); omega) .nil) .nil (At.keep (ts := [1, 2, 3, 10, 12, 13, 50, 51, 52, 58, 59, 60]) (ids := [3, 12]) rfl rfl ?_)
         refine At.thenK (At.keep (ts := [1, 2, 3, 10, 12, 13, 50, 51, 52, 58, 59, 60]) (ids := [3, 12]) rfl rfl ?_)
         exact At.conv (.cons .q (.cons .q (.cons .q (.cons .qi (.cons .q (.cons .q (.cons .q (.cons .qi (.cons .qi (.cons .q (.cons .qi (.cons .qi .nil)))))))))))) (.cons .q (.cons .q .nil)) (hK14 hi14 (s14 || y16) H)
       · have H := H2 (by have := of_decide_eq_false hb15; omega)
         refine W.exit ?_
         refine At.xthen ?_
         refine At.xthen ?_
         refine At.xhere ?_
         refine At.thenC ?_
         refine W.rg env [1, 2, 3, 10, 50, 51, 52, 72] [3] ?_
         refine W.cond rfl (fun hb18 => ?_) (fun hb18 => ?_)
         · have H := of_true H hb18
           obtain ⟨hc19, H⟩ := of_must H
           refine W.region env [] [] rfl rfl rfl (.cons hc19 .nil) .nil (At.keep (ts := [1, 2, 3, 10, 50, 51, 52]) (ids := [3]) rfl rfl ?_)
           refine At.inb ?_
           refine At.thenC ?_
           refine W.region env [] [] rfl rfl rfl (.cons (by unfold inI; have := hn10; (try unfold maxLen at this); omega) .nil) .nil (At.keep (ts := [1, 2, 3, 10, 50, 51, 52]) (ids := [3]) rfl rfl ?_)
           refine At.thenK (At.keep (ts := [1, 2, 3, 10, 50, 51, 52]) (ids := [3]) rfl rfl ?_)
           exact At.conv (.cons .q (.cons .q (.cons .q (.cons .qi (.cons .q (.cons .qi (.cons .qi .nil))))))) (.cons .q .nil) (hK10 hi10 (s10 + 1) H)
         · have H := of_false H hb18
           refine W.skip ?_
           refine At.inb ?_
           refine At.thenC ?_
           refine W.region env [] [] rfl rfl rfl (.cons (by unfold inI; have := hn10; (try unfold maxLen at this); omega) .nil) .nil (At.keep (ts := [1, 2, 3, 10, 50, 51, 52]) (ids := [3]) rfl rfl ?_)
           refine At.thenK (At.keep (ts := [1, 2, 3, 10, 50, 51, 52]) (ids := [3]) rfl rfl ?_)
           exact At.conv (.cons .q (.cons .q (.cons .q (.cons .qi (.cons .q (.cons .qi (.cons .qi .nil))))))) (.cons .q .nil) (hK10 hi10 s10 H)
     · have H := H2 (by have := of_decide_eq_false hb11; omega)
       refine W.exit ?_
       refine At.xthen ?_
       refine At.xthen ?_
       refine At.xhere ?_
       refine At.thenC ?_
       refine W.seq ?_
       refine W.rg env [79] [] ?_
       refine W.cond rfl (fun hb20 => ?_) (fun hb20 => ?_)
       · have H := of_true H hb20
         refine W.rg env [6] [] ?_
         refine W.ret ?_
         refine At.rthen ?_
         cases H
         exact At.ret env.ty rfl rfl (fun q hq => by cases hq) (.refl _) hval
       · have H := of_false H hb20
         refine W.skip ?_
         refine At.thenC ?_
         refine W.rg env [6] [] ?_
         refine W.ret ?_
         cases H
         exact At.ret env.ty rfl rfl (fun q hq => by cases hq) (.refl _) hval
theorem c_gasolierlaw04_team  : Ctr Tryz.prog 63 [] (.agg [roL 4 enc_Task ((gasolierlaw04_team).Tasks), roL 1 enc_ListRange ((gasolierlaw04_team).Travel), roL 3 enc_Hand ((gasolierlaw04_team).Hands)]) := by
 obtain ⟨r, H⟩ : ∃ r, gasolierlaw04_team = r := ⟨_, rfl⟩
 rw [H]
 unfold gasolierlaw04_team at H
 refine Ctr.of_body (N := 17) Tryz.func63 (by kernel_rfl) (c := _) rfl Tryz.ntmps63 rfl (fun w0 h0 hval => ?_)
 refine W.rg env [0] [0] ?_
 refine W.rg env [0] [0] ?_
 refine W.ret ?_
 cases H
 exact At.ret env.ty rfl rfl (fun q hq => by cases hq) (Sim.aggL (.cons (Sim.lit (f := enc_Task) ([(⟨1, 0, 300, 2⟩ : Task), (⟨2, 1, 320, 2⟩ : Task), (⟨3, 0, 325, 2⟩ : Task), (⟨4, 1, 350, 2⟩ : Task)] : List Task) rfl rfl (fun _ => rfl)) (.cons (Sim.lit2 (f := enc_ListRange) ([([(⟨0, 0⟩ : Range), (⟨10, 20⟩ : Range)] : List Range), ([(⟨10, 20⟩ : Range), (⟨0, 0⟩ : Range)] : List Range)] : List (List Range)) (.cons (Sim.lit (f := enc_Range) ([(⟨0, 0⟩ : Range), (⟨10, 20⟩ : Range)] : List Range) rfl rfl (fun _ => rfl)) (.cons (Sim.lit (f := enc_Range) ([(⟨10, 20⟩ : Range), (⟨0, 0⟩ : Range)] : List Range) rfl rfl (fun _ => rfl)) .nil)) rfl rfl (fun _ => rfl)) (.cons (Sim.lit (f := enc_Hand) ([(⟨7, 290, 400⟩ : Hand), (⟨8, 310, 330⟩ : Hand)] : List Hand) rfl rfl (fun _ => rfl)) .nil)))) hval
theorem c_crew_least (p0 : Range) : Ctr Tryz.prog 93 [.agg [.int .i64 (p0.Lo), .int .i64 (p0.Hi)]] (.int .i64 ((crew_least p0))) := by
 obtain ⟨r, H⟩ : ∃ r, crew_least p0 = r := ⟨_, rfl⟩
 rw [H]
 unfold crew_least at H
 refine Ctr.of_body (N := 5) Tryz.func93 (by kernel_rfl) (c := _) rfl Tryz.ntmps93 rfl (fun w0 h0 hval => ?_)
 refine W.rg env [1] [1] ?_
 refine W.rg env [2] [] ?_
 refine W.ret ?_
 cases H
 exact At.ret env.ty rfl rfl (fun q hq => by cases hq) (.refl _) hval
theorem c_crew_Follows (p0 : Crew) (p1 : Int) (p2 : Int) {r : (Int × Int)} (H : crew_Follows p0 p1 p2 = some r) : Ctr Tryz.prog 64 [.agg [roL 4 enc_Task p0.Tasks, roL 1 enc_ListRange p0.Travel, roL 3 enc_Hand p0.Hands], .int .i64 (p1), .int .i64 (p2)] (.tup [.int .i64 (r.1), .int .i64 (r.2)]) := by
 unfold crew_Follows at H
 refine Ctr.of_body (N := 49) Tryz.func64 (by kernel_rfl) (c := _) rfl Tryz.ntmps64 rfl (fun w0 h0 hval => ?_)
 refine W.rg env [1, 2, 3] [3] ?_
 refine W.seq ?_
 obtain ⟨y1, hy2, H⟩ := of_bindO H
 refine W.region env [] [⟨.int .i64 (y1), [], 0, []⟩] rfl rfl rfl .nil (.free (c_crew_Check p0 hy2) .nil) (At.keep (ts := [1, 2, 3, 8]) (ids := [3]) rfl rfl ?_)
 refine At.thenC ?_
 refine W.seq ?_
 refine W.block ?_
 refine W.rg env [1, 2, 3, 8, 11] [3] ?_
 refine W.cond rfl (fun hb3 => ?_) (fun hb3 => ?_)
 · have H := of_true H hb3
   refine W.rg env [6, 7] [] ?_
   refine W.ret ?_
   refine At.rinb ?_
   refine At.rthen ?_
   cases H
   exact At.ret env.ty rfl rfl (fun q hq => by cases hq) (.refl _) hval
 · have H := of_false H hb3
   obtain ⟨hc4, H⟩ := of_must H
   obtain ⟨hc5, H⟩ := of_must H
   refine W.sr env [] [⟨.bool ((crew_in p1 0 (((p0.Tasks.length : Nat) : Int) - 1))), [], 0, []⟩, ⟨.bool ((crew_in p2 0 (((p0.Tasks.length : Nat) : Int) - 1))), [], 0, []⟩] [1, 2, 3, 15] [3] rfl rfl rfl (.cons hc4 (.cons (fun h => h) (.cons (fun h => h) (.cons hc5 (.cons (fun h => h) (.cons (fun h => h) (.cons (fun h => h) (.cons (fun h => h) (.cons (fun h => by rw [h]; rfl) .nil))))))))) (.free (c_crew_in p1 0 (((p0.Tasks.length : Nat) : Int) - 1)) (.on (fun hW => c_crew_in p2 0 (((p0.Tasks.length : Nat) : Int) - 1)) .nil)) ?_
   refine W.cond rfl (fun hb6 => ?_) (fun hb6 => ?_)
   · have H := of_true H hb6
     refine W.rg env [6, 7] [] ?_
     refine W.ret ?_
     refine At.rinb ?_
     refine At.rthen ?_
     cases H
     exact At.ret env.ty rfl rfl (fun q hq => by cases hq) (.refl _) hval
   · have H := of_false H hb6
     refine W.seq ?_
     obtain ⟨y7, hy8, H⟩ := of_bindO H
     refine W.region env [] [⟨.int .i64 (y7), [], 0, []⟩] rfl rfl rfl (.cons (fun h => h) (.cons (fun h => h) (.cons (fun h => h) (.cons (fun h => h) (.cons (fun h => by rw [h]; rfl) .nil))))) (.on (fun hW => c_crew_spare p0 p1 p2 (fun x0 => some (crew_least x0)) 93 [] [] (fun x0 r h => by cases h; exact c_crew_least x0) (of_true hy8 hW)) .nil) (At.keep (ts := [1, 2, 3, 32]) (ids := [3]) rfl rfl ?_)
     refine At.thenC ?_
     refine W.cond rfl (fun hb9 => ?_) (fun hb9 => ?_)
     · have H := of_true H hb9
       refine W.rg env [6, 7] [] ?_
       refine W.ret ?_
       refine At.rinb ?_
       refine At.rthen ?_
       cases H
       exact At.ret env.ty rfl rfl (fun q hq => by cases hq) (.refl _) hval
     · have H := of_false H hb9
       refine W.seq ?_
       obtain ⟨y10, hy11, H⟩ := of_bindO H
       refine W.region env [] [⟨.int .i64 (y10), [], 0, []⟩] rfl rfl rfl .nil (.free (c_crew_spare p0 p1 p2 (fun x0 => some (crew_most x0)) 35 [] [] (fun x0 r h => by cases h; exact c_crew_most x0) hy11) .nil) (At.keep (ts := [43]) (ids := []) rfl rfl ?_)
       refine At.thenC ?_
       refine W.cond rfl (fun hb12 => ?_) (fun hb12 => ?_)
       · have H := of_true H hb12
         refine W.rg env [6, 7] [] ?_
         refine W.ret ?_
         refine At.rinb ?_
         refine At.rthen ?_
         cases H
         exact At.ret env.ty rfl rfl (fun q hq => by cases hq) (.refl _) hval
       · have H := of_false H hb12
         refine W.skip ?_
         refine At.inb ?_
         refine At.thenC ?_
         refine W.rg env [6, 7] [] ?_
         refine W.ret ?_
         cases H
         exact At.ret env.ty rfl rfl (fun q hq => by cases hq) (.refl _) hval
theorem c_crew_Bounds (fuel : Nat) (p0 : Crew) {r : (Range × Int)} (H : crew_Bounds fuel p0 = some r) : Ctr Tryz.prog 65 [.agg [roL 4 enc_Task p0.Tasks, roL 1 enc_ListRange p0.Travel, roL 3 enc_Hand p0.Hands]] (.tup [.agg [.int .i64 (r.1.Lo), .int .i64 (r.1.Hi)], .int .i64 (r.2)]) := by
 unfold crew_Bounds at H
 refine Ctr.of_body (N := 18) Tryz.func65 (by kernel_rfl) (c := _) rfl Tryz.ntmps65 rfl (fun w0 h0 hval => ?_)
 refine W.rg env [1, 2] [1, 2] ?_
 refine W.seq ?_
 refine W.seq ?_
 obtain ⟨y1, hy2, H⟩ := of_bindO H
 refine W.region env [] [⟨.int .i64 (y1), [], 0, []⟩] rfl rfl rfl .nil (.free (c_crew_Check p0 hy2) .nil) (At.keep (ts := [1, 2, 4]) (ids := [1, 2]) rfl rfl ?_)
 refine At.thenC ?_
 refine W.rg env [1, 2, 4, 8] [1, 2] ?_
 refine W.cond rfl (fun hb3 => ?_) (fun hb3 => ?_)
 · have H := of_true H hb3
   refine W.rg env [2, 3] [2] ?_
   refine W.ret ?_
   refine At.rthen ?_
   cases H
   exact At.ret env.ty rfl rfl (fun q hq => by cases hq) (.refl _) hval
 · have H := of_false H hb3
   refine W.skip ?_
   refine At.thenC ?_
   refine W.seq ?_
   obtain ⟨y4, hy5, H⟩ := of_bindO H
   obtain ⟨hc6, H⟩ := of_must H
   obtain ⟨y7, hy8, H⟩ := of_bindO H
   obtain ⟨y9, hy10, H⟩ := of_bindO H
   obtain ⟨hc11, H⟩ := of_must H
   obtain ⟨y12, hy13, H⟩ := of_bindO H
   refine W.region env [] [⟨.po y4.isSome [roL 4 enc_Task ((y4.getD default).Crew.Tasks), roL 1 enc_ListRange ((y4.getD default).Crew.Travel), roL 3 enc_Hand ((y4.getD default).Crew.Hands), roL 1 enc_Int ((y4.getD default).next)], [], 0, []⟩, ⟨.int .i64 (y7), [], 0, []⟩, ⟨.po y9.isSome [roL 4 enc_Task ((y9.getD default).Crew.Tasks), roL 1 enc_ListRange ((y9.getD default).Crew.Travel), roL 3 enc_Hand ((y9.getD default).Crew.Hands), roL 1 enc_Int ((y9.getD default).next)], [], 0, []⟩, ⟨.int .i64 (y12), [], 0, []⟩] rfl rfl (by kernel_rfl) .nil (.free (c_crew_newPlan p0 (fun x0 => some (crew_least x0)) 93 [] [] (fun x0 r h => by cases h; exact c_crew_least x0) hy5) (.free (Ctr.sim (.cons (Sim.rp_po hc6) .nil) (c_crew_plan__count fuel (y4.getD default) hy8)) (.free (c_crew_newPlan p0 (fun x0 => some (crew_most x0)) 35 [] [] (fun x0 r h => by cases h; exact c_crew_most x0) hy10) (.free (Ctr.sim (.cons (Sim.rp_po hc11) .nil) (c_crew_plan__count fuel (y9.getD default) hy13)) .nil)))) (At.keep (ts := [2, 3]) (ids := [2]) rfl rfl ?_)
   refine At.thenC ?_
   refine W.ret ?_
   cases H
   exact At.ret env.ty rfl rfl (fun q hq => by cases hq) (.refl _) hval
theorem c_crew_Slack (fuel : Nat) (p0 : Crew) (p1 : (List (List Int))) {r : (Int × Int)} (H : crew_Slack fuel p0 p1 = some r) : Ctr Tryz.prog 66 [.agg [roL 4 enc_Task p0.Tasks, roL 1 enc_ListRange p0.Travel, roL 3 enc_Hand p0.Hands], roL 1 enc_ListInt p1] (.tup [.int .i64 (r.1), .int .i64 (r.2)]) := by
 unfold crew_Slack at H
 refine Ctr.of_body (N := 57) Tryz.func66 (by kernel_rfl) (c := _) rfl Tryz.ntmps66 rfl (fun w0 h0 hval => ?_)
 refine W.rg env [1, 2] [2] ?_
 refine W.seq ?_
 refine W.seq ?_
 obtain ⟨y1, hy2, H⟩ := of_bindO H
 refine W.region env [] [⟨.tup [.po y1.1.isSome [roL 4 enc_Task ((y1.1.getD default).Crew.Tasks), roL 1 enc_ListRange ((y1.1.getD default).Crew.Travel), roL 3 enc_Hand ((y1.1.getD default).Crew.Hands), roL 1 enc_Int ((y1.1.getD default).next)], .int .i64 (y1.2)], [], 0, []⟩] rfl rfl rfl .nil (.free (c_crew_asked p0 p1 hy2) .nil) (At.keep (ts := [1, 2, 7]) (ids := [2]) rfl rfl ?_)
 refine At.thenC ?_
 refine W.rg env [1, 2, 7, 20] [2] ?_
 refine W.cond rfl (fun hb3 => ?_) (fun hb3 => ?_)
 · have H := of_true H hb3
   refine W.rg env [4, 5] [] ?_
   refine W.ret ?_
   refine At.rthen ?_
   cases H
   exact At.ret env.ty rfl rfl (fun q hq => by cases hq) (.refl _) hval
 · have H := of_false H hb3
   refine W.skip ?_
   refine At.thenC ?_
   refine W.rg env [1, 2, 8] [2] ?_
   refine W.seq ?_
   refine W.rg env [2, 8, 22, 23, 24] [2] ?_
   refine W.block ?_
   refine At.keep (ts := [2, 8, 22, 23, 24]) (ids := [2]) rfl rfl ?_
   refine W.len (t := 22) rfl (fun (hn4 : p1.length ≤ maxLen) => ?_)
   refine W.rangeGo H (fun i4 (s4 : Int) => [(2, .lp 2 0), (8, .int .i64 (s4)), (22, roL 1 enc_ListInt p1), (23, .int .i64 (((p1.length : Nat) : Int))), (24, .int .i64 ((i4 : Int)))]) (fun i4 (s4 : Int) => [(2, .cells [roL 4 enc_Task p0.Tasks, roL 1 enc_ListRange p0.Travel, roL 3 enc_Hand p0.Hands])]) (.cons .q (.cons .qi (.cons .q (.cons .qi (.cons .qi .nil))))) (.cons .q .nil) (fun k4 i4 s4 hle4 H1 H2 K0 hK4 => ?_)
   refine W.rg env [2, 8, 22, 23, 24, 25] [2] ?_
   refine W.seq ?_
   refine W.cond rfl (fun hb5 => ?_) (fun hb5 => ?_)
   · have hi4 : i4 < p1.length := by have := of_decide_eq_true hb5; omega
     have H := H1 hi4
     refine W.skip ?_
     refine At.thenC ?_
     refine W.seq ?_
     refine W.block ?_
     refine W.sr env [] [] [2, 8, 10, 22, 23, 24] [2] rfl rfl rfl (.cons (⟨by omega, by omega⟩ : 0 ≤ (i4 : Int) ∧ (i4 : Int) < ((p1.length : Nat) : Int)) .nil) .nil ?_
     refine W.rg env [2, 8, 10, 11, 22, 23, 24] [2] ?_
     refine W.block ?_
     refine At.keep (ts := [2, 8, 10, 11, 22, 23, 24]) (ids := [2]) rfl rfl ?_
     refine W.loopGo H (fun (s6 : Int × Int) => [(2, .lp 2 0), (8, .int .i64 (s6.2)), (10, roL 1 enc_Int (p1.getD i4 default)), (11, .int .i64 (s6.1)), (22, roL 1 enc_ListInt p1), (23, .int .i64 (((p1.length : Nat) : Int))), (24, .int .i64 ((i4 : Int)))]) (fun (s6 : Int × Int) => [(2, .cells [roL 4 enc_Task p0.Tasks, roL 1 enc_ListRange p0.Travel, roL 3 enc_Hand p0.Hands])]) (.cons .q (.cons .qi (.cons .q (.cons .qi (.cons .q (.cons .qi (.cons .qi .nil))))))) (.cons .q .nil) (fun k6 s6 H K0 hK6 => ?_)
     refine W.seq ?_
     refine W.rg env [2, 8, 10, 11, 22, 23, 24, 31] [2] ?_
     refine W.cond rfl (fun hb7 => ?_) (fun hb7 => ?_)
     · have H := of_true H hb7
       refine W.skip ?_
       refine At.thenC ?_
       refine W.seq ?_
       refine W.block ?_
       refine W.seq ?_
       obtain ⟨hc8, H⟩ := of_must H
       obtain ⟨hc9, H⟩ := of_must H
       obtain ⟨hc10, H⟩ := of_must H
       obtain ⟨y11, hy12, H⟩ := of_bindO H
       refine W.region env [] [⟨.int .i64 (y11), [], 0, []⟩] rfl rfl (by kernel_rfl) (.cons hc8 (.cons hc9 (.cons hc10 .nil))) (.free (c_crew_spare p0 ((p1.getD i4 default).getD ((s6.1 - 1)).toNat default) ((p1.getD i4 default).getD (s6.1).toNat default) (fun x0 => some (crew_most x0)) 35 [] [] (fun x0 r h => by cases h; exact c_crew_most x0) hy12) .nil) (At.keep (ts := [2, 8, 10, 11, 12, 22, 23, 24]) (ids := [2]) rfl rfl ?_)
       refine At.thenC ?_
       refine W.sr env [] [] [2, 8, 10, 11, 12, 22, 23, 24, 51] [2] rfl rfl rfl (.cons (fun h => h) (.cons (fun h => h) (.cons (fun h => by rw [h]; rfl) .nil))) .nil ?_
       refine W.cond rfl (fun hb13 => ?_) (fun hb13 => ?_)
       · have H := of_true H hb13
         refine W.region env [] [] rfl rfl rfl .nil .nil (At.keep (ts := [2, 8, 10, 11, 22, 23, 24]) (ids := [2]) rfl rfl ?_)
         refine At.inb ?_
         refine At.thenC ?_
         obtain ⟨hc14, H⟩ := of_must H
         refine W.region env [] [] rfl rfl rfl (.cons hc14 .nil) .nil (At.keep (ts := [2, 8, 10, 11, 22, 23, 24]) (ids := [2]) rfl rfl ?_)
         refine At.thenK (At.keep (ts := [2, 8, 10, 11, 22, 23, 24]) (ids := [2]) rfl rfl ?_)
         exact At.conv (.cons .q (.cons .qi (.cons .q (.cons .qi (.cons .q (.cons .qi (.cons .qi .nil))))))) (.cons .q .nil) (hK6 ((s6.1 + 1), y11) H)
       · have H := of_false H hb13
         refine W.skip ?_
         refine At.inb ?_
         refine At.thenC ?_
         obtain ⟨hc15, H⟩ := of_must H
         refine W.region env [] [] rfl rfl rfl (.cons hc15 .nil) .nil (At.keep (ts := [2, 8, 10, 11, 22, 23, 24]) (ids := [2]) rfl rfl ?_)
         refine At.thenK (At.keep (ts := [2, 8, 10, 11, 22, 23, 24]) (ids := [2]) rfl rfl ?_)
         exact At.conv (.cons .q (.cons .qi (.cons .q (.cons .qi (.cons .q (.cons .qi (.cons .qi .nil))))))) (.cons .q .nil) (hK6 ((s6.1 + 1), s6.2) H)
     · have H := of_false H hb7
       refine W.exit ?_
       refine At.xthen ?_
       refine At.xthen ?_
       refine At.xhere ?_
       refine At.inb ?_
       refine At.thenC ?_
       refine W.region env [] [] rfl rfl rfl (.cons (by unfold inI; have := hn4; (try unfold maxLen at this); omega) .nil) .nil (At.keep (ts := [2, 8, 22, 23, 24]) (ids := [2]) rfl rfl ?_)
       refine At.thenK (At.keep (ts := [2, 8, 22, 23, 24]) (ids := [2]) rfl rfl ?_)
       exact At.conv (.cons .q (.cons .qi (.cons .q (.cons .qi (.cons .qi .nil))))) (.cons .q .nil) (hK4 hi4 s6.2 H)
   · have H := H2 (by have := of_decide_eq_false hb5; omega)
     refine W.exit ?_
     refine At.xthen ?_
     refine At.xthen ?_
     refine At.xhere ?_
     refine At.thenC ?_
     refine W.seq ?_
     refine W.rg env [8, 55] [] ?_
     refine W.cond rfl (fun hb16 => ?_) (fun hb16 => ?_)
     · have H := of_true H hb16
       refine W.rg env [4, 5] [] ?_
       refine W.ret ?_
       refine At.rthen ?_
       cases H
       exact At.ret env.ty rfl rfl (fun q hq => by cases hq) (.refl _) hval
     · have H := of_false H hb16
       refine W.skip ?_
       refine At.thenC ?_
       refine W.rg env [4, 5] [] ?_
       refine W.ret ?_
       cases H
       exact At.ret env.ty rfl rfl (fun q hq => by cases hq) (.refl _) hval
theorem c_crew_areWalks_1 (p0 : Int) : Ctr Tryz.prog 103 [.int .i64 (p0)] (.bool ((crew_areWalks_1 p0))) := by
 obtain ⟨r, H⟩ : ∃ r, crew_areWalks_1 p0 = r := ⟨_, rfl⟩
 rw [H]
 unfold crew_areWalks_1 at H
 refine Ctr.of_body (N := 6) Tryz.func103 (by kernel_rfl) (c := _) rfl Tryz.ntmps103 rfl (fun w0 h0 hval => ?_)
 refine W.rg env [0] [] ?_
 refine W.sr env [] [⟨.bool ((crew_in p0 0 600)), [], 0, []⟩] [2] [] rfl rfl rfl .nil (.free (c_crew_in p0 0 600) .nil) ?_
 refine W.ret ?_
 cases H
 exact At.ret env.ty rfl rfl (fun q hq => by cases hq) (.refl _) hval
theorem c_crew_areWalks (p0 : (List (List Int))) (p1 : (List (List Int))) {r : Bool} (H : crew_areWalks p0 p1 = some r) : Ctr Tryz.prog 94 [roL 1 enc_ListInt p0, roL 1 enc_ListInt p1] (.bool (r)) := by
 unfold crew_areWalks at H
 refine Ctr.of_body (N := 33) Tryz.func94 (by kernel_rfl) (c := _) rfl Tryz.ntmps94 rfl (fun w0 h0 hval => ?_)
 refine W.rg env [0, 1] [] ?_
 refine W.seq ?_
 refine W.rg env [0, 1, 11] [] ?_
 refine W.cond rfl (fun hb1 => ?_) (fun hb1 => ?_)
 · have H := of_true H hb1
   refine W.rg env [4] [] ?_
   refine W.ret ?_
   refine At.rthen ?_
   cases H
   exact At.ret env.ty rfl rfl (fun q hq => by cases hq) (.refl _) hval
 · have H := of_false H hb1
   refine W.skip ?_
   refine At.thenC ?_
   refine W.seq ?_
   refine W.rg env [0, 12, 13, 14] [] ?_
   refine W.block ?_
   refine At.keep (ts := [0, 12, 13, 14]) (ids := []) rfl rfl ?_
   refine W.len (t := 12) rfl (fun (hn2 : p1.length ≤ maxLen) => ?_)
   refine W.rangeGo H (fun i2 (s2 : Unit) => [(0, roL 1 enc_ListInt p0), (12, roL 1 enc_ListInt p1), (13, .int .i64 (((p1.length : Nat) : Int))), (14, .int .i64 ((i2 : Int)))]) (fun i2 (s2 : Unit) => []) (.cons .q (.cons .q (.cons .qi (.cons .qi .nil)))) .nil (fun k2 i2 s2 hle2 H1 H2 K0 hK2 => ?_)
   refine W.rg env [0, 12, 13, 14, 15] [] ?_
   refine W.seq ?_
   refine W.cond rfl (fun hb3 => ?_) (fun hb3 => ?_)
   · have hi2 : i2 < p1.length := by have := of_decide_eq_true hb3; omega
     have H := H1 hi2
     refine W.skip ?_
     refine At.thenC ?_
     refine W.seq ?_
     refine W.block ?_
     refine W.sr env [] [] [0, 5, 6, 12, 13, 14] [] rfl rfl rfl (.cons (⟨by omega, by omega⟩ : 0 ≤ (i2 : Int) ∧ (i2 : Int) < ((p1.length : Nat) : Int)) .nil) .nil ?_
     refine W.seq ?_
     obtain ⟨hc4, H⟩ := of_must H
     obtain ⟨hc5, H⟩ := of_must H
     obtain ⟨y6, hy7, H⟩ := of_bindO H
     refine W.region env [] [⟨.bool (y6), [], 0, []⟩] rfl rfl rfl (.cons hc4 (.cons hc5 (.cons (fun h => h) (.cons (fun h => by rw [h]; rfl) .nil)))) (.on (fun hW => c_slices_ContainsFunc_int (p1.getD i2 default) (fun x0 => some (crew_areWalks_1 x0)) 103 [] [] (fun x0 r h => by cases h; exact c_crew_areWalks_1 x0) (of_true hy7 hW)) .nil) (At.keep (ts := [0, 12, 13, 14, 31]) (ids := []) rfl rfl ?_)
     refine At.thenC ?_
     refine W.cond rfl (fun hb8 => ?_) (fun hb8 => ?_)
     · have H := of_true H hb8
       refine W.rg env [4] [] ?_
       refine W.ret ?_
       refine At.rinb ?_
       refine At.rthen ?_
       refine At.rthen ?_
       refine At.rinb ?_
       refine At.rthen ?_
       cases H
       exact At.ret env.ty rfl rfl (fun q hq => by cases hq) (.refl _) hval
     · have H := of_false H hb8
       refine W.skip ?_
       refine At.inb ?_
       refine At.thenC ?_
       refine W.region env [] [] rfl rfl rfl (.cons (by unfold inI; have := hn2; (try unfold maxLen at this); omega) .nil) .nil (At.keep (ts := [0, 12, 13, 14]) (ids := []) rfl rfl ?_)
       refine At.thenK (At.keep (ts := [0, 12, 13, 14]) (ids := []) rfl rfl ?_)
       exact At.conv (.cons .q (.cons .q (.cons .qi (.cons .qi .nil)))) .nil (hK2 hi2 () H)
   · have H := H2 (by have := of_decide_eq_false hb3; omega)
     refine W.exit ?_
     refine At.xthen ?_
     refine At.xthen ?_
     refine At.xhere ?_
     refine At.thenC ?_
     refine W.rg env [4] [] ?_
     refine W.ret ?_
     cases H
     exact At.ret env.ty rfl rfl (fun q hq => by cases hq) (.refl _) hval
theorem cl_slices_Sort_int (p0 : List Int) {r : List Int} (H : slices_Sort_int_l p0 = some r) : CtrO Tryz.prog 95 [.buf 90000 p0.length] [(90000, bufL 3 1 enc_Int p0)] (.tup []) [(90000, bufL 3 1 enc_Int r)] :=
 sort_ctr (Go.Av.enters_of Tryz.func95 (by kernel_rfl) (c := _) rfl) (Any.slices_Sort_int sort_lays) (Any.slices_Sort_int_none sort_lays) 3 p0 H
theorem c_crew_Late (p0 : Crew) (p1 : (List (List Int))) (p2 : (List (List Int))) {r : ((List Int) × Int)} (H : crew_Late p0 p1 p2 = some r) : Ctr Tryz.prog 67 [.agg [roL 4 enc_Task p0.Tasks, roL 1 enc_ListRange p0.Travel, roL 3 enc_Hand p0.Hands], roL 1 enc_ListInt p1, roL 1 enc_ListInt p2] (.tup [roL 1 enc_Int r.1, .int .i64 (r.2)]) := by
 unfold crew_Late at H
 refine Ctr.of_body (N := 96) Tryz.func67 (by kernel_rfl) (c := _) rfl Tryz.ntmps67 rfl (fun w0 h0 hval => ?_)
 refine W.rg env [1, 2, 3] [3] ?_
 refine W.seq ?_
 refine W.seq ?_
 obtain ⟨y1, hy2, H⟩ := of_bindO H
 refine W.region env [] [⟨.tup [.po y1.1.isSome [roL 4 enc_Task ((y1.1.getD default).Crew.Tasks), roL 1 enc_ListRange ((y1.1.getD default).Crew.Travel), roL 3 enc_Hand ((y1.1.getD default).Crew.Hands), roL 1 enc_Int ((y1.1.getD default).next)], .int .i64 (y1.2)], [], 0, []⟩] rfl rfl rfl .nil (.free (c_crew_asked p0 p1 hy2) .nil) (At.keep (ts := [1, 2, 3, 9]) (ids := [3]) rfl rfl ?_)
 refine At.thenC ?_
 refine W.rg env [1, 2, 3, 9, 23] [3] ?_
 refine W.cond rfl (fun hb3 => ?_) (fun hb3 => ?_)
 · have H := of_true H hb3
   refine W.rg env [6, 7] [] ?_
   refine W.ret ?_
   refine At.rthen ?_
   cases H
   exact At.ret env.ty rfl rfl (fun q hq => by cases hq) (Sim.tupL (.cons (Sim.nil _ _) (.cons (.refl _) .nil))) hval
 · have H := of_false H hb3
   refine W.skip ?_
   refine At.thenC ?_
   refine W.seq ?_
   refine W.seq ?_
   obtain ⟨y4, hy5, H⟩ := of_bindO H
   refine W.region env [] [⟨.bool (y4), [], 0, []⟩] rfl rfl rfl .nil (.free (c_crew_areWalks p1 p2 hy5) .nil) (At.keep (ts := [1, 2, 3, 28]) (ids := [3]) rfl rfl ?_)
   refine At.thenC ?_
   refine W.cond rfl (fun hb6 => ?_) (fun hb6 => ?_)
   · have H := of_true H hb6
     refine W.rg env [6, 7] [] ?_
     refine W.ret ?_
     refine At.rthen ?_
     cases H
     exact At.ret env.ty rfl rfl (fun q hq => by cases hq) (Sim.tupL (.cons (Sim.nil _ _) (.cons (.refl _) .nil))) hval
   · have H := of_false H hb6
     refine W.skip ?_
     refine At.thenC ?_
     refine W.rg env [1, 2, 3, 10] [3] ?_
     refine W.seq ?_
     refine W.rg env [2, 3, 10, 29, 30, 31] [3] ?_
     refine W.block ?_
     refine At.nilOwn 10 510 3 1 (e := fun i => enc_Int (([] : List Int).getD i default)) rfl rfl ?_
     refine At.keep (ts := [2, 3, 10, 29, 30, 31]) (ids := [3, 510]) rfl rfl ?_
     refine W.len (t := 29) rfl (fun (hn7 : p1.length ≤ maxLen) => ?_)
     refine W.rangeGo H (fun i7 (s7 : (List Int)) => [(2, roL 1 enc_ListInt p2), (3, .lp 3 0), (10, .buf 510 (s7).length), (29, roL 1 enc_ListInt p1), (30, .int .i64 (((p1.length : Nat) : Int))), (31, .int .i64 ((i7 : Int)))]) (fun i7 (s7 : (List Int)) => [(3, .cells [roL 4 enc_Task p0.Tasks, roL 1 enc_ListRange p0.Travel, roL 3 enc_Hand p0.Hands]), (510, bufL 3 1 enc_Int s7)]) (.cons .q (.cons .q (.cons .qb (.cons .q (.cons .qi (.cons .qi .nil)))))) (.cons .q (.cons .q .nil)) (fun k7 i7 s7 hle7 H1 H2 K0 hK7 => ?_)
     refine W.rg env [2, 3, 10, 29, 30, 31, 32] [3, 510] ?_
     refine W.seq ?_
     refine W.cond rfl (fun hb8 => ?_) (fun hb8 => ?_)
     · have hi7 : i7 < p1.length := by have := of_decide_eq_true hb8; omega
       have H := H1 hi7
       refine W.skip ?_
       refine At.thenC ?_
       refine W.seq ?_
       refine W.block ?_
       refine W.sr env [] [] [2, 3, 10, 11, 12, 29, 30, 31] [3, 510] rfl rfl rfl (.cons (⟨by omega, by omega⟩ : 0 ≤ (i7 : Int) ∧ (i7 : Int) < ((p1.length : Nat) : Int)) .nil) .nil ?_
       obtain ⟨hc9, H⟩ := of_must H
       obtain ⟨hc10, H⟩ := of_must H
       refine W.sr env [] [] [2, 3, 10, 11, 12, 13, 29, 30, 31] [3, 510] rfl rfl (by first | rfl | kernel_rfl) (.cons hc9 (.cons hc10 .nil)) .nil ?_
       refine W.seq ?_
       obtain ⟨hc11, H⟩ := of_must H
       refine W.region env [] [] rfl rfl rfl (.cons hc11 .nil) .nil (At.keep (ts := [2, 3, 10, 11, 12, 13, 29, 30, 31, 45, 46, 47]) (ids := [3, 510]) rfl rfl ?_)
       refine At.slot (t := 45) (v := roL 1 enc_Int ((p1.getD i7 default).drop 1)) (Sim.seg (Seg.drop enc_Int (p1.getD i7 default) 1)) ?_
       refine At.thenC ?_
       refine W.block ?_
       refine At.keep (ts := [2, 3, 10, 11, 12, 13, 29, 30, 31, 45, 46, 47]) (ids := [3, 510]) rfl rfl ?_
       refine W.len (t := 45) rfl (fun (hn12 : ((p1.getD i7 default).drop 1).length ≤ maxLen) => ?_)
       refine W.rangeGo H (fun i12 (s12 : Int × (List Int)) => [(2, roL 1 enc_ListInt p2), (3, .lp 3 0), (10, .buf 510 (s12.2).length), (11, .int .i64 ((i7 : Int))), (12, roL 1 enc_Int (p1.getD i7 default)), (13, .int .i64 (s12.1)), (29, roL 1 enc_ListInt p1), (30, .int .i64 (((p1.length : Nat) : Int))), (31, .int .i64 ((i7 : Int))), (45, roL 1 enc_Int ((p1.getD i7 default).drop 1)), (46, .int .i64 (((((p1.getD i7 default).drop 1).length : Nat) : Int))), (47, .int .i64 ((i12 : Int)))]) (fun i12 (s12 : Int × (List Int)) => [(3, .cells [roL 4 enc_Task p0.Tasks, roL 1 enc_ListRange p0.Travel, roL 3 enc_Hand p0.Hands]), (510, bufL 3 1 enc_Int s12.2)]) (.cons .q (.cons .q (.cons .qb (.cons .qi (.cons .q (.cons .qi (.cons .q (.cons .qi (.cons .qi (.cons .q (.cons .qi (.cons .qi .nil)))))))))))) (.cons .q (.cons .q .nil)) (fun k12 i12 s12 hle12 H1 H2 K0 hK12 => ?_)
       refine W.rg env [2, 3, 10, 11, 12, 13, 29, 30, 31, 45, 46, 47, 48] [3, 510] ?_
       refine W.seq ?_
       refine W.cond rfl (fun hb13 => ?_) (fun hb13 => ?_)
       · have hi12 : i12 < ((p1.getD i7 default).drop 1).length := by have := of_decide_eq_true hb13; omega
         have H := H1 hi12
         refine W.skip ?_
         refine At.thenC ?_
         refine W.seq ?_
         refine W.block ?_
         refine W.sr env [] [] [2, 3, 10, 11, 12, 13, 14, 15, 29, 30, 31, 45, 46, 47] [3, 510] rfl rfl rfl (.cons (⟨by omega, by omega⟩ : 0 ≤ (i12 : Int) ∧ (i12 : Int) < ((((p1.getD i7 default).drop 1).length : Nat) : Int)) .nil) .nil ?_
         obtain ⟨hc14, H⟩ := of_must H
         obtain ⟨hc15, H⟩ := of_must H
         obtain ⟨hc16, H⟩ := of_must H
         obtain ⟨hc17, H⟩ := of_must H
         obtain ⟨hc18, H⟩ := of_must H
         obtain ⟨hc19, H⟩ := of_must H
         refine W.sr env [] [] [2, 3, 10, 11, 12, 13, 15, 29, 30, 31, 45, 46, 47] [3, 510] rfl rfl (by first | rfl | kernel_rfl) (.cons hc14 (.cons hc15 (.cons hc16 (.cons hc17 (.cons hc18 (.cons hc19 .nil)))))) .nil ?_
         refine W.seq ?_
         obtain ⟨hc20, H⟩ := of_must H
         refine W.sr env [] [] [2, 3, 10, 11, 12, 13, 15, 29, 30, 31, 45, 46, 47, 78] [3, 510] rfl rfl rfl (.cons hc20 .nil) .nil ?_
         refine W.joinC H (fun (s21 : (List Int)) => [(2, roL 1 enc_ListInt p2), (3, .lp 3 0), (10, .buf 510 (s21).length), (11, .int .i64 ((i7 : Int))), (12, roL 1 enc_Int (p1.getD i7 default)), (13, .int .i64 ((s12.1 + ((p0.Tasks.getD (((p1.getD i7 default).getD i12 default)).toNat default).Serve + ((p2.getD i7 default).getD i12 default))))), (15, .int .i64 ((((p1.getD i7 default).drop 1).getD i12 default))), (29, roL 1 enc_ListInt p1), (30, .int .i64 (((p1.length : Nat) : Int))), (31, .int .i64 ((i7 : Int))), (45, roL 1 enc_Int ((p1.getD i7 default).drop 1)), (46, .int .i64 (((((p1.getD i7 default).drop 1).length : Nat) : Int))), (47, .int .i64 ((i12 : Int)))]) (fun (s21 : (List Int)) => [(3, .cells [roL 4 enc_Task p0.Tasks, roL 1 enc_ListRange p0.Travel, roL 3 enc_Hand p0.Hands]), (510, bufL 3 1 enc_Int s21)]) (fun s21 H => ?_) (fun k21 H hK21 => ?_)
         · obtain ⟨hc22, H⟩ := of_must H
           refine W.region env [] [] rfl rfl rfl (.cons hc22 .nil) .nil (At.keep (ts := [2, 3, 10, 11, 12, 13, 29, 30, 31, 45, 46, 47]) (ids := [3, 510]) rfl rfl ?_)
           refine At.inb ?_
           refine At.thenC ?_
           refine W.region env [] [] rfl rfl rfl (.cons (by unfold inI; have := hn12; (try unfold maxLen at this); omega) .nil) .nil (At.keep (ts := [2, 3, 10, 11, 12, 13, 29, 30, 31, 45, 46, 47]) (ids := [3, 510]) rfl rfl ?_)
           refine At.thenK (At.keep (ts := [2, 3, 10, 11, 12, 13, 29, 30, 31, 45, 46, 47]) (ids := [3, 510]) rfl rfl ?_)
           exact At.conv (.cons .q (.cons .q (.cons .qb (.cons .qi (.cons .q (.cons .qi (.cons .q (.cons .qi (.cons .qi (.cons .q (.cons .qi (.cons .qi .nil)))))))))))) (.cons .q (.cons .q .nil)) (hK12 hi12 ((max (s12.1 + ((p0.Tasks.getD (((p1.getD i7 default).getD i12 default)).toNat default).Serve + ((p2.getD i7 default).getD i12 default))) ((p0.Tasks.getD ((((p1.getD i7 default).drop 1).getD i12 default)).toNat default).At)), s21) H)
         · refine W.cond rfl (fun hb23 => ?_) (fun hb23 => ?_)
           · have H := of_true H hb23
             obtain ⟨hc24, H⟩ := of_must H
             refine W.region env [] [] rfl rfl rfl (.cons (⟨by first | rfl | (simp; done) | omega | (simp; omega), by have := hc24; first | simpa using this | (unfold room at this ⊢; simp at this ⊢; omega)⟩) .nil) .nil (At.keep (ts := [2, 3, 10, 11, 12, 13, 15, 29, 30, 31, 45, 46, 47]) (ids := [3, 510]) rfl rfl ?_)
             refine At.convM (.cons (.refl _) (.cons (y := bufL 3 1 enc_Int (s12.2 ++ ([(((p1.getD i7 default).drop 1).getD i12 default)] : List Int))) (BSim.seg (Seg.push (Seg.refl enc_Int _) (Seg.lit (f := enc_Int) (sz := 1) ([(((p1.getD i7 default).drop 1).getD i12 default)] : List Int) rfl rfl (fun _ => rfl)))) .nil)) ?_
             refine At.thenK (At.keep (ts := [2, 3, 10, 11, 12, 13, 15, 29, 30, 31, 45, 46, 47]) (ids := [3, 510]) rfl rfl ?_)
             exact At.conv (.cons .q (.cons .q (.cons .qb (.cons .qi (.cons .q (.cons .qi (.cons .qi (.cons .q (.cons .qi (.cons .qi (.cons .q (.cons .qi (.cons .qi .nil))))))))))))) (.cons .q (.cons .q .nil)) (hK21 (s12.2 ++ ([(((p1.getD i7 default).drop 1).getD i12 default)] : List Int)) H)
           · have H := of_false H hb23
             refine W.skip ?_
             refine At.thenK (At.keep (ts := [2, 3, 10, 11, 12, 13, 15, 29, 30, 31, 45, 46, 47]) (ids := [3, 510]) rfl rfl ?_)
             exact At.conv (.cons .q (.cons .q (.cons .qb (.cons .qi (.cons .q (.cons .qi (.cons .qi (.cons .q (.cons .qi (.cons .qi (.cons .q (.cons .qi (.cons .qi .nil))))))))))))) (.cons .q (.cons .q .nil)) (hK21 s12.2 H)
       · have H := H2 (by have := of_decide_eq_false hb13; omega)
         refine W.exit ?_
         refine At.xthen ?_
         refine At.xthen ?_
         refine At.xhere ?_
         refine At.inb ?_
         refine At.thenC ?_
         refine W.region env [] [] rfl rfl rfl (.cons (by unfold inI; have := hn7; (try unfold maxLen at this); omega) .nil) .nil (At.keep (ts := [2, 3, 10, 29, 30, 31]) (ids := [3, 510]) rfl rfl ?_)
         refine At.thenK (At.keep (ts := [2, 3, 10, 29, 30, 31]) (ids := [3, 510]) rfl rfl ?_)
         exact At.conv (.cons .q (.cons .q (.cons .qb (.cons .q (.cons .qi (.cons .qi .nil)))))) (.cons .q (.cons .q .nil)) (hK7 hi7 s12.2 H)
     · have H := H2 (by have := of_decide_eq_false hb8; omega)
       refine W.exit ?_
       refine At.xthen ?_
       refine At.xthen ?_
       refine At.xhere ?_
       refine At.thenC ?_
       refine W.seq ?_
       obtain ⟨y25, hy26, H⟩ := of_bindO H
       obtain ⟨hc27, H⟩ := of_must H
       refine W.region env [] [⟨.tup [], [(510, bufL 3 1 enc_Int y25)], 0, [510]⟩] rfl rfl (by kernel_rfl) .nil (.free (CtrO.sim (CtrO.ren (cl_slices_Sort_int s7 hy26) [(90000, 510)]) (.cons .qc .nil) (.cons (.refl _) .nil)) .nil) (At.keep (ts := [10]) (ids := [510]) rfl rfl ?_)
       refine At.thenC ?_
       refine W.rg env [6, 7] [510] ?_
       refine W.ret ?_
       cases H
       exact At.ret env.ty rfl rfl (fun q hq => by cases hq; exact (by first | rfl | (simp; done) | omega | (simp; omega))) (.refl _) hval
theorem c_crew_Ill_1 (p0 : Hand) (c0 : Int) : Ctr Tryz.prog 76 [.agg [.int .i64 (p0.Id), .int .i64 (p0.From), .int .i64 (p0.To)], .rp [.int .i64 (c0)]] (.bool ((crew_Ill_1 p0 c0))) := by
 obtain ⟨r, H⟩ : ∃ r, crew_Ill_1 p0 c0 = r := ⟨_, rfl⟩
 rw [H]
 unfold crew_Ill_1 at H
 refine Ctr.of_body (N := 8) Tryz.func76 (by kernel_rfl) (c := _) rfl Tryz.ntmps76 rfl (fun w0 h0 hval => ?_)
 refine W.rg env [1, 2] [2] ?_
 refine W.rg env [3] [] ?_
 refine W.ret ?_
 cases H
 exact At.ret env.ty rfl rfl (fun q hq => by cases hq) (.refl _) hval
theorem co_slices_Clone_Hand (p0 : (List Hand)) {r : (List Hand)} (H : slices_Clone_Hand p0 = some r) : CtrO Tryz.prog 89 [roL 3 enc_Hand p0] [] (.buf 900 r.length) [(900, bufL 43 3 enc_Hand r)] := by
 unfold slices_Clone_Hand at H
 refine CtrO.of_body (N := 8) Tryz.func89 (by kernel_rfl) (c := _) rfl Tryz.ntmps89 rfl (fun w0 h0 ρb hval hdom => ?_)
 refine W.rg env [0] [] ?_
 refine W.seq ?_
 refine W.rg env [0, 4] [] ?_
 refine W.condNz rfl (fun hz => ?_) ?_
 · obtain rfl : p0 = [] := List.length_eq_zero_iff.1 hz
   obtain ⟨hc1, H⟩ := of_must H
   refine W.rg env [2] [] ?_
   refine W.ret ?_
   refine At.rthen ?_
   cases H
   refine At.nilOwn 2 800 43 3 (e := fun i => enc_Hand (([] : List Hand).getD i default)) rfl rfl ?_
   exact At.retK env.ty [800] 100 rfl rfl rfl rfl (.cons (.refl _) .nil) (.of_eq (by refine bufEq ?_; first | (simp [copyAt]; done) | omega | (simp [copyAt]; omega) | rfl)) hval hdom rfl
 · refine W.skip ?_
   refine At.thenC ?_
   refine W.seq ?_
   obtain ⟨hc1, H⟩ := of_must H
   refine W.region env [5] [] rfl rfl rfl (.cons (⟨by first | rfl | (simp; done) | omega | (simp; omega), by have := hc1; first | simpa using this | (unfold room at this ⊢; simp at this ⊢; omega)⟩) .nil) .nil (At.keep (ts := [2]) (ids := [5]) rfl rfl ?_)
   refine At.convM (.cons (y := bufL 43 3 enc_Hand (([] : List Hand) ++ p0)) (BSim.seg (Seg.push (Seg.lit (f := enc_Hand) (sz := 3) ([] : List Hand) rfl rfl (fun _ => rfl)) (Seg.refl enc_Hand p0))) .nil) ?_
   refine At.thenC ?_
   refine W.ret ?_
   cases H
   exact At.retK env.ty [5] 895 rfl rfl rfl rfl (.cons (.refl _) .nil) (.of_eq (by refine bufEq ?_; first | (simp [copyAt]; done) | omega | (simp [copyAt]; omega) | rfl)) hval hdom rfl
theorem co_crew_copied_o0_1_2 (p0 : Crew) {r : Crew} (H : crew_copied p0 = some r) : CtrO Tryz.prog 53 [.agg [roL 4 enc_Task p0.Tasks, roL 1 enc_ListRange p0.Travel, roL 3 enc_Hand p0.Hands]] [] (.agg [.buf 940 (r.Tasks).length, .buf 941 (r.Travel).length, .buf 942 (r.Hands).length]) [(940, bufL 41 4 enc_Task r.Tasks), (941, bufL 106 1 enc_ListRange r.Travel), (942, bufL 43 3 enc_Hand r.Hands)] := by
 unfold crew_copied at H
 refine CtrO.of_body (N := 29) Tryz.func53 (by kernel_rfl) (c := _) rfl Tryz.ntmps53 rfl (fun w0 h0 ρb hval hdom => ?_)
 refine W.rg env [1, 2] [1, 2] ?_
 refine W.seq ?_
 obtain ⟨y1, hy2, H⟩ := of_bindO H
 obtain ⟨y3, hy4, H⟩ := of_bindO H
 refine W.region env [] [⟨.buf 900 y1.length, [(900, bufL 41 4 enc_Task y1)], 9000, []⟩, ⟨.buf 900 y3.length, [(900, bufL 43 3 enc_Hand y3)], 12000, []⟩] rfl rfl (by kernel_rfl) .nil (.free ((Ctr.ofO (co_slices_Clone_Task p0.Tasks hy2))) (.free ((Ctr.ofO (co_slices_Clone_Hand p0.Hands hy4))) .nil)) (At.keep (ts := [1, 2, 3]) (ids := [1, 2, 3, 9900, 12900]) rfl rfl ?_)
 refine At.thenC ?_
 refine W.seq ?_
 refine W.rg env [2, 3, 14, 15, 16] [2, 3, 9900, 12900] ?_
 refine W.block ?_
 refine At.nilOwnCell 3 1 751 106 1 (e := fun i => enc_ListRange (([] : List (List Range)).getD i default)) rfl rfl rfl ?_
 refine At.keep (ts := [2, 3, 14, 15, 16]) (ids := [2, 3, 751, 9900, 12900]) rfl rfl ?_
 refine W.len (t := 14) rfl (fun (hn5 : p0.Travel.length ≤ maxLen) => ?_)
 refine W.rangeGo H (fun i5 (s5 : (List (List Range))) => [(2, .lp 2 0), (3, .lp 3 0), (14, roL 1 enc_ListRange p0.Travel), (15, .int .i64 (((p0.Travel.length : Nat) : Int))), (16, .int .i64 ((i5 : Int)))]) (fun i5 (s5 : (List (List Range))) => [(2, .cells [.nilS, .nilS, .nilS]), (3, .cells [.buf 9900 (y1).length, .buf 751 (s5).length, .buf 12900 (y3).length]), (751, bufL 106 1 enc_ListRange s5), (9900, bufL 41 4 enc_Task y1), (12900, bufL 43 3 enc_Hand y3)]) (.cons .q (.cons .q (.cons .q (.cons .qi (.cons .qi .nil))))) (.cons .q (.cons (BSim.cells (.cons .qc (.cons .qc (.cons .qc .nil)))) (.cons .q (.cons .q (.cons .q .nil))))) (fun k5 i5 s5 hle5 H1 H2 K0 hK5 => ?_)
 refine W.rg env [2, 3, 14, 15, 16, 17] [2, 3, 751, 9900, 12900] ?_
 refine W.seq ?_
 refine W.cond rfl (fun hb6 => ?_) (fun hb6 => ?_)
 · have hi5 : i5 < p0.Travel.length := by have := of_decide_eq_true hb6; omega
   have H := H1 hi5
   refine W.skip ?_
   refine At.thenC ?_
   refine W.seq ?_
   refine W.block ?_
   refine W.sr env [] [] [2, 3, 5, 14, 15, 16] [2, 3, 751, 9900, 12900] rfl rfl rfl (.cons (⟨by omega, by omega⟩ : 0 ≤ (i5 : Int) ∧ (i5 : Int) < ((p0.Travel.length : Nat) : Int)) .nil) .nil ?_
   obtain ⟨y7, hy8, H⟩ := of_bindO H
   obtain ⟨hc9, H⟩ := of_must H
   refine W.region env [] [⟨roL 2 enc_Range y7, [], 0, []⟩] rfl rfl (by kernel_rfl) (.cons (⟨by first | rfl | (simp; done) | omega | (simp; omega), by have := hc9; first | simpa using this | (unfold room at this ⊢; simp at this ⊢; omega)⟩) .nil) (.free (c_slices_Clone_Range (p0.Travel.getD i5 default) hy8) .nil) (At.keep (ts := [2, 3, 14, 15, 16]) (ids := [2, 3, 751, 9900, 12900]) rfl rfl ?_)
   refine At.convM (.cons (.refl _) (.cons (.refl _) (.cons (y := bufL 106 1 enc_ListRange (s5 ++ ([y7] : List (List Range)))) (BSim.seg (Seg.push (Seg.refl enc_ListRange _) (Seg.lit (f := enc_ListRange) (sz := 1) ([y7] : List (List Range)) rfl rfl (fun _ => rfl)))) (.cons (.refl _) (.cons (.refl _) .nil))))) ?_
   refine At.inb ?_
   refine At.thenC ?_
   refine W.region env [] [] rfl rfl rfl (.cons (by unfold inI; have := hn5; (try unfold maxLen at this); omega) .nil) .nil (At.keep (ts := [2, 3, 14, 15, 16]) (ids := [2, 3, 751, 9900, 12900]) rfl rfl ?_)
   refine At.thenK (At.keep (ts := [2, 3, 14, 15, 16]) (ids := [2, 3, 751, 9900, 12900]) rfl rfl ?_)
   exact At.conv (.cons .q (.cons .q (.cons .q (.cons .qi (.cons .qi .nil))))) (.cons .q (.cons (BSim.cells (.cons .qc (.cons .qc (.cons .qc .nil)))) (.cons .q (.cons .q (.cons .q .nil))))) (hK5 hi5 (s5 ++ ([y7] : List (List Range))) H)
 · have H := H2 (by have := of_decide_eq_false hb6; omega)
   refine W.exit ?_
   refine At.xthen ?_
   refine At.xthen ?_
   refine At.xhere ?_
   refine At.thenC ?_
   refine W.rg env [2] [2, 751, 9900, 12900] ?_
   refine W.ret ?_
   cases H
   refine At.ren [(9900, 940), (751, 941), (12900, 942)] (K := [2, 751, 9900, 12900]) (ts := [2]) rfl rfl rfl rfl rfl ?_
   exact At.retK env.ty [940, 941, 942] 0 rfl rfl rfl rfl (.cons (.refl _) (.cons (.refl _) (.cons (.refl _) .nil))) (Sim.aggL (.cons .qc (.cons .qc (.cons .qc .nil)))) hval hdom rfl
theorem co_slices_Delete_Hand (p0 : (List Hand)) (p1 : Int) (p2 : Int) {r : (List Hand)} (H : slices_Delete_Hand p0 p1 p2 = some r) : CtrO Tryz.prog 77 [.buf 700 (p0).length, .int .i64 (p1), .int .i64 (p2)] [(700, bufL 43 3 enc_Hand p0)] (.buf 900 r.length) [(900, bufL 43 3 enc_Hand r)] := by
 unfold slices_Delete_Hand at H
 refine CtrO.of_body (N := 33) Tryz.func77 (by kernel_rfl) (c := _) rfl Tryz.ntmps77 rfl (fun w0 h0 ρb hval hdom => ?_)
 refine W.rg env [0, 1, 2] [700] ?_
 obtain ⟨hc1, H⟩ := of_must H
 refine W.sr env [] [] [0, 1, 2] [700] rfl rfl rfl (.cons (by first | rfl | (simp; done) | omega | (simp; omega)) (.cons (⟨by first | rfl | (simp; done) | omega | (simp; omega), hc1⟩) .nil)) .nil ?_
 refine W.seq ?_
 refine W.rg env [0, 1, 2, 16] [700] ?_
 refine W.cond rfl (fun hb2 => ?_) (fun hb2 => ?_)
 · have H := of_true H hb2
   refine W.rg env [6] [700] ?_
   refine W.ret ?_
   refine At.rthen ?_
   cases H
   exact At.retK env.ty [700] 200 rfl rfl rfl rfl (.cons (.refl _) .nil) (.of_eq (by refine bufEq ?_; first | (simp [copyAt]; done) | omega | (simp [copyAt]; omega) | rfl)) hval hdom rfl
 · have H := of_false H hb2
   refine W.skip ?_
   refine At.thenC ?_
   refine W.sr env [] [] [0, 1, 2, 7] [700] rfl rfl rfl (.cons (by first | rfl | (simp; done) | omega | (simp; omega)) .nil) .nil ?_
   refine W.seq ?_
   obtain ⟨hc3, H⟩ := of_must H
   obtain ⟨hc4, H⟩ := of_must H
   obtain ⟨hc5, H⟩ := of_must H
   refine W.region env [] [] rfl rfl (by first | rfl | kernel_rfl) (.cons (⟨by first | rfl | (simp; done) | omega | (simp; omega), hc3⟩) (.cons (⟨by first | rfl | (simp; done) | omega | (simp; omega), hc4⟩) (.cons (⟨rfl, rfl, by omega, by omega, by omega⟩) .nil))) .nil (At.keep (ts := [0, 7]) (ids := [26]) rfl rfl ?_)
   refine At.convM (.cons (y := bufkL 43 3 p0.length enc_Hand (p0.take ((p1).toNat) ++ p0.drop ((p2).toNat))) (BSim.kseg (Seg.moved (f := enc_Hand) (l := p0) ((p1).toNat) ((p2).toNat) (by omega) (by omega))) .nil) ?_
   refine At.thenC ?_
   refine W.seq ?_
   obtain ⟨hc6, H⟩ := of_must H
   refine W.region env [] [] rfl rfl rfl (.cons (by first | rfl | (simp; done) | omega | (simp; omega)) (.cons (⟨by first | rfl | (simp; done) | omega | (simp; omega), hc6⟩) (.cons (⟨by first | rfl | (simp; done) | omega | (simp; omega), by first | rfl | (simp; done) | omega | (simp; omega), by first | omega | (simp; omega)⟩) .nil))) .nil (At.keep (ts := [0]) (ids := [26]) rfl rfl ?_)
   refine At.convM (.cons (y := bufkL 43 3 p0.length enc_Hand (p0.take ((p1).toNat) ++ p0.drop ((p2).toNat))) (BSim.kseg (Seg.refl enc_Hand _)) .nil) ?_
   refine At.thenC ?_
   refine W.rg env [6] [26] ?_
   refine W.ret ?_
   cases H
   exact At.retK env.ty [26] 874 rfl rfl rfl rfl (.cons (.bufk (.refl _)) .nil) (.of_eq (by refine bufEq ?_; first | (simp [copyAt]; done) | omega | (simp [copyAt]; omega) | rfl)) hval hdom rfl
theorem c_crew_Ill (p0 : Crew) (p1 : Int) (p2 : Int) {r : (Crew × Int)} (H : crew_Ill p0 p1 p2 = some r) : Ctr Tryz.prog 25 [.agg [roL 4 enc_Task p0.Tasks, roL 1 enc_ListRange p0.Travel, roL 3 enc_Hand p0.Hands], .int .i64 (p1), .int .i64 (p2)] (.tup [.agg [roL 4 enc_Task r.1.Tasks, roL 1 enc_ListRange r.1.Travel, roL 3 enc_Hand r.1.Hands], .int .i64 (r.2)]) := by
 unfold crew_Ill at H
 refine Ctr.of_body (N := 61) Tryz.func25 (by kernel_rfl) (c := _) rfl Tryz.ntmps25 rfl (fun w0 h0 hval => ?_)
 refine W.rg env [2, 3, 4, 6] [3, 4, 6] ?_
 refine W.seq ?_
 refine W.seq ?_
 obtain ⟨y1, hy2, H⟩ := of_bindO H
 refine W.region env [] [⟨.int .i64 (y1), [], 0, []⟩] rfl rfl rfl .nil (.free (c_crew_Check p0 hy2) .nil) (At.keep (ts := [2, 3, 4, 6, 8]) (ids := [3, 4, 6]) rfl rfl ?_)
 refine At.thenC ?_
 refine W.rg env [2, 3, 4, 6, 8, 15] [3, 4, 6] ?_
 refine W.cond rfl (fun hb3 => ?_) (fun hb3 => ?_)
 · have H := of_true H hb3
   refine W.rg env [6, 7] [6] ?_
   refine W.ret ?_
   refine At.rthen ?_
   cases H
   exact At.ret env.ty rfl rfl (fun q hq => by cases hq) (Sim.tupL (.cons (Sim.aggL (.cons (Sim.nil _ _) (.cons (Sim.nil _ _) (.cons (Sim.nil _ _) .nil)))) (.cons (.refl _) .nil))) hval
 · have H := of_false H hb3
   refine W.skip ?_
   refine At.thenC ?_
   refine W.seq ?_
   refine W.sr env [] [⟨.bool ((crew_isMinute p2)), [], 0, []⟩] [2, 3, 4, 6, 20] [3, 4, 6] rfl rfl rfl .nil (.free (c_crew_isMinute p2) .nil) ?_
   refine W.cond rfl (fun hb4 => ?_) (fun hb4 => ?_)
   · have H := of_true H hb4
     refine W.rg env [6, 7] [6] ?_
     refine W.ret ?_
     refine At.rthen ?_
     cases H
     exact At.ret env.ty rfl rfl (fun q hq => by cases hq) (Sim.tupL (.cons (Sim.aggL (.cons (Sim.nil _ _) (.cons (Sim.nil _ _) (.cons (Sim.nil _ _) .nil)))) (.cons (.refl _) .nil))) hval
   · have H := of_false H hb4
     refine W.skip ?_
     refine At.thenC ?_
     refine W.seq ?_
     obtain ⟨y5, hy6, H⟩ := of_bindO H
     refine W.region env [] [⟨.agg [.buf 940 (y5.Tasks).length, .buf 941 (y5.Travel).length, .buf 942 (y5.Hands).length], [(940, bufL 41 4 enc_Task y5.Tasks), (941, bufL 106 1 enc_ListRange y5.Travel), (942, bufL 43 3 enc_Hand y5.Hands)], 24000, []⟩] rfl rfl (by kernel_rfl) .nil (.free ((Ctr.ofO (co_crew_copied_o0_1_2 p0 hy6))) .nil) (At.keep (ts := [2, 4, 6, 9]) (ids := [4, 6, 9, 24940, 24941, 24942]) rfl rfl ?_)
     refine At.thenC ?_
     refine W.seq ?_
     obtain ⟨y7, hy8, H⟩ := of_bindO H
     refine W.region env [] [⟨.int .i64 (y7), [], 0, []⟩] rfl rfl rfl (.cons (by first | rfl | (simp; done) | omega | (simp; omega)) .nil) (.free (c_slices_IndexFunc_Hand y5.Hands (fun x0 => some (crew_Ill_1 x0 p1)) 76 [] ([.rp [.int .i64 (p1)]]) (fun x0 r h => by cases h; exact c_crew_Ill_1 x0 p1) hy8) .nil) (At.keep (ts := [2, 6, 9, 10]) (ids := [6, 9, 24940, 24941, 24942]) rfl rfl ?_)
     refine At.thenC ?_
     refine W.seq ?_
     refine W.rg env [2, 6, 9, 10, 29] [6, 9, 24940, 24941, 24942] ?_
     refine W.cond rfl (fun hb9 => ?_) (fun hb9 => ?_)
     · have H := of_true H hb9
       refine W.rg env [6, 7] [6] ?_
       refine W.ret ?_
       refine At.rthen ?_
       cases H
       exact At.ret env.ty rfl rfl (fun q hq => by cases hq) (Sim.tupL (.cons (Sim.aggL (.cons (Sim.nil _ _) (.cons (Sim.nil _ _) (.cons (Sim.nil _ _) .nil)))) (.cons (.refl _) .nil))) hval
     · have H := of_false H hb9
       refine W.skip ?_
       refine At.thenC ?_
       obtain ⟨hc10, H⟩ := of_must H
       refine W.sr env [] [] [2, 6, 9, 10, 11] [6, 9, 24940, 24941, 24942] rfl rfl rfl (.cons (⟨by first | rfl | (simp; done) | omega | (simp; omega), hc10⟩) .nil) .nil ?_
       refine W.seq ?_
       refine W.region env [] [] rfl rfl rfl (.cons (⟨by first | rfl | (simp; done) | omega | (simp; omega), (by have := hc10; first | omega | (simp only [List.length_set]; omega) | (simp only [Int.toNat_natCast] at *; omega) | (simp at this ⊢; omega))⟩) (.cons (⟨by first | rfl | (simp; done) | omega | (simp; omega), (by have := hc10; first | omega | (simp only [List.length_set]; omega) | (simp only [Int.toNat_natCast] at *; omega) | (simp at this ⊢; omega))⟩) .nil)) .nil (At.keep (ts := [6, 9, 10, 11]) (ids := [6, 9, 24940, 24941, 24942]) rfl rfl ?_)
       refine At.convM (.cons (.refl _) (.cons (.refl _) (.cons (.refl _) (.cons (.refl _) (.cons (y := bufL 43 3 enc_Hand (y5.Hands.set (y7).toNat (⟨(y5.Hands.getD (y7).toNat default).Id, (y5.Hands.getD (y7).toNat default).From, (min ((y5.Hands.getD (y7).toNat default).To) p2)⟩ : Hand))) (BSim.seg (Seg.set (Seg.refl enc_Hand _) (⟨(y5.Hands.getD (y7).toNat default).Id, (y5.Hands.getD (y7).toNat default).From, (min ((y5.Hands.getD (y7).toNat default).To) p2)⟩ : Hand) rfl)) .nil))))) ?_
       refine At.thenC ?_
       refine W.seq ?_
       refine W.sr env [] [] [6, 9, 10, 52] [6, 9, 24940, 24941, 24942] rfl rfl (by first | rfl | kernel_rfl) (.cons (⟨by first | rfl | (simp; done) | omega | (simp; omega), (by have := hc10; first | omega | (simp only [List.length_set]; omega) | (simp only [Int.toNat_natCast] at *; omega) | (simp at this ⊢; omega))⟩) (.cons (⟨by first | rfl | (simp; done) | omega | (simp; omega), (by have := hc10; first | omega | (simp only [List.length_set]; omega) | (simp only [Int.toNat_natCast] at *; omega) | (simp at this ⊢; omega))⟩) .nil)) .nil ?_
       refine W.cond rfl (fun hb11 => ?_) (fun hb11 => ?_)
       · have H := of_true H hb11
         obtain ⟨hc12, H⟩ := of_must H
         obtain ⟨y13, hy14, H⟩ := of_bindO H
         refine W.region env [] [⟨.buf 900 y13.length, [(24942, .dead), (900, bufL 43 3 enc_Hand y13)], 59000, []⟩] rfl rfl (by kernel_rfl) (.cons hc12 .nil) (.free (CtrO.sim (CtrO.at (co_slices_Delete_Hand (y5.Hands.set (y7).toNat (⟨(y5.Hands.getD (y7).toNat default).Id, (y5.Hands.getD (y7).toNat default).From, (min ((y5.Hands.getD (y7).toNat default).To) p2)⟩ : Hand)) y7 (y7 + 1) hy14) rfl 24942) (.cons .qc (.cons (.refl _) (.cons (.refl _) .nil))) (.cons (.refl _) .nil)) .nil) (At.keep (ts := [6, 9]) (ids := [6, 9, 24940, 24941, 59900]) rfl rfl ?_)
         refine At.thenC ?_
         refine W.rg env [6, 7] [6, 24940, 24941, 59900] ?_
         refine W.ret ?_
         cases H
         exact At.ret env.ty rfl rfl (fun q hq => by cases hq; exact ⟨by first | rfl | (simp; done) | omega | (simp; omega), ⟨by first | rfl | (simp; done) | omega | (simp; omega), (by first | rfl | (simp; done) | omega | (simp; omega))⟩⟩) (.refl _) hval
       · have H := of_false H hb11
         refine W.skip ?_
         refine At.thenC ?_
         refine W.rg env [6, 7] [6, 24940, 24941, 24942] ?_
         refine W.ret ?_
         cases H
         exact At.ret env.ty rfl rfl (fun q hq => by cases hq; exact ⟨by first | rfl | (simp; done) | omega | (simp; omega), ⟨by first | rfl | (simp; done) | omega | (simp; omega), (by first | rfl | (simp; done) | omega | (simp; omega))⟩⟩) (.refl _) hval
theorem c_crew_CheckRounds (p0 : Crew) (p1 : (List (List Int))) {r : Int} (H : crew_CheckRounds p0 p1 = some r) : Ctr Tryz.prog 68 [.agg [roL 4 enc_Task p0.Tasks, roL 1 enc_ListRange p0.Travel, roL 3 enc_Hand p0.Hands], roL 1 enc_ListInt p1] (.int .i64 (r)) := by
 unfold crew_CheckRounds at H
 refine Ctr.of_body (N := 14) Tryz.func68 (by kernel_rfl) (c := _) rfl Tryz.ntmps68 rfl (fun w0 h0 hval => ?_)
 refine W.rg env [1, 2] [2] ?_
 refine W.seq ?_
 obtain ⟨y1, hy2, H⟩ := of_bindO H
 refine W.region env [] [⟨.tup [.po y1.1.isSome [roL 4 enc_Task ((y1.1.getD default).Crew.Tasks), roL 1 enc_ListRange ((y1.1.getD default).Crew.Travel), roL 3 enc_Hand ((y1.1.getD default).Crew.Hands), roL 1 enc_Int ((y1.1.getD default).next)], .int .i64 (y1.2)], [], 0, []⟩] rfl rfl rfl .nil (.free (c_crew_asked p0 p1 hy2) .nil) (At.keep (ts := [6]) (ids := []) rfl rfl ?_)
 refine At.thenC ?_
 refine W.rg env [4] [] ?_
 refine W.ret ?_
 cases H
 exact At.ret env.ty rfl rfl (fun q hq => by cases hq) (.refl _) hval
theorem c_crew_CheckCut (p0 : Crew) (p1 : (List Int)) (p2 : Int) {r : Int} (H : crew_CheckCut p0 p1 p2 = some r) : Ctr Tryz.prog 69 [.agg [roL 4 enc_Task p0.Tasks, roL 1 enc_ListRange p0.Travel, roL 3 enc_Hand p0.Hands], roL 1 enc_Int p1, .int .i64 (p2)] (.int .i64 (r)) := by
 unfold crew_CheckCut at H
 refine Ctr.of_body (N := 87) Tryz.func69 (by kernel_rfl) (c := _) rfl Tryz.ntmps69 rfl (fun w0 h0 hval => ?_)
 refine W.rg env [1, 2, 3] [3] ?_
 refine W.seq ?_
 refine W.seq ?_
 obtain ⟨y1, hy2, H⟩ := of_bindO H
 refine W.region env [] [⟨.int .i64 (y1), [], 0, []⟩] rfl rfl rfl .nil (.free (c_crew_Check p0 hy2) .nil) (At.keep (ts := [1, 2, 3, 7]) (ids := [3]) rfl rfl ?_)
 refine At.thenC ?_
 refine W.rg env [1, 2, 3, 7, 16] [3] ?_
 refine W.cond rfl (fun hb3 => ?_) (fun hb3 => ?_)
 · have H := of_true H hb3
   refine W.rg env [6] [] ?_
   refine W.ret ?_
   refine At.rthen ?_
   cases H
   exact At.ret env.ty rfl rfl (fun q hq => by cases hq) (.refl _) hval
 · have H := of_false H hb3
   refine W.skip ?_
   refine At.thenC ?_
   refine W.seq ?_
   obtain ⟨y4, hy5, H⟩ := of_bindO H
   refine W.region env [] [⟨.po y4.isSome [roL 4 enc_Task ((y4.getD default).Crew.Tasks), roL 1 enc_ListRange ((y4.getD default).Crew.Travel), roL 3 enc_Hand ((y4.getD default).Crew.Hands), roL 1 enc_Int ((y4.getD default).next)], [], 0, []⟩] rfl rfl rfl .nil (.free (c_crew_newPlan p0 (fun x0 => some (crew_most x0)) 35 [] [] (fun x0 r h => by cases h; exact c_crew_most x0) hy5) .nil) (At.keep (ts := [1, 2, 8]) (ids := []) rfl rfl ?_)
   refine At.thenC ?_
   refine W.seq ?_
   refine W.rg env [1, 2, 8, 20, 21, 22] [] ?_
   refine W.block ?_
   refine At.keep (ts := [1, 2, 8, 20, 21, 22]) (ids := []) rfl rfl ?_
   refine W.len (t := 20) rfl (fun (hn6 : p1.length ≤ maxLen) => ?_)
   refine W.rangeGo H (fun i6 (s6 : Unit) => [(1, roL 1 enc_Int p1), (2, .int .i64 (p2)), (8, .po y4.isSome [roL 4 enc_Task ((y4.getD default).Crew.Tasks), roL 1 enc_ListRange ((y4.getD default).Crew.Travel), roL 3 enc_Hand ((y4.getD default).Crew.Hands), roL 1 enc_Int ((y4.getD default).next)]), (20, roL 1 enc_Int p1), (21, .int .i64 (((p1.length : Nat) : Int))), (22, .int .i64 ((i6 : Int)))]) (fun i6 (s6 : Unit) => []) (.cons .q (.cons .qi (.cons .q (.cons .q (.cons .qi (.cons .qi .nil)))))) .nil (fun k6 i6 s6 hle6 H1 H2 K0 hK6 => ?_)
   refine W.rg env [1, 2, 8, 20, 21, 22, 23] [] ?_
   refine W.seq ?_
   refine W.cond rfl (fun hb7 => ?_) (fun hb7 => ?_)
   · have hi6 : i6 < p1.length := by have := of_decide_eq_true hb7; omega
     have H := H1 hi6
     refine W.skip ?_
     refine At.thenC ?_
     refine W.seq ?_
     refine W.block ?_
     refine W.sr env [] [] [1, 2, 8, 9, 10, 20, 21, 22] [] rfl rfl rfl (.cons (⟨by omega, by omega⟩ : 0 ≤ (i6 : Int) ∧ (i6 : Int) < ((p1.length : Nat) : Int)) .nil) .nil ?_
     refine W.seq ?_
     obtain ⟨hc8, H⟩ := of_must H
     obtain ⟨hc9, H⟩ := of_must H
     obtain ⟨hc10, H⟩ := of_must H
     obtain ⟨hc11, H⟩ := of_must H
     refine W.sr env [] [⟨.bool ((crew_in (p1.getD i6 default) 0 (((((y4.getD default).next).length : Nat) : Int) - 1))), [], 0, []⟩] [1, 2, 8, 9, 10, 20, 21, 22, 48] [] rfl rfl rfl (.cons hc8 (.cons hc9 (.cons (fun h => h) (.cons (fun h => h) (.cons hc10 (.cons (fun h => h) (.cons hc11 (.cons (fun h => h) (.cons (fun h => h) (.cons (fun h => h) (.cons (fun h => h) (.cons (fun h => h) (.cons (fun h => h) (.cons (fun hW h => by revert hW h; first | (simp +contextual; done) | grind) (.cons (fun h => by rw [h]; rfl) .nil))))))))))))))) (.free (c_crew_in (p1.getD i6 default) 0 (((((y4.getD default).next).length : Nat) : Int) - 1)) .nil) ?_
     refine W.cond rfl (fun hb12 => ?_) (fun hb12 => ?_)
     · have H := of_true H hb12
       refine W.rg env [6] [] ?_
       refine W.ret ?_
       refine At.rthen ?_
       refine At.rinb ?_
       refine At.rthen ?_
       refine At.rthen ?_
       refine At.rinb ?_
       refine At.rthen ?_
       cases H
       exact At.ret env.ty rfl rfl (fun q hq => by cases hq) (.refl _) hval
     · have H := of_false H hb12
       refine W.skip ?_
       refine At.thenC ?_
       refine W.seq ?_
       obtain ⟨hc13, H⟩ := of_must H
       refine W.region env [] [] rfl rfl rfl (.cons hc13 .nil) .nil (At.keep (ts := [1, 2, 8, 10, 20, 21, 22, 51, 52, 53]) (ids := []) rfl rfl ?_)
       refine At.slot (t := 51) (v := roL 1 enc_Int (p1.take i6)) (Sim.seg (Seg.take enc_Int p1 i6 (by omega))) ?_
       refine At.thenC ?_
       refine W.block ?_
       refine At.keep (ts := [1, 2, 8, 10, 20, 21, 22, 51, 52, 53]) (ids := []) rfl rfl ?_
       refine W.len (t := 51) rfl (fun (hn14 : (p1.take i6).length ≤ maxLen) => ?_)
       refine W.rangeGo H (fun i14 (s14 : Unit) => [(1, roL 1 enc_Int p1), (2, .int .i64 (p2)), (8, .po y4.isSome [roL 4 enc_Task ((y4.getD default).Crew.Tasks), roL 1 enc_ListRange ((y4.getD default).Crew.Travel), roL 3 enc_Hand ((y4.getD default).Crew.Hands), roL 1 enc_Int ((y4.getD default).next)]), (10, .int .i64 ((p1.getD i6 default))), (20, roL 1 enc_Int p1), (21, .int .i64 (((p1.length : Nat) : Int))), (22, .int .i64 ((i6 : Int))), (51, roL 1 enc_Int (p1.take i6)), (52, .int .i64 ((((p1.take i6).length : Nat) : Int))), (53, .int .i64 ((i14 : Int)))]) (fun i14 (s14 : Unit) => []) (.cons .q (.cons .qi (.cons .q (.cons .qi (.cons .q (.cons .qi (.cons .qi (.cons .q (.cons .qi (.cons .qi .nil)))))))))) .nil (fun k14 i14 s14 hle14 H1 H2 K0 hK14 => ?_)
       refine W.rg env [1, 2, 8, 10, 20, 21, 22, 51, 52, 53, 54] [] ?_
       refine W.seq ?_
       refine W.cond rfl (fun hb15 => ?_) (fun hb15 => ?_)
       · have hi14 : i14 < (p1.take i6).length := by have := of_decide_eq_true hb15; omega
         have H := H1 hi14
         refine W.skip ?_
         refine At.thenC ?_
         refine W.seq ?_
         refine W.block ?_
         refine W.sr env [] [] [1, 2, 8, 10, 12, 20, 21, 22, 51, 52, 53] [] rfl rfl rfl (.cons (⟨by omega, by omega⟩ : 0 ≤ (i14 : Int) ∧ (i14 : Int) < (((p1.take i6).length : Nat) : Int)) .nil) .nil ?_
         obtain ⟨hc16, H⟩ := of_must H
         obtain ⟨hc17, H⟩ := of_must H
         obtain ⟨hc18, H⟩ := of_must H
         obtain ⟨hc19, H⟩ := of_must H
         obtain ⟨hc20, H⟩ := of_must H
         obtain ⟨hc21, H⟩ := of_must H
         obtain ⟨hc22, H⟩ := of_must H
         obtain ⟨hc23, H⟩ := of_must H
         refine W.sr env [] [] [1, 2, 8, 10, 20, 21, 22, 51, 52, 53, 80] [] rfl rfl rfl (.cons hc16 (.cons hc17 (.cons hc18 (.cons hc19 (.cons hc20 (.cons (fun h => h) (.cons (fun h => h) (.cons (fun h => h) (.cons hc21 (.cons (fun h => h) (.cons (fun h => h) (.cons (fun h => h) (.cons hc22 (.cons (fun h => h) (.cons (fun h => h) (.cons hc23 (.cons (fun h => h) (.cons (fun h => h) (.cons (fun h => by rw [h]; rfl) .nil))))))))))))))))))) .nil ?_
         refine W.cond rfl (fun hb24 => ?_) (fun hb24 => ?_)
         · have H := of_true H hb24
           refine W.rg env [6] [] ?_
           refine W.ret ?_
           refine At.rinb ?_
           refine At.rthen ?_
           refine At.rthen ?_
           refine At.rinb ?_
           refine At.rinb ?_
           refine At.rthen ?_
           refine At.rthen ?_
           refine At.rinb ?_
           refine At.rthen ?_
           cases H
           exact At.ret env.ty rfl rfl (fun q hq => by cases hq) (.refl _) hval
         · have H := of_false H hb24
           refine W.skip ?_
           refine At.inb ?_
           refine At.thenC ?_
           refine W.region env [] [] rfl rfl rfl (.cons (by unfold inI; have := hn14; (try unfold maxLen at this); omega) .nil) .nil (At.keep (ts := [1, 2, 8, 10, 20, 21, 22, 51, 52, 53]) (ids := []) rfl rfl ?_)
           refine At.thenK (At.keep (ts := [1, 2, 8, 10, 20, 21, 22, 51, 52, 53]) (ids := []) rfl rfl ?_)
           exact At.conv (.cons .q (.cons .qi (.cons .q (.cons .qi (.cons .q (.cons .qi (.cons .qi (.cons .q (.cons .qi (.cons .qi .nil)))))))))) .nil (hK14 hi14 () H)
       · have H := H2 (by have := of_decide_eq_false hb15; omega)
         refine W.exit ?_
         refine At.xthen ?_
         refine At.xthen ?_
         refine At.xhere ?_
         refine At.inb ?_
         refine At.thenC ?_
         refine W.region env [] [] rfl rfl rfl (.cons (by unfold inI; have := hn6; (try unfold maxLen at this); omega) .nil) .nil (At.keep (ts := [1, 2, 8, 20, 21, 22]) (ids := []) rfl rfl ?_)
         refine At.thenK (At.keep (ts := [1, 2, 8, 20, 21, 22]) (ids := []) rfl rfl ?_)
         exact At.conv (.cons .q (.cons .qi (.cons .q (.cons .q (.cons .qi (.cons .qi .nil)))))) .nil (hK6 hi6 () H)
   · have H := H2 (by have := of_decide_eq_false hb7; omega)
     refine W.exit ?_
     refine At.xthen ?_
     refine At.xthen ?_
     refine At.xhere ?_
     refine At.thenC ?_
     refine W.seq ?_
     refine W.rg env [86] [] ?_
     refine W.cond rfl (fun hb25 => ?_) (fun hb25 => ?_)
     · have H := of_true H hb25
       refine W.rg env [6] [] ?_
       refine W.ret ?_
       refine At.rthen ?_
       cases H
       exact At.ret env.ty rfl rfl (fun q hq => by cases hq) (.refl _) hval
     · have H := of_false H hb25
       refine W.skip ?_
       refine At.thenC ?_
       refine W.rg env [6] [] ?_
       refine W.ret ?_
       cases H
       exact At.ret env.ty rfl rfl (fun q hq => by cases hq) (.refl _) hval
theorem c_gasolierlaw04_sane (fuel : Nat) {r : Bool} (H : gasolierlaw04_sane fuel = some r) : Ctr Tryz.prog 18 [] (.bool (r)) := by
 unfold gasolierlaw04_sane at H
 refine Ctr.of_body (N := 164) Tryz.func18 (by kernel_rfl) (c := _) rfl Tryz.ntmps18 rfl (fun w0 h0 hval => ?_)
 refine W.rg env [] [] ?_
 refine W.sr env [] [⟨.agg [roL 4 enc_Task ((gasolierlaw04_team).Tasks), roL 1 enc_ListRange ((gasolierlaw04_team).Travel), roL 3 enc_Hand ((gasolierlaw04_team).Hands)], [], 0, []⟩] [1] [1] rfl rfl rfl .nil (.free (c_gasolierlaw04_team) .nil) ?_
 refine W.seq ?_
 refine W.region env [] [] rfl rfl rfl .nil .nil (At.keep (ts := [1, 2]) (ids := [1]) rfl rfl ?_)
 refine At.slot (t := 2) (v := roL 1 enc_ListInt ([([0, 2, 3] : List Int), ([1] : List Int)] : List (List Int))) (Sim.lit2 (f := enc_ListInt) ([([0, 2, 3] : List Int), ([1] : List Int)] : List (List Int)) (.cons (Sim.lit (f := enc_Int) ([0, 2, 3] : List Int) rfl rfl (fun _ => rfl)) (.cons (Sim.lit (f := enc_Int) ([1] : List Int) rfl rfl (fun _ => rfl)) .nil)) rfl rfl (fun _ => rfl)) ?_
 refine At.thenC ?_
 refine W.seq ?_
 obtain ⟨y1, hy2, H⟩ := of_bindO H
 refine W.region env [] [⟨.tup [.int .i64 (y1.1), .int .i64 (y1.2)], [], 0, []⟩] rfl rfl rfl .nil (.free (c_crew_Follows (gasolierlaw04_team) 0 1 hy2) .nil) (At.keep (ts := [1, 2, 3, 4]) (ids := [1]) rfl rfl ?_)
 refine At.thenC ?_
 refine W.seq ?_
 obtain ⟨y3, hy4, H⟩ := of_bindO H
 refine W.region env [] [⟨.tup [.int .i64 (y3.1), .int .i64 (y3.2)], [], 0, []⟩] rfl rfl rfl .nil (.free (c_crew_Count fuel (gasolierlaw04_team) hy4) .nil) (At.keep (ts := [1, 2, 3, 4, 5, 6]) (ids := [1]) rfl rfl ?_)
 refine At.thenC ?_
 refine W.seq ?_
 obtain ⟨y5, hy6, H⟩ := of_bindO H
 refine W.region env [] [⟨.tup [.agg [.int .i64 (y5.1.Lo), .int .i64 (y5.1.Hi)], .int .i64 (y5.2)], [], 0, []⟩] rfl rfl rfl .nil (.free (c_crew_Bounds fuel (gasolierlaw04_team) hy6) .nil) (At.keep (ts := [1, 2, 3, 4, 5, 6, 7, 8]) (ids := [1, 7]) rfl rfl ?_)
 refine At.thenC ?_
 refine W.seq ?_
 obtain ⟨y7, hy8, H⟩ := of_bindO H
 refine W.region env [] [⟨.tup [.int .i64 (y7.1), .int .i64 (y7.2)], [], 0, []⟩] rfl rfl rfl .nil (.free (c_crew_Slack fuel (gasolierlaw04_team) ([([0, 2, 3] : List Int), ([1] : List Int)] : List (List Int)) hy8) .nil) (At.keep (ts := [1, 2, 3, 4, 5, 6, 7, 8, 9, 10]) (ids := [1, 7]) rfl rfl ?_)
 refine At.thenC ?_
 refine W.seq ?_
 obtain ⟨y9, hy10, H⟩ := of_bindO H
 refine W.region env [] [⟨.tup [roL 1 enc_Int y9.1, .int .i64 (y9.2)], [], 0, []⟩] rfl rfl rfl .nil (.free (Ctr.sim (.cons (.refl _) (.cons (.refl _) (.cons (Sim.lit2 (f := enc_ListInt) ([([0, 24] : List Int), ([] : List Int)] : List (List Int)) (.cons (Sim.lit (f := enc_Int) ([0, 24] : List Int) rfl rfl (fun _ => rfl)) (.cons (Sim.lit (f := enc_Int) ([] : List Int) rfl rfl (fun _ => rfl)) .nil)) rfl rfl (fun _ => rfl)) .nil))) (c_crew_Late (gasolierlaw04_team) ([([0, 2, 3] : List Int), ([1] : List Int)] : List (List Int)) ([([0, 24] : List Int), ([] : List Int)] : List (List Int)) hy10)) .nil) (At.keep (ts := [1, 2, 3, 4, 5, 6, 7, 8, 9, 10, 11, 12]) (ids := [1, 7]) rfl rfl ?_)
 refine At.thenC ?_
 refine W.seq ?_
 obtain ⟨y11, hy12, H⟩ := of_bindO H
 refine W.region env [] [⟨.tup [roL 1 enc_Int y11.1, .int .i64 (y11.2)], [], 0, []⟩] rfl rfl rfl .nil (.free (c_crew_Assign fuel (gasolierlaw04_team) ([([0, 2, 3] : List Int), ([1] : List Int)] : List (List Int)) hy12) .nil) (At.keep (ts := [1, 2, 3, 4, 5, 6, 7, 8, 9, 10, 11, 12, 13, 14]) (ids := [1, 7]) rfl rfl ?_)
 refine At.thenC ?_
 refine W.seq ?_
 obtain ⟨y13, hy14, H⟩ := of_bindO H
 refine W.region env [] [⟨.tup [.agg [roL 4 enc_Task y13.1.Tasks, roL 1 enc_ListRange y13.1.Travel, roL 3 enc_Hand y13.1.Hands], .int .i64 (y13.2)], [], 0, []⟩] rfl rfl rfl .nil (.free (c_crew_Ill (gasolierlaw04_team) 8 315 hy14) .nil) (At.keep (ts := [1, 2, 3, 4, 5, 6, 7, 8, 9, 10, 11, 12, 13, 14, 15, 16]) (ids := [1, 7, 15]) rfl rfl ?_)
 refine At.thenC ?_
 refine W.seq ?_
 obtain ⟨y15, hy16, H⟩ := of_bindO H
 refine W.region env [] [⟨.tup [roL 1 enc_Int y15.1, .int .i64 (y15.2)], [], 0, []⟩] rfl rfl rfl .nil (.free (c_crew_Short fuel y13.1 ([([0, 2, 3] : List Int), ([1] : List Int)] : List (List Int)) hy16) .nil) (At.keep (ts := [1, 3, 4, 5, 6, 7, 8, 9, 10, 11, 12, 13, 14, 16, 17, 18]) (ids := [1, 7]) rfl rfl ?_)
 refine At.thenC ?_
 refine W.seq ?_
 obtain ⟨y17, hy18, H⟩ := of_bindO H
 refine W.region env [] [⟨.tup [roL 1 enc_Int y17.1, .int .i64 (y17.2)], [], 0, []⟩] rfl rfl rfl .nil (.free (c_crew_Moved fuel (gasolierlaw04_team) hy18) .nil) (At.keep (ts := [1, 3, 4, 5, 6, 7, 8, 9, 10, 11, 12, 13, 14, 16, 17, 18, 19, 20]) (ids := [1, 7]) rfl rfl ?_)
 refine At.thenC ?_
 refine W.sr env [] [] [1, 3, 5, 7, 9, 11, 13, 17, 19, 21] [1, 7] rfl rfl rfl (.cons (fun h => h) (.cons (fun h => h) (.cons (fun h => h) (.cons (fun h => h) (.cons (fun h => h) (.cons (fun h => h) (.cons (fun h => h) (.cons (fun h => h) (.cons (fun h => h) (.cons (fun h => h) (.cons (fun h => h) (.cons (fun h => h) (.cons (fun h => h) (.cons (fun h => h) (.cons (fun h => h) (.cons (fun h => h) .nil)))))))))))))))) .nil ?_
 refine W.seq ?_
 obtain ⟨y19, hy20, H⟩ := of_bindO H
 obtain ⟨y21, hy22, H⟩ := of_bindO H
 obtain ⟨y23, hy24, H⟩ := of_bindO H
 obtain ⟨y25, hy26, H⟩ := of_bindO H
 obtain ⟨y27, hy28, H⟩ := of_bindO H
 obtain ⟨y29, hy30, H⟩ := of_bindO H
 refine W.region env [] [⟨.bool (y19), [], 0, []⟩, ⟨.bool (y21), [], 0, []⟩, ⟨.bool (y23), [], 0, []⟩, ⟨.bool (y25), [], 0, []⟩, ⟨.int .i64 (y27), [], 0, []⟩, ⟨.int .i64 (y29), [], 0, []⟩] rfl rfl rfl (.cons (fun h => h) (.cons (fun h => h) (.cons (fun h => h) (.cons (fun h => h) (.cons (fun h => h) (.cons (fun h => h) (.cons (fun h => h) (.cons (fun h => h) (.cons (fun h => h) (.cons (fun h => h) (.cons (fun h => h) (.cons (fun h => h) (.cons (fun h => h) (.cons (fun h => h) (.cons (fun h => h) (.cons (fun h => h) (.cons (fun h => h) (.cons (fun h => h) (.cons (fun h => h) (.cons (fun h => h) (.cons (fun h => h) (.cons (fun h => h) (.cons (fun h => h) (.cons (fun h => h) (.cons (fun h => h) (.cons (fun h => h) (.cons (fun h => h) (.cons (fun h => h) (.cons (fun h => h) (.cons (fun h => h) (.cons (fun h => h) .nil))))))))))))))))))))))))))))))) (.on (fun hW => Ctr.sim (.cons (.refl _) (.cons (Sim.lit (f := enc_Int) ([3] : List Int) rfl rfl (fun _ => rfl)) .nil)) (c_gasolierref01_Same y9.1 ([3] : List Int) (of_true hy20 hW))) (.on (fun hW => Ctr.sim (.cons (.refl _) (.cons (Sim.lit (f := enc_Int) ([7, 8] : List Int) rfl rfl (fun _ => rfl)) .nil)) (c_gasolierref01_Same y11.1 ([7, 8] : List Int) (of_true hy22 hW))) (.on (fun hW => Ctr.sim (.cons (.refl _) (.cons (Sim.lit (f := enc_Int) ([0, 1] : List Int) rfl rfl (fun _ => rfl)) .nil)) (c_gasolierref01_Same y15.1 ([0, 1] : List Int) (of_true hy24 hW))) (.on (fun hW => Ctr.sim (.cons (.refl _) (.cons (Sim.lit (f := enc_Int) ([2] : List Int) rfl rfl (fun _ => rfl)) .nil)) (c_gasolierref01_Same y17.1 ([2] : List Int) (of_true hy26 hW))) (.on (fun hW => Ctr.sim (.cons (.refl _) (.cons (Sim.lit2 (f := enc_ListInt) ([([0, 1] : List Int), ([2, 3] : List Int)] : List (List Int)) (.cons (Sim.lit (f := enc_Int) ([0, 1] : List Int) rfl rfl (fun _ => rfl)) (.cons (Sim.lit (f := enc_Int) ([2, 3] : List Int) rfl rfl (fun _ => rfl)) .nil)) rfl rfl (fun _ => rfl)) .nil)) (c_crew_CheckRounds (gasolierlaw04_team) ([([0, 1] : List Int), ([2, 3] : List Int)] : List (List Int)) (of_true hy28 hW))) (.on (fun hW => Ctr.sim (.cons (.refl _) (.cons (Sim.lit (f := enc_Int) ([0, 1] : List Int) rfl rfl (fun _ => rfl)) (.cons (.refl _) .nil))) (c_crew_CheckCut (gasolierlaw04_team) ([0, 1] : List Int) 2 (of_true hy30 hW))) .nil)))))) (At.keep (ts := [0]) (ids := []) rfl rfl ?_)
 refine At.thenC ?_
 refine W.ret ?_
 cases H
 exact At.ret env.ty rfl rfl (fun q hq => by cases hq) (.refl _) hval
theorem c_gasolierlaw04_CrewHands (fuel : Nat) (p0 : Crew) (p1 : gasolierlaw04_Plan) (p2 : (List Int)) {r : Bool} (H : gasolierlaw04_CrewHands fuel p0 p1 p2 = some r) : Ctr Tryz.prog 3 [.agg [roL 4 enc_Task p0.Tasks, roL 1 enc_ListRange p0.Travel, roL 3 enc_Hand p0.Hands], .agg [roL 1 enc_ListInt p1.Rounds, roL 1 enc_Int p1.Cut, .int .i64 (p1.Size), roL 1 enc_ListInt p1.Walks, roL 1 enc_Int p1.Hands], roL 1 enc_Int p2] (.bool (r)) := by
 unfold gasolierlaw04_CrewHands at H
 refine Ctr.of_body (N := 146) Tryz.func3 (by kernel_rfl) (c := _) rfl Tryz.ntmps3 rfl (fun w0 h0 hval => ?_)
 refine W.rg env [2, 3, 4] [3, 4] ?_
 refine W.seq ?_
 obtain ⟨y1, hy2, H⟩ := of_bindO H
 refine W.region env [] [⟨.tup [roL 1 enc_Int y1.1, .int .i64 (y1.2)], [], 0, []⟩] rfl rfl rfl .nil (.free (c_crew_Able p0 p2 hy2) .nil) (At.keep (ts := [2, 3, 4, 7, 8]) (ids := [3, 4]) rfl rfl ?_)
 refine At.thenC ?_
 refine W.seq ?_
 obtain ⟨y3, hy4, H⟩ := of_bindO H
 refine W.region env [] [⟨.tup [roL 1 enc_Int y3.1, .int .i64 (y3.2)], [], 0, []⟩] rfl rfl rfl .nil (.free (c_gasolierref04_Able p0 p2 hy4) .nil) (At.keep (ts := [3, 4, 7, 8, 9, 10]) (ids := [3, 4]) rfl rfl ?_)
 refine At.thenC ?_
 refine W.seq ?_
 obtain ⟨y5, hy6, H⟩ := of_bindO H
 refine W.region env [] [⟨.tup [roL 1 enc_Int y5.1, .int .i64 (y5.2)], [], 0, []⟩] rfl rfl rfl .nil (.free (c_crew_Assign fuel p0 p1.Rounds hy6) .nil) (At.keep (ts := [3, 4, 7, 8, 9, 10, 11, 12]) (ids := [3, 4]) rfl rfl ?_)
 refine At.thenC ?_
 refine W.seq ?_
 obtain ⟨y7, hy8, H⟩ := of_bindO H
 refine W.region env [] [⟨.tup [roL 1 enc_Int y7.1, .int .i64 (y7.2)], [], 0, []⟩] rfl rfl rfl .nil (.free (c_gasolierref04_Assign fuel p0 p1.Rounds hy8) .nil) (At.keep (ts := [3, 4, 7, 8, 9, 10, 11, 12, 13, 14]) (ids := [3, 4]) rfl rfl ?_)
 refine At.thenC ?_
 refine W.seq ?_
 obtain ⟨y9, hy10, H⟩ := of_bindO H
 refine W.region env [] [⟨.tup [roL 1 enc_Int y9.1, .int .i64 (y9.2)], [], 0, []⟩] rfl rfl rfl .nil (.free (c_crew_Short fuel p0 p1.Rounds hy10) .nil) (At.keep (ts := [3, 4, 7, 8, 9, 10, 11, 12, 13, 14, 15, 16]) (ids := [3, 4]) rfl rfl ?_)
 refine At.thenC ?_
 refine W.seq ?_
 obtain ⟨y11, hy12, H⟩ := of_bindO H
 refine W.region env [] [⟨.tup [roL 1 enc_Int y11.1, .int .i64 (y11.2)], [], 0, []⟩] rfl rfl rfl .nil (.free (c_gasolierref04_Short fuel p0 p1.Rounds hy12) .nil) (At.keep (ts := [3, 4, 7, 8, 9, 10, 11, 12, 13, 14, 15, 16, 17, 18]) (ids := [3, 4]) rfl rfl ?_)
 refine At.thenC ?_
 refine W.seq ?_
 obtain ⟨y13, hy14, H⟩ := of_bindO H
 refine W.region env [] [⟨.tup [roL 1 enc_Int y13.1, .int .i64 (y13.2)], [], 0, []⟩] rfl rfl rfl .nil (.free (c_crew_Moved fuel p0 hy14) .nil) (At.keep (ts := [3, 4, 7, 8, 9, 10, 11, 12, 13, 14, 15, 16, 17, 18, 19, 20]) (ids := [3, 4]) rfl rfl ?_)
 refine At.thenC ?_
 refine W.seq ?_
 obtain ⟨y15, hy16, H⟩ := of_bindO H
 refine W.region env [] [⟨.tup [roL 1 enc_Int y15.1, .int .i64 (y15.2)], [], 0, []⟩] rfl rfl rfl .nil (.free (c_gasolierref04_Moved fuel p0 hy16) .nil) (At.keep (ts := [3, 4, 7, 8, 9, 10, 11, 12, 13, 14, 15, 16, 17, 18, 19, 20, 21, 22]) (ids := [3, 4]) rfl rfl ?_)
 refine At.thenC ?_
 refine W.seq ?_
 refine W.seq ?_
 obtain ⟨y17, hy18, H⟩ := of_bindO H
 obtain ⟨y19, hy20, H⟩ := of_bindO H
 obtain ⟨y21, hy22, H⟩ := of_bindO H
 obtain ⟨y23, hy24, H⟩ := of_bindO H
 refine W.region env [] [⟨.bool (y17), [], 0, []⟩, ⟨.bool (y19), [], 0, []⟩, ⟨.bool (y21), [], 0, []⟩, ⟨.bool (y23), [], 0, []⟩] rfl rfl rfl (.cons (fun h => h) (.cons (fun h => h) (.cons (fun h => by rw [h]; rfl) (.cons (fun h => h) (.cons (fun h => h) (.cons (fun h => h) (.cons (fun h => by rw [h]; rfl) (.cons (fun h => h) (.cons (fun h => h) (.cons (fun h => by rw [h]; rfl) (.cons (fun h => h) (.cons (fun h => h) (.cons (fun h => h) (.cons (fun h => by rw [h]; rfl) (.cons (fun h => h) (.cons (fun h => h) (.cons (fun h => by rw [h]; rfl) (.cons (fun h => h) (.cons (fun h => h) (.cons (fun h => h) (.cons (fun h => by rw [h]; rfl) (.cons (fun h => h) (.cons (fun h => h) (.cons (fun h => by rw [h]; rfl) .nil)))))))))))))))))))))))) (.free (c_gasolierref01_Same y1.1 y3.1 hy18) (.on (fun hW => c_gasolierref01_Same y5.1 y7.1 (of_true hy20 hW)) (.on (fun hW => c_gasolierref01_Same y9.1 y11.1 (of_true hy22 hW)) (.on (fun hW => c_gasolierref01_Same y13.1 y15.1 (of_true hy24 hW)) .nil)))) (At.keep (ts := [3, 4, 114]) (ids := [3, 4]) rfl rfl ?_)
 refine At.thenC ?_
 refine W.cond rfl (fun hb25 => ?_) (fun hb25 => ?_)
 · have H := of_true H hb25
   refine W.rg env [6] [] ?_
   refine W.ret ?_
   refine At.rthen ?_
   cases H
   exact At.ret env.ty rfl rfl (fun q hq => by cases hq) (.refl _) hval
 · have H := of_false H hb25
   refine W.skip ?_
   refine At.thenC ?_
   refine W.seq ?_
   obtain ⟨y26, hy27, H⟩ := of_bindO H
   obtain ⟨y28, hy29, H⟩ := of_bindO H
   obtain ⟨y30, hy31, H⟩ := of_bindO H
   obtain ⟨y32, hy33, H⟩ := of_bindO H
   obtain ⟨y34, hy35, H⟩ := of_bindO H
   refine W.region env [] [⟨.int .i64 (y26), [], 0, []⟩, ⟨.int .i64 (y28), [], 0, []⟩, ⟨.int .i64 (y30), [], 0, []⟩, ⟨.int .i64 (y32), [], 0, []⟩, ⟨.bool (y34), [], 0, []⟩] rfl rfl (by kernel_rfl) (.cons (fun h => h) (.cons (fun h => h) (.cons (fun h => h) (.cons (fun h => h) (.cons (fun h => h) (.cons (fun h => h) (.cons (fun h => h) (.cons (fun h => h) (.cons (fun h => h) (.cons (fun h => h) (.cons (fun h => h) (.cons (fun h => h) (.cons (fun h => h) (.cons (fun h => h) .nil)))))))))))))) (.free (c_crew_CheckAssign p0 p1.Rounds p1.Hands hy27) (.free (c_gasolierref04_CheckAssign fuel p0 p1.Rounds p1.Hands hy29) (.on (fun hW => c_crew_CheckShort p0 p1.Rounds p1.Cut (of_true hy31 hW)) (.on (fun hW => c_gasolierref04_CheckShort p0 p1.Rounds p1.Cut (of_true hy33 hW)) (.on (fun hW => c_gasolierlaw04_sane fuel (of_true hy35 hW)) .nil))))) (At.keep (ts := [6]) (ids := []) rfl rfl ?_)
   refine At.thenC ?_
   refine W.ret ?_
   cases H
   exact At.ret env.ty rfl rfl (fun q hq => by cases hq) (.refl _) hval
end Go.Sp
