/- Printed by gen.py. -/
import Derived.Test.YtjeolkdhicmhgaaAvFz
import Derived.Test.YtjeolkdhicmhgaaRTSpec
import Derived.Test.YtjeolkdhicmhgaaProg
import Derived.KernelRfl
set_option linter.all false
set_option maxRecDepth 100000
set_option linter.unusedVariables false
namespace Go.Sp
open Go Go.Av Go.Proofs

def enc_Int (x : Int) : List AV := [.int .i64 (x)]
def enc_ListInt (x : (List Int)) : List AV := [roL 1 enc_Int x]
def enc_Stop (x : Stop) : List AV := [.int .i64 (x.Place), .int .i64 (x.Window.Lo), .int .i64 (x.Window.Hi), .int .i64 (x.Serve)]
def enc_Round (x : Round) : List AV := [.int .i64 (x.Place), .int .i64 (x.At), roL 4 enc_Stop x.Stops]
def enc_Range (x : Range) : List AV := [.int .i64 (x.Lo), .int .i64 (x.Hi)]
def enc_Way (x : Way) : List AV := [.int .i64 (x.From), .int .i64 (x.To), .int .i64 (x.Takes.Lo), .int .i64 (x.Takes.Hi), .int .i64 (x.Open.Lo), .int .i64 (x.Open.Hi), .int .i64 (x.Every)]
def enc_ListRange (x : (List Range)) : List AV := [roL 2 enc_Range x]
def enc_Arr7Int (x : (Arr7 Int)) : List AV := [.int .i64 (x.x0), .int .i64 (x.x1), .int .i64 (x.x2), .int .i64 (x.x3), .int .i64 (x.x4), .int .i64 (x.x5), .int .i64 (x.x6)]
def enc_Arr4Int (x : (Arr4 Int)) : List AV := [.int .i64 (x.x0), .int .i64 (x.x1), .int .i64 (x.x2), .int .i64 (x.x3)]

def tids : List Nat := [3, 4, 22, 24, 25, 27, 28, 33, 34, 35, 37, 38, 40, 51, 53, 54, 57, 64, 87, 100, 103, 104, 107, 109, 113, 117, 128, 134, 135, 148, 152, 155]
def Γ : Tys := [(3, ⟨.int .i64, [.int .i64 0], 1, 8⟩),
  (4, ⟨.bool, [.bool false], 1, 1⟩),
  (22, ⟨.slice 53, [.slice none 0 0], 1, 24⟩),
  (24, ⟨.struct [(0, 3), (1, 22)], [.int .i64 0, .slice none 0 0], 2, 32⟩),
  (25, ⟨.slice 40, [.slice none 0 0], 1, 24⟩),
  (27, ⟨.slice 3, [.slice none 0 0], 1, 24⟩),
  (28, ⟨.int .i64, [.int .i64 0], 1, 8⟩),
  (33, ⟨.slice 103, [.slice none 0 0], 1, 24⟩),
  (34, ⟨.array 2 3, [.int .i64 0, .int .i64 0], 2, 16⟩),
  (35, ⟨.slice 104, [.slice none 0 0], 1, 24⟩),
  (37, ⟨.struct [(0, 3), (1, 33), (2, 34), (4, 35)], [.int .i64 0, .slice none 0 0, .int .i64 0, .int .i64 0, .slice none 0 0], 5, 72⟩),
  (38, ⟨.slice 87, [.slice none 0 0], 1, 24⟩),
  (40, ⟨.struct [(0, 3), (1, 3), (2, 38)], [.int .i64 0, .int .i64 0, .slice none 0 0], 3, 40⟩),
  (51, ⟨.struct [(0, 3), (1, 3)], [.int .i64 0, .int .i64 0], 2, 16⟩),
  (53, ⟨.struct [(0, 3), (1, 3), (2, 51), (4, 51), (6, 3)], [.int .i64 0, .int .i64 0, .int .i64 0, .int .i64 0, .int .i64 0, .int .i64 0, .int .i64 0], 7, 56⟩),
  (54, ⟨.slice 57, [.slice none 0 0], 1, 24⟩),
  (57, ⟨.slice 51, [.slice none 0 0], 1, 24⟩),
  (64, ⟨.struct [(0, 3), (1, 3), (2, 3)], [.int .i64 0, .int .i64 0, .int .i64 0], 3, 24⟩),
  (87, ⟨.struct [(0, 3), (1, 51), (3, 3)], [.int .i64 0, .int .i64 0, .int .i64 0, .int .i64 0], 4, 32⟩),
  (100, ⟨.func, [.nilFunc], 1, 8⟩),
  (103, ⟨.array 7 3, [.int .i64 0, .int .i64 0, .int .i64 0, .int .i64 0, .int .i64 0, .int .i64 0, .int .i64 0], 7, 56⟩),
  (104, ⟨.array 4 3, [.int .i64 0, .int .i64 0, .int .i64 0, .int .i64 0], 4, 32⟩),
  (107, ⟨.map 3 128, [.map none], 1, 8⟩),
  (109, ⟨.func, [.nilFunc], 1, 8⟩),
  (113, ⟨.slice 27, [.slice none 0 0], 1, 24⟩),
  (117, ⟨.func, [.nilFunc], 1, 8⟩),
  (128, ⟨.struct [(0, 3), (1, 3)], [.int .i64 0, .int .i64 0], 2, 16⟩),
  (134, ⟨.func, [.nilFunc], 1, 8⟩),
  (135, ⟨.func, [.nilFunc], 1, 8⟩),
  (148, ⟨.int .u64, [.int .u64 0], 1, 8⟩),
  (152, ⟨.int .u32, [.int .u32 0], 1, 4⟩),
  (155, ⟨.int .u64, [.int .u64 0], 1, 8⟩)]
theorem Γ_ok : mkTys Try.prog tids = some Γ := by kernel_rfl
theorem env : Env Try.prog Γ := ⟨mkTys_sound Γ_ok, by decide +kernel, by kernel_rfl⟩

theorem c_gasolierlaw03_example  : Ctr Try.prog 66 [] (.agg [.int .i64 ((gasolierlaw03_example).Places), roL 7 enc_Way ((gasolierlaw03_example).Ways)]) := by
  obtain ⟨r, H⟩ : ∃ r, gasolierlaw03_example = r := ⟨_, rfl⟩
  rw [H]
  unfold gasolierlaw03_example at H
  refine Ctr.of_body (N := 20) Try.func66 (by kernel_rfl) (c := _) rfl Try.ntmps66 rfl (fun w0 h0 hval => ?_)
  refine W.seq ?_
  refine W.region env [] [] rfl rfl rfl .nil .nil (At.keep (ts := [0]) (ids := [0]) rfl rfl ?_)
  refine At.thenC ?_
  refine W.seq ?_
  refine W.region env [] [] rfl rfl rfl .nil .nil (At.keep (ts := [0, 1]) (ids := [0, 1]) rfl rfl ?_)
  refine At.thenC ?_
  refine W.seq ?_
  refine W.region env [] [] rfl rfl rfl .nil .nil (At.keep (ts := [0]) (ids := [0]) rfl rfl ?_)
  refine At.thenC ?_
  refine W.ret ?_
  cases H
  exact At.ret env.ty rfl rfl (fun q hq => by cases hq) (Sim.aggL (.cons (.refl _) (.cons (Sim.lit (f := enc_Way) ([(⟨0, 1, (⟨5, 8⟩ : Range), (⟨0, 1439⟩ : Range), 0⟩ : Way), (⟨1, 0, (⟨5, 8⟩ : Range), (⟨0, 1439⟩ : Range), 0⟩ : Way), (⟨1, 2, (⟨3, 4⟩ : Range), (⟨300, 320⟩ : Range), 0⟩ : Way), (⟨1, 2, (⟨10, 10⟩ : Range), (⟨0, 600⟩ : Range), 15⟩ : Way), (⟨2, 3, (⟨2, 20⟩ : Range), (⟨0, 1439⟩ : Range), 0⟩ : Way)] : List Way) rfl rfl (fun _ => rfl)) .nil))) hval

theorem c_round_within (p0 : Int) (p1 : Int) (p2 : Int) : Ctr Try.prog 96 [.int .i64 (p0), .int .i64 (p1), .int .i64 (p2)] (.bool ((round_within p0 p1 p2))) := by
  obtain ⟨r, H⟩ : ∃ r, round_within p0 p1 p2 = r := ⟨_, rfl⟩
  rw [H]
  unfold round_within at H
  refine Ctr.of_body (N := 15) Try.func96 (by kernel_rfl) (c := _) rfl Try.ntmps96 rfl (fun w0 h0 hval => ?_)
  refine W.seq ?_
  refine W.region env [] [] rfl rfl rfl .nil .nil (At.keep (ts := [0, 1, 2]) (ids := []) rfl rfl ?_)
  refine At.thenC ?_
  refine W.seq ?_
  refine W.region env [] [] rfl rfl rfl (.cons (fun h => h) (.cons (fun h => h) (.cons (fun h => h) .nil))) .nil (At.keep (ts := [6]) (ids := []) rfl rfl ?_)
  refine At.thenC ?_
  refine W.ret ?_
  cases H
  exact At.ret env.ty rfl rfl (fun q hq => by cases hq) (.refl _) hval

theorem c_slices_IndexFunc_Way (p0 : (List Way)) (p1 : Way → Option Bool) (p1_g : Nat) (p1_a p1_b : List AV) (p1_h : ∀ x0 r, p1 x0 = some r → Ctr Try.prog p1_g (p1_a ++ ([.agg [.int .i64 (x0.From), .int .i64 (x0.To), .int .i64 (x0.Takes.Lo), .int .i64 (x0.Takes.Hi), .int .i64 (x0.Open.Lo), .int .i64 (x0.Open.Hi), .int .i64 (x0.Every)]] ++ p1_b)) (.bool (r))) {r : Int} (H : slices_IndexFunc_Way p0 p1 = some r) : Ctr Try.prog 123 [roL 7 enc_Way p0, .clo (.func p1_g) p1_a p1_b] (.int .i64 (r)) := by
  unfold slices_IndexFunc_Way at H
  refine Ctr.of_body (N := 19) Try.func123 (by kernel_rfl) (c := _) rfl Try.ntmps123 rfl (fun w0 h0 hval => ?_)
  refine W.seq ?_
  refine W.region env [] [] rfl rfl rfl .nil .nil (At.keep (ts := [0, 1]) (ids := []) rfl rfl ?_)
  refine At.thenC ?_
  refine W.seq ?_
  refine W.seq ?_
  refine W.region env [] [] rfl rfl rfl .nil .nil (At.keep (ts := [0, 1, 7, 8]) (ids := []) rfl rfl ?_)
  refine At.thenC ?_
  refine W.block ?_
  refine At.keep (ts := [0, 1, 7, 8]) (ids := []) rfl rfl ?_
  refine W.len (t := 0) rfl (fun hn1 => ?_)
  refine W.rangeGo H (fun i1 (s1 : Unit) => [(0, roL 7 enc_Way p0), (1, .clo (.func p1_g) p1_a p1_b), (7, .int .i64 (((p0.length : Nat) : Int))), (8, .int .i64 ((i1 : Int)))]) (fun i1 (s1 : Unit) => []) (.cons (.of_eq (by first | rfl | (simp; done) | omega | (simp; omega))) (.cons (.of_eq (by first | rfl | (simp; done) | omega | (simp; omega))) (.cons (.of_eq (by first | rfl | (simp; done) | omega | (simp; omega))) (.cons (.of_eq (by first | rfl | (simp; done) | omega | (simp; omega))) .nil)))) .nil (fun k1 i1 s1 hle1 H1 H2 K0 hK1 => ?_)
  refine W.seq ?_
  refine W.region env [] [] rfl rfl rfl .nil .nil (At.keep (ts := [0, 1, 7, 8, 9]) (ids := []) rfl rfl ?_)
  refine At.thenC ?_
  refine W.seq ?_
  refine W.cond rfl (fun hb2 => ?_) (fun hb2 => ?_)
  · have hi1 : i1 < p0.length := by have := of_decide_eq_true hb2; omega
    have H := H1 hi1
    refine W.skip ?_
    refine At.thenC ?_
    refine W.seq ?_
    refine W.block ?_
    refine W.seq ?_
    refine W.region env [] [] rfl rfl rfl .nil .nil (At.keep (ts := [0, 1, 5, 7, 8]) (ids := []) rfl rfl ?_)
    refine At.thenC ?_
    refine W.seq ?_
    obtain ⟨y3, hy4, H⟩ := of_bindO H
    refine W.region env [] [⟨.bool (y3), [], 0, []⟩] rfl rfl rfl (.cons (⟨by omega, by omega⟩ : 0 ≤ (i1 : Int) ∧ (i1 : Int) < ((p0.length : Nat) : Int)) .nil) (.free (p1_h (p0.getD i1 default) _ hy4) .nil) (At.keep (ts := [0, 1, 5, 7, 8, 16]) (ids := []) rfl rfl ?_)
    refine At.thenC ?_
    refine W.cond rfl (fun hb5 => ?_) (fun hb5 => ?_)
    · have H := of_true H hb5
      refine W.seq ?_
      refine W.region env [] [] rfl rfl rfl .nil .nil (At.keep (ts := [4]) (ids := []) rfl rfl ?_)
      refine At.thenC ?_
      refine W.ret ?_
      refine At.rinb ?_
      refine At.rthen ?_
      refine At.rthen ?_
      refine At.rinb ?_
      refine At.rthen ?_
      cases H
      exact At.ret env.ty rfl rfl (fun q hq => by cases hq) (.refl _) hval
    · have H := of_false H hb5
      refine W.skip ?_
      refine At.inb ?_
      refine At.thenC ?_
      refine W.region env [] [] rfl rfl rfl (.cons (by unfold inI; have := hn1; (try unfold maxLen at this); omega) .nil) .nil (At.keep (ts := [0, 1, 7, 8]) (ids := []) rfl rfl ?_)
      refine At.thenK (At.keep (ts := [0, 1, 7, 8]) (ids := []) rfl rfl ?_)
      exact At.conv (.cons (.of_eq (by first | rfl | (simp; done) | omega | (simp; omega))) (.cons (.of_eq (by first | rfl | (simp; done) | omega | (simp; omega))) (.cons (.of_eq (by first | rfl | (simp; done) | omega | (simp; omega))) (.cons (.of_eq (by first | rfl | (simp; done) | omega | (simp; omega))) .nil)))) .nil (hK1 hi1 () H)
  · have H := H2 (by have := of_decide_eq_false hb2; omega)
    refine W.exit ?_
    refine At.xthen ?_
    refine At.xthen ?_
    refine At.xhere ?_
    refine At.thenC ?_
    refine W.seq ?_
    refine W.region env [] [] rfl rfl rfl .nil .nil (At.keep (ts := [4]) (ids := []) rfl rfl ?_)
    refine At.thenC ?_
    refine W.ret ?_
    cases H
    exact At.ret env.ty rfl rfl (fun q hq => by cases hq) (.refl _) hval

theorem c_slices_ContainsFunc_Way (p0 : (List Way)) (p1 : Way → Option Bool) (p1_g : Nat) (p1_a p1_b : List AV) (p1_h : ∀ x0 r, p1 x0 = some r → Ctr Try.prog p1_g (p1_a ++ ([.agg [.int .i64 (x0.From), .int .i64 (x0.To), .int .i64 (x0.Takes.Lo), .int .i64 (x0.Takes.Hi), .int .i64 (x0.Open.Lo), .int .i64 (x0.Open.Hi), .int .i64 (x0.Every)]] ++ p1_b)) (.bool (r))) {r : Bool} (H : slices_ContainsFunc_Way p0 p1 = some r) : Ctr Try.prog 107 [roL 7 enc_Way p0, .clo (.func p1_g) p1_a p1_b] (.bool (r)) := by
  unfold slices_ContainsFunc_Way at H
  refine Ctr.of_body (N := 9) Try.func107 (by kernel_rfl) (c := _) rfl Try.ntmps107 rfl (fun w0 h0 hval => ?_)
  refine W.seq ?_
  refine W.region env [] [] rfl rfl rfl .nil .nil (At.keep (ts := [0, 1]) (ids := []) rfl rfl ?_)
  refine At.thenC ?_
  refine W.seq ?_
  obtain ⟨y1, hy2, H⟩ := of_bindO H
  refine W.region env [] [⟨.int .i64 (y1), [], 0, []⟩] rfl rfl rfl .nil (.free (c_slices_IndexFunc_Way p0 p1 p1_g p1_a p1_b p1_h hy2) .nil) (At.keep (ts := [4]) (ids := []) rfl rfl ?_)
  refine At.thenC ?_
  refine W.ret ?_
  cases H
  exact At.ret env.ty rfl rfl (fun q hq => by cases hq) (.refl _) hval

theorem c_round_isSpan (p0 : Range) (p1 : Int) (p2 : Int) : Ctr Try.prog 122 [.agg [.int .i64 (p0.Lo), .int .i64 (p0.Hi)], .int .i64 (p1), .int .i64 (p2)] (.bool ((round_isSpan p0 p1 p2))) := by
  obtain ⟨r, H⟩ : ∃ r, round_isSpan p0 p1 p2 = r := ⟨_, rfl⟩
  rw [H]
  unfold round_isSpan at H
  refine Ctr.of_body (N := 24) Try.func122 (by kernel_rfl) (c := _) rfl Try.ntmps122 rfl (fun w0 h0 hval => ?_)
  refine W.seq ?_
  refine W.region env [] [] rfl rfl rfl .nil .nil (At.keep (ts := [1, 2, 3]) (ids := [3]) rfl rfl ?_)
  refine At.thenC ?_
  refine W.seq ?_
  refine W.region env [] [] rfl rfl rfl (.cons (fun h => h) (.cons (fun h => h) (.cons (fun h => h) (.cons (fun h => h) (.cons (fun h => h) (.cons (fun h => h) (.cons (fun h => h) (.cons (fun h => h) (.cons (fun h => h) .nil))))))))) .nil (At.keep (ts := [6]) (ids := []) rfl rfl ?_)
  refine At.thenC ?_
  refine W.ret ?_
  cases H
  exact At.ret env.ty rfl rfl (fun q hq => by cases hq) (.refl _) hval

theorem c_round_isWay (p0 : Way) : Ctr Try.prog 105 [.agg [.int .i64 (p0.From), .int .i64 (p0.To), .int .i64 (p0.Takes.Lo), .int .i64 (p0.Takes.Hi), .int .i64 (p0.Open.Lo), .int .i64 (p0.Open.Hi), .int .i64 (p0.Every)]] (.bool ((round_isWay p0))) := by
  obtain ⟨r, H⟩ : ∃ r, round_isWay p0 = r := ⟨_, rfl⟩
  rw [H]
  unfold round_isWay at H
  refine Ctr.of_body (N := 33) Try.func105 (by kernel_rfl) (c := _) rfl Try.ntmps105 rfl (fun w0 h0 hval => ?_)
  refine W.seq ?_
  refine W.region env [] [] rfl rfl rfl .nil .nil (At.keep (ts := [1]) (ids := [1]) rfl rfl ?_)
  refine At.thenC ?_
  refine W.seq ?_
  refine W.region env [] [⟨.bool ((round_within p0.From 0 11)), [], 0, []⟩, ⟨.bool ((round_within p0.To 0 11)), [], 0, []⟩, ⟨.bool ((round_isSpan p0.Takes 1 600)), [], 0, []⟩, ⟨.bool ((round_isSpan p0.Open 0 1439)), [], 0, []⟩, ⟨.bool ((round_within p0.Every 0 600)), [], 0, []⟩] rfl rfl rfl (.cons (fun h => h) (.cons (fun h => h) (.cons (fun h => h) (.cons (fun h => h) (.cons (fun h => h) (.cons (fun h => h) (.cons (fun h => h) (.cons (fun h => h) (.cons (fun h => h) (.cons (fun h => h) (.cons (fun h => h) (.cons (fun h => h) (.cons (fun h => h) (.cons (fun h => h) (.cons (fun h => h) (.cons (fun h => h) (.cons (fun h => h) .nil))))))))))))))))) (.free (c_round_within p0.From 0 11) (.on (fun hW => c_round_within p0.To 0 11) (.on (fun hW => c_round_isSpan p0.Takes 1 600) (.on (fun hW => c_round_isSpan p0.Open 0 1439) (.on (fun hW => c_round_within p0.Every 0 600) .nil))))) (At.keep (ts := [2]) (ids := []) rfl rfl ?_)
  refine At.thenC ?_
  refine W.ret ?_
  cases H
  exact At.ret env.ty rfl rfl (fun q hq => by cases hq) (.refl _) hval

theorem c_round_joins (p0 : Chart) (p1 : Way) : Ctr Try.prog 101 [.agg [.int .i64 (p0.Places), roL 7 enc_Way p0.Ways], .agg [.int .i64 (p1.From), .int .i64 (p1.To), .int .i64 (p1.Takes.Lo), .int .i64 (p1.Takes.Hi), .int .i64 (p1.Open.Lo), .int .i64 (p1.Open.Hi), .int .i64 (p1.Every)]] (.bool ((round_joins p0 p1))) := by
  obtain ⟨r, H⟩ : ∃ r, round_joins p0 p1 = r := ⟨_, rfl⟩
  rw [H]
  unfold round_joins at H
  refine Ctr.of_body (N := 21) Try.func101 (by kernel_rfl) (c := _) rfl Try.ntmps101 rfl (fun w0 h0 hval => ?_)
  refine W.seq ?_
  refine W.region env [] [] rfl rfl rfl .nil .nil (At.keep (ts := [2, 3]) (ids := [2, 3]) rfl rfl ?_)
  refine At.thenC ?_
  refine W.seq ?_
  refine W.region env [] [⟨.bool ((round_isWay p1)), [], 0, []⟩] rfl rfl rfl (.cons (fun h => h) (.cons (fun h => h) (.cons (fun h => h) (.cons (fun h => h) (.cons (fun h => h) (.cons (fun h => h) (.cons (fun h => h) (.cons (fun h => h) (.cons (fun h => h) (.cons (fun h => h) .nil)))))))))) (.free (c_round_isWay p1) .nil) (At.keep (ts := [4]) (ids := []) rfl rfl ?_)
  refine At.thenC ?_
  refine W.ret ?_
  cases H
  exact At.ret env.ty rfl rfl (fun q hq => by cases hq) (.refl _) hval

theorem c_round_Check_1 (p0 : Way) (c0 : Chart) : Ctr Try.prog 108 [.agg [.int .i64 (p0.From), .int .i64 (p0.To), .int .i64 (p0.Takes.Lo), .int .i64 (p0.Takes.Hi), .int .i64 (p0.Open.Lo), .int .i64 (p0.Open.Hi), .int .i64 (p0.Every)], .rp [.int .i64 (c0.Places), roL 7 enc_Way c0.Ways]] (.bool ((round_Check_1 p0 c0))) := by
  obtain ⟨r, H⟩ : ∃ r, round_Check_1 p0 c0 = r := ⟨_, rfl⟩
  rw [H]
  unfold round_Check_1 at H
  refine Ctr.of_body (N := 8) Try.func108 (by kernel_rfl) (c := _) rfl Try.ntmps108 rfl (fun w0 h0 hval => ?_)
  refine W.seq ?_
  refine W.region env [] [] rfl rfl rfl .nil .nil (At.keep (ts := [1, 2]) (ids := [2]) rfl rfl ?_)
  refine At.thenC ?_
  refine W.seq ?_
  refine W.region env [] [⟨.bool ((round_joins c0 p0)), [], 0, []⟩] rfl rfl rfl .nil (.free (c_round_joins c0 p0) .nil) (At.keep (ts := [3]) (ids := []) rfl rfl ?_)
  refine At.thenC ?_
  refine W.ret ?_
  cases H
  exact At.ret env.ty rfl rfl (fun q hq => by cases hq) (.refl _) hval

theorem c_round_Check (p0 : Chart) {r : Int} (H : round_Check p0 = some r) : Ctr Try.prog 64 [.agg [.int .i64 (p0.Places), roL 7 enc_Way p0.Ways]] (.int .i64 (r)) := by
  unfold round_Check at H
  refine Ctr.of_body (N := 19) Try.func64 (by kernel_rfl) (c := _) rfl Try.ntmps64 rfl (fun w0 h0 hval => ?_)
  refine W.seq ?_
  refine W.region env [] [] rfl rfl rfl .nil .nil (At.keep (ts := [1]) (ids := [1]) rfl rfl ?_)
  refine At.thenC ?_
  refine W.seq ?_
  refine W.seq ?_
  obtain ⟨y1, hy2, H⟩ := of_bindO H
  refine W.region env [] [⟨.bool ((round_within p0.Places 1 12)), [], 0, []⟩, ⟨.bool (y1), [], 0, []⟩] rfl rfl rfl (.cons (fun h => h) (.cons (fun h => h) (.cons (fun h => h) (.cons (fun h => by rw [h]; rfl) (.cons (fun h => h) (.cons (fun h => h) (.cons (fun h => h) (.cons (fun h => by rw [h]; rfl) .nil)))))))) (.free (c_round_within p0.Places 1 12) (.on (fun hW => c_slices_ContainsFunc_Way p0.Ways (fun x0 => some (round_Check_1 x0 p0)) 108 [] ([.rp [.int .i64 (p0.Places), roL 7 enc_Way p0.Ways]]) (fun x0 r h => by cases h; exact c_round_Check_1 x0 p0) (of_true hy2 hW)) .nil)) (At.keep (ts := [18]) (ids := []) rfl rfl ?_)
  refine At.thenC ?_
  refine W.cond rfl (fun hb3 => ?_) (fun hb3 => ?_)
  · have H := of_true H hb3
    refine W.seq ?_
    refine W.region env [] [] rfl rfl rfl .nil .nil (At.keep (ts := [2]) (ids := []) rfl rfl ?_)
    refine At.thenC ?_
    refine W.ret ?_
    refine At.rthen ?_
    cases H
    exact At.ret env.ty rfl rfl (fun q hq => by cases hq) (.refl _) hval
  · have H := of_false H hb3
    refine W.skip ?_
    refine At.thenC ?_
    refine W.seq ?_
    refine W.region env [] [] rfl rfl rfl .nil .nil (At.keep (ts := [2]) (ids := []) rfl rfl ?_)
    refine At.thenC ?_
    refine W.ret ?_
    cases H
    exact At.ret env.ty rfl rfl (fun q hq => by cases hq) (.refl _) hval

theorem c_round_isMinute (p0 : Int) : Ctr Try.prog 87 [.int .i64 (p0)] (.bool ((round_isMinute p0))) := by
  obtain ⟨r, H⟩ : ∃ r, round_isMinute p0 = r := ⟨_, rfl⟩
  rw [H]
  unfold round_isMinute at H
  refine Ctr.of_body (N := 5) Try.func87 (by kernel_rfl) (c := _) rfl Try.ntmps87 rfl (fun w0 h0 hval => ?_)
  refine W.seq ?_
  refine W.region env [] [] rfl rfl rfl .nil .nil (At.keep (ts := [0]) (ids := []) rfl rfl ?_)
  refine At.thenC ?_
  refine W.seq ?_
  refine W.region env [] [⟨.bool ((round_within p0 0 1439)), [], 0, []⟩] rfl rfl rfl .nil (.free (c_round_within p0 0 1439) .nil) (At.keep (ts := [2]) (ids := []) rfl rfl ?_)
  refine At.thenC ?_
  refine W.ret ?_
  cases H
  exact At.ret env.ty rfl rfl (fun q hq => by cases hq) (.refl _) hval

theorem c_slices_IndexFunc_int (p0 : (List Int)) (p1 : Int → Option Bool) (p1_g : Nat) (p1_a p1_b : List AV) (p1_h : ∀ x0 r, p1 x0 = some r → Ctr Try.prog p1_g (p1_a ++ ([.int .i64 (x0)] ++ p1_b)) (.bool (r))) {r : Int} (H : slices_IndexFunc_int p0 p1 = some r) : Ctr Try.prog 120 [roL 1 enc_Int p0, .clo (.func p1_g) p1_a p1_b] (.int .i64 (r)) := by
  unfold slices_IndexFunc_int at H
  refine Ctr.of_body (N := 19) Try.func120 (by kernel_rfl) (c := _) rfl Try.ntmps120 rfl (fun w0 h0 hval => ?_)
  refine W.seq ?_
  refine W.region env [] [] rfl rfl rfl .nil .nil (At.keep (ts := [0, 1]) (ids := []) rfl rfl ?_)
  refine At.thenC ?_
  refine W.seq ?_
  refine W.seq ?_
  refine W.region env [] [] rfl rfl rfl .nil .nil (At.keep (ts := [0, 1, 7, 8]) (ids := []) rfl rfl ?_)
  refine At.thenC ?_
  refine W.block ?_
  refine At.keep (ts := [0, 1, 7, 8]) (ids := []) rfl rfl ?_
  refine W.len (t := 0) rfl (fun hn1 => ?_)
  refine W.rangeGo H (fun i1 (s1 : Unit) => [(0, roL 1 enc_Int p0), (1, .clo (.func p1_g) p1_a p1_b), (7, .int .i64 (((p0.length : Nat) : Int))), (8, .int .i64 ((i1 : Int)))]) (fun i1 (s1 : Unit) => []) (.cons (.of_eq (by first | rfl | (simp; done) | omega | (simp; omega))) (.cons (.of_eq (by first | rfl | (simp; done) | omega | (simp; omega))) (.cons (.of_eq (by first | rfl | (simp; done) | omega | (simp; omega))) (.cons (.of_eq (by first | rfl | (simp; done) | omega | (simp; omega))) .nil)))) .nil (fun k1 i1 s1 hle1 H1 H2 K0 hK1 => ?_)
  refine W.seq ?_
  refine W.region env [] [] rfl rfl rfl .nil .nil (At.keep (ts := [0, 1, 7, 8, 9]) (ids := []) rfl rfl ?_)
  refine At.thenC ?_
  refine W.seq ?_
  refine W.cond rfl (fun hb2 => ?_) (fun hb2 => ?_)
  · have hi1 : i1 < p0.length := by have := of_decide_eq_true hb2; omega
    have H := H1 hi1
    refine W.skip ?_
    refine At.thenC ?_
    refine W.seq ?_
    refine W.block ?_
    refine W.seq ?_
    refine W.region env [] [] rfl rfl rfl .nil .nil (At.keep (ts := [0, 1, 5, 7, 8]) (ids := []) rfl rfl ?_)
    refine At.thenC ?_
    refine W.seq ?_
    obtain ⟨y3, hy4, H⟩ := of_bindO H
    refine W.region env [] [⟨.bool (y3), [], 0, []⟩] rfl rfl rfl (.cons (⟨by omega, by omega⟩ : 0 ≤ (i1 : Int) ∧ (i1 : Int) < ((p0.length : Nat) : Int)) .nil) (.free (p1_h (p0.getD i1 default) _ hy4) .nil) (At.keep (ts := [0, 1, 5, 7, 8, 16]) (ids := []) rfl rfl ?_)
    refine At.thenC ?_
    refine W.cond rfl (fun hb5 => ?_) (fun hb5 => ?_)
    · have H := of_true H hb5
      refine W.seq ?_
      refine W.region env [] [] rfl rfl rfl .nil .nil (At.keep (ts := [4]) (ids := []) rfl rfl ?_)
      refine At.thenC ?_
      refine W.ret ?_
      refine At.rinb ?_
      refine At.rthen ?_
      refine At.rthen ?_
      refine At.rinb ?_
      refine At.rthen ?_
      cases H
      exact At.ret env.ty rfl rfl (fun q hq => by cases hq) (.refl _) hval
    · have H := of_false H hb5
      refine W.skip ?_
      refine At.inb ?_
      refine At.thenC ?_
      refine W.region env [] [] rfl rfl rfl (.cons (by unfold inI; have := hn1; (try unfold maxLen at this); omega) .nil) .nil (At.keep (ts := [0, 1, 7, 8]) (ids := []) rfl rfl ?_)
      refine At.thenK (At.keep (ts := [0, 1, 7, 8]) (ids := []) rfl rfl ?_)
      exact At.conv (.cons (.of_eq (by first | rfl | (simp; done) | omega | (simp; omega))) (.cons (.of_eq (by first | rfl | (simp; done) | omega | (simp; omega))) (.cons (.of_eq (by first | rfl | (simp; done) | omega | (simp; omega))) (.cons (.of_eq (by first | rfl | (simp; done) | omega | (simp; omega))) .nil)))) .nil (hK1 hi1 () H)
  · have H := H2 (by have := of_decide_eq_false hb2; omega)
    refine W.exit ?_
    refine At.xthen ?_
    refine At.xthen ?_
    refine At.xhere ?_
    refine At.thenC ?_
    refine W.seq ?_
    refine W.region env [] [] rfl rfl rfl .nil .nil (At.keep (ts := [4]) (ids := []) rfl rfl ?_)
    refine At.thenC ?_
    refine W.ret ?_
    cases H
    exact At.ret env.ty rfl rfl (fun q hq => by cases hq) (.refl _) hval

theorem c_slices_ContainsFunc_int (p0 : (List Int)) (p1 : Int → Option Bool) (p1_g : Nat) (p1_a p1_b : List AV) (p1_h : ∀ x0 r, p1 x0 = some r → Ctr Try.prog p1_g (p1_a ++ ([.int .i64 (x0)] ++ p1_b)) (.bool (r))) {r : Bool} (H : slices_ContainsFunc_int p0 p1 = some r) : Ctr Try.prog 94 [roL 1 enc_Int p0, .clo (.func p1_g) p1_a p1_b] (.bool (r)) := by
  unfold slices_ContainsFunc_int at H
  refine Ctr.of_body (N := 9) Try.func94 (by kernel_rfl) (c := _) rfl Try.ntmps94 rfl (fun w0 h0 hval => ?_)
  refine W.seq ?_
  refine W.region env [] [] rfl rfl rfl .nil .nil (At.keep (ts := [0, 1]) (ids := []) rfl rfl ?_)
  refine At.thenC ?_
  refine W.seq ?_
  obtain ⟨y1, hy2, H⟩ := of_bindO H
  refine W.region env [] [⟨.int .i64 (y1), [], 0, []⟩] rfl rfl rfl .nil (.free (c_slices_IndexFunc_int p0 p1 p1_g p1_a p1_b p1_h hy2) .nil) (At.keep (ts := [4]) (ids := []) rfl rfl ?_)
  refine At.thenC ?_
  refine W.ret ?_
  cases H
  exact At.ret env.ty rfl rfl (fun q hq => by cases hq) (.refl _) hval

theorem c_round_placeOf_1 (p0 : Int) (c0 : Chart) {r : Bool} (H : round_placeOf_1 p0 c0 = some r) : Ctr Try.prog 114 [.int .i64 (p0), .rp [.int .i64 (c0.Places), roL 7 enc_Way c0.Ways]] (.bool (r)) := by
  unfold round_placeOf_1 at H
  refine Ctr.of_body (N := 10) Try.func114 (by kernel_rfl) (c := _) rfl Try.ntmps114 rfl (fun w0 h0 hval => ?_)
  refine W.seq ?_
  refine W.region env [] [] rfl rfl rfl .nil .nil (At.keep (ts := [0, 1]) (ids := []) rfl rfl ?_)
  refine At.thenC ?_
  refine W.seq ?_
  obtain ⟨hc1, H⟩ := of_must H
  refine W.region env [] [⟨.bool ((round_within p0 0 (c0.Places - 1))), [], 0, []⟩] rfl rfl rfl (.cons hc1 .nil) (.free (c_round_within p0 0 (c0.Places - 1)) .nil) (At.keep (ts := [3]) (ids := []) rfl rfl ?_)
  refine At.thenC ?_
  refine W.ret ?_
  cases H
  exact At.ret env.ty rfl rfl (fun q hq => by cases hq) (.refl _) hval

theorem c_round_placeOf (p0 : Chart) (p1 : Int) (p2 : (List Int)) {r : Int} (H : round_placeOf p0 p1 p2 = some r) : Ctr Try.prog 75 [.agg [.int .i64 (p0.Places), roL 7 enc_Way p0.Ways], .int .i64 (p1), roL 1 enc_Int p2] (.int .i64 (r)) := by
  unfold round_placeOf at H
  refine Ctr.of_body (N := 21) Try.func75 (by kernel_rfl) (c := _) rfl Try.ntmps75 rfl (fun w0 h0 hval => ?_)
  refine W.seq ?_
  refine W.region env [] [] rfl rfl rfl .nil .nil (At.keep (ts := [1, 2, 3]) (ids := [3]) rfl rfl ?_)
  refine At.thenC ?_
  refine W.seq ?_
  refine W.seq ?_
  obtain ⟨y1, hy2, H⟩ := of_bindO H
  refine W.region env [] [⟨.int .i64 (y1), [], 0, []⟩] rfl rfl rfl .nil (.free (c_round_Check p0 hy2) .nil) (At.keep (ts := [1, 2, 3, 7]) (ids := [3]) rfl rfl ?_)
  refine At.thenC ?_
  refine W.seq ?_
  refine W.region env [] [] rfl rfl rfl .nil .nil (At.keep (ts := [1, 2, 3, 7, 11]) (ids := [3]) rfl rfl ?_)
  refine At.thenC ?_
  refine W.cond rfl (fun hb3 => ?_) (fun hb3 => ?_)
  · have H := of_true H hb3
    refine W.seq ?_
    refine W.region env [] [] rfl rfl rfl .nil .nil (At.keep (ts := [6]) (ids := []) rfl rfl ?_)
    refine At.thenC ?_
    refine W.ret ?_
    refine At.rthen ?_
    cases H
    exact At.ret env.ty rfl rfl (fun q hq => by cases hq) (.refl _) hval
  · have H := of_false H hb3
    refine W.skip ?_
    refine At.thenC ?_
    refine W.seq ?_
    refine W.seq ?_
    obtain ⟨y4, hy5, H⟩ := of_bindO H
    refine W.region env [] [⟨.bool ((round_isMinute p1)), [], 0, []⟩, ⟨.bool (y4), [], 0, []⟩] rfl rfl rfl (.cons (fun h => h) (.cons (fun h => h) (.cons (fun h => by rw [h]; rfl) .nil))) (.free (c_round_isMinute p1) (.on (fun hW => c_slices_ContainsFunc_int p2 (fun x0 => round_placeOf_1 x0 p0) 114 [] ([.rp [.int .i64 (p0.Places), roL 7 enc_Way p0.Ways]]) (fun x0 r h => c_round_placeOf_1 x0 p0 h) (of_true hy5 hW)) .nil)) (At.keep (ts := [20]) (ids := []) rfl rfl ?_)
    refine At.thenC ?_
    refine W.cond rfl (fun hb6 => ?_) (fun hb6 => ?_)
    · have H := of_true H hb6
      refine W.seq ?_
      refine W.region env [] [] rfl rfl rfl .nil .nil (At.keep (ts := [6]) (ids := []) rfl rfl ?_)
      refine At.thenC ?_
      refine W.ret ?_
      refine At.rthen ?_
      cases H
      exact At.ret env.ty rfl rfl (fun q hq => by cases hq) (.refl _) hval
    · have H := of_false H hb6
      refine W.skip ?_
      refine At.thenC ?_
      refine W.seq ?_
      refine W.region env [] [] rfl rfl rfl .nil .nil (At.keep (ts := [6]) (ids := []) rfl rfl ?_)
      refine At.thenC ?_
      refine W.ret ?_
      cases H
      exact At.ret env.ty rfl rfl (fun q hq => by cases hq) (.refl _) hval

theorem c_round_most (p0 : Chart) : Ctr Try.prog 78 [.agg [.int .i64 (p0.Places), roL 7 enc_Way p0.Ways]] (.clo (.func 115) [] [.rp [.int .i64 (p0.Places), roL 7 enc_Way p0.Ways]]) := by
  refine Ctr.of_body (N := 4) Try.func78 (by kernel_rfl) (c := _) rfl Try.ntmps78 rfl (fun w0 h0 hval => ?_)
  refine W.seq ?_
  refine W.region env [] [] rfl rfl rfl .nil .nil (At.keep (ts := [1]) (ids := [1]) rfl rfl ?_)
  refine At.thenC ?_
  refine W.seq ?_
  refine W.region env [] [] rfl rfl rfl .nil .nil (At.keep (ts := [2]) (ids := [1]) rfl rfl ?_)
  refine At.thenC ?_
  refine W.ret ?_
  exact At.ret env.ty rfl rfl (fun q hq => by cases hq) (.refl _) hval

theorem c_round_from (p0 : Chart) (p1 : Int) (p2 : Int) (p3 : Int → Option Int) (p3_g : Nat) (p3_a p3_b : List AV) (p3_h : ∀ x0 r, p3 x0 = some r → Ctr Try.prog p3_g (p3_a ++ ([.int .i64 (x0)] ++ p3_b)) (.int .i64 (r))) : Ctr Try.prog 97 [.agg [.int .i64 (p0.Places), roL 7 enc_Way p0.Ways], .int .i64 (p1), .int .i64 (p2), .clo (.func p3_g) p3_a p3_b] (.clo (.func 121) [] [.rp [.int .i64 (p0.Places), roL 7 enc_Way p0.Ways], .rp [.int .i64 (p1)], .rp [.int .i64 (p2)], .rp [.clo (.func p3_g) p3_a p3_b]]) := by
  refine Ctr.of_body (N := 10) Try.func97 (by kernel_rfl) (c := _) rfl Try.ntmps97 rfl (fun w0 h0 hval => ?_)
  refine W.seq ?_
  refine W.region env [] [] rfl rfl rfl .nil .nil (At.keep (ts := [4, 5, 6, 7]) (ids := [4, 5, 6, 7]) rfl rfl ?_)
  refine At.thenC ?_
  refine W.seq ?_
  refine W.region env [] [] rfl rfl rfl .nil .nil (At.keep (ts := [8]) (ids := [4, 5, 6, 7]) rfl rfl ?_)
  refine At.thenC ?_
  refine W.ret ?_
  exact At.ret env.ty rfl rfl (fun q hq => by cases hq) (.refl _) hval

theorem c_round_leave (p0 : Way) (p1 : Int) {r : (Int × Bool)} (H : round_leave p0 p1 = some r) : Ctr Try.prog 88 [.agg [.int .i64 (p0.From), .int .i64 (p0.To), .int .i64 (p0.Takes.Lo), .int .i64 (p0.Takes.Hi), .int .i64 (p0.Open.Lo), .int .i64 (p0.Open.Hi), .int .i64 (p0.Every)], .int .i64 (p1)] (.tup [.int .i64 (r.1), .bool (r.2)]) := by
  unfold round_leave at H
  refine Ctr.of_body (N := 42) Try.func88 (by kernel_rfl) (c := _) rfl Try.ntmps88 rfl (fun w0 h0 hval => ?_)
  refine W.seq ?_
  refine W.region env [] [] rfl rfl rfl .nil .nil (At.keep (ts := [1, 2]) (ids := [2]) rfl rfl ?_)
  refine At.thenC ?_
  refine W.seq ?_
  refine W.region env [] [] rfl rfl rfl .nil .nil (At.keep (ts := [2, 6]) (ids := [2]) rfl rfl ?_)
  refine At.thenC ?_
  refine W.seq ?_
  refine W.seq ?_
  refine W.region env [] [] rfl rfl rfl .nil .nil (At.keep (ts := [2, 6, 15]) (ids := [2]) rfl rfl ?_)
  refine At.thenC ?_
  refine W.joinC H (fun (s1 : Int) => [(2, .lp 2 0), (6, .int .i64 (s1))]) (fun (s1 : Int) => [(2, .cells [.int .i64 (p0.From), .int .i64 (p0.To), .int .i64 (p0.Takes.Lo), .int .i64 (p0.Takes.Hi), .int .i64 (p0.Open.Lo), .int .i64 (p0.Open.Hi), .int .i64 (p0.Every)])]) (fun s1 H => ?_) (fun k1 H hK1 => ?_)
  · refine W.seq ?_
    refine W.region env [] [] rfl rfl rfl .nil .nil (At.keep (ts := [4, 5]) (ids := []) rfl rfl ?_)
    refine At.thenC ?_
    refine W.ret ?_
    cases H
    exact At.ret env.ty rfl rfl (fun q hq => by cases hq) (.refl _) hval
  · refine W.cond rfl (fun hb2 => ?_) (fun hb2 => ?_)
    · have H := of_true H hb2
      refine W.seq ?_
      obtain ⟨hc3, H⟩ := of_must H
      refine W.region env [] [] rfl rfl rfl (.cons hc3 .nil) .nil (At.keep (ts := [2, 7]) (ids := [2]) rfl rfl ?_)
      refine At.thenC ?_
      obtain ⟨hc4, H⟩ := of_must H
      obtain ⟨hc5, H⟩ := of_must H
      obtain ⟨hc6, H⟩ := of_must H
      obtain ⟨hc7, H⟩ := of_must H
      obtain ⟨hc8, H⟩ := of_must H
      refine W.region env [] [] rfl rfl rfl (.cons hc4 (.cons hc5 (.cons hc6 (.cons hc7 (.cons hc8 .nil))))) .nil (At.keep (ts := [2, 6]) (ids := [2]) rfl rfl ?_)
      refine At.thenK (At.keep (ts := [2, 6]) (ids := [2]) rfl rfl ?_)
      exact At.conv (.cons (.of_eq (by first | rfl | (simp; done) | omega | (simp; omega))) (.cons (.of_eq (by first | rfl | (simp; done) | omega | (simp; omega))) .nil)) (.cons (.of_eq (by first | rfl | (simp; done) | omega | (simp; omega))) .nil) (hK1 (p0.Open.Lo + ((Int.tdiv ((((max p1 p0.Open.Lo) - p0.Open.Lo) + p0.Every) - 1) p0.Every) * p0.Every)) H)
    · have H := of_false H hb2
      refine W.skip ?_
      refine At.thenK (At.keep (ts := [2, 6]) (ids := [2]) rfl rfl ?_)
      exact At.conv (.cons (.of_eq (by first | rfl | (simp; done) | omega | (simp; omega))) (.cons (.of_eq (by first | rfl | (simp; done) | omega | (simp; omega))) .nil)) (.cons (.of_eq (by first | rfl | (simp; done) | omega | (simp; omega))) .nil) (hK1 (max p1 p0.Open.Lo) H)

theorem c_round_from_1 (c0 : Chart) (c1 : Int) (c2 : Int) (c3 : Int → Option Int) (c3_g : Nat) (c3_a c3_b : List AV) (c3_h : ∀ x0 r, c3 x0 = some r → Ctr Try.prog c3_g (c3_a ++ ([.int .i64 (x0)] ++ c3_b)) (.int .i64 (r))) {r : List (Int × Int)} (H : round_from_1 c0 c1 c2 c3 = some r) : Iter Try.prog 121 [.rp [.int .i64 (c0.Places), roL 7 enc_Way c0.Ways], .rp [.int .i64 (c1)], .rp [.int .i64 (c2)], .rp [.clo (.func c3_g) c3_a c3_b]] (r.map (fun (x : Int × Int) => [.int .i64 (x.1), .int .i64 (x.2)])) := by
  unfold round_from_1 at H
  have hYl := Yl.start r
  skip
  refine Iter.of_body (N := 49) Try.func121 (by kernel_rfl) (c := _) rfl Try.ntmps121 rfl (fun w0 h0 lp J hJ hval hY => ?_)
  refine W.seq ?_
  refine W.region env [] [] rfl rfl rfl .nil .nil (At.keep (ts := [0, 2, 3, 4, 11, 12, 13]) (ids := []) rfl rfl ?_)
  refine At.thenC ?_
  refine W.block ?_
  refine At.keep (ts := [0, 2, 3, 4, 11, 12, 13]) (ids := []) rfl rfl ?_
  refine W.len (t := 11) rfl (fun hn1 => ?_)
  refine W.rangeGoI H hYl (fun i1 (s1 : Unit) => [(0, .fn (.yield lp) [] []), (2, .rp [.int .i64 (c1)]), (3, .rp [.int .i64 (c2)]), (4, .rp [.clo (.func c3_g) c3_a c3_b]), (11, roL 7 enc_Way c0.Ways), (12, .int .i64 (((c0.Ways.length : Nat) : Int))), (13, .int .i64 ((i1 : Int)))]) (fun i1 (s1 : Unit) => []) (.cons (.of_eq (by first | rfl | (simp; done) | omega | (simp; omega))) (.cons (.of_eq (by first | rfl | (simp; done) | omega | (simp; omega))) (.cons (.of_eq (by first | rfl | (simp; done) | omega | (simp; omega))) (.cons (.of_eq (by first | rfl | (simp; done) | omega | (simp; omega))) (.cons (.of_eq (by first | rfl | (simp; done) | omega | (simp; omega))) (.cons (.of_eq (by first | rfl | (simp; done) | omega | (simp; omega))) (.cons (.of_eq (by first | rfl | (simp; done) | omega | (simp; omega))) .nil))))))) .nil (fun k1 i1 s1 g r hle1 hYl H1 H2 K0 hK1 => ?_)
  refine W.seq ?_
  refine W.region env [] [] rfl rfl rfl .nil .nil (At.keep (ts := [0, 2, 3, 4, 11, 12, 13, 14]) (ids := []) rfl rfl ?_)
  refine At.thenC ?_
  refine W.seq ?_
  refine W.cond rfl (fun hb2 => ?_) (fun hb2 => ?_)
  · have hi1 : i1 < c0.Ways.length := by have := of_decide_eq_true hb2; omega
    have H := H1 hi1
    refine W.skip ?_
    refine At.thenC ?_
    refine W.seq ?_
    refine W.joinI H hYl (fun (s3 : Unit) => [(0, .fn (.yield lp) [] []), (2, .rp [.int .i64 (c1)]), (3, .rp [.int .i64 (c2)]), (4, .rp [.clo (.func c3_g) c3_a c3_b]), (11, roL 7 enc_Way c0.Ways), (12, .int .i64 (((c0.Ways.length : Nat) : Int))), (13, .int .i64 ((i1 : Int)))]) (fun (s3 : Unit) => []) (fun s3 g r hYl H => ?_) (fun k3 H hK3 => ?_)
    · refine W.region env [] [] rfl rfl rfl (.cons (by unfold inI; have := hn1; (try unfold maxLen at this); omega) .nil) .nil (At.keep (ts := [0, 2, 3, 4, 11, 12, 13]) (ids := []) rfl rfl ?_)
      refine At.thenK (At.keep (ts := [0, 2, 3, 4, 11, 12, 13]) (ids := []) rfl rfl ?_)
      exact At.conv (.cons (.of_eq (by first | rfl | (simp; done) | omega | (simp; omega))) (.cons (.of_eq (by first | rfl | (simp; done) | omega | (simp; omega))) (.cons (.of_eq (by first | rfl | (simp; done) | omega | (simp; omega))) (.cons (.of_eq (by first | rfl | (simp; done) | omega | (simp; omega))) (.cons (.of_eq (by first | rfl | (simp; done) | omega | (simp; omega))) (.cons (.of_eq (by first | rfl | (simp; done) | omega | (simp; omega))) (.cons (.of_eq (by first | rfl | (simp; done) | omega | (simp; omega))) .nil))))))) .nil (hK1 hi1 () _ _ hYl H)
    · refine W.block ?_
      refine W.seq ?_
      refine W.region env [] [] rfl rfl rfl (.cons (⟨by omega, by omega⟩ : 0 ≤ (i1 : Int) ∧ (i1 : Int) < ((c0.Ways.length : Nat) : Int)) .nil) .nil (At.keep (ts := [0, 2, 3, 4, 6, 7, 11, 12, 13]) (ids := [7]) rfl rfl ?_)
      refine At.thenC ?_
      refine W.seq ?_
      refine W.seq ?_
      refine W.region env [] [] rfl rfl rfl .nil .nil (At.keep (ts := [0, 2, 3, 4, 6, 7, 11, 12, 13, 21]) (ids := [7]) rfl rfl ?_)
      refine At.thenC ?_
      refine W.cond rfl (fun hb4 => ?_) (fun hb4 => ?_)
      · have H := of_true H hb4
        refine W.exit ?_
        refine At.xthen ?_
        refine At.xhere ?_
        refine At.thenK (At.keep (ts := [0, 2, 3, 4, 11, 12, 13]) (ids := []) rfl rfl ?_)
        exact At.conv (.cons (.of_eq (by first | rfl | (simp; done) | omega | (simp; omega))) (.cons (.of_eq (by first | rfl | (simp; done) | omega | (simp; omega))) (.cons (.of_eq (by first | rfl | (simp; done) | omega | (simp; omega))) (.cons (.of_eq (by first | rfl | (simp; done) | omega | (simp; omega))) (.cons (.of_eq (by first | rfl | (simp; done) | omega | (simp; omega))) (.cons (.of_eq (by first | rfl | (simp; done) | omega | (simp; omega))) (.cons (.of_eq (by first | rfl | (simp; done) | omega | (simp; omega))) .nil))))))) .nil (hK3 () _ _ hYl H)
      · have H := of_false H hb4
        refine W.skip ?_
        refine At.thenC ?_
        refine W.seq ?_
        obtain ⟨y5, hy6, H⟩ := of_bindO H
        refine W.region env [] [⟨.tup [.int .i64 (y5.1), .bool (y5.2)], [], 0, []⟩] rfl rfl rfl .nil (.free (c_round_leave (c0.Ways.getD i1 default) c2 hy6) .nil) (At.keep (ts := [0, 2, 3, 4, 6, 8, 9, 11, 12, 13]) (ids := []) rfl rfl ?_)
        refine At.thenC ?_
        refine W.seq ?_
        obtain ⟨y7, hy8, H⟩ := of_bindO H
        obtain ⟨hc9, H⟩ := of_must H
        obtain ⟨y10, hy11, H⟩ := of_bindO H
        obtain ⟨hc12, H⟩ := of_must H
        refine W.regionY env hY [] 17 [⟨.int .i64 (y7), [], 0, []⟩, ⟨.int .i64 (y10), [], 0, []⟩] [] rfl rfl rfl rfl rfl rfl rfl rfl (fun b => rfl) rfl (.cons (fun h => h) (.cons (fun h => h) (.cons hc9 (.cons (fun h => h) (.cons (fun h => h) (.cons (fun h => h) (.cons (fun h => h) (.cons (fun h => h) (.cons (fun h => h) (.cons hc12 (.cons (fun h => h) (.cons (fun h => h) .nil)))))))))))) (.on (fun hW => c3_h (i1 : Int) _ (of_true hy8 hW)) (.on (fun hW => c3_h (i1 : Int) _ (of_true hy11 hW)) .nil)) (.cons (fun h => h) (.cons (fun h => h) (.cons (fun h => h) .nil))) (fun b => (.cons (fun h => h) (.cons (fun h => h) .nil))) (fun b => .nil) (fun hW => Yl.item (fun (x : Int × Int) => [.int .i64 (x.1), .int .i64 (x.2)]) H hYl hW) (fun b g1 hg1 hg2 => ?_)
        refine At.keep (ts := [0, 2, 3, 4, 11, 12, 13, 47]) (ids := []) rfl rfl ?_
        refine At.thenC ?_
        rcases Yl.split hg1 hg2 with ⟨hw1, hw2, rfl⟩ | ⟨hw1, hw2, hw3⟩
        · refine W.cond rfl (fun hb => ?_) (fun hb => ?_)
          · refine W.ret ?_
            refine At.rinb ?_
            refine At.rthen ?_
            refine At.rthen ?_
            refine At.rinb ?_
            exact At.iret rfl (.inl rfl) hval
          · exact absurd hb (by rw [hw1, hw2]; simp)
        · refine W.cond rfl (fun hb => ?_) (fun hb => ?_)
          · exact absurd hb (by intro hb; simp only [Bool.and_eq_true, Bool.not_eq_true'] at hb; have := hw1 (by first | exact hb.1 | (simp only [Bool.and_eq_true]; exact hb.1)); rw [this] at hb; simp at hb)
          · obtain ⟨r, H, hYl⟩ := Yl.next H hYl hw2 hw3
            refine W.skip ?_
            refine At.inb ?_
            refine At.thenK (At.keep (ts := [0, 2, 3, 4, 11, 12, 13]) (ids := []) rfl rfl ?_)
            exact At.conv (.cons (.of_eq (by first | rfl | (simp; done) | omega | (simp; omega))) (.cons (.of_eq (by first | rfl | (simp; done) | omega | (simp; omega))) (.cons (.of_eq (by first | rfl | (simp; done) | omega | (simp; omega))) (.cons (.of_eq (by first | rfl | (simp; done) | omega | (simp; omega))) (.cons (.of_eq (by first | rfl | (simp; done) | omega | (simp; omega))) (.cons (.of_eq (by first | rfl | (simp; done) | omega | (simp; omega))) (.cons (.of_eq (by first | rfl | (simp; done) | omega | (simp; omega))) .nil))))))) .nil (hK3 () _ _ hYl H)
  · have H := H2 (by have := of_decide_eq_false hb2; omega)
    refine W.exit ?_
    refine At.xthen ?_
    refine At.xthen ?_
    refine At.xhere ?_
    refine At.iofNormal ?_
    exact At.iret rfl (.inr (Yl.fin (fun (x : Int × Int) => [.int .i64 (x.1), .int .i64 (x.2)]) H hYl)) hval

theorem c_round_reach (fuel : Nat) (p0 : Chart) (p1 : Int) (p2 : Int) (p3 : Int → Option Int) (p3_g : Nat) (p3_a p3_b : List AV) (p3_h : ∀ x0 r, p3 x0 = some r → Ctr Try.prog p3_g (p3_a ++ ([.int .i64 (x0)] ++ p3_b)) (.int .i64 (r))) {r : (Mp round_reached)} (H : round_reach fuel p0 p1 p2 p3 = some r) : Ctr Try.prog 77 [.agg [.int .i64 (p0.Places), roL 7 enc_Way p0.Ways], .int .i64 (p1), .int .i64 (p2), .clo (.func p3_g) p3_a p3_b] (romL (.agg #[.int .i64 0, .int .i64 0]) (fun (x : round_reached) => .agg [.int .i64 (x.at_), .int .i64 (x.way)]) r) := by
  unfold round_reach at H
  refine Ctr.of_body (N := 110) Try.func77 (by kernel_rfl) (c := _) rfl Try.ntmps77 rfl (fun w0 h0 hval => ?_)
  refine W.seq ?_
  refine W.region env [] [] rfl rfl rfl .nil .nil (At.keep (ts := [1, 2, 3, 4]) (ids := [4]) rfl rfl ?_)
  refine At.thenC ?_
  refine W.scope ?_
  refine W.seq ?_
  refine W.region env [] [] rfl rfl rfl .nil .nil (At.keep (ts := [1, 2, 3, 4, 9]) (ids := [4, 9, 23]) rfl rfl ?_)
  refine At.convM (.cons (.refl _) (.cons (.refl _) (.cons (y := mapL (.agg #[.int .i64 0, .int .i64 0]) (fun (x : round_reached) => .agg [.int .i64 (x.at_), .int .i64 (x.way)]) (Mp.empty : Mp round_reached)) (BSim.mseg (f := (fun (x : round_reached) => .agg [.int .i64 (x.at_), .int .i64 (x.way)])) (MSeg.empty rfl)) .nil))) ?_
  refine At.thenC ?_
  refine W.seq ?_
  refine W.region env [] [] rfl rfl rfl .nil .nil (At.keep (ts := [3, 4, 9, 10]) (ids := [4, 9, 10, 23, 24]) rfl rfl ?_)
  refine At.convM (.cons (.refl _) (.cons (.refl _) (.cons (.refl _) (.cons (.refl _) (.cons (y := mapL (.agg #[.int .i64 0, .int .i64 0]) (fun (x : round_reached) => .agg [.int .i64 (x.at_), .int .i64 (x.way)]) ((Mp.empty : Mp round_reached).set p1 (⟨p2, (-1)⟩ : round_reached))) (BSim.mseg (f := (fun (x : round_reached) => .agg [.int .i64 (x.at_), .int .i64 (x.way)])) (MSeg.set (MSeg.empty rfl) (⟨p2, (-1)⟩ : round_reached) rfl)) .nil))))) ?_
  refine At.thenC ?_
  refine W.seq ?_
  refine W.label ?_
  refine At.thenC ?_
  refine W.seq ?_
  refine W.block ?_
  refine At.keep (ts := [3, 4, 9, 10]) (ids := [4, 9, 10, 23, 24]) rfl rfl ?_
  refine W.loopGo H (fun (s1 : (Mp round_reached) × (Mp round_reached)) => [(3, .clo (.func p3_g) p3_a p3_b), (4, .lp 4 0), (9, .lp 9 0), (10, .lp 10 0)]) (fun (s1 : (Mp round_reached) × (Mp round_reached)) => [(4, .cells [.int .i64 (p0.Places), roL 7 enc_Way p0.Ways]), (9, .cells [.mp 23]), (10, .cells [.mp 24]), (23, mapL (.agg #[.int .i64 0, .int .i64 0]) (fun (x : round_reached) => .agg [.int .i64 (x.at_), .int .i64 (x.way)]) s1.1), (24, mapL (.agg #[.int .i64 0, .int .i64 0]) (fun (x : round_reached) => .agg [.int .i64 (x.at_), .int .i64 (x.way)]) s1.2)]) (.cons (.of_eq (by first | rfl | (simp; done) | omega | (simp; omega))) (.cons (.of_eq (by first | rfl | (simp; done) | omega | (simp; omega))) (.cons (.of_eq (by first | rfl | (simp; done) | omega | (simp; omega))) (.cons (.of_eq (by first | rfl | (simp; done) | omega | (simp; omega))) .nil)))) (.cons (.of_eq (by first | rfl | (simp; done) | omega | (simp; omega))) (.cons (.of_eq (by first | rfl | (simp; done) | omega | (simp; omega))) (.cons (.of_eq (by first | rfl | (simp; done) | omega | (simp; omega))) (.cons (.of_eq (by first | rfl | (simp; done) | omega | (simp; omega))) (.cons (.of_eq (by first | rfl | (simp; done) | omega | (simp; omega))) .nil))))) (fun k1 s1 H K0 hK1 => ?_)
  refine W.block ?_
  refine W.seq ?_
  refine W.region env [] [] rfl rfl rfl .nil .nil (At.keep (ts := [3, 4, 9, 10, 11]) (ids := [4, 9, 10, 23, 24]) rfl rfl ?_)
  refine At.thenC ?_
  refine W.seq ?_
  refine W.seq ?_
  refine W.region env [] [] rfl rfl rfl .nil .nil (At.keep (ts := [3, 4, 9, 10, 11, 30, 31]) (ids := [4, 9, 10, 23, 24]) rfl rfl ?_)
  refine At.thenC ?_
  refine W.block ?_
  refine At.keep (ts := [3, 4, 9, 10, 11, 30, 31]) (ids := [4, 9, 10, 23, 24]) rfl rfl ?_
  obtain ⟨hn2, H⟩ := of_must H
  refine W.rangeGo H (fun i2 (s2 : Int) => [(3, .clo (.func p3_g) p3_a p3_b), (4, .lp 4 0), (9, .lp 9 0), (10, .lp 10 0), (11, .int .i64 (s2)), (30, .int .i64 (p0.Places)), (31, .int .i64 ((i2 : Int)))]) (fun i2 (s2 : Int) => [(4, .cells [.int .i64 (p0.Places), roL 7 enc_Way p0.Ways]), (9, .cells [.mp 23]), (10, .cells [.mp 24]), (23, mapL (.agg #[.int .i64 0, .int .i64 0]) (fun (x : round_reached) => .agg [.int .i64 (x.at_), .int .i64 (x.way)]) s1.1), (24, mapL (.agg #[.int .i64 0, .int .i64 0]) (fun (x : round_reached) => .agg [.int .i64 (x.at_), .int .i64 (x.way)]) s1.2)]) (.cons (.of_eq (by first | rfl | (simp; done) | omega | (simp; omega))) (.cons (.of_eq (by first | rfl | (simp; done) | omega | (simp; omega))) (.cons (.of_eq (by first | rfl | (simp; done) | omega | (simp; omega))) (.cons (.of_eq (by first | rfl | (simp; done) | omega | (simp; omega))) (.cons (.of_eq (by first | rfl | (simp; done) | omega | (simp; omega))) (.cons (.of_eq (by first | rfl | (simp; done) | omega | (simp; omega))) (.cons (.of_eq (by first | rfl | (simp; done) | omega | (simp; omega))) .nil))))))) (.cons (.of_eq (by first | rfl | (simp; done) | omega | (simp; omega))) (.cons (.of_eq (by first | rfl | (simp; done) | omega | (simp; omega))) (.cons (.of_eq (by first | rfl | (simp; done) | omega | (simp; omega))) (.cons (.of_eq (by first | rfl | (simp; done) | omega | (simp; omega))) (.cons (.of_eq (by first | rfl | (simp; done) | omega | (simp; omega))) .nil))))) (fun k2 i2 s2 hle2 H1 H2 K0 hK2 => ?_)
  refine W.seq ?_
  refine W.region env [] [] rfl rfl rfl .nil .nil (At.keep (ts := [3, 4, 9, 10, 11, 30, 31, 32]) (ids := [4, 9, 10, 23, 24]) rfl rfl ?_)
  refine At.thenC ?_
  refine W.seq ?_
  refine W.cond rfl (fun hb3 => ?_) (fun hb3 => ?_)
  · have hi2 : i2 < (p0.Places).toNat := by have := of_decide_eq_true hb3; omega
    have H := H1 hi2
    refine W.skip ?_
    refine At.thenC ?_
    refine W.seq ?_
    refine W.block ?_
    refine W.seq ?_
    refine W.region env [] [] rfl rfl rfl .nil .nil (At.keep (ts := [3, 4, 9, 10, 11, 12, 30, 31]) (ids := [4, 9, 10, 23, 24]) rfl rfl ?_)
    refine At.thenC ?_
    refine W.seq ?_
    refine W.region env [] [] rfl rfl rfl (.cons rfl .nil) .nil (At.keep (ts := [3, 4, 9, 10, 11, 12, 13, 14, 30, 31]) (ids := [4, 9, 10, 13, 23, 24]) rfl rfl ?_)
    refine At.thenC ?_
    refine W.seq ?_
    refine W.region env [] [] rfl rfl rfl (.cons (fun h => h) (.cons (fun h => h) (.cons (fun h => h) (.cons (fun _ => rfl) (.cons (fun h => h) (.cons (fun h => h) (.cons (fun h => h) (.cons (fun h => h) (.cons (fun h => h) (.cons (fun h => h) (.cons (fun hW h => by revert hW h; first | (simp +contextual; done) | grind) (.cons (fun h => h) .nil)))))))))))) .nil (At.keep (ts := [3, 4, 9, 10, 11, 12, 30, 31, 53]) (ids := [4, 9, 10, 23, 24]) rfl rfl ?_)
    refine At.thenC ?_
    refine W.cond rfl (fun hb4 => ?_) (fun hb4 => ?_)
    · have H := of_true H hb4
      refine W.region env [] [] rfl rfl rfl .nil .nil (At.keep (ts := [3, 4, 9, 10, 11, 30, 31]) (ids := [4, 9, 10, 23, 24]) rfl rfl ?_)
      refine At.inb ?_
      refine At.thenC ?_
      refine W.region env [] [] rfl rfl rfl (.cons (by unfold inI; have := hn2; (try unfold maxLen at this); omega) .nil) .nil (At.keep (ts := [3, 4, 9, 10, 11, 30, 31]) (ids := [4, 9, 10, 23, 24]) rfl rfl ?_)
      refine At.thenK (At.keep (ts := [3, 4, 9, 10, 11, 30, 31]) (ids := [4, 9, 10, 23, 24]) rfl rfl ?_)
      exact At.conv (.cons (.of_eq (by first | rfl | (simp; done) | omega | (simp; omega))) (.cons (.of_eq (by first | rfl | (simp; done) | omega | (simp; omega))) (.cons (.of_eq (by first | rfl | (simp; done) | omega | (simp; omega))) (.cons (.of_eq (by first | rfl | (simp; done) | omega | (simp; omega))) (.cons (.of_eq (by first | rfl | (simp; done) | omega | (simp; omega))) (.cons (.of_eq (by first | rfl | (simp; done) | omega | (simp; omega))) (.cons (.of_eq (by first | rfl | (simp; done) | omega | (simp; omega))) .nil))))))) (.cons (.of_eq (by first | rfl | (simp; done) | omega | (simp; omega))) (.cons (.of_eq (by first | rfl | (simp; done) | omega | (simp; omega))) (.cons (.of_eq (by first | rfl | (simp; done) | omega | (simp; omega))) (.cons (.of_eq (by first | rfl | (simp; done) | omega | (simp; omega))) (.cons (.of_eq (by first | rfl | (simp; done) | omega | (simp; omega))) .nil))))) (hK2 hi2 (i2 : Int) H)
    · have H := of_false H hb4
      refine W.skip ?_
      refine At.inb ?_
      refine At.thenC ?_
      refine W.region env [] [] rfl rfl rfl (.cons (by unfold inI; have := hn2; (try unfold maxLen at this); omega) .nil) .nil (At.keep (ts := [3, 4, 9, 10, 11, 30, 31]) (ids := [4, 9, 10, 23, 24]) rfl rfl ?_)
      refine At.thenK (At.keep (ts := [3, 4, 9, 10, 11, 30, 31]) (ids := [4, 9, 10, 23, 24]) rfl rfl ?_)
      exact At.conv (.cons (.of_eq (by first | rfl | (simp; done) | omega | (simp; omega))) (.cons (.of_eq (by first | rfl | (simp; done) | omega | (simp; omega))) (.cons (.of_eq (by first | rfl | (simp; done) | omega | (simp; omega))) (.cons (.of_eq (by first | rfl | (simp; done) | omega | (simp; omega))) (.cons (.of_eq (by first | rfl | (simp; done) | omega | (simp; omega))) (.cons (.of_eq (by first | rfl | (simp; done) | omega | (simp; omega))) (.cons (.of_eq (by first | rfl | (simp; done) | omega | (simp; omega))) .nil))))))) (.cons (.of_eq (by first | rfl | (simp; done) | omega | (simp; omega))) (.cons (.of_eq (by first | rfl | (simp; done) | omega | (simp; omega))) (.cons (.of_eq (by first | rfl | (simp; done) | omega | (simp; omega))) (.cons (.of_eq (by first | rfl | (simp; done) | omega | (simp; omega))) (.cons (.of_eq (by first | rfl | (simp; done) | omega | (simp; omega))) .nil))))) (hK2 hi2 s2 H)
  · have H := H2 (by have := of_decide_eq_false hb3; omega)
    refine W.exit ?_
    refine At.xthen ?_
    refine At.xthen ?_
    refine At.xhere ?_
    refine At.thenC ?_
    refine W.seq ?_
    refine W.seq ?_
    refine W.region env [] [] rfl rfl rfl .nil .nil (At.keep (ts := [3, 4, 9, 10, 11, 57]) (ids := [4, 9, 10, 23, 24]) rfl rfl ?_)
    refine At.thenC ?_
    refine W.cond rfl (fun hb5 => ?_) (fun hb5 => ?_)
    · have H := of_true H hb5
      refine W.exit ?_
      refine At.xthen ?_
      refine At.xpast rfl ?_
      refine At.xthen ?_
      refine At.xhere ?_
      refine At.thenC ?_
      refine W.seq ?_
      refine W.region env [] [] rfl rfl rfl .nil .nil (At.keep (ts := [8]) (ids := [23]) rfl rfl ?_)
      refine At.thenC ?_
      refine W.ret ?_
      refine At.rins ?_
      cases H
      exact At.ret env.ty rfl rfl (fun q hq => by cases hq) (.refl _) hval
    · have H := of_false H hb5
      refine W.skip ?_
      refine At.thenC ?_
      refine W.seq ?_
      refine W.region env [] [] rfl rfl rfl (.cons rfl .nil) .nil (At.keep (ts := [3, 4, 9, 10, 11, 15]) (ids := [4, 9, 10, 15, 23, 24]) rfl rfl ?_)
      refine At.thenC ?_
      refine W.seq ?_
      refine W.region env [] [] rfl rfl rfl (.cons rfl .nil) .nil (At.keep (ts := [3, 4, 9, 10, 11, 15]) (ids := [4, 9, 10, 15, 23, 24]) rfl rfl ?_)
      refine At.convM (.cons (.refl _) (.cons (.refl _) (.cons (.refl _) (.cons (.refl _) (.cons (.refl _) (.cons (y := mapL (.agg #[.int .i64 0, .int .i64 0]) (fun (x : round_reached) => .agg [.int .i64 (x.at_), .int .i64 (x.way)]) (s1.2.del s2)) (BSim.mseg (f := (fun (x : round_reached) => .agg [.int .i64 (x.at_), .int .i64 (x.way)])) (MSeg.del (MSeg.refl (fun (x : round_reached) => .agg [.int .i64 (x.at_), .int .i64 (x.way)]) _) rfl)) .nil)))))) ?_
      refine At.thenC ?_
      refine W.seq ?_
      refine W.region env [] [] rfl rfl rfl .nil .nil (At.keep (ts := [3, 4, 9, 10, 11, 15]) (ids := [4, 9, 10, 15, 23, 24]) rfl rfl ?_)
      refine At.convM (.cons (.refl _) (.cons (.refl _) (.cons (.refl _) (.cons (.refl _) (.cons (y := mapL (.agg #[.int .i64 0, .int .i64 0]) (fun (x : round_reached) => .agg [.int .i64 (x.at_), .int .i64 (x.way)]) (s1.1.set s2 ((s1.2.get s2).getD default))) (BSim.mseg (f := (fun (x : round_reached) => .agg [.int .i64 (x.at_), .int .i64 (x.way)])) (MSeg.set (MSeg.refl (fun (x : round_reached) => .agg [.int .i64 (x.at_), .int .i64 (x.way)]) _) ((s1.2.get s2).getD default) rfl)) (.cons (.refl _) .nil)))))) ?_
      refine At.thenC ?_
      refine W.seq ?_
      refine W.region env [] [⟨.clo (.func 121) [] [.rp [.int .i64 (p0.Places), roL 7 enc_Way p0.Ways], .rp [.int .i64 (s2)], .rp [.int .i64 (((s1.2.get s2).getD default).at_)], .rp [.clo (.func p3_g) p3_a p3_b]], [], 0, []⟩] rfl rfl rfl .nil (.free (c_round_from p0 s2 (((s1.2.get s2).getD default).at_) p3 p3_g p3_a p3_b p3_h) .nil) (At.keep (ts := [3, 4, 9, 10, 71]) (ids := [4, 9, 10, 23, 24]) rfl rfl ?_)
      refine At.thenC ?_
      refine W.block ?_
      obtain ⟨it6, hit6, H⟩ := of_bindO H
      refine At.keep (ts := [3, 4, 9, 10, 71]) (ids := [4, 9, 10, 23, 24]) rfl rfl ?_
      refine W.listGo H (fun (x : Int × Int) => [.int .i64 (x.1), .int .i64 (x.2)]) (c_round_from_1 p0 s2 (((s1.2.get s2).getD default).at_) p3 p3_g p3_a p3_b p3_h hit6) rfl (fun _ => ⟨rfl, rfl⟩) rfl rfl rfl (fun (s7 : (Mp round_reached)) => [(4, .cells [.int .i64 (p0.Places), roL 7 enc_Way p0.Ways]), (9, .cells [.mp 23]), (10, .cells [.mp 24]), (23, mapL (.agg #[.int .i64 0, .int .i64 0]) (fun (x : round_reached) => .agg [.int .i64 (x.at_), .int .i64 (x.way)]) (s1.1.set s2 ((s1.2.get s2).getD default))), (24, mapL (.agg #[.int .i64 0, .int .i64 0]) (fun (x : round_reached) => .agg [.int .i64 (x.at_), .int .i64 (x.way)]) s7)]) (.cons (.of_eq (by first | rfl | (simp; done) | omega | (simp; omega))) (.cons (.of_eq (by first | rfl | (simp; done) | omega | (simp; omega))) (.cons (.of_eq (by first | rfl | (simp; done) | omega | (simp; omega))) (.cons (.of_eq (by first | rfl | (simp; done) | omega | (simp; omega))) (.cons (.of_eq (by first | rfl | (simp; done) | omega | (simp; omega))) .nil))))) (fun (x6 : Int × Int) => [(4, .lp 4 0), (9, .lp 9 0), (10, .lp 10 0), (16, .int .i64 (x6.1)), (17, .int .i64 (x6.2))]) (fun _ (_ : Unit) => False) (fun _ _ => []) (fun _ _ h => h.elim) hval (fun h1 vs gh st lp x6 s7 K hK => ?_) (fun k7 h1 vs gh st lp x6 s7 H Qr hQ7 hX7 => ?_) (fun s7 H => ?_) (fun _ _ h => h.elim)
      · refine W.seq ?_
        refine W.region env [] [] rfl rfl rfl .nil .nil (At.keep (ts := [4, 9, 10, 16, 73]) (ids := [4, 9, 10, 23, 24]) rfl rfl ?_)
        refine At.thenC ?_
        refine W.region env [] [] rfl rfl rfl .nil .nil (At.keep (ts := [4, 9, 10, 16, 17]) (ids := [4, 9, 10, 23, 24]) rfl rfl ?_)
        refine At.thenK (At.keep (ts := [4, 9, 10, 16, 17]) (ids := [4, 9, 10, 23, 24]) rfl rfl ?_)
        exact hK
      · refine W.block ?_
        refine W.seq ?_
        obtain ⟨hc8, H⟩ := of_must H
        refine W.region env [] [] rfl rfl rfl (.cons hc8 .nil) .nil (At.keep (ts := [9, 10, 16, 17, 18]) (ids := [4, 9, 10, 23, 24]) rfl rfl ?_)
        refine At.thenC ?_
        refine W.seq ?_
        refine W.region env [] [] rfl rfl rfl (.cons rfl .nil) .nil (At.keep (ts := [10, 16, 17, 18, 20]) (ids := [4, 9, 10, 23, 24]) rfl rfl ?_)
        refine At.thenC ?_
        refine W.seq ?_
        refine W.region env [] [] rfl rfl rfl (.cons rfl .nil) .nil (At.keep (ts := [10, 16, 17, 18, 20, 21, 22]) (ids := [4, 9, 10, 21, 23, 24]) rfl rfl ?_)
        refine At.thenC ?_
        refine W.seq ?_
        refine W.region env [] [] rfl rfl rfl (.cons (fun h => h) (.cons (fun h => h) (.cons (fun h => h) (.cons (fun h => h) (.cons (fun h => h) (.cons (fun h => h) (.cons (fun hW h => by revert hW h; first | (simp +contextual; done) | grind) (.cons (fun h => h) .nil)))))))) .nil (At.keep (ts := [10, 16, 17, 18, 103]) (ids := [4, 9, 10, 23, 24]) rfl rfl ?_)
        refine At.thenC ?_
        refine W.cond rfl (fun hb9 => ?_) (fun hb9 => ?_)
        · have H := of_true H hb9
          refine W.region env [] [] rfl rfl rfl .nil .nil (At.keep (ts := []) (ids := [4, 9, 10, 23, 24]) rfl rfl ?_)
          refine At.convM (.cons (.refl _) (.cons (.refl _) (.cons (.refl _) (.cons (.refl _) (.cons (y := mapL (.agg #[.int .i64 0, .int .i64 0]) (fun (x : round_reached) => .agg [.int .i64 (x.at_), .int .i64 (x.way)]) (s7.set ((p0.Ways.getD (x6.1).toNat default).To) (⟨x6.2, x6.1⟩ : round_reached))) (BSim.mseg (f := (fun (x : round_reached) => .agg [.int .i64 (x.at_), .int .i64 (x.way)])) (MSeg.set (MSeg.refl (fun (x : round_reached) => .agg [.int .i64 (x.at_), .int .i64 (x.way)]) _) (⟨x6.2, x6.1⟩ : round_reached) rfl)) .nil))))) ?_
          refine At.inb ?_
          refine At.keep (ts := []) (ids := [4, 9, 10, 23, 24]) rfl rfl ?_
          exact At.conv .nil (.cons (.of_eq (by first | rfl | (simp; done) | omega | (simp; omega))) (.cons (.of_eq (by first | rfl | (simp; done) | omega | (simp; omega))) (.cons (.of_eq (by first | rfl | (simp; done) | omega | (simp; omega))) (.cons (.of_eq (by first | rfl | (simp; done) | omega | (simp; omega))) (.cons (.of_eq (by first | rfl | (simp; done) | omega | (simp; omega))) .nil))))) (hQ7 (s7.set ((p0.Ways.getD (x6.1).toNat default).To) (⟨x6.2, x6.1⟩ : round_reached)) H)
        · have H := of_false H hb9
          refine W.skip ?_
          refine At.inb ?_
          refine At.keep (ts := []) (ids := [4, 9, 10, 23, 24]) rfl rfl ?_
          exact At.conv .nil (.cons (.of_eq (by first | rfl | (simp; done) | omega | (simp; omega))) (.cons (.of_eq (by first | rfl | (simp; done) | omega | (simp; omega))) (.cons (.of_eq (by first | rfl | (simp; done) | omega | (simp; omega))) (.cons (.of_eq (by first | rfl | (simp; done) | omega | (simp; omega))) (.cons (.of_eq (by first | rfl | (simp; done) | omega | (simp; omega))) .nil))))) (hQ7 s7 H)
      · refine At.inb ?_
        refine At.inb ?_
        refine At.thenK (At.keep (ts := [3, 4, 9, 10]) (ids := [4, 9, 10, 23, 24]) rfl rfl ?_)
        exact At.conv (.cons (.of_eq (by first | rfl | (simp; done) | omega | (simp; omega))) (.cons (.of_eq (by first | rfl | (simp; done) | omega | (simp; omega))) (.cons (.of_eq (by first | rfl | (simp; done) | omega | (simp; omega))) (.cons (.of_eq (by first | rfl | (simp; done) | omega | (simp; omega))) .nil)))) (.cons (.of_eq (by first | rfl | (simp; done) | omega | (simp; omega))) (.cons (.of_eq (by first | rfl | (simp; done) | omega | (simp; omega))) (.cons (.of_eq (by first | rfl | (simp; done) | omega | (simp; omega))) (.cons (.of_eq (by first | rfl | (simp; done) | omega | (simp; omega))) (.cons (.of_eq (by first | rfl | (simp; done) | omega | (simp; omega))) .nil))))) (hK1 ((s1.1.set s2 ((s1.2.get s2).getD default)), s7) H)

theorem c_round_most_1 (p0 : Int) (c0 : Chart) {r : Int} (H : round_most_1 p0 c0 = some r) : Ctr Try.prog 115 [.int .i64 (p0), .rp [.int .i64 (c0.Places), roL 7 enc_Way c0.Ways]] (.int .i64 (r)) := by
  unfold round_most_1 at H
  refine Ctr.of_body (N := 11) Try.func115 (by kernel_rfl) (c := _) rfl Try.ntmps115 rfl (fun w0 h0 hval => ?_)
  refine W.seq ?_
  refine W.region env [] [] rfl rfl rfl .nil .nil (At.keep (ts := [0, 1]) (ids := []) rfl rfl ?_)
  refine At.thenC ?_
  refine W.seq ?_
  obtain ⟨hc1, H⟩ := of_must H
  refine W.region env [] [] rfl rfl rfl (.cons hc1 .nil) .nil (At.keep (ts := [3]) (ids := []) rfl rfl ?_)
  refine At.thenC ?_
  refine W.ret ?_
  cases H
  exact At.ret env.ty rfl rfl (fun q hq => by cases hq) (.refl _) hval

theorem c_round_minutes (p0 : Chart) (p1 : (Mp round_reached)) {r : (List Int)} (H : round_minutes p0 p1 = some r) : Ctr Try.prog 76 [.agg [.int .i64 (p0.Places), roL 7 enc_Way p0.Ways], romL (.agg #[.int .i64 0, .int .i64 0]) (fun (x : round_reached) => .agg [.int .i64 (x.at_), .int .i64 (x.way)]) p1] (roL 1 enc_Int r) := by
  unfold round_minutes at H
  refine Ctr.of_body (N := 34) Try.func76 (by kernel_rfl) (c := _) rfl Try.ntmps76 rfl (fun w0 h0 hval => ?_)
  refine W.seq ?_
  refine W.region env [] [] rfl rfl rfl .nil .nil (At.keep (ts := [1, 2]) (ids := [2]) rfl rfl ?_)
  refine At.thenC ?_
  refine W.seq ?_
  obtain ⟨hc1, H⟩ := of_must H
  refine W.region env [] [] rfl rfl rfl (.cons hc1 .nil) .nil (At.keep (ts := [1, 2, 5]) (ids := [2, 11]) rfl rfl ?_)
  refine At.convM (.cons (.refl _) (.cons (y := bufL 3 1 enc_Int (List.replicate (p0.Places).toNat (0 : Int))) (BSim.seg (Seg.made (f := enc_Int) 0 rfl)) .nil)) ?_
  refine At.thenC ?_
  refine W.seq ?_
  refine W.seq ?_
  refine W.region env [] [] rfl rfl rfl .nil .nil (At.keep (ts := [1, 5, 13, 14]) (ids := [11]) rfl rfl ?_)
  refine At.thenC ?_
  refine W.block ?_
  refine At.keep (ts := [1, 5, 13, 14]) (ids := [11]) rfl rfl ?_
  obtain ⟨hn2, H⟩ := of_must H
  refine W.rangeGo H (fun i2 (s2 : (List Int)) => [(1, romL (.agg #[.int .i64 0, .int .i64 0]) (fun (x : round_reached) => .agg [.int .i64 (x.at_), .int .i64 (x.way)]) p1), (5, .buf 11 (s2).length), (13, .int .i64 (p0.Places)), (14, .int .i64 ((i2 : Int)))]) (fun i2 (s2 : (List Int)) => [(11, bufL 3 1 enc_Int s2)]) (.cons (.of_eq (by first | rfl | (simp; done) | omega | (simp; omega))) (.cons (.of_eq (by refine bufEq ?_; first | (simp [copyAt]; done) | omega | (simp [copyAt]; omega) | rfl)) (.cons (.of_eq (by first | rfl | (simp; done) | omega | (simp; omega))) (.cons (.of_eq (by first | rfl | (simp; done) | omega | (simp; omega))) .nil)))) (.cons (.of_eq (by first | rfl | (simp; done) | omega | (simp; omega))) .nil) (fun k2 i2 s2 hle2 H1 H2 K0 hK2 => ?_)
  refine W.seq ?_
  refine W.region env [] [] rfl rfl rfl .nil .nil (At.keep (ts := [1, 5, 13, 14, 15]) (ids := [11]) rfl rfl ?_)
  refine At.thenC ?_
  refine W.seq ?_
  refine W.cond rfl (fun hb3 => ?_) (fun hb3 => ?_)
  · have hi2 : i2 < (p0.Places).toNat := by have := of_decide_eq_true hb3; omega
    have H := H1 hi2
    refine W.skip ?_
    refine At.thenC ?_
    refine W.seq ?_
    refine W.block ?_
    refine W.seq ?_
    refine W.region env [] [] rfl rfl rfl .nil .nil (At.keep (ts := [1, 5, 6, 13, 14]) (ids := [11]) rfl rfl ?_)
    refine At.thenC ?_
    refine W.seq ?_
    obtain ⟨hc4, H⟩ := of_must H
    refine W.region env [] [] rfl rfl rfl (.cons (⟨by first | rfl | (simp; done) | omega | (simp; omega), hc4⟩) (.cons (⟨by first | rfl | (simp; done) | omega | (simp; omega), (by have := hc4; omega)⟩) .nil)) .nil (At.keep (ts := [1, 5, 6, 13, 14]) (ids := [11]) rfl rfl ?_)
    refine At.convM (.cons (y := bufL 3 1 enc_Int (s2.set i2 (-1))) (BSim.seg (Seg.set (Seg.refl enc_Int _) (-1) rfl)) .nil) ?_
    refine At.thenC ?_
    refine W.seq ?_
    refine W.region env [] [] rfl rfl rfl (.cons rfl .nil) .nil (At.keep (ts := [1, 5, 6, 7, 8, 13, 14]) (ids := [7, 11]) rfl rfl ?_)
    refine At.thenC ?_
    refine W.seq ?_
    refine W.region env [] [] rfl rfl rfl .nil .nil (At.keep (ts := [1, 5, 6, 7, 13, 14, 26]) (ids := [7, 11]) rfl rfl ?_)
    refine At.thenC ?_
    refine W.cond rfl (fun hb5 => ?_) (fun hb5 => ?_)
    · have H := of_true H hb5
      obtain ⟨hc6, H⟩ := of_must H
      refine W.region env [] [] rfl rfl rfl (.cons (⟨by first | rfl | (simp; done) | omega | (simp; omega), hc6⟩) (.cons (⟨by first | rfl | (simp; done) | omega | (simp; omega), (by have := hc6; omega)⟩) .nil)) .nil (At.keep (ts := [1, 5, 13, 14]) (ids := [11]) rfl rfl ?_)
      refine At.convM (.cons (y := bufL 3 1 enc_Int ((s2.set i2 (-1)).set i2 (((p1.get (i2 : Int)).getD default).at_))) (BSim.seg (Seg.set (Seg.refl enc_Int _) (((p1.get (i2 : Int)).getD default).at_) rfl)) .nil) ?_
      refine At.inb ?_
      refine At.thenC ?_
      refine W.region env [] [] rfl rfl rfl (.cons (by unfold inI; have := hn2; (try unfold maxLen at this); omega) .nil) .nil (At.keep (ts := [1, 5, 13, 14]) (ids := [11]) rfl rfl ?_)
      refine At.thenK (At.keep (ts := [1, 5, 13, 14]) (ids := [11]) rfl rfl ?_)
      exact At.conv (.cons (.of_eq (by first | rfl | (simp; done) | omega | (simp; omega))) (.cons (.of_eq (by refine bufEq ?_; first | (simp [copyAt]; done) | omega | (simp [copyAt]; omega) | rfl)) (.cons (.of_eq (by first | rfl | (simp; done) | omega | (simp; omega))) (.cons (.of_eq (by first | rfl | (simp; done) | omega | (simp; omega))) .nil)))) (.cons (.of_eq (by first | rfl | (simp; done) | omega | (simp; omega))) .nil) (hK2 hi2 ((s2.set i2 (-1)).set i2 (((p1.get (i2 : Int)).getD default).at_)) H)
    · have H := of_false H hb5
      refine W.skip ?_
      refine At.inb ?_
      refine At.thenC ?_
      refine W.region env [] [] rfl rfl rfl (.cons (by unfold inI; have := hn2; (try unfold maxLen at this); omega) .nil) .nil (At.keep (ts := [1, 5, 13, 14]) (ids := [11]) rfl rfl ?_)
      refine At.thenK (At.keep (ts := [1, 5, 13, 14]) (ids := [11]) rfl rfl ?_)
      exact At.conv (.cons (.of_eq (by first | rfl | (simp; done) | omega | (simp; omega))) (.cons (.of_eq (by refine bufEq ?_; first | (simp [copyAt]; done) | omega | (simp [copyAt]; omega) | rfl)) (.cons (.of_eq (by first | rfl | (simp; done) | omega | (simp; omega))) (.cons (.of_eq (by first | rfl | (simp; done) | omega | (simp; omega))) .nil)))) (.cons (.of_eq (by first | rfl | (simp; done) | omega | (simp; omega))) .nil) (hK2 hi2 (s2.set i2 (-1)) H)
  · have H := H2 (by have := of_decide_eq_false hb3; omega)
    refine W.exit ?_
    refine At.xthen ?_
    refine At.xthen ?_
    refine At.xhere ?_
    refine At.thenC ?_
    refine W.seq ?_
    refine W.region env [] [] rfl rfl rfl .nil .nil (At.keep (ts := [4]) (ids := [11]) rfl rfl ?_)
    refine At.thenC ?_
    refine W.ret ?_
    cases H
    exact At.ret env.ty rfl rfl (fun q hq => by cases hq; exact (by first | rfl | (simp; done) | omega | (simp; omega))) (.refl _) hval

theorem c_round_Sure (fuel : Nat) (p0 : Chart) (p1 : Int) (p2 : Int) {r : ((List Int) × Int)} (H : round_Sure fuel p0 p1 p2 = some r) : Ctr Try.prog 22 [.agg [.int .i64 (p0.Places), roL 7 enc_Way p0.Ways], .int .i64 (p1), .int .i64 (p2)] (.tup [roL 1 enc_Int r.1, .int .i64 (r.2)]) := by
  unfold round_Sure at H
  refine Ctr.of_body (N := 25) Try.func22 (by kernel_rfl) (c := _) rfl Try.ntmps22 rfl (fun w0 h0 hval => ?_)
  refine W.seq ?_
  refine W.region env [] [] rfl rfl rfl .nil .nil (At.keep (ts := [1, 2, 3]) (ids := [3]) rfl rfl ?_)
  refine At.thenC ?_
  refine W.seq ?_
  refine W.seq ?_
  obtain ⟨y1, hy2, H⟩ := of_bindO H
  refine W.region env [] [⟨.int .i64 (y1), [], 0, []⟩] rfl rfl rfl .nil (.free (Ctr.sim (.cons (.refl _) (.cons (.refl _) (.cons (Sim.lit (f := enc_Int) ([p1] : List Int) rfl rfl (fun _ => rfl)) .nil))) (c_round_placeOf p0 p2 ([p1] : List Int) hy2)) .nil) (At.keep (ts := [1, 2, 3, 8]) (ids := [3]) rfl rfl ?_)
  refine At.thenC ?_
  refine W.seq ?_
  refine W.region env [] [] rfl rfl rfl .nil .nil (At.keep (ts := [1, 2, 3, 8, 15]) (ids := [3]) rfl rfl ?_)
  refine At.thenC ?_
  refine W.cond rfl (fun hb3 => ?_) (fun hb3 => ?_)
  · have H := of_true H hb3
    refine W.seq ?_
    refine W.region env [] [] rfl rfl rfl .nil .nil (At.keep (ts := [6, 7]) (ids := []) rfl rfl ?_)
    refine At.thenC ?_
    refine W.ret ?_
    refine At.rthen ?_
    cases H
    exact At.ret env.ty rfl rfl (fun q hq => by cases hq) (Sim.tupL (.cons (Sim.nil _ _) (.cons (.refl _) .nil))) hval
  · have H := of_false H hb3
    refine W.skip ?_
    refine At.thenC ?_
    refine W.seq ?_
    obtain ⟨y4, hy5, H⟩ := of_bindO H
    obtain ⟨y6, hy7, H⟩ := of_bindO H
    refine W.region env [] [⟨.clo (.func 115) [] [.rp [.int .i64 (p0.Places), roL 7 enc_Way p0.Ways]], [], 0, []⟩, ⟨romL (.agg #[.int .i64 0, .int .i64 0]) (fun (x : round_reached) => .agg [.int .i64 (x.at_), .int .i64 (x.way)]) y4, [], 0, []⟩, ⟨roL 1 enc_Int y6, [], 0, []⟩] rfl rfl rfl .nil (.free (c_round_most p0) (.free (c_round_reach fuel p0 p1 p2 (fun x0 => round_most_1 x0 p0) 115 [] ([.rp [.int .i64 (p0.Places), roL 7 enc_Way p0.Ways]]) (fun x0 r h => c_round_most_1 x0 p0 h) hy5) (.free (c_round_minutes p0 y4 hy7) .nil))) (At.keep (ts := [6, 7]) (ids := []) rfl rfl ?_)
    refine At.thenC ?_
    refine W.ret ?_
    cases H
    exact At.ret env.ty rfl rfl (fun q hq => by cases hq) (.refl _) hval

theorem c_round_least (p0 : Chart) : Ctr Try.prog 79 [.agg [.int .i64 (p0.Places), roL 7 enc_Way p0.Ways]] (.clo (.func 116) [] [.rp [.int .i64 (p0.Places), roL 7 enc_Way p0.Ways]]) := by
  refine Ctr.of_body (N := 4) Try.func79 (by kernel_rfl) (c := _) rfl Try.ntmps79 rfl (fun w0 h0 hval => ?_)
  refine W.seq ?_
  refine W.region env [] [] rfl rfl rfl .nil .nil (At.keep (ts := [1]) (ids := [1]) rfl rfl ?_)
  refine At.thenC ?_
  refine W.seq ?_
  refine W.region env [] [] rfl rfl rfl .nil .nil (At.keep (ts := [2]) (ids := [1]) rfl rfl ?_)
  refine At.thenC ?_
  refine W.ret ?_
  exact At.ret env.ty rfl rfl (fun q hq => by cases hq) (.refl _) hval

theorem c_round_least_1 (p0 : Int) (c0 : Chart) {r : Int} (H : round_least_1 p0 c0 = some r) : Ctr Try.prog 116 [.int .i64 (p0), .rp [.int .i64 (c0.Places), roL 7 enc_Way c0.Ways]] (.int .i64 (r)) := by
  unfold round_least_1 at H
  refine Ctr.of_body (N := 11) Try.func116 (by kernel_rfl) (c := _) rfl Try.ntmps116 rfl (fun w0 h0 hval => ?_)
  refine W.seq ?_
  refine W.region env [] [] rfl rfl rfl .nil .nil (At.keep (ts := [0, 1]) (ids := []) rfl rfl ?_)
  refine At.thenC ?_
  refine W.seq ?_
  obtain ⟨hc1, H⟩ := of_must H
  refine W.region env [] [] rfl rfl rfl (.cons hc1 .nil) .nil (At.keep (ts := [3]) (ids := []) rfl rfl ?_)
  refine At.thenC ?_
  refine W.ret ?_
  cases H
  exact At.ret env.ty rfl rfl (fun q hq => by cases hq) (.refl _) hval

theorem c_round_Soonest (fuel : Nat) (p0 : Chart) (p1 : Int) (p2 : Int) {r : ((List Int) × Int)} (H : round_Soonest fuel p0 p1 p2 = some r) : Ctr Try.prog 23 [.agg [.int .i64 (p0.Places), roL 7 enc_Way p0.Ways], .int .i64 (p1), .int .i64 (p2)] (.tup [roL 1 enc_Int r.1, .int .i64 (r.2)]) := by
  unfold round_Soonest at H
  refine Ctr.of_body (N := 25) Try.func23 (by kernel_rfl) (c := _) rfl Try.ntmps23 rfl (fun w0 h0 hval => ?_)
  refine W.seq ?_
  refine W.region env [] [] rfl rfl rfl .nil .nil (At.keep (ts := [1, 2, 3]) (ids := [3]) rfl rfl ?_)
  refine At.thenC ?_
  refine W.seq ?_
  refine W.seq ?_
  obtain ⟨y1, hy2, H⟩ := of_bindO H
  refine W.region env [] [⟨.int .i64 (y1), [], 0, []⟩] rfl rfl rfl .nil (.free (Ctr.sim (.cons (.refl _) (.cons (.refl _) (.cons (Sim.lit (f := enc_Int) ([p1] : List Int) rfl rfl (fun _ => rfl)) .nil))) (c_round_placeOf p0 p2 ([p1] : List Int) hy2)) .nil) (At.keep (ts := [1, 2, 3, 8]) (ids := [3]) rfl rfl ?_)
  refine At.thenC ?_
  refine W.seq ?_
  refine W.region env [] [] rfl rfl rfl .nil .nil (At.keep (ts := [1, 2, 3, 8, 15]) (ids := [3]) rfl rfl ?_)
  refine At.thenC ?_
  refine W.cond rfl (fun hb3 => ?_) (fun hb3 => ?_)
  · have H := of_true H hb3
    refine W.seq ?_
    refine W.region env [] [] rfl rfl rfl .nil .nil (At.keep (ts := [6, 7]) (ids := []) rfl rfl ?_)
    refine At.thenC ?_
    refine W.ret ?_
    refine At.rthen ?_
    cases H
    exact At.ret env.ty rfl rfl (fun q hq => by cases hq) (Sim.tupL (.cons (Sim.nil _ _) (.cons (.refl _) .nil))) hval
  · have H := of_false H hb3
    refine W.skip ?_
    refine At.thenC ?_
    refine W.seq ?_
    obtain ⟨y4, hy5, H⟩ := of_bindO H
    obtain ⟨y6, hy7, H⟩ := of_bindO H
    refine W.region env [] [⟨.clo (.func 116) [] [.rp [.int .i64 (p0.Places), roL 7 enc_Way p0.Ways]], [], 0, []⟩, ⟨romL (.agg #[.int .i64 0, .int .i64 0]) (fun (x : round_reached) => .agg [.int .i64 (x.at_), .int .i64 (x.way)]) y4, [], 0, []⟩, ⟨roL 1 enc_Int y6, [], 0, []⟩] rfl rfl rfl .nil (.free (c_round_least p0) (.free (c_round_reach fuel p0 p1 p2 (fun x0 => round_least_1 x0 p0) 116 [] ([.rp [.int .i64 (p0.Places), roL 7 enc_Way p0.Ways]]) (fun x0 r h => c_round_least_1 x0 p0 h) hy5) (.free (c_round_minutes p0 y4 hy7) .nil))) (At.keep (ts := [6, 7]) (ids := []) rfl rfl ?_)
    refine At.thenC ?_
    refine W.ret ?_
    cases H
    exact At.ret env.ty rfl rfl (fun q hq => by cases hq) (.refl _) hval

theorem c_round_areTook (p0 : Chart) (p1 : (List Int)) {r : Bool} (H : round_areTook p0 p1 = some r) : Ctr Try.prog 80 [.agg [.int .i64 (p0.Places), roL 7 enc_Way p0.Ways], roL 1 enc_Int p1] (.bool (r)) := by
  unfold round_areTook at H
  refine Ctr.of_body (N := 35) Try.func80 (by kernel_rfl) (c := _) rfl Try.ntmps80 rfl (fun w0 h0 hval => ?_)
  refine W.seq ?_
  refine W.region env [] [] rfl rfl rfl .nil .nil (At.keep (ts := [1, 2]) (ids := [2]) rfl rfl ?_)
  refine At.thenC ?_
  refine W.seq ?_
  refine W.seq ?_
  refine W.region env [] [] rfl rfl rfl .nil .nil (At.keep (ts := [1, 2, 13]) (ids := [2]) rfl rfl ?_)
  refine At.thenC ?_
  refine W.cond rfl (fun hb1 => ?_) (fun hb1 => ?_)
  · have H := of_true H hb1
    refine W.seq ?_
    refine W.region env [] [] rfl rfl rfl .nil .nil (At.keep (ts := [4]) (ids := []) rfl rfl ?_)
    refine At.thenC ?_
    refine W.ret ?_
    refine At.rthen ?_
    cases H
    exact At.ret env.ty rfl rfl (fun q hq => by cases hq) (.refl _) hval
  · have H := of_false H hb1
    refine W.skip ?_
    refine At.thenC ?_
    refine W.seq ?_
    refine W.seq ?_
    refine W.region env [] [] rfl rfl rfl .nil .nil (At.keep (ts := [2, 14, 15, 16]) (ids := [2]) rfl rfl ?_)
    refine At.thenC ?_
    refine W.block ?_
    refine At.keep (ts := [2, 14, 15, 16]) (ids := [2]) rfl rfl ?_
    refine W.len (t := 14) rfl (fun hn2 => ?_)
    refine W.rangeGo H (fun i2 (s2 : Unit) => [(2, .lp 2 0), (14, roL 1 enc_Int p1), (15, .int .i64 (((p1.length : Nat) : Int))), (16, .int .i64 ((i2 : Int)))]) (fun i2 (s2 : Unit) => [(2, .cells [.int .i64 (p0.Places), roL 7 enc_Way p0.Ways])]) (.cons (.of_eq (by first | rfl | (simp; done) | omega | (simp; omega))) (.cons (.of_eq (by first | rfl | (simp; done) | omega | (simp; omega))) (.cons (.of_eq (by first | rfl | (simp; done) | omega | (simp; omega))) (.cons (.of_eq (by first | rfl | (simp; done) | omega | (simp; omega))) .nil)))) (.cons (.of_eq (by first | rfl | (simp; done) | omega | (simp; omega))) .nil) (fun k2 i2 s2 hle2 H1 H2 K0 hK2 => ?_)
    refine W.seq ?_
    refine W.region env [] [] rfl rfl rfl .nil .nil (At.keep (ts := [2, 14, 15, 16, 17]) (ids := [2]) rfl rfl ?_)
    refine At.thenC ?_
    refine W.seq ?_
    refine W.cond rfl (fun hb3 => ?_) (fun hb3 => ?_)
    · have hi2 : i2 < p1.length := by have := of_decide_eq_true hb3; omega
      have H := H1 hi2
      refine W.skip ?_
      refine At.thenC ?_
      refine W.seq ?_
      refine W.block ?_
      refine W.seq ?_
      refine W.region env [] [] rfl rfl rfl (.cons (⟨by omega, by omega⟩ : 0 ≤ (i2 : Int) ∧ (i2 : Int) < ((p1.length : Nat) : Int)) .nil) .nil (At.keep (ts := [2, 5, 6, 14, 15, 16]) (ids := [2]) rfl rfl ?_)
      refine At.thenC ?_
      refine W.seq ?_
      obtain ⟨hc4, H⟩ := of_must H
      refine W.region env [] [] rfl rfl rfl (.cons hc4 .nil) .nil (At.keep (ts := [2, 6, 7, 14, 15, 16]) (ids := [2, 7]) rfl rfl ?_)
      refine At.thenC ?_
      refine W.seq ?_
      refine W.region env [] [⟨.bool ((round_within (p1.getD i2 default) ((p0.Ways.getD i2 default).Takes.Lo) ((p0.Ways.getD i2 default).Takes.Hi))), [], 0, []⟩] rfl rfl rfl .nil (.free (c_round_within (p1.getD i2 default) ((p0.Ways.getD i2 default).Takes.Lo) ((p0.Ways.getD i2 default).Takes.Hi)) .nil) (At.keep (ts := [2, 14, 15, 16, 33]) (ids := [2]) rfl rfl ?_)
      refine At.thenC ?_
      refine W.cond rfl (fun hb5 => ?_) (fun hb5 => ?_)
      · have H := of_true H hb5
        refine W.seq ?_
        refine W.region env [] [] rfl rfl rfl .nil .nil (At.keep (ts := [4]) (ids := []) rfl rfl ?_)
        refine At.thenC ?_
        refine W.ret ?_
        refine At.rinb ?_
        refine At.rthen ?_
        refine At.rthen ?_
        refine At.rinb ?_
        refine At.rthen ?_
        cases H
        exact At.ret env.ty rfl rfl (fun q hq => by cases hq) (.refl _) hval
      · have H := of_false H hb5
        refine W.skip ?_
        refine At.inb ?_
        refine At.thenC ?_
        refine W.region env [] [] rfl rfl rfl (.cons (by unfold inI; have := hn2; (try unfold maxLen at this); omega) .nil) .nil (At.keep (ts := [2, 14, 15, 16]) (ids := [2]) rfl rfl ?_)
        refine At.thenK (At.keep (ts := [2, 14, 15, 16]) (ids := [2]) rfl rfl ?_)
        exact At.conv (.cons (.of_eq (by first | rfl | (simp; done) | omega | (simp; omega))) (.cons (.of_eq (by first | rfl | (simp; done) | omega | (simp; omega))) (.cons (.of_eq (by first | rfl | (simp; done) | omega | (simp; omega))) (.cons (.of_eq (by first | rfl | (simp; done) | omega | (simp; omega))) .nil)))) (.cons (.of_eq (by first | rfl | (simp; done) | omega | (simp; omega))) .nil) (hK2 hi2 () H)
    · have H := H2 (by have := of_decide_eq_false hb3; omega)
      refine W.exit ?_
      refine At.xthen ?_
      refine At.xthen ?_
      refine At.xhere ?_
      refine At.thenC ?_
      refine W.seq ?_
      refine W.region env [] [] rfl rfl rfl .nil .nil (At.keep (ts := [4]) (ids := []) rfl rfl ?_)
      refine At.thenC ?_
      refine W.ret ?_
      cases H
      exact At.ret env.ty rfl rfl (fun q hq => by cases hq) (.refl _) hval

theorem c_round_truly (p0 : (List Int)) : Ctr Try.prog 81 [roL 1 enc_Int p0] (.clo (.func 117) [] [.rp [roL 1 enc_Int p0]]) := by
  refine Ctr.of_body (N := 4) Try.func81 (by kernel_rfl) (c := _) rfl Try.ntmps81 rfl (fun w0 h0 hval => ?_)
  refine W.seq ?_
  refine W.region env [] [] rfl rfl rfl .nil .nil (At.keep (ts := [1]) (ids := [1]) rfl rfl ?_)
  refine At.thenC ?_
  refine W.seq ?_
  refine W.region env [] [] rfl rfl rfl .nil .nil (At.keep (ts := [2]) (ids := [1]) rfl rfl ?_)
  refine At.thenC ?_
  refine W.ret ?_
  exact At.ret env.ty rfl rfl (fun q hq => by cases hq) (.refl _) hval

theorem c_round_truly_1 (p0 : Int) (c0 : (List Int)) {r : Int} (H : round_truly_1 p0 c0 = some r) : Ctr Try.prog 117 [.int .i64 (p0), .rp [roL 1 enc_Int c0]] (.int .i64 (r)) := by
  unfold round_truly_1 at H
  refine Ctr.of_body (N := 8) Try.func117 (by kernel_rfl) (c := _) rfl Try.ntmps117 rfl (fun w0 h0 hval => ?_)
  refine W.seq ?_
  refine W.region env [] [] rfl rfl rfl .nil .nil (At.keep (ts := [0, 1]) (ids := []) rfl rfl ?_)
  refine At.thenC ?_
  refine W.seq ?_
  obtain ⟨hc1, H⟩ := of_must H
  refine W.region env [] [] rfl rfl rfl (.cons hc1 .nil) .nil (At.keep (ts := [3]) (ids := []) rfl rfl ?_)
  refine At.thenC ?_
  refine W.ret ?_
  cases H
  exact At.ret env.ty rfl rfl (fun q hq => by cases hq) (.refl _) hval

theorem c_round_Walked (fuel : Nat) (p0 : Chart) (p1 : (List Int)) (p2 : Int) (p3 : Int) {r : ((List Int) × Int)} (H : round_Walked fuel p0 p1 p2 p3 = some r) : Ctr Try.prog 24 [.agg [.int .i64 (p0.Places), roL 7 enc_Way p0.Ways], roL 1 enc_Int p1, .int .i64 (p2), .int .i64 (p3)] (.tup [roL 1 enc_Int r.1, .int .i64 (r.2)]) := by
  unfold round_Walked at H
  refine Ctr.of_body (N := 31) Try.func24 (by kernel_rfl) (c := _) rfl Try.ntmps24 rfl (fun w0 h0 hval => ?_)
  refine W.seq ?_
  refine W.region env [] [] rfl rfl rfl .nil .nil (At.keep (ts := [1, 2, 3, 4]) (ids := [4]) rfl rfl ?_)
  refine At.thenC ?_
  refine W.seq ?_
  refine W.seq ?_
  obtain ⟨y1, hy2, H⟩ := of_bindO H
  refine W.region env [] [⟨.int .i64 (y1), [], 0, []⟩] rfl rfl rfl .nil (.free (Ctr.sim (.cons (.refl _) (.cons (.refl _) (.cons (Sim.lit (f := enc_Int) ([p2] : List Int) rfl rfl (fun _ => rfl)) .nil))) (c_round_placeOf p0 p3 ([p2] : List Int) hy2)) .nil) (At.keep (ts := [1, 2, 3, 4, 10]) (ids := [4]) rfl rfl ?_)
  refine At.thenC ?_
  refine W.seq ?_
  refine W.region env [] [] rfl rfl rfl .nil .nil (At.keep (ts := [1, 2, 3, 4, 10, 17]) (ids := [4]) rfl rfl ?_)
  refine At.thenC ?_
  refine W.cond rfl (fun hb3 => ?_) (fun hb3 => ?_)
  · have H := of_true H hb3
    refine W.seq ?_
    refine W.region env [] [] rfl rfl rfl .nil .nil (At.keep (ts := [8, 9]) (ids := []) rfl rfl ?_)
    refine At.thenC ?_
    refine W.ret ?_
    refine At.rthen ?_
    cases H
    exact At.ret env.ty rfl rfl (fun q hq => by cases hq) (Sim.tupL (.cons (Sim.nil _ _) (.cons (.refl _) .nil))) hval
  · have H := of_false H hb3
    refine W.skip ?_
    refine At.thenC ?_
    refine W.seq ?_
    refine W.seq ?_
    obtain ⟨y4, hy5, H⟩ := of_bindO H
    refine W.region env [] [⟨.bool (y4), [], 0, []⟩] rfl rfl rfl .nil (.free (c_round_areTook p0 p1 hy5) .nil) (At.keep (ts := [1, 2, 3, 4, 22]) (ids := [4]) rfl rfl ?_)
    refine At.thenC ?_
    refine W.cond rfl (fun hb6 => ?_) (fun hb6 => ?_)
    · have H := of_true H hb6
      refine W.seq ?_
      refine W.region env [] [] rfl rfl rfl .nil .nil (At.keep (ts := [8, 9]) (ids := []) rfl rfl ?_)
      refine At.thenC ?_
      refine W.ret ?_
      refine At.rthen ?_
      cases H
      exact At.ret env.ty rfl rfl (fun q hq => by cases hq) (Sim.tupL (.cons (Sim.nil _ _) (.cons (.refl _) .nil))) hval
    · have H := of_false H hb6
      refine W.skip ?_
      refine At.thenC ?_
      refine W.seq ?_
      obtain ⟨y7, hy8, H⟩ := of_bindO H
      obtain ⟨y9, hy10, H⟩ := of_bindO H
      refine W.region env [] [⟨.clo (.func 117) [] [.rp [roL 1 enc_Int p1]], [], 0, []⟩, ⟨romL (.agg #[.int .i64 0, .int .i64 0]) (fun (x : round_reached) => .agg [.int .i64 (x.at_), .int .i64 (x.way)]) y7, [], 0, []⟩, ⟨roL 1 enc_Int y9, [], 0, []⟩] rfl rfl rfl .nil (.free (c_round_truly p1) (.free (c_round_reach fuel p0 p2 p3 (fun x0 => round_truly_1 x0 p1) 117 [] ([.rp [roL 1 enc_Int p1]]) (fun x0 r h => c_round_truly_1 x0 p1 h) hy8) (.free (c_round_minutes p0 y7 hy10) .nil))) (At.keep (ts := [8, 9]) (ids := []) rfl rfl ?_)
      refine At.thenC ?_
      refine W.ret ?_
      cases H
      exact At.ret env.ty rfl rfl (fun q hq => by cases hq) (.refl _) hval

theorem c_slices_IndexFunc_Stop (p0 : (List Stop)) (p1 : Stop → Option Bool) (p1_g : Nat) (p1_a p1_b : List AV) (p1_h : ∀ x0 r, p1 x0 = some r → Ctr Try.prog p1_g (p1_a ++ ([.agg [.int .i64 (x0.Place), .int .i64 (x0.Window.Lo), .int .i64 (x0.Window.Hi), .int .i64 (x0.Serve)]] ++ p1_b)) (.bool (r))) {r : Int} (H : slices_IndexFunc_Stop p0 p1 = some r) : Ctr Try.prog 124 [roL 4 enc_Stop p0, .clo (.func p1_g) p1_a p1_b] (.int .i64 (r)) := by
  unfold slices_IndexFunc_Stop at H
  refine Ctr.of_body (N := 19) Try.func124 (by kernel_rfl) (c := _) rfl Try.ntmps124 rfl (fun w0 h0 hval => ?_)
  refine W.seq ?_
  refine W.region env [] [] rfl rfl rfl .nil .nil (At.keep (ts := [0, 1]) (ids := []) rfl rfl ?_)
  refine At.thenC ?_
  refine W.seq ?_
  refine W.seq ?_
  refine W.region env [] [] rfl rfl rfl .nil .nil (At.keep (ts := [0, 1, 7, 8]) (ids := []) rfl rfl ?_)
  refine At.thenC ?_
  refine W.block ?_
  refine At.keep (ts := [0, 1, 7, 8]) (ids := []) rfl rfl ?_
  refine W.len (t := 0) rfl (fun hn1 => ?_)
  refine W.rangeGo H (fun i1 (s1 : Unit) => [(0, roL 4 enc_Stop p0), (1, .clo (.func p1_g) p1_a p1_b), (7, .int .i64 (((p0.length : Nat) : Int))), (8, .int .i64 ((i1 : Int)))]) (fun i1 (s1 : Unit) => []) (.cons (.of_eq (by first | rfl | (simp; done) | omega | (simp; omega))) (.cons (.of_eq (by first | rfl | (simp; done) | omega | (simp; omega))) (.cons (.of_eq (by first | rfl | (simp; done) | omega | (simp; omega))) (.cons (.of_eq (by first | rfl | (simp; done) | omega | (simp; omega))) .nil)))) .nil (fun k1 i1 s1 hle1 H1 H2 K0 hK1 => ?_)
  refine W.seq ?_
  refine W.region env [] [] rfl rfl rfl .nil .nil (At.keep (ts := [0, 1, 7, 8, 9]) (ids := []) rfl rfl ?_)
  refine At.thenC ?_
  refine W.seq ?_
  refine W.cond rfl (fun hb2 => ?_) (fun hb2 => ?_)
  · have hi1 : i1 < p0.length := by have := of_decide_eq_true hb2; omega
    have H := H1 hi1
    refine W.skip ?_
    refine At.thenC ?_
    refine W.seq ?_
    refine W.block ?_
    refine W.seq ?_
    refine W.region env [] [] rfl rfl rfl .nil .nil (At.keep (ts := [0, 1, 5, 7, 8]) (ids := []) rfl rfl ?_)
    refine At.thenC ?_
    refine W.seq ?_
    obtain ⟨y3, hy4, H⟩ := of_bindO H
    refine W.region env [] [⟨.bool (y3), [], 0, []⟩] rfl rfl rfl (.cons (⟨by omega, by omega⟩ : 0 ≤ (i1 : Int) ∧ (i1 : Int) < ((p0.length : Nat) : Int)) .nil) (.free (p1_h (p0.getD i1 default) _ hy4) .nil) (At.keep (ts := [0, 1, 5, 7, 8, 16]) (ids := []) rfl rfl ?_)
    refine At.thenC ?_
    refine W.cond rfl (fun hb5 => ?_) (fun hb5 => ?_)
    · have H := of_true H hb5
      refine W.seq ?_
      refine W.region env [] [] rfl rfl rfl .nil .nil (At.keep (ts := [4]) (ids := []) rfl rfl ?_)
      refine At.thenC ?_
      refine W.ret ?_
      refine At.rinb ?_
      refine At.rthen ?_
      refine At.rthen ?_
      refine At.rinb ?_
      refine At.rthen ?_
      cases H
      exact At.ret env.ty rfl rfl (fun q hq => by cases hq) (.refl _) hval
    · have H := of_false H hb5
      refine W.skip ?_
      refine At.inb ?_
      refine At.thenC ?_
      refine W.region env [] [] rfl rfl rfl (.cons (by unfold inI; have := hn1; (try unfold maxLen at this); omega) .nil) .nil (At.keep (ts := [0, 1, 7, 8]) (ids := []) rfl rfl ?_)
      refine At.thenK (At.keep (ts := [0, 1, 7, 8]) (ids := []) rfl rfl ?_)
      exact At.conv (.cons (.of_eq (by first | rfl | (simp; done) | omega | (simp; omega))) (.cons (.of_eq (by first | rfl | (simp; done) | omega | (simp; omega))) (.cons (.of_eq (by first | rfl | (simp; done) | omega | (simp; omega))) (.cons (.of_eq (by first | rfl | (simp; done) | omega | (simp; omega))) .nil)))) .nil (hK1 hi1 () H)
  · have H := H2 (by have := of_decide_eq_false hb2; omega)
    refine W.exit ?_
    refine At.xthen ?_
    refine At.xthen ?_
    refine At.xhere ?_
    refine At.thenC ?_
    refine W.seq ?_
    refine W.region env [] [] rfl rfl rfl .nil .nil (At.keep (ts := [4]) (ids := []) rfl rfl ?_)
    refine At.thenC ?_
    refine W.ret ?_
    cases H
    exact At.ret env.ty rfl rfl (fun q hq => by cases hq) (.refl _) hval

theorem c_slices_ContainsFunc_Stop (p0 : (List Stop)) (p1 : Stop → Option Bool) (p1_g : Nat) (p1_a p1_b : List AV) (p1_h : ∀ x0 r, p1 x0 = some r → Ctr Try.prog p1_g (p1_a ++ ([.agg [.int .i64 (x0.Place), .int .i64 (x0.Window.Lo), .int .i64 (x0.Window.Hi), .int .i64 (x0.Serve)]] ++ p1_b)) (.bool (r))) {r : Bool} (H : slices_ContainsFunc_Stop p0 p1 = some r) : Ctr Try.prog 111 [roL 4 enc_Stop p0, .clo (.func p1_g) p1_a p1_b] (.bool (r)) := by
  unfold slices_ContainsFunc_Stop at H
  refine Ctr.of_body (N := 9) Try.func111 (by kernel_rfl) (c := _) rfl Try.ntmps111 rfl (fun w0 h0 hval => ?_)
  refine W.seq ?_
  refine W.region env [] [] rfl rfl rfl .nil .nil (At.keep (ts := [0, 1]) (ids := []) rfl rfl ?_)
  refine At.thenC ?_
  refine W.seq ?_
  obtain ⟨y1, hy2, H⟩ := of_bindO H
  refine W.region env [] [⟨.int .i64 (y1), [], 0, []⟩] rfl rfl rfl .nil (.free (c_slices_IndexFunc_Stop p0 p1 p1_g p1_a p1_b p1_h hy2) .nil) (At.keep (ts := [4]) (ids := []) rfl rfl ?_)
  refine At.thenC ?_
  refine W.ret ?_
  cases H
  exact At.ret env.ty rfl rfl (fun q hq => by cases hq) (.refl _) hval

theorem c_round_isStop (p0 : Stop) : Ctr Try.prog 106 [.agg [.int .i64 (p0.Place), .int .i64 (p0.Window.Lo), .int .i64 (p0.Window.Hi), .int .i64 (p0.Serve)]] (.bool ((round_isStop p0))) := by
  obtain ⟨r, H⟩ : ∃ r, round_isStop p0 = r := ⟨_, rfl⟩
  rw [H]
  unfold round_isStop at H
  refine Ctr.of_body (N := 16) Try.func106 (by kernel_rfl) (c := _) rfl Try.ntmps106 rfl (fun w0 h0 hval => ?_)
  refine W.seq ?_
  refine W.region env [] [] rfl rfl rfl .nil .nil (At.keep (ts := [1]) (ids := [1]) rfl rfl ?_)
  refine At.thenC ?_
  refine W.seq ?_
  refine W.region env [] [⟨.bool ((round_within p0.Place 0 11)), [], 0, []⟩, ⟨.bool ((round_isSpan p0.Window 0 1439)), [], 0, []⟩, ⟨.bool ((round_within p0.Serve 0 120)), [], 0, []⟩] rfl rfl rfl (.cons (fun h => h) (.cons (fun h => h) (.cons (fun h => h) (.cons (fun h => h) (.cons (fun h => h) (.cons (fun h => h) .nil)))))) (.free (c_round_within p0.Place 0 11) (.on (fun hW => c_round_isSpan p0.Window 0 1439) (.on (fun hW => c_round_within p0.Serve 0 120) .nil))) (At.keep (ts := [2]) (ids := []) rfl rfl ?_)
  refine At.thenC ?_
  refine W.ret ?_
  cases H
  exact At.ret env.ty rfl rfl (fun q hq => by cases hq) (.refl _) hval

theorem c_round_isRound_1 (p0 : Stop) (c0 : Chart) : Ctr Try.prog 110 [.agg [.int .i64 (p0.Place), .int .i64 (p0.Window.Lo), .int .i64 (p0.Window.Hi), .int .i64 (p0.Serve)], .rp [.int .i64 (c0.Places), roL 7 enc_Way c0.Ways]] (.bool ((round_isRound_1 p0 c0))) := by
  obtain ⟨r, H⟩ : ∃ r, round_isRound_1 p0 c0 = r := ⟨_, rfl⟩
  rw [H]
  unfold round_isRound_1 at H
  refine Ctr.of_body (N := 14) Try.func110 (by kernel_rfl) (c := _) rfl Try.ntmps110 rfl (fun w0 h0 hval => ?_)
  refine W.seq ?_
  refine W.region env [] [] rfl rfl rfl .nil .nil (At.keep (ts := [1, 2]) (ids := [2]) rfl rfl ?_)
  refine At.thenC ?_
  refine W.seq ?_
  refine W.region env [] [⟨.bool ((round_isStop p0)), [], 0, []⟩] rfl rfl rfl (.cons (fun h => h) (.cons (fun h => h) (.cons (fun h => h) (.cons (fun h => h) (.cons (fun h => by rw [h]; rfl) .nil))))) (.free (c_round_isStop p0) .nil) (At.keep (ts := [3]) (ids := []) rfl rfl ?_)
  refine At.thenC ?_
  refine W.ret ?_
  cases H
  exact At.ret env.ty rfl rfl (fun q hq => by cases hq) (.refl _) hval

theorem c_round_isRound (p0 : Chart) (p1 : Round) {r : Bool} (H : round_isRound p0 p1 = some r) : Ctr Try.prog 70 [.agg [.int .i64 (p0.Places), roL 7 enc_Way p0.Ways], .agg [.int .i64 (p1.Place), .int .i64 (p1.At), roL 4 enc_Stop p1.Stops]] (.bool (r)) := by
  unfold round_isRound at H
  refine Ctr.of_body (N := 31) Try.func70 (by kernel_rfl) (c := _) rfl Try.ntmps70 rfl (fun w0 h0 hval => ?_)
  refine W.seq ?_
  refine W.region env [] [] rfl rfl rfl .nil .nil (At.keep (ts := [2, 3]) (ids := [2, 3]) rfl rfl ?_)
  refine At.thenC ?_
  refine W.seq ?_
  refine W.region env [] [] rfl rfl rfl .nil .nil (At.keep (ts := [2, 3, 5]) (ids := [2, 3]) rfl rfl ?_)
  refine At.thenC ?_
  refine W.seq ?_
  obtain ⟨hc1, H⟩ := of_must H
  obtain ⟨y2, hy3, H⟩ := of_bindO H
  refine W.region env [] [⟨.bool ((round_within p1.Place 0 (p0.Places - 1))), [], 0, []⟩, ⟨.bool ((round_isMinute p1.At)), [], 0, []⟩, ⟨.bool (y2), [], 0, []⟩] rfl rfl rfl (.cons hc1 (.cons (fun h => h) (.cons (fun h => h) (.cons (fun h => h) (.cons (fun h => h) (.cons (fun h => h) (.cons (fun h => h) (.cons (fun h => h) (.cons (fun h => h) (.cons (fun h => h) (.cons (fun h => h) (.cons (fun h => h) (.cons (fun h => h) .nil))))))))))))) (.free (c_round_within p1.Place 0 (p0.Places - 1)) (.on (fun hW => c_round_isMinute p1.At) (.on (fun hW => c_slices_ContainsFunc_Stop p1.Stops (fun x0 => some (round_isRound_1 x0 p0)) 110 [] ([.rp [.int .i64 (p0.Places), roL 7 enc_Way p0.Ways]]) (fun x0 r h => by cases h; exact c_round_isRound_1 x0 p0) (of_true hy3 hW)) .nil))) (At.keep (ts := [4]) (ids := []) rfl rfl ?_)
  refine At.thenC ?_
  refine W.ret ?_
  cases H
  exact At.ret env.ty rfl rfl (fun q hq => by cases hq) (.refl _) hval

theorem c_round_CheckRound (p0 : Chart) (p1 : Round) {r : Int} (H : round_CheckRound p0 p1 = some r) : Ctr Try.prog 34 [.agg [.int .i64 (p0.Places), roL 7 enc_Way p0.Ways], .agg [.int .i64 (p1.Place), .int .i64 (p1.At), roL 4 enc_Stop p1.Stops]] (.int .i64 (r)) := by
  unfold round_CheckRound at H
  refine Ctr.of_body (N := 15) Try.func34 (by kernel_rfl) (c := _) rfl Try.ntmps34 rfl (fun w0 h0 hval => ?_)
  refine W.seq ?_
  refine W.region env [] [] rfl rfl rfl .nil .nil (At.keep (ts := [2, 3]) (ids := [2, 3]) rfl rfl ?_)
  refine At.thenC ?_
  refine W.seq ?_
  refine W.seq ?_
  obtain ⟨y1, hy2, H⟩ := of_bindO H
  refine W.region env [] [⟨.int .i64 (y1), [], 0, []⟩] rfl rfl rfl .nil (.free (c_round_Check p0 hy2) .nil) (At.keep (ts := [2, 3, 5]) (ids := [2, 3]) rfl rfl ?_)
  refine At.thenC ?_
  refine W.seq ?_
  refine W.region env [] [] rfl rfl rfl .nil .nil (At.keep (ts := [2, 3, 5, 9]) (ids := [2, 3]) rfl rfl ?_)
  refine At.thenC ?_
  refine W.cond rfl (fun hb3 => ?_) (fun hb3 => ?_)
  · have H := of_true H hb3
    refine W.seq ?_
    refine W.region env [] [] rfl rfl rfl .nil .nil (At.keep (ts := [4]) (ids := []) rfl rfl ?_)
    refine At.thenC ?_
    refine W.ret ?_
    refine At.rthen ?_
    cases H
    exact At.ret env.ty rfl rfl (fun q hq => by cases hq) (.refl _) hval
  · have H := of_false H hb3
    refine W.skip ?_
    refine At.thenC ?_
    refine W.seq ?_
    refine W.seq ?_
    obtain ⟨y4, hy5, H⟩ := of_bindO H
    refine W.region env [] [⟨.bool (y4), [], 0, []⟩] rfl rfl rfl .nil (.free (c_round_isRound p0 p1 hy5) .nil) (At.keep (ts := [14]) (ids := []) rfl rfl ?_)
    refine At.thenC ?_
    refine W.cond rfl (fun hb6 => ?_) (fun hb6 => ?_)
    · have H := of_true H hb6
      refine W.seq ?_
      refine W.region env [] [] rfl rfl rfl .nil .nil (At.keep (ts := [4]) (ids := []) rfl rfl ?_)
      refine At.thenC ?_
      refine W.ret ?_
      refine At.rthen ?_
      cases H
      exact At.ret env.ty rfl rfl (fun q hq => by cases hq) (.refl _) hval
    · have H := of_false H hb6
      refine W.skip ?_
      refine At.thenC ?_
      refine W.seq ?_
      refine W.region env [] [] rfl rfl rfl .nil .nil (At.keep (ts := [4]) (ids := []) rfl rfl ?_)
      refine At.thenC ?_
      refine W.ret ?_
      cases H
      exact At.ret env.ty rfl rfl (fun q hq => by cases hq) (.refl _) hval

theorem c_bits_Mul64 (p0 : Int) (p1 : Int) {r : (Int × Int)} (H : bits_Mul64 p0 p1 = some r) : Ctr Try.prog 128 [.int .u64 (p0), .int .u64 (p1)] (.tup [.int .u64 (r.1), .int .u64 (r.2)]) := by
  unfold bits_Mul64 at H
  refine Ctr.of_body (N := 51) Try.func128 (by kernel_rfl) (c := _) rfl Try.ntmps128 rfl (fun w0 h0 hval => ?_)
  refine W.seq ?_
  refine W.region env [] [] rfl rfl rfl .nil .nil (At.keep (ts := [0, 1]) (ids := []) rfl rfl ?_)
  refine At.thenC ?_
  refine W.seq ?_
  obtain ⟨hc1, H⟩ := of_must H
  refine W.region env [] [] rfl rfl rfl (.cons hc1 .nil) .nil (At.keep (ts := [0, 1, 6]) (ids := []) rfl rfl ?_)
  refine At.thenC ?_
  refine W.seq ?_
  refine W.region env [] [] rfl rfl rfl (.cons (by decide) .nil) .nil (At.keep (ts := [0, 1, 6, 7]) (ids := []) rfl rfl ?_)
  refine At.thenC ?_
  refine W.seq ?_
  obtain ⟨hc2, H⟩ := of_must H
  refine W.region env [] [] rfl rfl rfl (.cons hc2 .nil) .nil (At.keep (ts := [0, 1, 6, 7, 8]) (ids := []) rfl rfl ?_)
  refine At.thenC ?_
  refine W.seq ?_
  refine W.region env [] [] rfl rfl rfl (.cons (by decide) .nil) .nil (At.keep (ts := [0, 1, 6, 7, 8, 9]) (ids := []) rfl rfl ?_)
  refine At.thenC ?_
  refine W.seq ?_
  obtain ⟨hc3, H⟩ := of_must H
  refine W.region env [] [] rfl rfl rfl (.cons hc3 .nil) .nil (At.keep (ts := [0, 1, 6, 7, 8, 9, 10]) (ids := []) rfl rfl ?_)
  refine At.thenC ?_
  refine W.seq ?_
  obtain ⟨hc4, H⟩ := of_must H
  obtain ⟨hc5, H⟩ := of_must H
  refine W.region env [] [] rfl rfl rfl (.cons hc4 (.cons (by decide) (.cons hc5 .nil))) .nil (At.keep (ts := [0, 1, 6, 7, 9, 11]) (ids := []) rfl rfl ?_)
  refine At.thenC ?_
  refine W.seq ?_
  obtain ⟨hc6, H⟩ := of_must H
  refine W.region env [] [] rfl rfl rfl (.cons hc6 .nil) .nil (At.keep (ts := [0, 1, 6, 7, 9, 11, 12]) (ids := []) rfl rfl ?_)
  refine At.thenC ?_
  refine W.seq ?_
  refine W.region env [] [] rfl rfl rfl (.cons (by decide) .nil) .nil (At.keep (ts := [0, 1, 6, 7, 9, 12, 13]) (ids := []) rfl rfl ?_)
  refine At.thenC ?_
  refine W.seq ?_
  obtain ⟨hc7, H⟩ := of_must H
  obtain ⟨hc8, H⟩ := of_must H
  refine W.region env [] [] rfl rfl rfl (.cons hc7 (.cons hc8 .nil)) .nil (At.keep (ts := [0, 1, 7, 9, 12, 13]) (ids := []) rfl rfl ?_)
  refine At.thenC ?_
  refine W.seq ?_
  obtain ⟨hc9, H⟩ := of_must H
  obtain ⟨hc10, H⟩ := of_must H
  obtain ⟨hc11, H⟩ := of_must H
  refine W.region env [] [] rfl rfl rfl (.cons hc9 (.cons hc10 (.cons (by decide) (.cons hc11 .nil)))) .nil (At.keep (ts := [0, 1, 4]) (ids := []) rfl rfl ?_)
  refine At.thenC ?_
  refine W.seq ?_
  obtain ⟨hc12, H⟩ := of_must H
  refine W.region env [] [] rfl rfl rfl (.cons hc12 .nil) .nil (At.keep (ts := [4, 5]) (ids := []) rfl rfl ?_)
  refine At.thenC ?_
  refine W.ret ?_
  cases H
  exact At.ret env.ty rfl rfl (fun q hq => by cases hq) (.refl _) hval

theorem c_bits_Mul (p0 : Int) (p1 : Int) {r : (Int × Int)} (H : bits_Mul p0 p1 = some r) : Ctr Try.prog 125 [.int .u64 (p0), .int .u64 (p1)] (.tup [.int .u64 (r.1), .int .u64 (r.2)]) := by
  unfold bits_Mul at H
  refine Ctr.of_body (N := 30) Try.func125 (by kernel_rfl) (c := _) rfl Try.ntmps125 rfl (fun w0 h0 hval => ?_)
  refine W.seq ?_
  refine W.region env [] [] rfl rfl rfl .nil .nil (At.keep (ts := [0, 1]) (ids := []) rfl rfl ?_)
  refine At.thenC ?_
  refine W.seq ?_
  refine W.cond rfl (fun hb1 => by cases hb1) (fun hb1 => ?_)
  refine W.skip ?_
  refine At.thenC ?_
  refine W.seq ?_
  obtain ⟨y2, hy3, H⟩ := of_bindO H
  refine W.region env [] [⟨.tup [.int .u64 (y2.1), .int .u64 (y2.2)], [], 0, []⟩] rfl rfl rfl .nil (.free (c_bits_Mul64 p0 p1 hy3) .nil) (At.keep (ts := [8, 9]) (ids := []) rfl rfl ?_)
  refine At.thenC ?_
  refine W.seq ?_
  refine W.region env [] [] rfl rfl rfl .nil .nil (At.keep (ts := [4, 5]) (ids := []) rfl rfl ?_)
  refine At.thenC ?_
  refine W.ret ?_
  cases H
  exact At.ret env.ty rfl rfl (fun q hq => by cases hq) (.refl _) hval

theorem c_slices_Repeat_int (fuel : Nat) (p0 : (List Int)) (p1 : Int) {r : (List Int)} (H : slices_Repeat_int fuel p0 p1 = some r) : Ctr Try.prog 118 [roL 1 enc_Int p0, .int .i64 (p1)] (roL 1 enc_Int r) := by
  unfold slices_Repeat_int at H
  refine Ctr.of_body (N := 48) Try.func118 (by kernel_rfl) (c := _) rfl Try.ntmps118 rfl (fun w0 h0 hval => ?_)
  refine W.seq ?_
  refine W.region env [] [] rfl rfl rfl .nil .nil (At.keep (ts := [0, 1]) (ids := []) rfl rfl ?_)
  refine At.thenC ?_
  refine W.seq ?_
  refine W.seq ?_
  refine W.region env [] [] rfl rfl rfl .nil .nil (At.keep (ts := [0, 1, 10]) (ids := []) rfl rfl ?_)
  refine At.thenC ?_
  refine W.joinC H (fun (s1 : Unit) => [(0, roL 1 enc_Int p0), (1, .int .i64 (p1))]) (fun (s1 : Unit) => []) (fun s1 H => ?_) (fun k1 H hK1 => ?_)
  · refine W.seq ?_
    obtain ⟨hc2, H⟩ := of_must H
    obtain ⟨hc3, H⟩ := of_must H
    obtain ⟨y4, hy5, H⟩ := of_bindO H
    refine W.region env [] [⟨.tup [.int .u64 (y4.1), .int .u64 (y4.2)], [], 0, []⟩] rfl rfl rfl (.cons hc2 (.cons hc3 .nil)) (.free (c_bits_Mul ((p0.length : Nat) : Int) p1 hy5) .nil) (At.keep (ts := [0, 5, 6]) (ids := []) rfl rfl ?_)
    refine At.thenC ?_
    refine W.seq ?_
    refine W.seq ?_
    refine W.region env [] [] rfl rfl rfl (.cons (fun h => h) (.cons (fun h => by rw [h]; rfl) .nil)) .nil (At.keep (ts := [0, 6, 26]) (ids := []) rfl rfl ?_)
    refine At.thenC ?_
    refine W.joinC H (fun (s6 : Unit) => [(0, roL 1 enc_Int p0), (6, .int .u64 (y4.2))]) (fun (s6 : Unit) => []) (fun s6 H => ?_) (fun k6 H hK6 => ?_)
    · refine W.seq ?_
      obtain ⟨hc7, H⟩ := of_must H
      obtain ⟨hc8, H⟩ := of_must H
      refine W.region env [] [] rfl rfl rfl (.cons hc7 (.cons hc8 .nil)) .nil (At.keep (ts := [0, 7]) (ids := [30]) rfl rfl ?_)
      refine At.convM (.cons (y := bufL 3 1 enc_Int (List.replicate (y4.2).toNat (0 : Int))) (BSim.seg (Seg.made (f := enc_Int) 0 rfl)) .nil) ?_
      refine At.thenC ?_
      refine W.seq ?_
      refine W.region env [] [] rfl rfl rfl (.cons (by first | rfl | (simp; done) | omega | (simp; omega)) .nil) .nil (At.keep (ts := [7, 8]) (ids := [30]) rfl rfl ?_)
      refine At.convM (.cons (y := bufL 3 1 enc_Int (copyAt (List.replicate (y4.2).toNat (0 : Int)) 0 (min p0.length (List.replicate (y4.2).toNat (0 : Int)).length) (fun q => p0.getD q default))) (BSim.seg (Seg.copied (Seg.refl enc_Int _) (Seg.refl enc_Int p0))) .nil) ?_
      refine At.thenC ?_
      refine W.seq ?_
      refine W.block ?_
      refine At.keep (ts := [7, 8]) (ids := [30]) rfl rfl ?_
      refine W.loopGo H (fun (s9 : Int × (List Int)) => [(7, .buf 30 (s9.2).length), (8, .int .i64 (s9.1))]) (fun (s9 : Int × (List Int)) => [(30, bufL 3 1 enc_Int s9.2)]) (.cons (.of_eq (by refine bufEq ?_; first | (simp [copyAt]; done) | omega | (simp [copyAt]; omega) | rfl)) (.cons (.of_eq (by first | rfl | (simp; done) | omega | (simp; omega))) .nil)) (.cons (.of_eq (by first | rfl | (simp; done) | omega | (simp; omega))) .nil) (fun k9 s9 H K0 hK9 => ?_)
      refine W.seq ?_
      refine W.seq ?_
      refine W.region env [] [] rfl rfl rfl (.cons (by first | rfl | (simp; done) | omega | (simp; omega)) .nil) .nil (At.keep (ts := [7, 8, 37]) (ids := [30]) rfl rfl ?_)
      refine At.thenC ?_
      refine W.cond rfl (fun hb10 => ?_) (fun hb10 => ?_)
      · have H := of_true H hb10
        refine W.skip ?_
        refine At.thenC ?_
        refine W.block ?_
        obtain ⟨hc11, H⟩ := of_must H
        obtain ⟨hc12, H⟩ := of_must H
        obtain ⟨hc13, H⟩ := of_must H
        refine W.region env [] [] rfl rfl rfl (.cons (⟨by first | rfl | (simp; done) | omega | (simp; omega), hc11⟩) (.cons (⟨by first | rfl | (simp; done) | omega | (simp; omega), hc12⟩) (.cons (⟨by first | rfl | (simp; done) | omega | (simp; omega), by first | rfl | (simp; done) | omega | (simp; omega), by omega, by omega, by omega, by omega⟩) (.cons hc13 .nil)))) .nil (At.keep (ts := [7, 8]) (ids := [30]) rfl rfl ?_)
        refine At.convM (.cons (y := bufL 3 1 enc_Int (copyAt s9.2 ((s9.1).toNat) (min ((s9.1).toNat - 0) (s9.2.length - (s9.1).toNat)) (fun q => s9.2.getD (0 + q) default))) (BSim.seg (Seg.copyIn (a := (s9.1).toNat) (b := s9.2.length) (a2 := 0) (b2 := (s9.1).toNat) (Seg.refl enc_Int _) (by omega) (by omega))) .nil) ?_
        refine At.inb ?_
        refine At.thenK (At.keep (ts := [7, 8]) (ids := [30]) rfl rfl ?_)
        exact At.conv (.cons (.of_eq (by refine bufEq ?_; first | (simp [copyAt]; done) | omega | (simp [copyAt]; omega) | rfl)) (.cons (.of_eq (by first | rfl | (simp; done) | omega | (simp; omega))) .nil)) (.cons (.of_eq (by first | rfl | (simp; done) | omega | (simp; omega))) .nil) (hK9 ((s9.1 + (((min ((s9.1).toNat - 0) (s9.2.length - (s9.1).toNat)) : Nat) : Int)), (copyAt s9.2 ((s9.1).toNat) (min ((s9.1).toNat - 0) (s9.2.length - (s9.1).toNat)) (fun q => s9.2.getD (0 + q) default))) H)
      · have H := of_false H hb10
        refine W.exit ?_
        refine At.xthen ?_
        refine At.xthen ?_
        refine At.xhere ?_
        refine At.thenC ?_
        refine W.seq ?_
        refine W.region env [] [] rfl rfl rfl .nil .nil (At.keep (ts := [4]) (ids := [30]) rfl rfl ?_)
        refine At.thenC ?_
        refine W.ret ?_
        cases H
        exact At.ret env.ty rfl rfl (fun q hq => by cases hq; exact (by first | rfl | (simp; done) | omega | (simp; omega))) (.refl _) hval
    · refine W.cond rfl (fun hb14 => ?_) (fun hb14 => ?_)
      · have H := of_true H hb14
        cases H
      · have H := of_false H hb14
        refine W.skip ?_
        refine At.thenK (At.keep (ts := [0, 6]) (ids := []) rfl rfl ?_)
        exact At.conv (.cons (.of_eq (by first | rfl | (simp; done) | omega | (simp; omega))) (.cons (.of_eq (by first | rfl | (simp; done) | omega | (simp; omega))) .nil)) .nil (hK6 () H)
  · refine W.cond rfl (fun hb15 => ?_) (fun hb15 => ?_)
    · have H := of_true H hb15
      cases H
    · have H := of_false H hb15
      refine W.skip ?_
      refine At.thenK (At.keep (ts := [0, 1]) (ids := []) rfl rfl ?_)
      exact At.conv (.cons (.of_eq (by first | rfl | (simp; done) | omega | (simp; omega))) (.cons (.of_eq (by first | rfl | (simp; done) | omega | (simp; omega))) .nil)) .nil (hK1 () H)

theorem co_slices_Repeat_int (fuel : Nat) (p0 : (List Int)) (p1 : Int) {r : (List Int)} (H : slices_Repeat_int fuel p0 p1 = some r) : CtrO Try.prog 118 [roL 1 enc_Int p0, .int .i64 (p1)] [] (.buf 900 r.length) [(900, bufL 3 1 enc_Int r)] := by
  unfold slices_Repeat_int at H
  refine CtrO.of_body (N := 48) Try.func118 (by kernel_rfl) (c := _) rfl Try.ntmps118 rfl (fun w0 h0 ρb hval hdom => ?_)
  refine W.seq ?_
  refine W.region env [] [] rfl rfl rfl .nil .nil (At.keep (ts := [0, 1]) (ids := []) rfl rfl ?_)
  refine At.thenC ?_
  refine W.seq ?_
  refine W.seq ?_
  refine W.region env [] [] rfl rfl rfl .nil .nil (At.keep (ts := [0, 1, 10]) (ids := []) rfl rfl ?_)
  refine At.thenC ?_
  refine W.joinC H (fun (s1 : Unit) => [(0, roL 1 enc_Int p0), (1, .int .i64 (p1))]) (fun (s1 : Unit) => []) (fun s1 H => ?_) (fun k1 H hK1 => ?_)
  · refine W.seq ?_
    obtain ⟨hc2, H⟩ := of_must H
    obtain ⟨hc3, H⟩ := of_must H
    obtain ⟨y4, hy5, H⟩ := of_bindO H
    refine W.region env [] [⟨.tup [.int .u64 (y4.1), .int .u64 (y4.2)], [], 0, []⟩] rfl rfl rfl (.cons hc2 (.cons hc3 .nil)) (.free (c_bits_Mul ((p0.length : Nat) : Int) p1 hy5) .nil) (At.keep (ts := [0, 5, 6]) (ids := []) rfl rfl ?_)
    refine At.thenC ?_
    refine W.seq ?_
    refine W.seq ?_
    refine W.region env [] [] rfl rfl rfl (.cons (fun h => h) (.cons (fun h => by rw [h]; rfl) .nil)) .nil (At.keep (ts := [0, 6, 26]) (ids := []) rfl rfl ?_)
    refine At.thenC ?_
    refine W.joinC H (fun (s6 : Unit) => [(0, roL 1 enc_Int p0), (6, .int .u64 (y4.2))]) (fun (s6 : Unit) => []) (fun s6 H => ?_) (fun k6 H hK6 => ?_)
    · refine W.seq ?_
      obtain ⟨hc7, H⟩ := of_must H
      obtain ⟨hc8, H⟩ := of_must H
      refine W.region env [] [] rfl rfl rfl (.cons hc7 (.cons hc8 .nil)) .nil (At.keep (ts := [0, 7]) (ids := [30]) rfl rfl ?_)
      refine At.convM (.cons (y := bufL 3 1 enc_Int (List.replicate (y4.2).toNat (0 : Int))) (BSim.seg (Seg.made (f := enc_Int) 0 rfl)) .nil) ?_
      refine At.thenC ?_
      refine W.seq ?_
      refine W.region env [] [] rfl rfl rfl (.cons (by first | rfl | (simp; done) | omega | (simp; omega)) .nil) .nil (At.keep (ts := [7, 8]) (ids := [30]) rfl rfl ?_)
      refine At.convM (.cons (y := bufL 3 1 enc_Int (copyAt (List.replicate (y4.2).toNat (0 : Int)) 0 (min p0.length (List.replicate (y4.2).toNat (0 : Int)).length) (fun q => p0.getD q default))) (BSim.seg (Seg.copied (Seg.refl enc_Int _) (Seg.refl enc_Int p0))) .nil) ?_
      refine At.thenC ?_
      refine W.seq ?_
      refine W.block ?_
      refine At.keep (ts := [7, 8]) (ids := [30]) rfl rfl ?_
      refine W.loopGo H (fun (s9 : Int × (List Int)) => [(7, .buf 30 (s9.2).length), (8, .int .i64 (s9.1))]) (fun (s9 : Int × (List Int)) => [(30, bufL 3 1 enc_Int s9.2)]) (.cons (.of_eq (by refine bufEq ?_; first | (simp [copyAt]; done) | omega | (simp [copyAt]; omega) | rfl)) (.cons (.of_eq (by first | rfl | (simp; done) | omega | (simp; omega))) .nil)) (.cons (.of_eq (by first | rfl | (simp; done) | omega | (simp; omega))) .nil) (fun k9 s9 H K0 hK9 => ?_)
      refine W.seq ?_
      refine W.seq ?_
      refine W.region env [] [] rfl rfl rfl (.cons (by first | rfl | (simp; done) | omega | (simp; omega)) .nil) .nil (At.keep (ts := [7, 8, 37]) (ids := [30]) rfl rfl ?_)
      refine At.thenC ?_
      refine W.cond rfl (fun hb10 => ?_) (fun hb10 => ?_)
      · have H := of_true H hb10
        refine W.skip ?_
        refine At.thenC ?_
        refine W.block ?_
        obtain ⟨hc11, H⟩ := of_must H
        obtain ⟨hc12, H⟩ := of_must H
        obtain ⟨hc13, H⟩ := of_must H
        refine W.region env [] [] rfl rfl rfl (.cons (⟨by first | rfl | (simp; done) | omega | (simp; omega), hc11⟩) (.cons (⟨by first | rfl | (simp; done) | omega | (simp; omega), hc12⟩) (.cons (⟨by first | rfl | (simp; done) | omega | (simp; omega), by first | rfl | (simp; done) | omega | (simp; omega), by omega, by omega, by omega, by omega⟩) (.cons hc13 .nil)))) .nil (At.keep (ts := [7, 8]) (ids := [30]) rfl rfl ?_)
        refine At.convM (.cons (y := bufL 3 1 enc_Int (copyAt s9.2 ((s9.1).toNat) (min ((s9.1).toNat - 0) (s9.2.length - (s9.1).toNat)) (fun q => s9.2.getD (0 + q) default))) (BSim.seg (Seg.copyIn (a := (s9.1).toNat) (b := s9.2.length) (a2 := 0) (b2 := (s9.1).toNat) (Seg.refl enc_Int _) (by omega) (by omega))) .nil) ?_
        refine At.inb ?_
        refine At.thenK (At.keep (ts := [7, 8]) (ids := [30]) rfl rfl ?_)
        exact At.conv (.cons (.of_eq (by refine bufEq ?_; first | (simp [copyAt]; done) | omega | (simp [copyAt]; omega) | rfl)) (.cons (.of_eq (by first | rfl | (simp; done) | omega | (simp; omega))) .nil)) (.cons (.of_eq (by first | rfl | (simp; done) | omega | (simp; omega))) .nil) (hK9 ((s9.1 + (((min ((s9.1).toNat - 0) (s9.2.length - (s9.1).toNat)) : Nat) : Int)), (copyAt s9.2 ((s9.1).toNat) (min ((s9.1).toNat - 0) (s9.2.length - (s9.1).toNat)) (fun q => s9.2.getD (0 + q) default))) H)
      · have H := of_false H hb10
        refine W.exit ?_
        refine At.xthen ?_
        refine At.xthen ?_
        refine At.xhere ?_
        refine At.thenC ?_
        refine W.seq ?_
        refine W.region env [] [] rfl rfl rfl .nil .nil (At.keep (ts := [4]) (ids := [30]) rfl rfl ?_)
        refine At.thenC ?_
        refine W.ret ?_
        cases H
        exact At.retK env.ty [30] 870 rfl rfl rfl rfl (.cons (.refl _) .nil) (.of_eq (by refine bufEq ?_; first | (simp [copyAt]; done) | omega | (simp [copyAt]; omega) | rfl)) hval hdom rfl
    · refine W.cond rfl (fun hb14 => ?_) (fun hb14 => ?_)
      · have H := of_true H hb14
        cases H
      · have H := of_false H hb14
        refine W.skip ?_
        refine At.thenK (At.keep (ts := [0, 6]) (ids := []) rfl rfl ?_)
        exact At.conv (.cons (.of_eq (by first | rfl | (simp; done) | omega | (simp; omega))) (.cons (.of_eq (by first | rfl | (simp; done) | omega | (simp; omega))) .nil)) .nil (hK6 () H)
  · refine W.cond rfl (fun hb15 => ?_) (fun hb15 => ?_)
    · have H := of_true H hb15
      cases H
    · have H := of_false H hb15
      refine W.skip ?_
      refine At.thenK (At.keep (ts := [0, 1]) (ids := []) rfl rfl ?_)
      exact At.conv (.cons (.of_eq (by first | rfl | (simp; done) | omega | (simp; omega))) (.cons (.of_eq (by first | rfl | (simp; done) | omega | (simp; omega))) .nil)) .nil (hK1 () H)

theorem c_round_begins (fuel : Nat) (p0 : Chart) (p1 : Round) (p2 : Int → Option Int) (p2_g : Nat) (p2_a p2_b : List AV) (p2_h : ∀ x0 r, p2 x0 = some r → Ctr Try.prog p2_g (p2_a ++ ([.int .i64 (x0)] ++ p2_b)) (.int .i64 (r))) {r : (List Int)} (H : round_begins fuel p0 p1 p2 = some r) : Ctr Try.prog 83 [.agg [.int .i64 (p0.Places), roL 7 enc_Way p0.Ways], .agg [.int .i64 (p1.Place), .int .i64 (p1.At), roL 4 enc_Stop p1.Stops], .clo (.func p2_g) p2_a p2_b] (roL 1 enc_Int r) := by
  unfold round_begins at H
  refine Ctr.of_body (N := 72) Try.func83 (by kernel_rfl) (c := _) rfl Try.ntmps83 rfl (fun w0 h0 hval => ?_)
  refine W.seq ?_
  refine W.region env [] [] rfl rfl rfl .nil .nil (At.keep (ts := [2, 3, 4]) (ids := [3, 4]) rfl rfl ?_)
  refine At.thenC ?_
  refine W.seq ?_
  obtain ⟨y1, hy2, H⟩ := of_bindO H
  refine W.region env [] [⟨.buf 900 y1.length, [(900, bufL 3 1 enc_Int y1)], 20000, []⟩] rfl rfl (by kernel_rfl) .nil (.free (Ctr.sim (.cons (Sim.lit (f := enc_Int) ([(-1)] : List Int) rfl rfl (fun _ => rfl)) (.cons (.refl _) .nil)) ((Ctr.ofO (co_slices_Repeat_int fuel ([(-1)] : List Int) ((p1.Stops.length : Nat) : Int) hy2)))) .nil) (At.keep (ts := [2, 3, 4, 7]) (ids := [3, 4, 20900]) rfl rfl ?_)
  refine At.thenC ?_
  refine W.seq ?_
  refine W.region env [] [] rfl rfl rfl .nil .nil (At.keep (ts := [2, 3, 4, 7, 8, 9]) (ids := [3, 4, 20900]) rfl rfl ?_)
  refine At.thenC ?_
  refine W.seq ?_
  refine W.seq ?_
  refine W.region env [] [] rfl rfl rfl .nil .nil (At.keep (ts := [2, 3, 7, 8, 9, 25, 26, 27]) (ids := [3, 20900]) rfl rfl ?_)
  refine At.thenC ?_
  refine W.block ?_
  refine At.keep (ts := [2, 3, 7, 8, 9, 25, 26, 27]) (ids := [3, 20900]) rfl rfl ?_
  refine W.len (t := 25) rfl (fun hn3 => ?_)
  refine W.rangeGo H (fun i3 (s3 : Int × Int × (List Int)) => [(2, .clo (.func p2_g) p2_a p2_b), (3, .lp 3 0), (7, .buf 20900 (s3.2.2).length), (8, .int .i64 (s3.1)), (9, .int .i64 (s3.2.1)), (25, roL 4 enc_Stop p1.Stops), (26, .int .i64 (((p1.Stops.length : Nat) : Int))), (27, .int .i64 ((i3 : Int)))]) (fun i3 (s3 : Int × Int × (List Int)) => [(3, .cells [.int .i64 (p0.Places), roL 7 enc_Way p0.Ways]), (20900, bufL 3 1 enc_Int s3.2.2)]) (.cons (.of_eq (by first | rfl | (simp; done) | omega | (simp; omega))) (.cons (.of_eq (by first | rfl | (simp; done) | omega | (simp; omega))) (.cons (.of_eq (by refine bufEq ?_; first | (simp [copyAt]; done) | omega | (simp [copyAt]; omega) | rfl)) (.cons (.of_eq (by first | rfl | (simp; done) | omega | (simp; omega))) (.cons (.of_eq (by first | rfl | (simp; done) | omega | (simp; omega))) (.cons (.of_eq (by first | rfl | (simp; done) | omega | (simp; omega))) (.cons (.of_eq (by first | rfl | (simp; done) | omega | (simp; omega))) (.cons (.of_eq (by first | rfl | (simp; done) | omega | (simp; omega))) .nil)))))))) (.cons (.of_eq (by first | rfl | (simp; done) | omega | (simp; omega))) (.cons (.of_eq (by first | rfl | (simp; done) | omega | (simp; omega))) .nil)) (fun k3 i3 s3 hle3 H1 H2 K0 hK3 => ?_)
  refine W.seq ?_
  refine W.region env [] [] rfl rfl rfl .nil .nil (At.keep (ts := [2, 3, 7, 8, 9, 25, 26, 27, 28]) (ids := [3, 20900]) rfl rfl ?_)
  refine At.thenC ?_
  refine W.seq ?_
  refine W.cond rfl (fun hb4 => ?_) (fun hb4 => ?_)
  · have hi3 : i3 < p1.Stops.length := by have := of_decide_eq_true hb4; omega
    have H := H1 hi3
    refine W.skip ?_
    refine At.thenC ?_
    refine W.seq ?_
    refine W.block ?_
    refine W.seq ?_
    refine W.region env [] [] rfl rfl rfl (.cons (⟨by omega, by omega⟩ : 0 ≤ (i3 : Int) ∧ (i3 : Int) < ((p1.Stops.length : Nat) : Int)) .nil) .nil (At.keep (ts := [2, 3, 7, 8, 9, 10, 11, 25, 26, 27]) (ids := [3, 11, 20900]) rfl rfl ?_)
    refine At.thenC ?_
    refine W.seq ?_
    refine W.seq ?_
    refine W.region env [] [] rfl rfl rfl .nil .nil (At.keep (ts := [2, 3, 7, 8, 9, 10, 11, 25, 26, 27, 33]) (ids := [3, 11, 20900]) rfl rfl ?_)
    refine At.thenC ?_
    refine W.cond rfl (fun hb5 => ?_) (fun hb5 => ?_)
    · have H := of_true H hb5
      refine W.exit ?_
      refine At.xthen ?_
      refine At.xpast rfl ?_
      refine At.xthen ?_
      refine At.xthen ?_
      refine At.xhere ?_
      refine At.thenC ?_
      refine W.seq ?_
      refine W.region env [] [] rfl rfl rfl .nil .nil (At.keep (ts := [6]) (ids := [20900]) rfl rfl ?_)
      refine At.thenC ?_
      refine W.ret ?_
      cases H
      exact At.ret env.ty rfl rfl (fun q hq => by cases hq; exact (by first | rfl | (simp; done) | omega | (simp; omega))) (.refl _) hval
    · have H := of_false H hb5
      refine W.skip ?_
      refine At.thenC ?_
      refine W.seq ?_
      obtain ⟨y6, hy7, H⟩ := of_bindO H
      refine W.region env [] [⟨romL (.agg #[.int .i64 0, .int .i64 0]) (fun (x : round_reached) => .agg [.int .i64 (x.at_), .int .i64 (x.way)]) y6, [], 0, []⟩] rfl rfl rfl (.cons rfl .nil) (.free (c_round_reach fuel p0 s3.1 s3.2.1 p2 p2_g p2_a p2_b p2_h hy7) .nil) (At.keep (ts := [2, 3, 7, 10, 11, 12, 13, 25, 26, 27]) (ids := [3, 11, 12, 20900]) rfl rfl ?_)
      refine At.thenC ?_
      refine W.seq ?_
      refine W.region env [] [] rfl rfl rfl .nil .nil (At.keep (ts := [2, 3, 7, 10, 11, 13, 14, 25, 26, 27]) (ids := [3, 11, 20900]) rfl rfl ?_)
      refine At.thenC ?_
      refine W.seq ?_
      refine W.seq ?_
      refine W.region env [] [] rfl rfl rfl (.cons (fun h => h) (.cons (fun h => h) (.cons (fun h => h) (.cons (fun h => h) (.cons (fun h => by rw [h]; rfl) .nil))))) .nil (At.keep (ts := [2, 3, 7, 10, 11, 14, 25, 26, 27, 59]) (ids := [3, 11, 20900]) rfl rfl ?_)
      refine At.thenC ?_
      refine W.cond rfl (fun hb8 => ?_) (fun hb8 => ?_)
      · have H := of_true H hb8
        refine W.exit ?_
        refine At.xthen ?_
        refine At.xpast rfl ?_
        refine At.xthen ?_
        refine At.xthen ?_
        refine At.xhere ?_
        refine At.thenC ?_
        refine W.seq ?_
        refine W.region env [] [] rfl rfl rfl .nil .nil (At.keep (ts := [6]) (ids := [20900]) rfl rfl ?_)
        refine At.thenC ?_
        refine W.ret ?_
        cases H
        exact At.ret env.ty rfl rfl (fun q hq => by cases hq; exact (by first | rfl | (simp; done) | omega | (simp; omega))) (.refl _) hval
      · have H := of_false H hb8
        refine W.skip ?_
        refine At.thenC ?_
        refine W.seq ?_
        obtain ⟨hc9, H⟩ := of_must H
        refine W.region env [] [] rfl rfl rfl (.cons (⟨by first | rfl | (simp; done) | omega | (simp; omega), hc9⟩) (.cons (⟨by first | rfl | (simp; done) | omega | (simp; omega), (by have := hc9; omega)⟩) .nil)) .nil (At.keep (ts := [2, 3, 7, 11, 14, 25, 26, 27]) (ids := [3, 11, 20900]) rfl rfl ?_)
        refine At.convM (.cons (.refl _) (.cons (.refl _) (.cons (y := bufL 3 1 enc_Int (s3.2.2.set i3 (max (((y6.get ((p1.Stops.getD i3 default).Place)).getD default).at_) ((p1.Stops.getD i3 default).Window.Lo)))) (BSim.seg (Seg.set (Seg.refl enc_Int _) (max (((y6.get ((p1.Stops.getD i3 default).Place)).getD default).at_) ((p1.Stops.getD i3 default).Window.Lo)) rfl)) .nil))) ?_
        refine At.thenC ?_
        obtain ⟨hc10, H⟩ := of_must H
        refine W.region env [] [] rfl rfl rfl (.cons hc10 .nil) .nil (At.keep (ts := [2, 3, 7, 8, 9, 25, 26, 27]) (ids := [3, 20900]) rfl rfl ?_)
        refine At.inb ?_
        refine At.thenC ?_
        refine W.region env [] [] rfl rfl rfl (.cons (by unfold inI; have := hn3; (try unfold maxLen at this); omega) .nil) .nil (At.keep (ts := [2, 3, 7, 8, 9, 25, 26, 27]) (ids := [3, 20900]) rfl rfl ?_)
        refine At.thenK (At.keep (ts := [2, 3, 7, 8, 9, 25, 26, 27]) (ids := [3, 20900]) rfl rfl ?_)
        exact At.conv (.cons (.of_eq (by first | rfl | (simp; done) | omega | (simp; omega))) (.cons (.of_eq (by first | rfl | (simp; done) | omega | (simp; omega))) (.cons (.of_eq (by refine bufEq ?_; first | (simp [copyAt]; done) | omega | (simp [copyAt]; omega) | rfl)) (.cons (.of_eq (by first | rfl | (simp; done) | omega | (simp; omega))) (.cons (.of_eq (by first | rfl | (simp; done) | omega | (simp; omega))) (.cons (.of_eq (by first | rfl | (simp; done) | omega | (simp; omega))) (.cons (.of_eq (by first | rfl | (simp; done) | omega | (simp; omega))) (.cons (.of_eq (by first | rfl | (simp; done) | omega | (simp; omega))) .nil)))))))) (.cons (.of_eq (by first | rfl | (simp; done) | omega | (simp; omega))) (.cons (.of_eq (by first | rfl | (simp; done) | omega | (simp; omega))) .nil)) (hK3 hi3 ((p1.Stops.getD i3 default).Place, ((max (((y6.get ((p1.Stops.getD i3 default).Place)).getD default).at_) ((p1.Stops.getD i3 default).Window.Lo)) + (p1.Stops.getD i3 default).Serve), (s3.2.2.set i3 (max (((y6.get ((p1.Stops.getD i3 default).Place)).getD default).at_) ((p1.Stops.getD i3 default).Window.Lo)))) H)
  · have H := H2 (by have := of_decide_eq_false hb4; omega)
    refine W.exit ?_
    refine At.xthen ?_
    refine At.xthen ?_
    refine At.xhere ?_
    refine At.thenC ?_
    refine W.seq ?_
    refine W.region env [] [] rfl rfl rfl .nil .nil (At.keep (ts := [6]) (ids := [20900]) rfl rfl ?_)
    refine At.thenC ?_
    refine W.ret ?_
    cases H
    exact At.ret env.ty rfl rfl (fun q hq => by cases hq; exact (by first | rfl | (simp; done) | omega | (simp; omega))) (.refl _) hval

theorem c_round_Begins (fuel : Nat) (p0 : Chart) (p1 : Round) {r : ((List Int) × Int)} (H : round_Begins fuel p0 p1 = some r) : Ctr Try.prog 28 [.agg [.int .i64 (p0.Places), roL 7 enc_Way p0.Ways], .agg [.int .i64 (p1.Place), .int .i64 (p1.At), roL 4 enc_Stop p1.Stops]] (.tup [roL 1 enc_Int r.1, .int .i64 (r.2)]) := by
  unfold round_Begins at H
  refine Ctr.of_body (N := 18) Try.func28 (by kernel_rfl) (c := _) rfl Try.ntmps28 rfl (fun w0 h0 hval => ?_)
  refine W.seq ?_
  refine W.region env [] [] rfl rfl rfl .nil .nil (At.keep (ts := [2, 3]) (ids := [2, 3]) rfl rfl ?_)
  refine At.thenC ?_
  refine W.seq ?_
  refine W.seq ?_
  obtain ⟨y1, hy2, H⟩ := of_bindO H
  refine W.region env [] [⟨.int .i64 (y1), [], 0, []⟩] rfl rfl rfl .nil (.free (c_round_CheckRound p0 p1 hy2) .nil) (At.keep (ts := [2, 3, 6]) (ids := [2, 3]) rfl rfl ?_)
  refine At.thenC ?_
  refine W.seq ?_
  refine W.region env [] [] rfl rfl rfl .nil .nil (At.keep (ts := [2, 3, 6, 11]) (ids := [2, 3]) rfl rfl ?_)
  refine At.thenC ?_
  refine W.cond rfl (fun hb3 => ?_) (fun hb3 => ?_)
  · have H := of_true H hb3
    refine W.seq ?_
    refine W.region env [] [] rfl rfl rfl .nil .nil (At.keep (ts := [4, 5]) (ids := []) rfl rfl ?_)
    refine At.thenC ?_
    refine W.ret ?_
    refine At.rthen ?_
    cases H
    exact At.ret env.ty rfl rfl (fun q hq => by cases hq) (Sim.tupL (.cons (Sim.nil _ _) (.cons (.refl _) .nil))) hval
  · have H := of_false H hb3
    refine W.skip ?_
    refine At.thenC ?_
    refine W.seq ?_
    obtain ⟨y4, hy5, H⟩ := of_bindO H
    refine W.region env [] [⟨.clo (.func 115) [] [.rp [.int .i64 (p0.Places), roL 7 enc_Way p0.Ways]], [], 0, []⟩, ⟨roL 1 enc_Int y4, [], 0, []⟩] rfl rfl rfl .nil (.free (c_round_most p0) (.free (c_round_begins fuel p0 p1 (fun x0 => round_most_1 x0 p0) 115 [] ([.rp [.int .i64 (p0.Places), roL 7 enc_Way p0.Ways]]) (fun x0 r h => c_round_most_1 x0 p0 h) hy5) .nil)) (At.keep (ts := [4, 5]) (ids := []) rfl rfl ?_)
    refine At.thenC ?_
    refine W.ret ?_
    cases H
    exact At.ret env.ty rfl rfl (fun q hq => by cases hq) (.refl _) hval

theorem c_slices_Index_int (p0 : (List Int)) (p1 : Int) {r : Int} (H : slices_Index_int p0 p1 = some r) : Ctr Try.prog 126 [roL 1 enc_Int p0, .int .i64 (p1)] (.int .i64 (r)) := by
  unfold slices_Index_int at H
  refine Ctr.of_body (N := 19) Try.func126 (by kernel_rfl) (c := _) rfl Try.ntmps126 rfl (fun w0 h0 hval => ?_)
  refine W.seq ?_
  refine W.region env [] [] rfl rfl rfl .nil .nil (At.keep (ts := [0, 1]) (ids := []) rfl rfl ?_)
  refine At.thenC ?_
  refine W.seq ?_
  refine W.seq ?_
  refine W.region env [] [] rfl rfl rfl .nil .nil (At.keep (ts := [0, 1, 7, 8]) (ids := []) rfl rfl ?_)
  refine At.thenC ?_
  refine W.block ?_
  refine At.keep (ts := [0, 1, 7, 8]) (ids := []) rfl rfl ?_
  refine W.len (t := 0) rfl (fun hn1 => ?_)
  refine W.rangeGo H (fun i1 (s1 : Unit) => [(0, roL 1 enc_Int p0), (1, .int .i64 (p1)), (7, .int .i64 (((p0.length : Nat) : Int))), (8, .int .i64 ((i1 : Int)))]) (fun i1 (s1 : Unit) => []) (.cons (.of_eq (by first | rfl | (simp; done) | omega | (simp; omega))) (.cons (.of_eq (by first | rfl | (simp; done) | omega | (simp; omega))) (.cons (.of_eq (by first | rfl | (simp; done) | omega | (simp; omega))) (.cons (.of_eq (by first | rfl | (simp; done) | omega | (simp; omega))) .nil)))) .nil (fun k1 i1 s1 hle1 H1 H2 K0 hK1 => ?_)
  refine W.seq ?_
  refine W.region env [] [] rfl rfl rfl .nil .nil (At.keep (ts := [0, 1, 7, 8, 9]) (ids := []) rfl rfl ?_)
  refine At.thenC ?_
  refine W.seq ?_
  refine W.cond rfl (fun hb2 => ?_) (fun hb2 => ?_)
  · have hi1 : i1 < p0.length := by have := of_decide_eq_true hb2; omega
    have H := H1 hi1
    refine W.skip ?_
    refine At.thenC ?_
    refine W.seq ?_
    refine W.block ?_
    refine W.seq ?_
    refine W.region env [] [] rfl rfl rfl .nil .nil (At.keep (ts := [0, 1, 5, 7, 8]) (ids := []) rfl rfl ?_)
    refine At.thenC ?_
    refine W.seq ?_
    refine W.region env [] [] rfl rfl rfl (.cons (⟨by omega, by omega⟩ : 0 ≤ (i1 : Int) ∧ (i1 : Int) < ((p0.length : Nat) : Int)) .nil) .nil (At.keep (ts := [0, 1, 5, 7, 8, 16]) (ids := []) rfl rfl ?_)
    refine At.thenC ?_
    refine W.cond rfl (fun hb3 => ?_) (fun hb3 => ?_)
    · have H := of_true H hb3
      refine W.seq ?_
      refine W.region env [] [] rfl rfl rfl .nil .nil (At.keep (ts := [4]) (ids := []) rfl rfl ?_)
      refine At.thenC ?_
      refine W.ret ?_
      refine At.rinb ?_
      refine At.rthen ?_
      refine At.rthen ?_
      refine At.rinb ?_
      refine At.rthen ?_
      cases H
      exact At.ret env.ty rfl rfl (fun q hq => by cases hq) (.refl _) hval
    · have H := of_false H hb3
      refine W.skip ?_
      refine At.inb ?_
      refine At.thenC ?_
      refine W.region env [] [] rfl rfl rfl (.cons (by unfold inI; have := hn1; (try unfold maxLen at this); omega) .nil) .nil (At.keep (ts := [0, 1, 7, 8]) (ids := []) rfl rfl ?_)
      refine At.thenK (At.keep (ts := [0, 1, 7, 8]) (ids := []) rfl rfl ?_)
      exact At.conv (.cons (.of_eq (by first | rfl | (simp; done) | omega | (simp; omega))) (.cons (.of_eq (by first | rfl | (simp; done) | omega | (simp; omega))) (.cons (.of_eq (by first | rfl | (simp; done) | omega | (simp; omega))) (.cons (.of_eq (by first | rfl | (simp; done) | omega | (simp; omega))) .nil)))) .nil (hK1 hi1 () H)
  · have H := H2 (by have := of_decide_eq_false hb2; omega)
    refine W.exit ?_
    refine At.xthen ?_
    refine At.xthen ?_
    refine At.xhere ?_
    refine At.thenC ?_
    refine W.seq ?_
    refine W.region env [] [] rfl rfl rfl .nil .nil (At.keep (ts := [4]) (ids := []) rfl rfl ?_)
    refine At.thenC ?_
    refine W.ret ?_
    cases H
    exact At.ret env.ty rfl rfl (fun q hq => by cases hq) (.refl _) hval

theorem c_slices_Contains_int (p0 : (List Int)) (p1 : Int) {r : Bool} (H : slices_Contains_int p0 p1 = some r) : Ctr Try.prog 119 [roL 1 enc_Int p0, .int .i64 (p1)] (.bool (r)) := by
  unfold slices_Contains_int at H
  refine Ctr.of_body (N := 9) Try.func119 (by kernel_rfl) (c := _) rfl Try.ntmps119 rfl (fun w0 h0 hval => ?_)
  refine W.seq ?_
  refine W.region env [] [] rfl rfl rfl .nil .nil (At.keep (ts := [0, 1]) (ids := []) rfl rfl ?_)
  refine At.thenC ?_
  refine W.seq ?_
  obtain ⟨y1, hy2, H⟩ := of_bindO H
  refine W.region env [] [⟨.int .i64 (y1), [], 0, []⟩] rfl rfl rfl .nil (.free (c_slices_Index_int p0 p1 hy2) .nil) (At.keep (ts := [4]) (ids := []) rfl rfl ?_)
  refine At.thenC ?_
  refine W.ret ?_
  cases H
  exact At.ret env.ty rfl rfl (fun q hq => by cases hq) (.refl _) hval

theorem c_round_all (p0 : (List Int)) {r : Bool} (H : round_all p0 = some r) : Ctr Try.prog 86 [roL 1 enc_Int p0] (.bool (r)) := by
  unfold round_all at H
  refine Ctr.of_body (N := 6) Try.func86 (by kernel_rfl) (c := _) rfl Try.ntmps86 rfl (fun w0 h0 hval => ?_)
  refine W.seq ?_
  refine W.region env [] [] rfl rfl rfl .nil .nil (At.keep (ts := [0]) (ids := []) rfl rfl ?_)
  refine At.thenC ?_
  refine W.seq ?_
  obtain ⟨y1, hy2, H⟩ := of_bindO H
  refine W.region env [] [⟨.bool (y1), [], 0, []⟩] rfl rfl rfl .nil (.free (c_slices_Contains_int p0 (-1) hy2) .nil) (At.keep (ts := [2]) (ids := []) rfl rfl ?_)
  refine At.thenC ?_
  refine W.ret ?_
  cases H
  exact At.ret env.ty rfl rfl (fun q hq => by cases hq) (.refl _) hval

theorem c_round_Slack_1 (fuel : Nat) (p0 : Int) (c0 : Round) (c1 : Chart) {r : Bool} (H : round_Slack_1 fuel p0 c0 c1 = some r) : Ctr Try.prog 85 [.int .i64 (p0), .rp [.int .i64 (c0.Place), .int .i64 (c0.At), roL 4 enc_Stop c0.Stops], .rp [.int .i64 (c1.Places), roL 7 enc_Way c1.Ways]] (.bool (r)) := by
  unfold round_Slack_1 at H
  refine Ctr.of_body (N := 23) Try.func85 (by kernel_rfl) (c := _) rfl Try.ntmps85 rfl (fun w0 h0 hval => ?_)
  refine W.seq ?_
  refine W.region env [] [] rfl rfl rfl .nil .nil (At.keep (ts := [0, 1, 2]) (ids := []) rfl rfl ?_)
  refine At.thenC ?_
  refine W.seq ?_
  refine W.region env [] [] rfl rfl rfl .nil .nil (At.keep (ts := [0, 2, 5]) (ids := [5]) rfl rfl ?_)
  refine At.thenC ?_
  refine W.seq ?_
  obtain ⟨hc1, H⟩ := of_must H
  refine W.region env [] [] rfl rfl rfl (.cons hc1 .nil) .nil (At.keep (ts := [2, 5]) (ids := [5]) rfl rfl ?_)
  refine At.thenC ?_
  refine W.seq ?_
  obtain ⟨y2, hy3, H⟩ := of_bindO H
  obtain ⟨y4, hy5, H⟩ := of_bindO H
  refine W.region env [] [⟨.clo (.func 115) [] [.rp [.int .i64 (c1.Places), roL 7 enc_Way c1.Ways]], [], 0, []⟩, ⟨roL 1 enc_Int y2, [], 0, []⟩, ⟨.bool (y4), [], 0, []⟩] rfl rfl rfl (.cons (fun h => h) (.cons (fun h => h) (.cons (fun h => h) (.cons (fun h => h) (.cons (fun h => h) (.cons (fun h => h) .nil)))))) (.on (fun _ => (c_round_most c1)) (.on (fun hW => c_round_begins fuel c1 (⟨c0.Place, (c0.At + p0), c0.Stops⟩ : Round) (fun x0 => round_most_1 x0 c1) 115 [] ([.rp [.int .i64 (c1.Places), roL 7 enc_Way c1.Ways]]) (fun x0 r h => c_round_most_1 x0 c1 h) (of_true hy3 hW)) (.on (fun hW => c_round_all y2 (of_true hy5 hW)) .nil))) (At.keep (ts := [4]) (ids := []) rfl rfl ?_)
  refine At.thenC ?_
  refine W.ret ?_
  cases H
  exact At.ret env.ty rfl rfl (fun q hq => by cases hq) (.refl _) hval

theorem c_round_Slack (fuel : Nat) (p0 : Chart) (p1 : Round) {r : (Int × Int)} (H : round_Slack fuel p0 p1 = some r) : Ctr Try.prog 32 [.agg [.int .i64 (p0.Places), roL 7 enc_Way p0.Ways], .agg [.int .i64 (p1.Place), .int .i64 (p1.At), roL 4 enc_Stop p1.Stops]] (.tup [.int .i64 (r.1), .int .i64 (r.2)]) := by
  unfold round_Slack at H
  refine Ctr.of_body (N := 35) Try.func32 (by kernel_rfl) (c := _) rfl Try.ntmps32 rfl (fun w0 h0 hval => ?_)
  refine W.seq ?_
  refine W.region env [] [] rfl rfl rfl .nil .nil (At.keep (ts := [2, 3]) (ids := [2, 3]) rfl rfl ?_)
  refine At.thenC ?_
  refine W.seq ?_
  refine W.seq ?_
  obtain ⟨y1, hy2, H⟩ := of_bindO H
  refine W.region env [] [⟨.int .i64 (y1), [], 0, []⟩] rfl rfl rfl .nil (.free (c_round_CheckRound p0 p1 hy2) .nil) (At.keep (ts := [2, 3, 6]) (ids := [2, 3]) rfl rfl ?_)
  refine At.thenC ?_
  refine W.seq ?_
  refine W.region env [] [] rfl rfl rfl .nil .nil (At.keep (ts := [2, 3, 6, 15]) (ids := [2, 3]) rfl rfl ?_)
  refine At.thenC ?_
  refine W.cond rfl (fun hb3 => ?_) (fun hb3 => ?_)
  · have H := of_true H hb3
    refine W.seq ?_
    refine W.region env [] [] rfl rfl rfl .nil .nil (At.keep (ts := [4, 5]) (ids := []) rfl rfl ?_)
    refine At.thenC ?_
    refine W.ret ?_
    refine At.rthen ?_
    cases H
    exact At.ret env.ty rfl rfl (fun q hq => by cases hq) (.refl _) hval
  · have H := of_false H hb3
    refine W.skip ?_
    refine At.thenC ?_
    refine W.seq ?_
    refine W.region env [] [] rfl rfl rfl .nil .nil (At.keep (ts := [7]) (ids := [2, 3]) rfl rfl ?_)
    refine At.thenC ?_
    refine W.seq ?_
    refine W.seq ?_
    obtain ⟨y4, hy5, H⟩ := of_bindO H
    refine W.region env [] [⟨.bool (y4), [], 0, []⟩] rfl rfl rfl .nil (.free (c_round_Slack_1 fuel 0 p1 p0 hy5) .nil) (At.keep (ts := [7, 20]) (ids := [2, 3]) rfl rfl ?_)
    refine At.thenC ?_
    refine W.cond rfl (fun hb6 => ?_) (fun hb6 => ?_)
    · have H := of_true H hb6
      refine W.seq ?_
      refine W.region env [] [] rfl rfl rfl .nil .nil (At.keep (ts := [4, 5]) (ids := []) rfl rfl ?_)
      refine At.thenC ?_
      refine W.ret ?_
      refine At.rthen ?_
      cases H
      exact At.ret env.ty rfl rfl (fun q hq => by cases hq) (.refl _) hval
    · have H := of_false H hb6
      refine W.skip ?_
      refine At.thenC ?_
      refine W.seq ?_
      refine W.region env [] [] rfl rfl rfl .nil .nil (At.keep (ts := [7, 8, 9]) (ids := [2, 3]) rfl rfl ?_)
      refine At.thenC ?_
      refine W.seq ?_
      refine W.block ?_
      refine At.keep (ts := [7, 8, 9]) (ids := [2, 3]) rfl rfl ?_
      refine W.loopGo H (fun (s7 : Int × Int) => [(7, .fn (.func 85) [] [.lp 3 0, .lp 2 0]), (8, .int .i64 (s7.1)), (9, .int .i64 (s7.2))]) (fun (s7 : Int × Int) => [(2, .cells [.int .i64 (p0.Places), roL 7 enc_Way p0.Ways]), (3, .cells [.int .i64 (p1.Place), .int .i64 (p1.At), roL 4 enc_Stop p1.Stops])]) (.cons (.of_eq (by first | rfl | (simp; done) | omega | (simp; omega))) (.cons (.of_eq (by first | rfl | (simp; done) | omega | (simp; omega))) (.cons (.of_eq (by first | rfl | (simp; done) | omega | (simp; omega))) .nil))) (.cons (.of_eq (by first | rfl | (simp; done) | omega | (simp; omega))) (.cons (.of_eq (by first | rfl | (simp; done) | omega | (simp; omega))) .nil)) (fun k7 s7 H K0 hK7 => ?_)
      refine W.seq ?_
      refine W.seq ?_
      obtain ⟨hc8, H⟩ := of_must H
      refine W.region env [] [] rfl rfl rfl (.cons hc8 .nil) .nil (At.keep (ts := [7, 8, 9, 24]) (ids := [2, 3]) rfl rfl ?_)
      refine At.thenC ?_
      refine W.cond rfl (fun hb9 => ?_) (fun hb9 => ?_)
      · have H := of_true H hb9
        refine W.skip ?_
        refine At.thenC ?_
        refine W.block ?_
        refine W.seq ?_
        obtain ⟨hc10, H⟩ := of_must H
        obtain ⟨hc11, H⟩ := of_must H
        refine W.region env [] [] rfl rfl rfl (.cons hc10 (.cons hc11 .nil)) .nil (At.keep (ts := [7, 8, 9, 10]) (ids := [2, 3]) rfl rfl ?_)
        refine At.thenC ?_
        refine W.seq ?_
        obtain ⟨y12, hy13, H⟩ := of_bindO H
        refine W.region env [] [⟨.bool (y12), [], 0, []⟩] rfl rfl rfl .nil (.free (c_round_Slack_1 fuel (Int.tdiv (s7.1 + s7.2) 2) p1 p0 hy13) .nil) (At.keep (ts := [7, 8, 9, 10, 31]) (ids := [2, 3]) rfl rfl ?_)
        refine At.thenC ?_
        refine W.cond rfl (fun hb14 => ?_) (fun hb14 => ?_)
        · have H := of_true H hb14
          refine W.region env [] [] rfl rfl rfl .nil .nil (At.keep (ts := [7, 8, 9]) (ids := [2, 3]) rfl rfl ?_)
          refine At.inb ?_
          refine At.thenK (At.keep (ts := [7, 8, 9]) (ids := [2, 3]) rfl rfl ?_)
          exact At.conv (.cons (.of_eq (by first | rfl | (simp; done) | omega | (simp; omega))) (.cons (.of_eq (by first | rfl | (simp; done) | omega | (simp; omega))) (.cons (.of_eq (by first | rfl | (simp; done) | omega | (simp; omega))) .nil))) (.cons (.of_eq (by first | rfl | (simp; done) | omega | (simp; omega))) (.cons (.of_eq (by first | rfl | (simp; done) | omega | (simp; omega))) .nil)) (hK7 ((Int.tdiv (s7.1 + s7.2) 2), s7.2) H)
        · have H := of_false H hb14
          refine W.region env [] [] rfl rfl rfl .nil .nil (At.keep (ts := [7, 8, 9]) (ids := [2, 3]) rfl rfl ?_)
          refine At.inb ?_
          refine At.thenK (At.keep (ts := [7, 8, 9]) (ids := [2, 3]) rfl rfl ?_)
          exact At.conv (.cons (.of_eq (by first | rfl | (simp; done) | omega | (simp; omega))) (.cons (.of_eq (by first | rfl | (simp; done) | omega | (simp; omega))) (.cons (.of_eq (by first | rfl | (simp; done) | omega | (simp; omega))) .nil))) (.cons (.of_eq (by first | rfl | (simp; done) | omega | (simp; omega))) (.cons (.of_eq (by first | rfl | (simp; done) | omega | (simp; omega))) .nil)) (hK7 (s7.1, (Int.tdiv (s7.1 + s7.2) 2)) H)
      · have H := of_false H hb9
        refine W.exit ?_
        refine At.xthen ?_
        refine At.xthen ?_
        refine At.xhere ?_
        refine At.thenC ?_
        refine W.seq ?_
        refine W.region env [] [] rfl rfl rfl .nil .nil (At.keep (ts := [4, 5]) (ids := []) rfl rfl ?_)
        refine At.thenC ?_
        refine W.ret ?_
        cases H
        exact At.ret env.ty rfl rfl (fun q hq => by cases hq) (.refl _) hval

theorem c_round_wayOf (p0 : Chart) (p1 : Int) {r : Int} (H : round_wayOf p0 p1 = some r) : Ctr Try.prog 67 [.agg [.int .i64 (p0.Places), roL 7 enc_Way p0.Ways], .int .i64 (p1)] (.int .i64 (r)) := by
  unfold round_wayOf at H
  refine Ctr.of_body (N := 18) Try.func67 (by kernel_rfl) (c := _) rfl Try.ntmps67 rfl (fun w0 h0 hval => ?_)
  refine W.seq ?_
  refine W.region env [] [] rfl rfl rfl .nil .nil (At.keep (ts := [1, 2]) (ids := [2]) rfl rfl ?_)
  refine At.thenC ?_
  refine W.seq ?_
  refine W.seq ?_
  obtain ⟨y1, hy2, H⟩ := of_bindO H
  refine W.region env [] [⟨.int .i64 (y1), [], 0, []⟩] rfl rfl rfl .nil (.free (c_round_Check p0 hy2) .nil) (At.keep (ts := [1, 2, 5]) (ids := [2]) rfl rfl ?_)
  refine At.thenC ?_
  refine W.seq ?_
  refine W.region env [] [] rfl rfl rfl .nil .nil (At.keep (ts := [1, 2, 5, 9]) (ids := [2]) rfl rfl ?_)
  refine At.thenC ?_
  refine W.cond rfl (fun hb3 => ?_) (fun hb3 => ?_)
  · have H := of_true H hb3
    refine W.seq ?_
    refine W.region env [] [] rfl rfl rfl .nil .nil (At.keep (ts := [4]) (ids := []) rfl rfl ?_)
    refine At.thenC ?_
    refine W.ret ?_
    refine At.rthen ?_
    cases H
    exact At.ret env.ty rfl rfl (fun q hq => by cases hq) (.refl _) hval
  · have H := of_false H hb3
    refine W.skip ?_
    refine At.thenC ?_
    refine W.seq ?_
    refine W.seq ?_
    obtain ⟨hc4, H⟩ := of_must H
    refine W.region env [] [⟨.bool ((round_within p1 0 (((p0.Ways.length : Nat) : Int) - 1))), [], 0, []⟩] rfl rfl rfl (.cons hc4 .nil) (.free (c_round_within p1 0 (((p0.Ways.length : Nat) : Int) - 1)) .nil) (At.keep (ts := [17]) (ids := []) rfl rfl ?_)
    refine At.thenC ?_
    refine W.cond rfl (fun hb5 => ?_) (fun hb5 => ?_)
    · have H := of_true H hb5
      refine W.seq ?_
      refine W.region env [] [] rfl rfl rfl .nil .nil (At.keep (ts := [4]) (ids := []) rfl rfl ?_)
      refine At.thenC ?_
      refine W.ret ?_
      refine At.rthen ?_
      cases H
      exact At.ret env.ty rfl rfl (fun q hq => by cases hq) (.refl _) hval
    · have H := of_false H hb5
      refine W.skip ?_
      refine At.thenC ?_
      refine W.seq ?_
      refine W.region env [] [] rfl rfl rfl .nil .nil (At.keep (ts := [4]) (ids := []) rfl rfl ?_)
      refine At.thenC ?_
      refine W.ret ?_
      cases H
      exact At.ret env.ty rfl rfl (fun q hq => by cases hq) (.refl _) hval

theorem c_slices_IndexFunc_Round (p0 : (List Round)) (p1 : Round → Option Bool) (p1_g : Nat) (p1_a p1_b : List AV) (p1_h : ∀ x0 r, p1 x0 = some r → Ctr Try.prog p1_g (p1_a ++ ([.agg [.int .i64 (x0.Place), .int .i64 (x0.At), roL 4 enc_Stop x0.Stops]] ++ p1_b)) (.bool (r))) {r : Int} (H : slices_IndexFunc_Round p0 p1 = some r) : Ctr Try.prog 109 [roL 3 enc_Round p0, .clo (.func p1_g) p1_a p1_b] (.int .i64 (r)) := by
  unfold slices_IndexFunc_Round at H
  refine Ctr.of_body (N := 19) Try.func109 (by kernel_rfl) (c := _) rfl Try.ntmps109 rfl (fun w0 h0 hval => ?_)
  refine W.seq ?_
  refine W.region env [] [] rfl rfl rfl .nil .nil (At.keep (ts := [0, 1]) (ids := []) rfl rfl ?_)
  refine At.thenC ?_
  refine W.seq ?_
  refine W.seq ?_
  refine W.region env [] [] rfl rfl rfl .nil .nil (At.keep (ts := [0, 1, 7, 8]) (ids := []) rfl rfl ?_)
  refine At.thenC ?_
  refine W.block ?_
  refine At.keep (ts := [0, 1, 7, 8]) (ids := []) rfl rfl ?_
  refine W.len (t := 0) rfl (fun hn1 => ?_)
  refine W.rangeGo H (fun i1 (s1 : Unit) => [(0, roL 3 enc_Round p0), (1, .clo (.func p1_g) p1_a p1_b), (7, .int .i64 (((p0.length : Nat) : Int))), (8, .int .i64 ((i1 : Int)))]) (fun i1 (s1 : Unit) => []) (.cons (.of_eq (by first | rfl | (simp; done) | omega | (simp; omega))) (.cons (.of_eq (by first | rfl | (simp; done) | omega | (simp; omega))) (.cons (.of_eq (by first | rfl | (simp; done) | omega | (simp; omega))) (.cons (.of_eq (by first | rfl | (simp; done) | omega | (simp; omega))) .nil)))) .nil (fun k1 i1 s1 hle1 H1 H2 K0 hK1 => ?_)
  refine W.seq ?_
  refine W.region env [] [] rfl rfl rfl .nil .nil (At.keep (ts := [0, 1, 7, 8, 9]) (ids := []) rfl rfl ?_)
  refine At.thenC ?_
  refine W.seq ?_
  refine W.cond rfl (fun hb2 => ?_) (fun hb2 => ?_)
  · have hi1 : i1 < p0.length := by have := of_decide_eq_true hb2; omega
    have H := H1 hi1
    refine W.skip ?_
    refine At.thenC ?_
    refine W.seq ?_
    refine W.block ?_
    refine W.seq ?_
    refine W.region env [] [] rfl rfl rfl .nil .nil (At.keep (ts := [0, 1, 5, 7, 8]) (ids := []) rfl rfl ?_)
    refine At.thenC ?_
    refine W.seq ?_
    obtain ⟨y3, hy4, H⟩ := of_bindO H
    refine W.region env [] [⟨.bool (y3), [], 0, []⟩] rfl rfl rfl (.cons (⟨by omega, by omega⟩ : 0 ≤ (i1 : Int) ∧ (i1 : Int) < ((p0.length : Nat) : Int)) .nil) (.free (p1_h (p0.getD i1 default) _ hy4) .nil) (At.keep (ts := [0, 1, 5, 7, 8, 16]) (ids := []) rfl rfl ?_)
    refine At.thenC ?_
    refine W.cond rfl (fun hb5 => ?_) (fun hb5 => ?_)
    · have H := of_true H hb5
      refine W.seq ?_
      refine W.region env [] [] rfl rfl rfl .nil .nil (At.keep (ts := [4]) (ids := []) rfl rfl ?_)
      refine At.thenC ?_
      refine W.ret ?_
      refine At.rinb ?_
      refine At.rthen ?_
      refine At.rthen ?_
      refine At.rinb ?_
      refine At.rthen ?_
      cases H
      exact At.ret env.ty rfl rfl (fun q hq => by cases hq) (.refl _) hval
    · have H := of_false H hb5
      refine W.skip ?_
      refine At.inb ?_
      refine At.thenC ?_
      refine W.region env [] [] rfl rfl rfl (.cons (by unfold inI; have := hn1; (try unfold maxLen at this); omega) .nil) .nil (At.keep (ts := [0, 1, 7, 8]) (ids := []) rfl rfl ?_)
      refine At.thenK (At.keep (ts := [0, 1, 7, 8]) (ids := []) rfl rfl ?_)
      exact At.conv (.cons (.of_eq (by first | rfl | (simp; done) | omega | (simp; omega))) (.cons (.of_eq (by first | rfl | (simp; done) | omega | (simp; omega))) (.cons (.of_eq (by first | rfl | (simp; done) | omega | (simp; omega))) (.cons (.of_eq (by first | rfl | (simp; done) | omega | (simp; omega))) .nil)))) .nil (hK1 hi1 () H)
  · have H := H2 (by have := of_decide_eq_false hb2; omega)
    refine W.exit ?_
    refine At.xthen ?_
    refine At.xthen ?_
    refine At.xhere ?_
    refine At.thenC ?_
    refine W.seq ?_
    refine W.region env [] [] rfl rfl rfl .nil .nil (At.keep (ts := [4]) (ids := []) rfl rfl ?_)
    refine At.thenC ?_
    refine W.ret ?_
    cases H
    exact At.ret env.ty rfl rfl (fun q hq => by cases hq) (.refl _) hval

theorem c_slices_ContainsFunc_Round (p0 : (List Round)) (p1 : Round → Option Bool) (p1_g : Nat) (p1_a p1_b : List AV) (p1_h : ∀ x0 r, p1 x0 = some r → Ctr Try.prog p1_g (p1_a ++ ([.agg [.int .i64 (x0.Place), .int .i64 (x0.At), roL 4 enc_Stop x0.Stops]] ++ p1_b)) (.bool (r))) {r : Bool} (H : slices_ContainsFunc_Round p0 p1 = some r) : Ctr Try.prog 68 [roL 3 enc_Round p0, .clo (.func p1_g) p1_a p1_b] (.bool (r)) := by
  unfold slices_ContainsFunc_Round at H
  refine Ctr.of_body (N := 9) Try.func68 (by kernel_rfl) (c := _) rfl Try.ntmps68 rfl (fun w0 h0 hval => ?_)
  refine W.seq ?_
  refine W.region env [] [] rfl rfl rfl .nil .nil (At.keep (ts := [0, 1]) (ids := []) rfl rfl ?_)
  refine At.thenC ?_
  refine W.seq ?_
  obtain ⟨y1, hy2, H⟩ := of_bindO H
  refine W.region env [] [⟨.int .i64 (y1), [], 0, []⟩] rfl rfl rfl .nil (.free (c_slices_IndexFunc_Round p0 p1 p1_g p1_a p1_b p1_h hy2) .nil) (At.keep (ts := [4]) (ids := []) rfl rfl ?_)
  refine At.thenC ?_
  refine W.ret ?_
  cases H
  exact At.ret env.ty rfl rfl (fun q hq => by cases hq) (.refl _) hval

theorem c_round_Moved_1 (p0 : Round) (c0 : Chart) {r : Bool} (H : round_Moved_1 p0 c0 = some r) : Ctr Try.prog 69 [.agg [.int .i64 (p0.Place), .int .i64 (p0.At), roL 4 enc_Stop p0.Stops], .rp [.int .i64 (c0.Places), roL 7 enc_Way c0.Ways]] (.bool (r)) := by
  unfold round_Moved_1 at H
  refine Ctr.of_body (N := 8) Try.func69 (by kernel_rfl) (c := _) rfl Try.ntmps69 rfl (fun w0 h0 hval => ?_)
  refine W.seq ?_
  refine W.region env [] [] rfl rfl rfl .nil .nil (At.keep (ts := [1, 2]) (ids := [2]) rfl rfl ?_)
  refine At.thenC ?_
  refine W.seq ?_
  obtain ⟨y1, hy2, H⟩ := of_bindO H
  refine W.region env [] [⟨.bool (y1), [], 0, []⟩] rfl rfl rfl .nil (.free (c_round_isRound c0 p0 hy2) .nil) (At.keep (ts := [3]) (ids := []) rfl rfl ?_)
  refine At.thenC ?_
  refine W.ret ?_
  cases H
  exact At.ret env.ty rfl rfl (fun q hq => by cases hq) (.refl _) hval

theorem c_slices_Clone_Way (p0 : (List Way)) {r : (List Way)} (H : slices_Clone_Way p0 = some r) : Ctr Try.prog 102 [roL 7 enc_Way p0] (roL 7 enc_Way r) := by
  unfold slices_Clone_Way at H
  refine Ctr.of_body (N := 8) Try.func102 (by kernel_rfl) (c := _) rfl Try.ntmps102 rfl (fun w0 h0 hval => ?_)
  refine W.seq ?_
  refine W.region env [] [] rfl rfl rfl .nil .nil (At.keep (ts := [0]) (ids := []) rfl rfl ?_)
  refine At.thenC ?_
  refine W.seq ?_
  refine W.seq ?_
  refine W.region env [] [] rfl rfl rfl .nil .nil (At.keep (ts := [0, 4]) (ids := []) rfl rfl ?_)
  refine At.thenC ?_
  refine W.condNz rfl (fun hz => ?_) ?_
  · obtain rfl : p0 = [] := List.length_eq_zero_iff.1 hz
    obtain ⟨hc1, H⟩ := of_must H
    refine W.seq ?_
    refine W.region env [] [] rfl rfl rfl .nil .nil (At.keep (ts := [2]) (ids := []) rfl rfl ?_)
    refine At.thenC ?_
    refine W.ret ?_
    refine At.rthen ?_
    cases H
    exact At.ret env.ty rfl rfl (fun q hq => by cases hq) (Sim.nil _ _) hval
  · refine W.skip ?_
    refine At.thenC ?_
    refine W.seq ?_
    obtain ⟨hc1, H⟩ := of_must H
    refine W.region env [5] [] rfl rfl rfl (.cons (⟨by first | rfl | (simp; done) | omega | (simp; omega), by have := hc1; first | simpa using this | (unfold room at this ⊢; simp at this ⊢; omega)⟩) .nil) .nil (At.keep (ts := [2]) (ids := [5]) rfl rfl ?_)
    refine At.convM (.cons (y := bufL 53 7 enc_Way (([] : List Way) ++ p0)) (BSim.seg (Seg.push (Seg.lit (f := enc_Way) (sz := 7) ([] : List Way) rfl rfl (fun _ => rfl)) (Seg.refl enc_Way p0))) .nil) ?_
    refine At.thenC ?_
    refine W.ret ?_
    cases H
    exact At.ret env.ty rfl rfl (fun q hq => by cases hq; exact (by first | rfl | (simp; done) | omega | (simp; omega))) (.refl _) hval

theorem co_slices_Delete_Way (p0 : (List Way)) (p1 : Int) (p2 : Int) {r : (List Way)} (H : slices_Delete_Way p0 p1 p2 = some r) : CtrO Try.prog 112 [.buf 700 (p0).length, .int .i64 (p1), .int .i64 (p2)] [(700, bufL 53 7 enc_Way p0)] (.buf 900 r.length) [(900, bufL 53 7 enc_Way r)] := by
  unfold slices_Delete_Way at H
  refine CtrO.of_body (N := 33) Try.func112 (by kernel_rfl) (c := _) rfl Try.ntmps112 rfl (fun w0 h0 ρb hval hdom => ?_)
  refine W.seq ?_
  refine W.region env [] [] rfl rfl rfl .nil .nil (At.keep (ts := [0, 1, 2]) (ids := [700]) rfl rfl ?_)
  refine At.thenC ?_
  refine W.seq ?_
  obtain ⟨hc1, H⟩ := of_must H
  refine W.region env [] [] rfl rfl rfl (.cons (by first | rfl | (simp; done) | omega | (simp; omega)) (.cons (⟨by first | rfl | (simp; done) | omega | (simp; omega), hc1⟩) .nil)) .nil (At.keep (ts := [0, 1, 2]) (ids := [700]) rfl rfl ?_)
  refine At.thenC ?_
  refine W.seq ?_
  refine W.seq ?_
  refine W.region env [] [] rfl rfl rfl .nil .nil (At.keep (ts := [0, 1, 2, 16]) (ids := [700]) rfl rfl ?_)
  refine At.thenC ?_
  refine W.cond rfl (fun hb2 => ?_) (fun hb2 => ?_)
  · have H := of_true H hb2
    refine W.seq ?_
    refine W.region env [] [] rfl rfl rfl .nil .nil (At.keep (ts := [6]) (ids := [700]) rfl rfl ?_)
    refine At.thenC ?_
    refine W.ret ?_
    refine At.rthen ?_
    cases H
    exact At.retK env.ty [700] 200 rfl rfl rfl rfl (.cons (.refl _) .nil) (.of_eq (by refine bufEq ?_; first | (simp [copyAt]; done) | omega | (simp [copyAt]; omega) | rfl)) hval hdom rfl
  · have H := of_false H hb2
    refine W.skip ?_
    refine At.thenC ?_
    refine W.seq ?_
    refine W.region env [] [] rfl rfl rfl (.cons (by first | rfl | (simp; done) | omega | (simp; omega)) .nil) .nil (At.keep (ts := [0, 1, 2, 7]) (ids := [700]) rfl rfl ?_)
    refine At.thenC ?_
    refine W.seq ?_
    obtain ⟨hc3, H⟩ := of_must H
    obtain ⟨hc4, H⟩ := of_must H
    obtain ⟨hc5, H⟩ := of_must H
    refine W.region env [] [] rfl rfl rfl (.cons (⟨by first | rfl | (simp; done) | omega | (simp; omega), hc3⟩) (.cons (⟨by first | rfl | (simp; done) | omega | (simp; omega), hc4⟩) (.cons (⟨rfl, rfl, by omega, by omega, by omega⟩) .nil))) .nil (At.keep (ts := [0, 7]) (ids := [26]) rfl rfl ?_)
    refine At.convM (.cons (y := bufkL 53 7 p0.length enc_Way (p0.take ((p1).toNat) ++ p0.drop ((p2).toNat))) (BSim.kseg (Seg.moved (f := enc_Way) (l := p0) ((p1).toNat) ((p2).toNat) (by omega) (by omega))) .nil) ?_
    refine At.thenC ?_
    refine W.seq ?_
    obtain ⟨hc6, H⟩ := of_must H
    refine W.region env [] [] rfl rfl rfl (.cons (by first | rfl | (simp; done) | omega | (simp; omega)) (.cons (⟨by first | rfl | (simp; done) | omega | (simp; omega), hc6⟩) (.cons (⟨by first | rfl | (simp; done) | omega | (simp; omega), by first | rfl | (simp; done) | omega | (simp; omega), by first | omega | (simp; omega)⟩) .nil))) .nil (At.keep (ts := [0]) (ids := [26]) rfl rfl ?_)
    refine At.convM (.cons (y := bufkL 53 7 p0.length enc_Way (p0.take ((p1).toNat) ++ p0.drop ((p2).toNat))) (BSim.kseg (Seg.refl enc_Way _)) .nil) ?_
    refine At.thenC ?_
    refine W.seq ?_
    refine W.region env [] [] rfl rfl rfl .nil .nil (At.keep (ts := [6]) (ids := [26]) rfl rfl ?_)
    refine At.thenC ?_
    refine W.ret ?_
    cases H
    exact At.retK env.ty [26] 874 rfl rfl rfl rfl (.cons (.bufk (.refl _)) .nil) (.of_eq (by refine bufEq ?_; first | (simp [copyAt]; done) | omega | (simp [copyAt]; omega) | rfl)) hval hdom rfl

theorem co_slices_Clone_Way (p0 : (List Way)) {r : (List Way)} (H : slices_Clone_Way p0 = some r) : CtrO Try.prog 102 [roL 7 enc_Way p0] [] (.buf 900 r.length) [(900, bufL 53 7 enc_Way r)] := by
  unfold slices_Clone_Way at H
  refine CtrO.of_body (N := 8) Try.func102 (by kernel_rfl) (c := _) rfl Try.ntmps102 rfl (fun w0 h0 ρb hval hdom => ?_)
  refine W.seq ?_
  refine W.region env [] [] rfl rfl rfl .nil .nil (At.keep (ts := [0]) (ids := []) rfl rfl ?_)
  refine At.thenC ?_
  refine W.seq ?_
  refine W.seq ?_
  refine W.region env [] [] rfl rfl rfl .nil .nil (At.keep (ts := [0, 4]) (ids := []) rfl rfl ?_)
  refine At.thenC ?_
  refine W.condNz rfl (fun hz => ?_) ?_
  · obtain rfl : p0 = [] := List.length_eq_zero_iff.1 hz
    obtain ⟨hc1, H⟩ := of_must H
    refine W.seq ?_
    refine W.region env [] [] rfl rfl rfl .nil .nil (At.keep (ts := [2]) (ids := []) rfl rfl ?_)
    refine At.thenC ?_
    refine W.ret ?_
    refine At.rthen ?_
    cases H
    refine At.nilOwn 2 800 53 7 (e := fun i => enc_Way (([] : List Way).getD i default)) rfl rfl ?_
    exact At.retK env.ty [800] 100 rfl rfl rfl rfl (.cons (.refl _) .nil) (.of_eq (by refine bufEq ?_; first | (simp [copyAt]; done) | omega | (simp [copyAt]; omega) | rfl)) hval hdom rfl
  · refine W.skip ?_
    refine At.thenC ?_
    refine W.seq ?_
    obtain ⟨hc1, H⟩ := of_must H
    refine W.region env [5] [] rfl rfl rfl (.cons (⟨by first | rfl | (simp; done) | omega | (simp; omega), by have := hc1; first | simpa using this | (unfold room at this ⊢; simp at this ⊢; omega)⟩) .nil) .nil (At.keep (ts := [2]) (ids := [5]) rfl rfl ?_)
    refine At.convM (.cons (y := bufL 53 7 enc_Way (([] : List Way) ++ p0)) (BSim.seg (Seg.push (Seg.lit (f := enc_Way) (sz := 7) ([] : List Way) rfl rfl (fun _ => rfl)) (Seg.refl enc_Way p0))) .nil) ?_
    refine At.thenC ?_
    refine W.ret ?_
    cases H
    exact At.retK env.ty [5] 895 rfl rfl rfl rfl (.cons (.refl _) .nil) (.of_eq (by refine bufEq ?_; first | (simp [copyAt]; done) | omega | (simp [copyAt]; omega) | rfl)) hval hdom rfl

theorem c_round_without (p0 : Chart) (p1 : Int) {r : Chart} (H : round_without p0 p1 = some r) : Ctr Try.prog 71 [.agg [.int .i64 (p0.Places), roL 7 enc_Way p0.Ways], .int .i64 (p1)] (.agg [.int .i64 (r.Places), roL 7 enc_Way r.Ways]) := by
  unfold round_without at H
  refine Ctr.of_body (N := 15) Try.func71 (by kernel_rfl) (c := _) rfl Try.ntmps71 rfl (fun w0 h0 hval => ?_)
  refine W.seq ?_
  refine W.region env [] [] rfl rfl rfl .nil .nil (At.keep (ts := [1, 2, 4]) (ids := [2, 4]) rfl rfl ?_)
  refine At.thenC ?_
  refine W.seq ?_
  obtain ⟨y1, hy2, H⟩ := of_bindO H
  obtain ⟨hc3, H⟩ := of_must H
  obtain ⟨y4, hy5, H⟩ := of_bindO H
  refine W.region env [] [⟨.buf 900 y1.length, [(900, bufL 53 7 enc_Way y1)], 10000, []⟩, ⟨.buf 900 y4.length, [(10900, .dead), (900, bufL 53 7 enc_Way y4)], 14000, []⟩] rfl rfl (by kernel_rfl) (.cons hc3 .nil) (.free ((Ctr.ofO (co_slices_Clone_Way p0.Ways hy2))) (.free (CtrO.at (co_slices_Delete_Way y1 p1 (p1 + 1) hy5) rfl 10900) .nil)) (At.keep (ts := [4]) (ids := [4, 14900]) rfl rfl ?_)
  refine At.thenC ?_
  refine W.ret ?_
  cases H
  exact At.ret env.ty rfl rfl (fun q hq => by cases hq; exact (by first | rfl | (simp; done) | omega | (simp; omega))) (.refl _) hval

theorem c_round_inTime (fuel : Nat) (p0 : Chart) (p1 : Round) {r : Int} (H : round_inTime fuel p0 p1 = some r) : Ctr Try.prog 72 [.agg [.int .i64 (p0.Places), roL 7 enc_Way p0.Ways], .agg [.int .i64 (p1.Place), .int .i64 (p1.At), roL 4 enc_Stop p1.Stops]] (.int .i64 (r)) := by
  unfold round_inTime at H
  refine Ctr.of_body (N := 19) Try.func72 (by kernel_rfl) (c := _) rfl Try.ntmps72 rfl (fun w0 h0 hval => ?_)
  refine W.seq ?_
  refine W.region env [] [] rfl rfl rfl .nil .nil (At.keep (ts := [2, 3]) (ids := [2, 3]) rfl rfl ?_)
  refine At.thenC ?_
  refine W.seq ?_
  refine W.block ?_
  refine W.seq ?_
  obtain ⟨y1, hy2, H⟩ := of_bindO H
  obtain ⟨y3, hy4, H⟩ := of_bindO H
  refine W.region env [] [⟨.clo (.func 115) [] [.rp [.int .i64 (p0.Places), roL 7 enc_Way p0.Ways]], [], 0, []⟩, ⟨roL 1 enc_Int y1, [], 0, []⟩, ⟨.bool (y3), [], 0, []⟩] rfl rfl rfl .nil (.free (c_round_most p0) (.free (c_round_begins fuel p0 p1 (fun x0 => round_most_1 x0 p0) 115 [] ([.rp [.int .i64 (p0.Places), roL 7 enc_Way p0.Ways]]) (fun x0 r h => c_round_most_1 x0 p0 h) hy2) (.free (c_round_all y1 hy4) .nil))) (At.keep (ts := [2, 3, 5]) (ids := [2, 3]) rfl rfl ?_)
  refine At.thenC ?_
  refine W.cond rfl (fun hb5 => ?_) (fun hb5 => ?_)
  · have H := of_true H hb5
    refine W.seq ?_
    refine W.region env [] [] rfl rfl rfl .nil .nil (At.keep (ts := [4]) (ids := []) rfl rfl ?_)
    refine At.thenC ?_
    refine W.ret ?_
    refine At.rinb ?_
    refine At.rthen ?_
    cases H
    exact At.ret env.ty rfl rfl (fun q hq => by cases hq) (.refl _) hval
  · have H := of_false H hb5
    refine W.seq ?_
    obtain ⟨y6, hy7, H⟩ := of_bindO H
    obtain ⟨y8, hy9, H⟩ := of_bindO H
    refine W.region env [] [⟨.clo (.func 116) [] [.rp [.int .i64 (p0.Places), roL 7 enc_Way p0.Ways]], [], 0, []⟩, ⟨roL 1 enc_Int y6, [], 0, []⟩, ⟨.bool (y8), [], 0, []⟩] rfl rfl rfl .nil (.free (c_round_least p0) (.free (c_round_begins fuel p0 p1 (fun x0 => round_least_1 x0 p0) 116 [] ([.rp [.int .i64 (p0.Places), roL 7 enc_Way p0.Ways]]) (fun x0 r h => c_round_least_1 x0 p0 h) hy7) (.free (c_round_all y6 hy9) .nil))) (At.keep (ts := [12]) (ids := []) rfl rfl ?_)
    refine At.thenC ?_
    refine W.cond rfl (fun hb10 => ?_) (fun hb10 => ?_)
    · have H := of_true H hb10
      refine W.seq ?_
      refine W.region env [] [] rfl rfl rfl .nil .nil (At.keep (ts := [4]) (ids := []) rfl rfl ?_)
      refine At.thenC ?_
      refine W.ret ?_
      refine At.rinb ?_
      refine At.rthen ?_
      cases H
      exact At.ret env.ty rfl rfl (fun q hq => by cases hq) (.refl _) hval
    · have H := of_false H hb10
      refine W.skip ?_
      refine At.inb ?_
      refine At.thenC ?_
      refine W.seq ?_
      refine W.region env [] [] rfl rfl rfl .nil .nil (At.keep (ts := [4]) (ids := []) rfl rfl ?_)
      refine At.thenC ?_
      refine W.ret ?_
      cases H
      exact At.ret env.ty rfl rfl (fun q hq => by cases hq) (.refl _) hval

theorem c_round_Moved (fuel : Nat) (p0 : Chart) (p1 : Int) (p2 : (List Round)) {r : ((List Int) × Int)} (H : round_Moved fuel p0 p1 p2 = some r) : Ctr Try.prog 17 [.agg [.int .i64 (p0.Places), roL 7 enc_Way p0.Ways], .int .i64 (p1), roL 3 enc_Round p2] (.tup [roL 1 enc_Int r.1, .int .i64 (r.2)]) := by
  unfold round_Moved at H
  refine Ctr.of_body (N := 48) Try.func17 (by kernel_rfl) (c := _) rfl Try.ntmps17 rfl (fun w0 h0 hval => ?_)
  refine W.seq ?_
  refine W.region env [] [] rfl rfl rfl .nil .nil (At.keep (ts := [1, 2, 3]) (ids := [3]) rfl rfl ?_)
  refine At.thenC ?_
  refine W.seq ?_
  refine W.seq ?_
  obtain ⟨y1, hy2, H⟩ := of_bindO H
  refine W.region env [] [⟨.int .i64 (y1), [], 0, []⟩] rfl rfl rfl .nil (.free (c_round_wayOf p0 p1 hy2) .nil) (At.keep (ts := [1, 2, 3, 8]) (ids := [3]) rfl rfl ?_)
  refine At.thenC ?_
  refine W.seq ?_
  refine W.region env [] [] rfl rfl rfl .nil .nil (At.keep (ts := [1, 2, 3, 8, 17]) (ids := [3]) rfl rfl ?_)
  refine At.thenC ?_
  refine W.cond rfl (fun hb3 => ?_) (fun hb3 => ?_)
  · have H := of_true H hb3
    refine W.seq ?_
    refine W.region env [] [] rfl rfl rfl .nil .nil (At.keep (ts := [6, 7]) (ids := []) rfl rfl ?_)
    refine At.thenC ?_
    refine W.ret ?_
    refine At.rthen ?_
    cases H
    exact At.ret env.ty rfl rfl (fun q hq => by cases hq) (Sim.tupL (.cons (Sim.nil _ _) (.cons (.refl _) .nil))) hval
  · have H := of_false H hb3
    refine W.skip ?_
    refine At.thenC ?_
    refine W.seq ?_
    refine W.seq ?_
    refine W.region env [] [] rfl rfl rfl .nil .nil (At.keep (ts := [1, 2, 3, 21]) (ids := [3]) rfl rfl ?_)
    refine At.thenC ?_
    refine W.cond rfl (fun hb4 => ?_) (fun hb4 => ?_)
    · have H := of_true H hb4
      refine W.seq ?_
      refine W.region env [] [] rfl rfl rfl .nil .nil (At.keep (ts := [6, 7]) (ids := []) rfl rfl ?_)
      refine At.thenC ?_
      refine W.ret ?_
      refine At.rthen ?_
      cases H
      exact At.ret env.ty rfl rfl (fun q hq => by cases hq) (Sim.tupL (.cons (Sim.nil _ _) (.cons (.refl _) .nil))) hval
    · have H := of_false H hb4
      refine W.skip ?_
      refine At.thenC ?_
      refine W.seq ?_
      refine W.seq ?_
      obtain ⟨y5, hy6, H⟩ := of_bindO H
      refine W.region env [] [⟨.bool (y5), [], 0, []⟩] rfl rfl rfl .nil (.free (c_slices_ContainsFunc_Round p2 (fun x0 => round_Moved_1 x0 p0) 69 [] ([.rp [.int .i64 (p0.Places), roL 7 enc_Way p0.Ways]]) (fun x0 r h => c_round_Moved_1 x0 p0 h) hy6) .nil) (At.keep (ts := [1, 2, 3, 24]) (ids := [3]) rfl rfl ?_)
      refine At.thenC ?_
      refine W.cond rfl (fun hb7 => ?_) (fun hb7 => ?_)
      · have H := of_true H hb7
        refine W.seq ?_
        refine W.region env [] [] rfl rfl rfl .nil .nil (At.keep (ts := [6, 7]) (ids := []) rfl rfl ?_)
        refine At.thenC ?_
        refine W.ret ?_
        refine At.rthen ?_
        cases H
        exact At.ret env.ty rfl rfl (fun q hq => by cases hq) (Sim.tupL (.cons (Sim.nil _ _) (.cons (.refl _) .nil))) hval
      · have H := of_false H hb7
        refine W.skip ?_
        refine At.thenC ?_
        refine W.seq ?_
        obtain ⟨y8, hy9, H⟩ := of_bindO H
        refine W.region env [] [⟨.agg [.int .i64 (y8.Places), roL 7 enc_Way y8.Ways], [], 0, []⟩] rfl rfl rfl .nil (.free (c_round_without p0 p1 hy9) .nil) (At.keep (ts := [2, 3, 9]) (ids := [3, 9]) rfl rfl ?_)
        refine At.thenC ?_
        refine W.seq ?_
        refine W.region env [] [] rfl rfl rfl .nil .nil (At.keep (ts := [2, 3, 9, 10]) (ids := [3, 9]) rfl rfl ?_)
        refine At.thenC ?_
        refine W.seq ?_
        refine W.seq ?_
        refine W.region env [] [] rfl rfl rfl .nil .nil (At.keep (ts := [3, 9, 10, 28, 29, 30]) (ids := [3, 9]) rfl rfl ?_)
        refine At.thenC ?_
        refine W.block ?_
        refine At.nilOwn 10 510 3 1 (e := fun i => enc_Int (([] : List Int).getD i default)) rfl rfl ?_
        refine At.keep (ts := [3, 9, 10, 28, 29, 30]) (ids := [3, 9, 510]) rfl rfl ?_
        refine W.len (t := 28) rfl (fun hn10 => ?_)
        refine W.rangeGo H (fun i10 (s10 : (List Int)) => [(3, .lp 3 0), (9, .lp 9 0), (10, .buf 510 (s10).length), (28, roL 3 enc_Round p2), (29, .int .i64 (((p2.length : Nat) : Int))), (30, .int .i64 ((i10 : Int)))]) (fun i10 (s10 : (List Int)) => [(3, .cells [.int .i64 (p0.Places), roL 7 enc_Way p0.Ways]), (9, .cells [.int .i64 (y8.Places), roL 7 enc_Way y8.Ways]), (510, bufL 3 1 enc_Int s10)]) (.cons (.of_eq (by first | rfl | (simp; done) | omega | (simp; omega))) (.cons (.of_eq (by first | rfl | (simp; done) | omega | (simp; omega))) (.cons (.of_eq (by refine bufEq ?_; first | (simp [copyAt]; done) | omega | (simp [copyAt]; omega) | rfl)) (.cons (.of_eq (by first | rfl | (simp; done) | omega | (simp; omega))) (.cons (.of_eq (by first | rfl | (simp; done) | omega | (simp; omega))) (.cons (.of_eq (by first | rfl | (simp; done) | omega | (simp; omega))) .nil)))))) (.cons (.of_eq (by first | rfl | (simp; done) | omega | (simp; omega))) (.cons (.of_eq (by first | rfl | (simp; done) | omega | (simp; omega))) (.cons (.of_eq (by first | rfl | (simp; done) | omega | (simp; omega))) .nil))) (fun k10 i10 s10 hle10 H1 H2 K0 hK10 => ?_)
        refine W.seq ?_
        refine W.region env [] [] rfl rfl rfl .nil .nil (At.keep (ts := [3, 9, 10, 28, 29, 30, 31]) (ids := [3, 9, 510]) rfl rfl ?_)
        refine At.thenC ?_
        refine W.seq ?_
        refine W.cond rfl (fun hb11 => ?_) (fun hb11 => ?_)
        · have hi10 : i10 < p2.length := by have := of_decide_eq_true hb11; omega
          have H := H1 hi10
          refine W.skip ?_
          refine At.thenC ?_
          refine W.seq ?_
          refine W.block ?_
          refine W.seq ?_
          refine W.region env [] [] rfl rfl rfl (.cons (⟨by omega, by omega⟩ : 0 ≤ (i10 : Int) ∧ (i10 : Int) < ((p2.length : Nat) : Int)) .nil) .nil (At.keep (ts := [3, 9, 10, 11, 12, 28, 29, 30]) (ids := [3, 9, 12, 510]) rfl rfl ?_)
          refine At.thenC ?_
          refine W.seq ?_
          obtain ⟨y12, hy13, H⟩ := of_bindO H
          obtain ⟨y14, hy15, H⟩ := of_bindO H
          refine W.region env [] [⟨.int .i64 (y12), [], 0, []⟩, ⟨.int .i64 (y14), [], 0, []⟩] rfl rfl rfl .nil (.free (c_round_inTime fuel p0 (p2.getD i10 default) hy13) (.free (c_round_inTime fuel y8 (p2.getD i10 default) hy15) .nil)) (At.keep (ts := [3, 9, 10, 11, 28, 29, 30, 41]) (ids := [3, 9, 510]) rfl rfl ?_)
          refine At.thenC ?_
          refine W.cond rfl (fun hb16 => ?_) (fun hb16 => ?_)
          · have H := of_true H hb16
            obtain ⟨hc17, H⟩ := of_must H
            refine W.region env [] [] rfl rfl rfl (.cons (⟨by first | rfl | (simp; done) | omega | (simp; omega), by have := hc17; first | simpa using this | (unfold room at this ⊢; simp at this ⊢; omega)⟩) .nil) .nil (At.keep (ts := [3, 9, 10, 28, 29, 30]) (ids := [3, 9, 510]) rfl rfl ?_)
            refine At.convM (.cons (.refl _) (.cons (.refl _) (.cons (y := bufL 3 1 enc_Int (s10 ++ ([(i10 : Int)] : List Int))) (BSim.seg (Seg.push (Seg.refl enc_Int _) (Seg.lit (f := enc_Int) (sz := 1) ([(i10 : Int)] : List Int) rfl rfl (fun _ => rfl)))) .nil))) ?_
            refine At.inb ?_
            refine At.thenC ?_
            refine W.region env [] [] rfl rfl rfl (.cons (by unfold inI; have := hn10; (try unfold maxLen at this); omega) .nil) .nil (At.keep (ts := [3, 9, 10, 28, 29, 30]) (ids := [3, 9, 510]) rfl rfl ?_)
            refine At.thenK (At.keep (ts := [3, 9, 10, 28, 29, 30]) (ids := [3, 9, 510]) rfl rfl ?_)
            exact At.conv (.cons (.of_eq (by first | rfl | (simp; done) | omega | (simp; omega))) (.cons (.of_eq (by first | rfl | (simp; done) | omega | (simp; omega))) (.cons (.of_eq (by refine bufEq ?_; first | (simp [copyAt]; done) | omega | (simp [copyAt]; omega) | rfl)) (.cons (.of_eq (by first | rfl | (simp; done) | omega | (simp; omega))) (.cons (.of_eq (by first | rfl | (simp; done) | omega | (simp; omega))) (.cons (.of_eq (by first | rfl | (simp; done) | omega | (simp; omega))) .nil)))))) (.cons (.of_eq (by first | rfl | (simp; done) | omega | (simp; omega))) (.cons (.of_eq (by first | rfl | (simp; done) | omega | (simp; omega))) (.cons (.of_eq (by first | rfl | (simp; done) | omega | (simp; omega))) .nil))) (hK10 hi10 (s10 ++ ([(i10 : Int)] : List Int)) H)
          · have H := of_false H hb16
            refine W.skip ?_
            refine At.inb ?_
            refine At.thenC ?_
            refine W.region env [] [] rfl rfl rfl (.cons (by unfold inI; have := hn10; (try unfold maxLen at this); omega) .nil) .nil (At.keep (ts := [3, 9, 10, 28, 29, 30]) (ids := [3, 9, 510]) rfl rfl ?_)
            refine At.thenK (At.keep (ts := [3, 9, 10, 28, 29, 30]) (ids := [3, 9, 510]) rfl rfl ?_)
            exact At.conv (.cons (.of_eq (by first | rfl | (simp; done) | omega | (simp; omega))) (.cons (.of_eq (by first | rfl | (simp; done) | omega | (simp; omega))) (.cons (.of_eq (by refine bufEq ?_; first | (simp [copyAt]; done) | omega | (simp [copyAt]; omega) | rfl)) (.cons (.of_eq (by first | rfl | (simp; done) | omega | (simp; omega))) (.cons (.of_eq (by first | rfl | (simp; done) | omega | (simp; omega))) (.cons (.of_eq (by first | rfl | (simp; done) | omega | (simp; omega))) .nil)))))) (.cons (.of_eq (by first | rfl | (simp; done) | omega | (simp; omega))) (.cons (.of_eq (by first | rfl | (simp; done) | omega | (simp; omega))) (.cons (.of_eq (by first | rfl | (simp; done) | omega | (simp; omega))) .nil))) (hK10 hi10 s10 H)
        · have H := H2 (by have := of_decide_eq_false hb11; omega)
          refine W.exit ?_
          refine At.xthen ?_
          refine At.xthen ?_
          refine At.xhere ?_
          refine At.thenC ?_
          refine W.seq ?_
          refine W.region env [] [] rfl rfl rfl .nil .nil (At.keep (ts := [6, 7]) (ids := [510]) rfl rfl ?_)
          refine At.thenC ?_
          refine W.ret ?_
          cases H
          exact At.ret env.ty rfl rfl (fun q hq => by cases hq; exact (by first | rfl | (simp; done) | omega | (simp; omega))) (.refl _) hval

theorem c_round_sums (fuel : Nat) (p0 : Chart) (p1 : Int → Option Int) (p1_g : Nat) (p1_a p1_b : List AV) (p1_h : ∀ x0 r, p1 x0 = some r → Ctr Try.prog p1_g (p1_a ++ ([.int .i64 (x0)] ++ p1_b)) (.int .i64 (r))) {r : (List (List Int))} (H : round_sums fuel p0 p1 = some r) : Ctr Try.prog 82 [.agg [.int .i64 (p0.Places), roL 7 enc_Way p0.Ways], .clo (.func p1_g) p1_a p1_b] (roL 1 enc_ListInt r) := by
  unfold round_sums at H
  refine Ctr.of_body (N := 157) Try.func82 (by kernel_rfl) (c := _) rfl Try.ntmps82 rfl (fun w0 h0 hval => ?_)
  refine W.seq ?_
  refine W.region env [] [] rfl rfl rfl .nil .nil (At.keep (ts := [1, 2]) (ids := [2]) rfl rfl ?_)
  refine At.thenC ?_
  refine W.seq ?_
  obtain ⟨hc1, H⟩ := of_must H
  refine W.region env [17] [] rfl rfl rfl (.cons hc1 .nil) .nil (At.keep (ts := [1, 2, 5]) (ids := [2, 17]) rfl rfl ?_)
  refine At.convM (.cons (.refl _) (.cons (y := gridL 27 3 1 enc_Int (List.replicate (p0.Places).toNat ([] : List Int))) (BSim.gseg (GSeg.made (T := Int) enc_Int _)) .nil)) ?_
  refine At.thenC ?_
  refine W.seq ?_
  refine W.seq ?_
  refine W.region env [] [] rfl rfl rfl (.cons (by first | rfl | (simp; done) | omega | (simp; omega)) .nil) .nil (At.keep (ts := [1, 2, 5, 19, 20]) (ids := [2, 17]) rfl rfl ?_)
  refine At.thenC ?_
  refine W.block ?_
  refine At.keep (ts := [1, 2, 5, 19, 20]) (ids := [2, 17]) rfl rfl ?_
  obtain ⟨hn2, H⟩ := of_must H
  refine W.rangeGo H (fun i2 (s2 : (List (List Int))) => [(1, .clo (.func p1_g) p1_a p1_b), (2, .lp 2 0), (5, .gb 17 (s2).length), (19, .int .i64 ((((List.replicate (p0.Places).toNat ([] : List Int)).length : Nat) : Int))), (20, .int .i64 ((i2 : Int)))]) (fun i2 (s2 : (List (List Int))) => [(2, .cells [.int .i64 (p0.Places), roL 7 enc_Way p0.Ways]), (17, gridL 27 3 1 enc_Int s2)]) (.cons (.of_eq (by first | rfl | (simp; done) | omega | (simp; omega))) (.cons (.of_eq (by first | rfl | (simp; done) | omega | (simp; omega))) (.cons (.of_eq (by refine gbEq ?_; first | (simp; done) | omega | (simp; omega) | rfl)) (.cons (.of_eq (by first | rfl | (simp; done) | omega | (simp; omega))) (.cons (.of_eq (by first | rfl | (simp; done) | omega | (simp; omega))) .nil))))) (.cons (.of_eq (by first | rfl | (simp; done) | omega | (simp; omega))) (.cons (.of_eq (by first | rfl | (simp; done) | omega | (simp; omega))) .nil)) (fun k2 i2 s2 hle2 H1 H2 K0 hK2 => ?_)
  refine W.seq ?_
  refine W.region env [] [] rfl rfl rfl .nil .nil (At.keep (ts := [1, 2, 5, 19, 20, 21]) (ids := [2, 17]) rfl rfl ?_)
  refine At.thenC ?_
  refine W.seq ?_
  refine W.cond rfl (fun hb3 => ?_) (fun hb3 => ?_)
  · have hi2 : i2 < (List.replicate (p0.Places).toNat ([] : List Int)).length := by have := of_decide_eq_true hb3; omega
    have H := H1 hi2
    refine W.skip ?_
    refine At.thenC ?_
    refine W.seq ?_
    refine W.block ?_
    refine W.seq ?_
    refine W.region env [] [] rfl rfl rfl .nil .nil (At.keep (ts := [1, 2, 5, 6, 19, 20]) (ids := [2, 17]) rfl rfl ?_)
    refine At.thenC ?_
    refine W.seq ?_
    obtain ⟨y4, hy5, H⟩ := of_bindO H
    obtain ⟨hc6, H⟩ := of_must H
    obtain ⟨hc7, H⟩ := of_must H
    refine W.region env [] [⟨.buf 900 y4.length, [(900, bufL 3 1 enc_Int y4)], 29000, []⟩] rfl rfl (by kernel_rfl) (.cons (⟨by first | rfl | (simp; done) | omega | (simp; omega), hc6⟩) (.cons (⟨(by have := hc6; first | omega | (simp at this ⊢; omega)), by first | rfl | (simp; done) | omega | (simp; omega), by have := hc7; first | exact this | (simp at this ⊢; omega)⟩) .nil)) (.free (Ctr.sim (.cons (Sim.lit (f := enc_Int) ([(-1)] : List Int) rfl rfl (fun _ => rfl)) (.cons (.refl _) .nil)) ((Ctr.ofO (co_slices_Repeat_int fuel ([(-1)] : List Int) p0.Places hy5)))) .nil) (At.keep (ts := [1, 2, 5, 6, 19, 20]) (ids := [2, 17]) rfl rfl ?_)
    refine At.convM (.cons (.refl _) (.cons (y := gridL 27 3 1 enc_Int (s2.set i2 y4)) (BSim.gseg (GSeg.setRow (i := i2) (row := y4) (GSeg.refl enc_Int _) (Seg.refl enc_Int _))) .nil)) ?_
    refine At.thenC ?_
    obtain ⟨hc8, H⟩ := of_must H
    obtain ⟨hc9, H⟩ := of_must H
    refine W.region env [] [] rfl rfl rfl (.cons (⟨by first | rfl | (simp; done) | omega | (simp; omega), hc8⟩) (.cons ((by have := hc8; first | omega | (simp at this ⊢; omega))) (.cons (⟨by first | rfl | (simp; done) | omega | (simp; omega), (by have := hc8; first | omega | (simp at this ⊢; omega)), hc9⟩) (.cons (⟨by first | rfl | (simp; done) | omega | (simp; omega), (by have := hc8; first | omega | (simp at this ⊢; omega)), (by have := hc9; first | omega | (simp at this ⊢; omega))⟩) .nil)))) .nil (At.keep (ts := [1, 2, 5, 19, 20]) (ids := [2, 17]) rfl rfl ?_)
    refine At.convM (.cons (.refl _) (.cons (y := gridL 27 3 1 enc_Int ((s2.set i2 y4).set i2 (((s2.set i2 y4).getD i2 []).set i2 0))) (BSim.gseg (GSeg.setAt (i := i2) (j := i2) (GSeg.refl enc_Int _) 0 rfl)) .nil)) ?_
    refine At.inb ?_
    refine At.thenC ?_
    refine W.region env [] [] rfl rfl rfl (.cons (by unfold inI; have := hn2; (try unfold maxLen at this); omega) .nil) .nil (At.keep (ts := [1, 2, 5, 19, 20]) (ids := [2, 17]) rfl rfl ?_)
    refine At.thenK (At.keep (ts := [1, 2, 5, 19, 20]) (ids := [2, 17]) rfl rfl ?_)
    exact At.conv (.cons (.of_eq (by first | rfl | (simp; done) | omega | (simp; omega))) (.cons (.of_eq (by first | rfl | (simp; done) | omega | (simp; omega))) (.cons (.of_eq (by refine gbEq ?_; first | (simp; done) | omega | (simp; omega) | rfl)) (.cons (.of_eq (by first | rfl | (simp; done) | omega | (simp; omega))) (.cons (.of_eq (by first | rfl | (simp; done) | omega | (simp; omega))) .nil))))) (.cons (.of_eq (by first | rfl | (simp; done) | omega | (simp; omega))) (.cons (.of_eq (by first | rfl | (simp; done) | omega | (simp; omega))) .nil)) (hK2 hi2 ((s2.set i2 y4).set i2 (((s2.set i2 y4).getD i2 []).set i2 0)) H)
  · have H := H2 (by have := of_decide_eq_false hb3; omega)
    refine W.exit ?_
    refine At.xthen ?_
    refine At.xthen ?_
    refine At.xhere ?_
    refine At.thenC ?_
    refine W.seq ?_
    refine W.seq ?_
    refine W.region env [] [] rfl rfl rfl .nil .nil (At.keep (ts := [1, 2, 5, 38, 39, 40]) (ids := [2, 17]) rfl rfl ?_)
    refine At.thenC ?_
    refine W.block ?_
    refine At.keep (ts := [1, 2, 5, 38, 39, 40]) (ids := [2, 17]) rfl rfl ?_
    refine W.len (t := 38) rfl (fun hn10 => ?_)
    refine W.rangeGo H (fun i10 (s10 : (List (List Int))) => [(1, .clo (.func p1_g) p1_a p1_b), (2, .lp 2 0), (5, .gb 17 (s10).length), (38, roL 7 enc_Way p0.Ways), (39, .int .i64 (((p0.Ways.length : Nat) : Int))), (40, .int .i64 ((i10 : Int)))]) (fun i10 (s10 : (List (List Int))) => [(2, .cells [.int .i64 (p0.Places), roL 7 enc_Way p0.Ways]), (17, gridL 27 3 1 enc_Int s10)]) (.cons (.of_eq (by first | rfl | (simp; done) | omega | (simp; omega))) (.cons (.of_eq (by first | rfl | (simp; done) | omega | (simp; omega))) (.cons (.of_eq (by refine gbEq ?_; first | (simp; done) | omega | (simp; omega) | rfl)) (.cons (.of_eq (by first | rfl | (simp; done) | omega | (simp; omega))) (.cons (.of_eq (by first | rfl | (simp; done) | omega | (simp; omega))) (.cons (.of_eq (by first | rfl | (simp; done) | omega | (simp; omega))) .nil)))))) (.cons (.of_eq (by first | rfl | (simp; done) | omega | (simp; omega))) (.cons (.of_eq (by first | rfl | (simp; done) | omega | (simp; omega))) .nil)) (fun k10 i10 s10 hle10 H1 H2 K0 hK10 => ?_)
    refine W.seq ?_
    refine W.region env [] [] rfl rfl rfl .nil .nil (At.keep (ts := [1, 2, 5, 38, 39, 40, 41]) (ids := [2, 17]) rfl rfl ?_)
    refine At.thenC ?_
    refine W.seq ?_
    refine W.cond rfl (fun hb11 => ?_) (fun hb11 => ?_)
    · have hi10 : i10 < p0.Ways.length := by have := of_decide_eq_true hb11; omega
      have H := H1 hi10
      refine W.skip ?_
      refine At.thenC ?_
      refine W.seq ?_
      refine W.block ?_
      refine W.seq ?_
      refine W.region env [] [] rfl rfl rfl (.cons (⟨by omega, by omega⟩ : 0 ≤ (i10 : Int) ∧ (i10 : Int) < ((p0.Ways.length : Nat) : Int)) .nil) .nil (At.keep (ts := [1, 2, 5, 7, 8, 38, 39, 40]) (ids := [2, 8, 17]) rfl rfl ?_)
      refine At.thenC ?_
      refine W.seq ?_
      obtain ⟨hc12, H⟩ := of_must H
      obtain ⟨hc13, H⟩ := of_must H
      refine W.region env [] [] rfl rfl rfl (.cons (⟨by first | rfl | (simp; done) | omega | (simp; omega), hc12⟩) (.cons ((by have := hc12; first | omega | (simp at this ⊢; omega))) (.cons (⟨by first | rfl | (simp; done) | omega | (simp; omega), (by have := hc12; first | omega | (simp at this ⊢; omega)), hc13⟩) (.cons (⟨by first | rfl | (simp; done) | omega | (simp; omega), (by have := hc12; first | omega | (simp at this ⊢; omega)), (by have := hc13; first | omega | (simp at this ⊢; omega))⟩) .nil)))) .nil (At.keep (ts := [1, 2, 5, 7, 8, 9, 38, 39, 40]) (ids := [2, 8, 17]) rfl rfl ?_)
      refine At.thenC ?_
      refine W.seq ?_
      obtain ⟨y14, hy15, H⟩ := of_bindO H
      refine W.region env [] [⟨.int .i64 (y14), [], 0, []⟩] rfl rfl rfl (.cons (fun h => h) (.cons (fun h => h) (.cons (fun h => h) (.cons (fun h => h) (.cons (fun h => h) (.cons (fun h => h) (.cons (fun h => h) (.cons (fun h => h) (.cons (fun h => h) (.cons (fun h => h) (.cons (fun h => h) (.cons (fun hW h => by revert hW h; first | (simp +contextual; done) | grind) (.cons (fun h => h) .nil))))))))))))) (.on (fun hW => p1_h (i10 : Int) _ (of_true hy15 hW)) .nil) (At.keep (ts := [1, 2, 5, 7, 8, 38, 39, 40, 73]) (ids := [2, 8, 17]) rfl rfl ?_)
      refine At.thenC ?_
      refine W.cond rfl (fun hb16 => ?_) (fun hb16 => ?_)
      · have H := of_true H hb16
        obtain ⟨hc17, H⟩ := of_must H
        obtain ⟨y18, hy19, H⟩ := of_bindO H
        obtain ⟨hc20, H⟩ := of_must H
        refine W.region env [] [⟨.int .i64 (y18), [], 0, []⟩] rfl rfl rfl (.cons (⟨by first | rfl | (simp; done) | omega | (simp; omega), hc17⟩) (.cons ((by have := hc17; first | omega | (simp at this ⊢; omega))) (.cons (⟨by first | rfl | (simp; done) | omega | (simp; omega), (by have := hc17; first | omega | (simp at this ⊢; omega)), hc20⟩) (.cons (⟨by first | rfl | (simp; done) | omega | (simp; omega), (by have := hc17; first | omega | (simp at this ⊢; omega)), (by have := hc20; first | omega | (simp at this ⊢; omega))⟩) .nil)))) (.free (p1_h (i10 : Int) _ hy19) .nil) (At.keep (ts := [1, 2, 5, 38, 39, 40]) (ids := [2, 17]) rfl rfl ?_)
        refine At.convM (.cons (.refl _) (.cons (y := gridL 27 3 1 enc_Int (s10.set ((p0.Ways.getD i10 default).From).toNat ((s10.getD ((p0.Ways.getD i10 default).From).toNat []).set ((p0.Ways.getD i10 default).To).toNat y18))) (BSim.gseg (GSeg.setAt (i := ((p0.Ways.getD i10 default).From).toNat) (j := ((p0.Ways.getD i10 default).To).toNat) (GSeg.refl enc_Int _) y18 rfl)) .nil)) ?_
        refine At.inb ?_
        refine At.thenC ?_
        refine W.region env [] [] rfl rfl rfl (.cons (by unfold inI; have := hn10; (try unfold maxLen at this); omega) .nil) .nil (At.keep (ts := [1, 2, 5, 38, 39, 40]) (ids := [2, 17]) rfl rfl ?_)
        refine At.thenK (At.keep (ts := [1, 2, 5, 38, 39, 40]) (ids := [2, 17]) rfl rfl ?_)
        exact At.conv (.cons (.of_eq (by first | rfl | (simp; done) | omega | (simp; omega))) (.cons (.of_eq (by first | rfl | (simp; done) | omega | (simp; omega))) (.cons (.of_eq (by refine gbEq ?_; first | (simp; done) | omega | (simp; omega) | rfl)) (.cons (.of_eq (by first | rfl | (simp; done) | omega | (simp; omega))) (.cons (.of_eq (by first | rfl | (simp; done) | omega | (simp; omega))) (.cons (.of_eq (by first | rfl | (simp; done) | omega | (simp; omega))) .nil)))))) (.cons (.of_eq (by first | rfl | (simp; done) | omega | (simp; omega))) (.cons (.of_eq (by first | rfl | (simp; done) | omega | (simp; omega))) .nil)) (hK10 hi10 (s10.set ((p0.Ways.getD i10 default).From).toNat ((s10.getD ((p0.Ways.getD i10 default).From).toNat []).set ((p0.Ways.getD i10 default).To).toNat y18)) H)
      · have H := of_false H hb16
        refine W.skip ?_
        refine At.inb ?_
        refine At.thenC ?_
        refine W.region env [] [] rfl rfl rfl (.cons (by unfold inI; have := hn10; (try unfold maxLen at this); omega) .nil) .nil (At.keep (ts := [1, 2, 5, 38, 39, 40]) (ids := [2, 17]) rfl rfl ?_)
        refine At.thenK (At.keep (ts := [1, 2, 5, 38, 39, 40]) (ids := [2, 17]) rfl rfl ?_)
        exact At.conv (.cons (.of_eq (by first | rfl | (simp; done) | omega | (simp; omega))) (.cons (.of_eq (by first | rfl | (simp; done) | omega | (simp; omega))) (.cons (.of_eq (by refine gbEq ?_; first | (simp; done) | omega | (simp; omega) | rfl)) (.cons (.of_eq (by first | rfl | (simp; done) | omega | (simp; omega))) (.cons (.of_eq (by first | rfl | (simp; done) | omega | (simp; omega))) (.cons (.of_eq (by first | rfl | (simp; done) | omega | (simp; omega))) .nil)))))) (.cons (.of_eq (by first | rfl | (simp; done) | omega | (simp; omega))) (.cons (.of_eq (by first | rfl | (simp; done) | omega | (simp; omega))) .nil)) (hK10 hi10 s10 H)
    · have H := H2 (by have := of_decide_eq_false hb11; omega)
      refine W.exit ?_
      refine At.xthen ?_
      refine At.xthen ?_
      refine At.xhere ?_
      refine At.thenC ?_
      refine W.seq ?_
      refine W.seq ?_
      refine W.region env [] [] rfl rfl rfl .nil .nil (At.keep (ts := [2, 5, 87, 88]) (ids := [2, 17]) rfl rfl ?_)
      refine At.thenC ?_
      refine W.block ?_
      refine At.keep (ts := [2, 5, 87, 88]) (ids := [2, 17]) rfl rfl ?_
      obtain ⟨hn21, H⟩ := of_must H
      refine W.rangeGo H (fun i21 (s21 : (List (List Int))) => [(2, .lp 2 0), (5, .gb 17 (s21).length), (87, .int .i64 (p0.Places)), (88, .int .i64 ((i21 : Int)))]) (fun i21 (s21 : (List (List Int))) => [(2, .cells [.int .i64 (p0.Places), roL 7 enc_Way p0.Ways]), (17, gridL 27 3 1 enc_Int s21)]) (.cons (.of_eq (by first | rfl | (simp; done) | omega | (simp; omega))) (.cons (.of_eq (by refine gbEq ?_; first | (simp; done) | omega | (simp; omega) | rfl)) (.cons (.of_eq (by first | rfl | (simp; done) | omega | (simp; omega))) (.cons (.of_eq (by first | rfl | (simp; done) | omega | (simp; omega))) .nil)))) (.cons (.of_eq (by first | rfl | (simp; done) | omega | (simp; omega))) (.cons (.of_eq (by first | rfl | (simp; done) | omega | (simp; omega))) .nil)) (fun k21 i21 s21 hle21 H1 H2 K0 hK21 => ?_)
      refine W.seq ?_
      refine W.region env [] [] rfl rfl rfl .nil .nil (At.keep (ts := [2, 5, 87, 88, 89]) (ids := [2, 17]) rfl rfl ?_)
      refine At.thenC ?_
      refine W.seq ?_
      refine W.cond rfl (fun hb22 => ?_) (fun hb22 => ?_)
      · have hi21 : i21 < (p0.Places).toNat := by have := of_decide_eq_true hb22; omega
        have H := H1 hi21
        refine W.skip ?_
        refine At.thenC ?_
        refine W.seq ?_
        refine W.block ?_
        refine W.seq ?_
        refine W.region env [] [] rfl rfl rfl .nil .nil (At.keep (ts := [2, 5, 10, 87, 88]) (ids := [2, 17]) rfl rfl ?_)
        refine At.thenC ?_
        refine W.seq ?_
        refine W.region env [] [] rfl rfl rfl .nil .nil (At.keep (ts := [2, 5, 10, 87, 88, 92, 93]) (ids := [2, 17]) rfl rfl ?_)
        refine At.thenC ?_
        refine W.block ?_
        refine At.keep (ts := [2, 5, 10, 87, 88, 92, 93]) (ids := [2, 17]) rfl rfl ?_
        obtain ⟨hn23, H⟩ := of_must H
        refine W.rangeGo H (fun i23 (s23 : (List (List Int))) => [(2, .lp 2 0), (5, .gb 17 (s23).length), (10, .int .i64 ((i21 : Int))), (87, .int .i64 (p0.Places)), (88, .int .i64 ((i21 : Int))), (92, .int .i64 (p0.Places)), (93, .int .i64 ((i23 : Int)))]) (fun i23 (s23 : (List (List Int))) => [(2, .cells [.int .i64 (p0.Places), roL 7 enc_Way p0.Ways]), (17, gridL 27 3 1 enc_Int s23)]) (.cons (.of_eq (by first | rfl | (simp; done) | omega | (simp; omega))) (.cons (.of_eq (by refine gbEq ?_; first | (simp; done) | omega | (simp; omega) | rfl)) (.cons (.of_eq (by first | rfl | (simp; done) | omega | (simp; omega))) (.cons (.of_eq (by first | rfl | (simp; done) | omega | (simp; omega))) (.cons (.of_eq (by first | rfl | (simp; done) | omega | (simp; omega))) (.cons (.of_eq (by first | rfl | (simp; done) | omega | (simp; omega))) (.cons (.of_eq (by first | rfl | (simp; done) | omega | (simp; omega))) .nil))))))) (.cons (.of_eq (by first | rfl | (simp; done) | omega | (simp; omega))) (.cons (.of_eq (by first | rfl | (simp; done) | omega | (simp; omega))) .nil)) (fun k23 i23 s23 hle23 H1 H2 K0 hK23 => ?_)
        refine W.seq ?_
        refine W.region env [] [] rfl rfl rfl .nil .nil (At.keep (ts := [2, 5, 10, 87, 88, 92, 93, 94]) (ids := [2, 17]) rfl rfl ?_)
        refine At.thenC ?_
        refine W.seq ?_
        refine W.cond rfl (fun hb24 => ?_) (fun hb24 => ?_)
        · have hi23 : i23 < (p0.Places).toNat := by have := of_decide_eq_true hb24; omega
          have H := H1 hi23
          refine W.skip ?_
          refine At.thenC ?_
          refine W.seq ?_
          refine W.block ?_
          refine W.seq ?_
          refine W.region env [] [] rfl rfl rfl .nil .nil (At.keep (ts := [2, 5, 10, 11, 87, 88, 92, 93]) (ids := [2, 17]) rfl rfl ?_)
          refine At.thenC ?_
          refine W.seq ?_
          refine W.region env [] [] rfl rfl rfl .nil .nil (At.keep (ts := [2, 5, 10, 11, 87, 88, 92, 93, 97, 98]) (ids := [2, 17]) rfl rfl ?_)
          refine At.thenC ?_
          refine W.block ?_
          refine At.keep (ts := [2, 5, 10, 11, 87, 88, 92, 93, 97, 98]) (ids := [2, 17]) rfl rfl ?_
          obtain ⟨hn25, H⟩ := of_must H
          refine W.rangeGo H (fun i25 (s25 : (List (List Int))) => [(2, .lp 2 0), (5, .gb 17 (s25).length), (10, .int .i64 ((i21 : Int))), (11, .int .i64 ((i23 : Int))), (87, .int .i64 (p0.Places)), (88, .int .i64 ((i21 : Int))), (92, .int .i64 (p0.Places)), (93, .int .i64 ((i23 : Int))), (97, .int .i64 (p0.Places)), (98, .int .i64 ((i25 : Int)))]) (fun i25 (s25 : (List (List Int))) => [(2, .cells [.int .i64 (p0.Places), roL 7 enc_Way p0.Ways]), (17, gridL 27 3 1 enc_Int s25)]) (.cons (.of_eq (by first | rfl | (simp; done) | omega | (simp; omega))) (.cons (.of_eq (by refine gbEq ?_; first | (simp; done) | omega | (simp; omega) | rfl)) (.cons (.of_eq (by first | rfl | (simp; done) | omega | (simp; omega))) (.cons (.of_eq (by first | rfl | (simp; done) | omega | (simp; omega))) (.cons (.of_eq (by first | rfl | (simp; done) | omega | (simp; omega))) (.cons (.of_eq (by first | rfl | (simp; done) | omega | (simp; omega))) (.cons (.of_eq (by first | rfl | (simp; done) | omega | (simp; omega))) (.cons (.of_eq (by first | rfl | (simp; done) | omega | (simp; omega))) (.cons (.of_eq (by first | rfl | (simp; done) | omega | (simp; omega))) (.cons (.of_eq (by first | rfl | (simp; done) | omega | (simp; omega))) .nil)))))))))) (.cons (.of_eq (by first | rfl | (simp; done) | omega | (simp; omega))) (.cons (.of_eq (by first | rfl | (simp; done) | omega | (simp; omega))) .nil)) (fun k25 i25 s25 hle25 H1 H2 K0 hK25 => ?_)
          refine W.seq ?_
          refine W.region env [] [] rfl rfl rfl .nil .nil (At.keep (ts := [2, 5, 10, 11, 87, 88, 92, 93, 97, 98, 99]) (ids := [2, 17]) rfl rfl ?_)
          refine At.thenC ?_
          refine W.seq ?_
          refine W.cond rfl (fun hb26 => ?_) (fun hb26 => ?_)
          · have hi25 : i25 < (p0.Places).toNat := by have := of_decide_eq_true hb26; omega
            have H := H1 hi25
            refine W.skip ?_
            refine At.thenC ?_
            refine W.seq ?_
            refine W.block ?_
            refine W.seq ?_
            refine W.region env [] [] rfl rfl rfl .nil .nil (At.keep (ts := [2, 5, 10, 11, 12, 87, 88, 92, 93, 97, 98]) (ids := [2, 17]) rfl rfl ?_)
            refine At.thenC ?_
            refine W.seq ?_
            obtain ⟨hc27, H⟩ := of_must H
            obtain ⟨hc28, H⟩ := of_must H
            obtain ⟨hc29, H⟩ := of_must H
            obtain ⟨hc30, H⟩ := of_must H
            refine W.region env [] [] rfl rfl rfl (.cons (⟨by first | rfl | (simp; done) | omega | (simp; omega), hc27⟩) (.cons ((by have := hc27; first | omega | (simp at this ⊢; omega))) (.cons (⟨by first | rfl | (simp; done) | omega | (simp; omega), (by have := hc27; first | omega | (simp at this ⊢; omega)), hc28⟩) (.cons (⟨by first | rfl | (simp; done) | omega | (simp; omega), (by have := hc27; first | omega | (simp at this ⊢; omega)), (by have := hc28; first | omega | (simp at this ⊢; omega))⟩) (.cons (⟨by first | rfl | (simp; done) | omega | (simp; omega), hc29⟩) (.cons ((by have := hc29; first | omega | (simp at this ⊢; omega))) (.cons (⟨by first | rfl | (simp; done) | omega | (simp; omega), (by have := hc29; first | omega | (simp at this ⊢; omega)), hc30⟩) (.cons (⟨by first | rfl | (simp; done) | omega | (simp; omega), (by have := hc29; first | omega | (simp at this ⊢; omega)), (by have := hc30; first | omega | (simp at this ⊢; omega))⟩) .nil)))))))) .nil (At.keep (ts := [2, 5, 10, 11, 12, 13, 14, 87, 88, 92, 93, 97, 98]) (ids := [2, 17]) rfl rfl ?_)
            refine At.thenC ?_
            refine W.seq ?_
            obtain ⟨hc31, H⟩ := of_must H
            obtain ⟨hc32, H⟩ := of_must H
            obtain ⟨hc33, H⟩ := of_must H
            obtain ⟨hc34, H⟩ := of_must H
            obtain ⟨hc35, H⟩ := of_must H
            refine W.region env [] [] rfl rfl rfl (.cons (fun h => h) (.cons (fun h => h) (.cons (fun hW => ⟨by first | rfl | (simp; done) | omega | (simp; omega), hc31 hW⟩) (.cons (fun h => h) (.cons (fun h => h) (.cons (fun hW => ((by have := hc31 hW; first | omega | (simp at this ⊢; omega)))) (.cons (fun h => h) (.cons (fun hW => ⟨by first | rfl | (simp; done) | omega | (simp; omega), (by have := hc31 hW; first | omega | (simp at this ⊢; omega)), hc32 hW⟩) (.cons (fun h => h) (.cons (fun h => h) (.cons (fun hW => (⟨by first | rfl | (simp; done) | omega | (simp; omega), (by have := hc31 hW; first | omega | (simp at this ⊢; omega)), (by have := hc32 hW; first | omega | (simp at this ⊢; omega))⟩)) (.cons (fun h => h) (.cons (fun h => h) (.cons (fun h => h) (.cons hc33 (.cons (fun h => h) (.cons (fun h => h) (.cons (fun hW => ⟨by first | rfl | (simp; done) | omega | (simp; omega), hc34 hW⟩) (.cons (fun h => h) (.cons (fun h => h) (.cons (fun hW => ((by have := hc34 hW; first | omega | (simp at this ⊢; omega)))) (.cons (fun h => h) (.cons (fun hW => ⟨by first | rfl | (simp; done) | omega | (simp; omega), (by have := hc34 hW; first | omega | (simp at this ⊢; omega)), hc35 hW⟩) (.cons (fun h => h) (.cons (fun h => h) (.cons (fun hW => (⟨by first | rfl | (simp; done) | omega | (simp; omega), (by have := hc34 hW; first | omega | (simp at this ⊢; omega)), (by have := hc35 hW; first | omega | (simp at this ⊢; omega))⟩)) (.cons (fun h => h) (.cons (fun h => h) (.cons (fun h => h) (.cons (fun h => h) (.cons (fun hW h => by revert hW h; first | (simp +contextual; done) | grind) (.cons (fun h => h) .nil)))))))))))))))))))))))))))))))) .nil (At.keep (ts := [2, 5, 10, 11, 12, 13, 14, 87, 88, 92, 93, 97, 98, 143]) (ids := [2, 17]) rfl rfl ?_)
            refine At.thenC ?_
            refine W.cond rfl (fun hb36 => ?_) (fun hb36 => ?_)
            · have H := of_true H hb36
              obtain ⟨hc37, H⟩ := of_must H
              obtain ⟨hc38, H⟩ := of_must H
              obtain ⟨hc39, H⟩ := of_must H
              refine W.region env [] [] rfl rfl rfl (.cons (⟨by first | rfl | (simp; done) | omega | (simp; omega), hc37⟩) (.cons ((by have := hc37; first | omega | (simp at this ⊢; omega))) (.cons hc38 (.cons (⟨by first | rfl | (simp; done) | omega | (simp; omega), (by have := hc37; first | omega | (simp at this ⊢; omega)), hc39⟩) (.cons (⟨by first | rfl | (simp; done) | omega | (simp; omega), (by have := hc37; first | omega | (simp at this ⊢; omega)), (by have := hc39; first | omega | (simp at this ⊢; omega))⟩) .nil))))) .nil (At.keep (ts := [2, 5, 10, 11, 87, 88, 92, 93, 97, 98]) (ids := [2, 17]) rfl rfl ?_)
              refine At.convM (.cons (.refl _) (.cons (y := gridL 27 3 1 enc_Int (s25.set i23 ((s25.getD i23 []).set i25 (((s25.getD i23 []).getD i21 default) + ((s25.getD i21 []).getD i25 default))))) (BSim.gseg (GSeg.setAt (i := i23) (j := i25) (GSeg.refl enc_Int _) (((s25.getD i23 []).getD i21 default) + ((s25.getD i21 []).getD i25 default)) rfl)) .nil)) ?_
              refine At.inb ?_
              refine At.thenC ?_
              refine W.region env [] [] rfl rfl rfl (.cons (by unfold inI; have := hn25; (try unfold maxLen at this); omega) .nil) .nil (At.keep (ts := [2, 5, 10, 11, 87, 88, 92, 93, 97, 98]) (ids := [2, 17]) rfl rfl ?_)
              refine At.thenK (At.keep (ts := [2, 5, 10, 11, 87, 88, 92, 93, 97, 98]) (ids := [2, 17]) rfl rfl ?_)
              exact At.conv (.cons (.of_eq (by first | rfl | (simp; done) | omega | (simp; omega))) (.cons (.of_eq (by refine gbEq ?_; first | (simp; done) | omega | (simp; omega) | rfl)) (.cons (.of_eq (by first | rfl | (simp; done) | omega | (simp; omega))) (.cons (.of_eq (by first | rfl | (simp; done) | omega | (simp; omega))) (.cons (.of_eq (by first | rfl | (simp; done) | omega | (simp; omega))) (.cons (.of_eq (by first | rfl | (simp; done) | omega | (simp; omega))) (.cons (.of_eq (by first | rfl | (simp; done) | omega | (simp; omega))) (.cons (.of_eq (by first | rfl | (simp; done) | omega | (simp; omega))) (.cons (.of_eq (by first | rfl | (simp; done) | omega | (simp; omega))) (.cons (.of_eq (by first | rfl | (simp; done) | omega | (simp; omega))) .nil)))))))))) (.cons (.of_eq (by first | rfl | (simp; done) | omega | (simp; omega))) (.cons (.of_eq (by first | rfl | (simp; done) | omega | (simp; omega))) .nil)) (hK25 hi25 (s25.set i23 ((s25.getD i23 []).set i25 (((s25.getD i23 []).getD i21 default) + ((s25.getD i21 []).getD i25 default)))) H)
            · have H := of_false H hb36
              refine W.skip ?_
              refine At.inb ?_
              refine At.thenC ?_
              refine W.region env [] [] rfl rfl rfl (.cons (by unfold inI; have := hn25; (try unfold maxLen at this); omega) .nil) .nil (At.keep (ts := [2, 5, 10, 11, 87, 88, 92, 93, 97, 98]) (ids := [2, 17]) rfl rfl ?_)
              refine At.thenK (At.keep (ts := [2, 5, 10, 11, 87, 88, 92, 93, 97, 98]) (ids := [2, 17]) rfl rfl ?_)
              exact At.conv (.cons (.of_eq (by first | rfl | (simp; done) | omega | (simp; omega))) (.cons (.of_eq (by refine gbEq ?_; first | (simp; done) | omega | (simp; omega) | rfl)) (.cons (.of_eq (by first | rfl | (simp; done) | omega | (simp; omega))) (.cons (.of_eq (by first | rfl | (simp; done) | omega | (simp; omega))) (.cons (.of_eq (by first | rfl | (simp; done) | omega | (simp; omega))) (.cons (.of_eq (by first | rfl | (simp; done) | omega | (simp; omega))) (.cons (.of_eq (by first | rfl | (simp; done) | omega | (simp; omega))) (.cons (.of_eq (by first | rfl | (simp; done) | omega | (simp; omega))) (.cons (.of_eq (by first | rfl | (simp; done) | omega | (simp; omega))) (.cons (.of_eq (by first | rfl | (simp; done) | omega | (simp; omega))) .nil)))))))))) (.cons (.of_eq (by first | rfl | (simp; done) | omega | (simp; omega))) (.cons (.of_eq (by first | rfl | (simp; done) | omega | (simp; omega))) .nil)) (hK25 hi25 s25 H)
          · have H := H2 (by have := of_decide_eq_false hb26; omega)
            refine W.exit ?_
            refine At.xthen ?_
            refine At.xthen ?_
            refine At.xhere ?_
            refine At.inb ?_
            refine At.thenC ?_
            refine W.region env [] [] rfl rfl rfl (.cons (by unfold inI; have := hn23; (try unfold maxLen at this); omega) .nil) .nil (At.keep (ts := [2, 5, 10, 87, 88, 92, 93]) (ids := [2, 17]) rfl rfl ?_)
            refine At.thenK (At.keep (ts := [2, 5, 10, 87, 88, 92, 93]) (ids := [2, 17]) rfl rfl ?_)
            exact At.conv (.cons (.of_eq (by first | rfl | (simp; done) | omega | (simp; omega))) (.cons (.of_eq (by refine gbEq ?_; first | (simp; done) | omega | (simp; omega) | rfl)) (.cons (.of_eq (by first | rfl | (simp; done) | omega | (simp; omega))) (.cons (.of_eq (by first | rfl | (simp; done) | omega | (simp; omega))) (.cons (.of_eq (by first | rfl | (simp; done) | omega | (simp; omega))) (.cons (.of_eq (by first | rfl | (simp; done) | omega | (simp; omega))) (.cons (.of_eq (by first | rfl | (simp; done) | omega | (simp; omega))) .nil))))))) (.cons (.of_eq (by first | rfl | (simp; done) | omega | (simp; omega))) (.cons (.of_eq (by first | rfl | (simp; done) | omega | (simp; omega))) .nil)) (hK23 hi23 s25 H)
        · have H := H2 (by have := of_decide_eq_false hb24; omega)
          refine W.exit ?_
          refine At.xthen ?_
          refine At.xthen ?_
          refine At.xhere ?_
          refine At.inb ?_
          refine At.thenC ?_
          refine W.region env [] [] rfl rfl rfl (.cons (by unfold inI; have := hn21; (try unfold maxLen at this); omega) .nil) .nil (At.keep (ts := [2, 5, 87, 88]) (ids := [2, 17]) rfl rfl ?_)
          refine At.thenK (At.keep (ts := [2, 5, 87, 88]) (ids := [2, 17]) rfl rfl ?_)
          exact At.conv (.cons (.of_eq (by first | rfl | (simp; done) | omega | (simp; omega))) (.cons (.of_eq (by refine gbEq ?_; first | (simp; done) | omega | (simp; omega) | rfl)) (.cons (.of_eq (by first | rfl | (simp; done) | omega | (simp; omega))) (.cons (.of_eq (by first | rfl | (simp; done) | omega | (simp; omega))) .nil)))) (.cons (.of_eq (by first | rfl | (simp; done) | omega | (simp; omega))) (.cons (.of_eq (by first | rfl | (simp; done) | omega | (simp; omega))) .nil)) (hK21 hi21 s23 H)
      · have H := H2 (by have := of_decide_eq_false hb22; omega)
        refine W.exit ?_
        refine At.xthen ?_
        refine At.xthen ?_
        refine At.xhere ?_
        refine At.thenC ?_
        refine W.seq ?_
        refine W.region env [] [] rfl rfl rfl .nil .nil (At.keep (ts := [4]) (ids := [17]) rfl rfl ?_)
        refine At.thenC ?_
        refine W.ret ?_
        cases H
        exact At.ret env.ty rfl rfl (fun q hq => by cases hq; exact (by first | rfl | (simp; done) | omega | (simp; omega))) (.refl _) hval

theorem c_round_Matrix (fuel : Nat) (p0 : Chart) {r : ((List (List Range)) × Int)} (H : round_Matrix fuel p0 = some r) : Ctr Try.prog 27 [.agg [.int .i64 (p0.Places), roL 7 enc_Way p0.Ways]] (.tup [roL 1 enc_ListRange r.1, .int .i64 (r.2)]) := by
  unfold round_Matrix at H
  refine Ctr.of_body (N := 77) Try.func27 (by kernel_rfl) (c := _) rfl Try.ntmps27 rfl (fun w0 h0 hval => ?_)
  refine W.seq ?_
  refine W.region env [] [] rfl rfl rfl .nil .nil (At.keep (ts := [1]) (ids := [1]) rfl rfl ?_)
  refine At.thenC ?_
  refine W.seq ?_
  refine W.seq ?_
  obtain ⟨y1, hy2, H⟩ := of_bindO H
  refine W.region env [] [⟨.int .i64 (y1), [], 0, []⟩] rfl rfl rfl .nil (.free (c_round_Check p0 hy2) .nil) (At.keep (ts := [1, 4]) (ids := [1]) rfl rfl ?_)
  refine At.thenC ?_
  refine W.seq ?_
  refine W.region env [] [] rfl rfl rfl .nil .nil (At.keep (ts := [1, 4, 14]) (ids := [1]) rfl rfl ?_)
  refine At.thenC ?_
  refine W.cond rfl (fun hb3 => ?_) (fun hb3 => ?_)
  · have H := of_true H hb3
    refine W.seq ?_
    refine W.region env [] [] rfl rfl rfl .nil .nil (At.keep (ts := [2, 3]) (ids := []) rfl rfl ?_)
    refine At.thenC ?_
    refine W.ret ?_
    refine At.rthen ?_
    cases H
    exact At.ret env.ty rfl rfl (fun q hq => by cases hq) (Sim.tupL (.cons (Sim.nil _ _) (.cons (.refl _) .nil))) hval
  · have H := of_false H hb3
    refine W.skip ?_
    refine At.thenC ?_
    refine W.seq ?_
    obtain ⟨y4, hy5, H⟩ := of_bindO H
    obtain ⟨y6, hy7, H⟩ := of_bindO H
    refine W.region env [] [⟨.clo (.func 116) [] [.rp [.int .i64 (p0.Places), roL 7 enc_Way p0.Ways]], [], 0, []⟩, ⟨roL 1 enc_ListInt y4, [], 0, []⟩, ⟨.clo (.func 115) [] [.rp [.int .i64 (p0.Places), roL 7 enc_Way p0.Ways]], [], 0, []⟩, ⟨roL 1 enc_ListInt y6, [], 0, []⟩] rfl rfl rfl .nil (.free (c_round_least p0) (.free (c_round_sums fuel p0 (fun x0 => round_least_1 x0 p0) 116 [] ([.rp [.int .i64 (p0.Places), roL 7 enc_Way p0.Ways]]) (fun x0 r h => c_round_least_1 x0 p0 h) hy5) (.free (c_round_most p0) (.free (c_round_sums fuel p0 (fun x0 => round_most_1 x0 p0) 115 [] ([.rp [.int .i64 (p0.Places), roL 7 enc_Way p0.Ways]]) (fun x0 r h => c_round_most_1 x0 p0 h) hy7) .nil)))) (At.keep (ts := [1, 5, 6]) (ids := [1]) rfl rfl ?_)
    refine At.thenC ?_
    refine W.seq ?_
    refine W.region env [] [] rfl rfl rfl .nil .nil (At.keep (ts := [1, 5, 6, 7]) (ids := [1]) rfl rfl ?_)
    refine At.thenC ?_
    refine W.seq ?_
    refine W.seq ?_
    refine W.region env [] [] rfl rfl rfl .nil .nil (At.keep (ts := [1, 5, 6, 7, 25, 26]) (ids := [1]) rfl rfl ?_)
    refine At.thenC ?_
    refine W.block ?_
    refine At.nilOwn 7 507 57 1 (e := fun i => enc_ListRange (([] : List (List Range)).getD i default)) rfl rfl ?_
    refine At.keep (ts := [1, 5, 6, 7, 25, 26]) (ids := [1, 507]) rfl rfl ?_
    obtain ⟨hn8, H⟩ := of_must H
    refine W.rangeGo H (fun i8 (s8 : (List (List Range))) => [(1, .lp 1 0), (5, roL 1 enc_ListInt y4), (6, roL 1 enc_ListInt y6), (7, .buf 507 (s8).length), (25, .int .i64 (p0.Places)), (26, .int .i64 ((i8 : Int)))]) (fun i8 (s8 : (List (List Range))) => [(1, .cells [.int .i64 (p0.Places), roL 7 enc_Way p0.Ways]), (507, bufL 57 1 enc_ListRange s8)]) (.cons (.of_eq (by first | rfl | (simp; done) | omega | (simp; omega))) (.cons (.of_eq (by first | rfl | (simp; done) | omega | (simp; omega))) (.cons (.of_eq (by first | rfl | (simp; done) | omega | (simp; omega))) (.cons (.of_eq (by refine bufEq ?_; first | (simp [copyAt]; done) | omega | (simp [copyAt]; omega) | rfl)) (.cons (.of_eq (by first | rfl | (simp; done) | omega | (simp; omega))) (.cons (.of_eq (by first | rfl | (simp; done) | omega | (simp; omega))) .nil)))))) (.cons (.of_eq (by first | rfl | (simp; done) | omega | (simp; omega))) (.cons (.of_eq (by first | rfl | (simp; done) | omega | (simp; omega))) .nil)) (fun k8 i8 s8 hle8 H1 H2 K0 hK8 => ?_)
    refine W.seq ?_
    refine W.region env [] [] rfl rfl rfl .nil .nil (At.keep (ts := [1, 5, 6, 7, 25, 26, 27]) (ids := [1, 507]) rfl rfl ?_)
    refine At.thenC ?_
    refine W.seq ?_
    refine W.cond rfl (fun hb9 => ?_) (fun hb9 => ?_)
    · have hi8 : i8 < (p0.Places).toNat := by have := of_decide_eq_true hb9; omega
      have H := H1 hi8
      refine W.skip ?_
      refine At.thenC ?_
      refine W.seq ?_
      refine W.block ?_
      refine W.seq ?_
      refine W.region env [] [] rfl rfl rfl .nil .nil (At.keep (ts := [1, 5, 6, 7, 8, 25, 26]) (ids := [1, 507]) rfl rfl ?_)
      refine At.thenC ?_
      refine W.seq ?_
      refine W.region env [] [] rfl rfl rfl .nil .nil (At.keep (ts := [1, 5, 6, 7, 8, 9, 25, 26]) (ids := [1, 507]) rfl rfl ?_)
      refine At.thenC ?_
      refine W.seq ?_
      refine W.seq ?_
      refine W.region env [] [] rfl rfl rfl .nil .nil (At.keep (ts := [1, 5, 6, 7, 8, 9, 25, 26, 30, 31]) (ids := [1, 507]) rfl rfl ?_)
      refine At.thenC ?_
      refine W.block ?_
      refine At.nilOwn 9 509 51 2 (e := fun i => enc_Range (([] : List Range).getD i default)) rfl rfl ?_
      refine At.keep (ts := [1, 5, 6, 7, 8, 9, 25, 26, 30, 31]) (ids := [1, 507, 509]) rfl rfl ?_
      obtain ⟨hn10, H⟩ := of_must H
      refine W.rangeGo H (fun i10 (s10 : (List Range)) => [(1, .lp 1 0), (5, roL 1 enc_ListInt y4), (6, roL 1 enc_ListInt y6), (7, .buf 507 (s8).length), (8, .int .i64 ((i8 : Int))), (9, .buf 509 (s10).length), (25, .int .i64 (p0.Places)), (26, .int .i64 ((i8 : Int))), (30, .int .i64 (p0.Places)), (31, .int .i64 ((i10 : Int)))]) (fun i10 (s10 : (List Range)) => [(1, .cells [.int .i64 (p0.Places), roL 7 enc_Way p0.Ways]), (507, bufL 57 1 enc_ListRange s8), (509, bufL 51 2 enc_Range s10)]) (.cons (.of_eq (by first | rfl | (simp; done) | omega | (simp; omega))) (.cons (.of_eq (by first | rfl | (simp; done) | omega | (simp; omega))) (.cons (.of_eq (by first | rfl | (simp; done) | omega | (simp; omega))) (.cons (.of_eq (by refine bufEq ?_; first | (simp [copyAt]; done) | omega | (simp [copyAt]; omega) | rfl)) (.cons (.of_eq (by first | rfl | (simp; done) | omega | (simp; omega))) (.cons (.of_eq (by refine bufEq ?_; first | (simp [copyAt]; done) | omega | (simp [copyAt]; omega) | rfl)) (.cons (.of_eq (by first | rfl | (simp; done) | omega | (simp; omega))) (.cons (.of_eq (by first | rfl | (simp; done) | omega | (simp; omega))) (.cons (.of_eq (by first | rfl | (simp; done) | omega | (simp; omega))) (.cons (.of_eq (by first | rfl | (simp; done) | omega | (simp; omega))) .nil)))))))))) (.cons (.of_eq (by first | rfl | (simp; done) | omega | (simp; omega))) (.cons (.of_eq (by first | rfl | (simp; done) | omega | (simp; omega))) (.cons (.of_eq (by first | rfl | (simp; done) | omega | (simp; omega))) .nil))) (fun k10 i10 s10 hle10 H1 H2 K0 hK10 => ?_)
      refine W.seq ?_
      refine W.region env [] [] rfl rfl rfl .nil .nil (At.keep (ts := [1, 5, 6, 7, 8, 9, 25, 26, 30, 31, 32]) (ids := [1, 507, 509]) rfl rfl ?_)
      refine At.thenC ?_
      refine W.seq ?_
      refine W.cond rfl (fun hb11 => ?_) (fun hb11 => ?_)
      · have hi10 : i10 < (p0.Places).toNat := by have := of_decide_eq_true hb11; omega
        have H := H1 hi10
        refine W.skip ?_
        refine At.thenC ?_
        refine W.seq ?_
        refine W.block ?_
        refine W.seq ?_
        refine W.region env [] [] rfl rfl rfl .nil .nil (At.keep (ts := [1, 5, 6, 7, 8, 9, 10, 25, 26, 30, 31]) (ids := [1, 507, 509]) rfl rfl ?_)
        refine At.thenC ?_
        refine W.seq ?_
        refine W.seq ?_
        obtain ⟨hc12, H⟩ := of_must H
        obtain ⟨hc13, H⟩ := of_must H
        obtain ⟨hc14, H⟩ := of_must H
        obtain ⟨hc15, H⟩ := of_must H
        refine W.region env [] [] rfl rfl rfl (.cons hc12 (.cons hc13 (.cons hc14 (.cons (fun h => h) (.cons (fun h => h) (.cons (fun h => h) (.cons hc15 (.cons (fun h => h) (.cons (fun h => h) (.cons (fun h => h) (.cons (fun h => h) (.cons (fun h => by rw [h]; rfl) .nil)))))))))))) .nil (At.keep (ts := [1, 5, 6, 7, 8, 9, 10, 25, 26, 30, 31, 51]) (ids := [1, 507, 509]) rfl rfl ?_)
        refine At.thenC ?_
        refine W.cond rfl (fun hb16 => ?_) (fun hb16 => ?_)
        · have H := of_true H hb16
          refine W.seq ?_
          refine W.region env [] [] rfl rfl rfl .nil .nil (At.keep (ts := [2, 3]) (ids := []) rfl rfl ?_)
          refine At.thenC ?_
          refine W.ret ?_
          refine At.rthen ?_
          refine At.rinb ?_
          refine At.rthen ?_
          refine At.rthen ?_
          refine At.rinb ?_
          refine At.rthen ?_
          refine At.rinb ?_
          refine At.rthen ?_
          refine At.rthen ?_
          refine At.rinb ?_
          refine At.rthen ?_
          cases H
          exact At.ret env.ty rfl rfl (fun q hq => by cases hq) (Sim.tupL (.cons (Sim.nil _ _) (.cons (.refl _) .nil))) hval
        · have H := of_false H hb16
          refine W.skip ?_
          refine At.thenC ?_
          obtain ⟨hc17, H⟩ := of_must H
          obtain ⟨hc18, H⟩ := of_must H
          obtain ⟨hc19, H⟩ := of_must H
          obtain ⟨hc20, H⟩ := of_must H
          obtain ⟨hc21, H⟩ := of_must H
          refine W.region env [] [] rfl rfl rfl (.cons hc17 (.cons hc18 (.cons hc19 (.cons hc20 (.cons (⟨by first | rfl | (simp; done) | omega | (simp; omega), by have := hc21; first | simpa using this | (unfold room at this ⊢; simp at this ⊢; omega)⟩) .nil))))) .nil (At.keep (ts := [1, 5, 6, 7, 8, 9, 25, 26, 30, 31]) (ids := [1, 507, 509]) rfl rfl ?_)
          refine At.convM (.cons (.refl _) (.cons (.refl _) (.cons (y := bufL 51 2 enc_Range (s10 ++ ([(⟨((y4.getD i8 default).getD i10 default), ((y6.getD i8 default).getD i10 default)⟩ : Range)] : List Range))) (BSim.seg (Seg.push (Seg.refl enc_Range _) (Seg.lit (f := enc_Range) (sz := 2) ([(⟨((y4.getD i8 default).getD i10 default), ((y6.getD i8 default).getD i10 default)⟩ : Range)] : List Range) rfl rfl (fun _ => rfl)))) .nil))) ?_
          refine At.inb ?_
          refine At.thenC ?_
          refine W.region env [] [] rfl rfl rfl (.cons (by unfold inI; have := hn10; (try unfold maxLen at this); omega) .nil) .nil (At.keep (ts := [1, 5, 6, 7, 8, 9, 25, 26, 30, 31]) (ids := [1, 507, 509]) rfl rfl ?_)
          refine At.thenK (At.keep (ts := [1, 5, 6, 7, 8, 9, 25, 26, 30, 31]) (ids := [1, 507, 509]) rfl rfl ?_)
          exact At.conv (.cons (.of_eq (by first | rfl | (simp; done) | omega | (simp; omega))) (.cons (.of_eq (by first | rfl | (simp; done) | omega | (simp; omega))) (.cons (.of_eq (by first | rfl | (simp; done) | omega | (simp; omega))) (.cons (.of_eq (by refine bufEq ?_; first | (simp [copyAt]; done) | omega | (simp [copyAt]; omega) | rfl)) (.cons (.of_eq (by first | rfl | (simp; done) | omega | (simp; omega))) (.cons (.of_eq (by refine bufEq ?_; first | (simp [copyAt]; done) | omega | (simp [copyAt]; omega) | rfl)) (.cons (.of_eq (by first | rfl | (simp; done) | omega | (simp; omega))) (.cons (.of_eq (by first | rfl | (simp; done) | omega | (simp; omega))) (.cons (.of_eq (by first | rfl | (simp; done) | omega | (simp; omega))) (.cons (.of_eq (by first | rfl | (simp; done) | omega | (simp; omega))) .nil)))))))))) (.cons (.of_eq (by first | rfl | (simp; done) | omega | (simp; omega))) (.cons (.of_eq (by first | rfl | (simp; done) | omega | (simp; omega))) (.cons (.of_eq (by first | rfl | (simp; done) | omega | (simp; omega))) .nil))) (hK10 hi10 (s10 ++ ([(⟨((y4.getD i8 default).getD i10 default), ((y6.getD i8 default).getD i10 default)⟩ : Range)] : List Range)) H)
      · have H := H2 (by have := of_decide_eq_false hb11; omega)
        refine W.exit ?_
        refine At.xthen ?_
        refine At.xthen ?_
        refine At.xhere ?_
        refine At.thenC ?_
        refine At.freeze 9 509 (K := [1, 507]) (ts := [1, 5, 6, 7, 25, 26]) rfl rfl (by first | rfl | (simp; done) | omega | (simp; omega)) rfl rfl rfl (fun _ h => h) ?_
        obtain ⟨hc22, H⟩ := of_must H
        refine W.region env [] [] rfl rfl rfl (.cons (⟨by first | rfl | (simp; done) | omega | (simp; omega), by have := hc22; first | simpa using this | (unfold room at this ⊢; simp at this ⊢; omega)⟩) .nil) .nil (At.keep (ts := [1, 5, 6, 7, 25, 26]) (ids := [1, 507]) rfl rfl ?_)
        refine At.convM (.cons (.refl _) (.cons (y := bufL 57 1 enc_ListRange (s8 ++ ([s10] : List (List Range)))) (BSim.seg (Seg.push (Seg.refl enc_ListRange _) (Seg.lit (f := enc_ListRange) (sz := 1) ([s10] : List (List Range)) rfl rfl (fun _ => rfl)))) .nil)) ?_
        refine At.inb ?_
        refine At.thenC ?_
        refine W.region env [] [] rfl rfl rfl (.cons (by unfold inI; have := hn8; (try unfold maxLen at this); omega) .nil) .nil (At.keep (ts := [1, 5, 6, 7, 25, 26]) (ids := [1, 507]) rfl rfl ?_)
        refine At.thenK (At.keep (ts := [1, 5, 6, 7, 25, 26]) (ids := [1, 507]) rfl rfl ?_)
        exact At.conv (.cons (.of_eq (by first | rfl | (simp; done) | omega | (simp; omega))) (.cons (.of_eq (by first | rfl | (simp; done) | omega | (simp; omega))) (.cons (.of_eq (by first | rfl | (simp; done) | omega | (simp; omega))) (.cons (.of_eq (by refine bufEq ?_; first | (simp [copyAt]; done) | omega | (simp [copyAt]; omega) | rfl)) (.cons (.of_eq (by first | rfl | (simp; done) | omega | (simp; omega))) (.cons (.of_eq (by first | rfl | (simp; done) | omega | (simp; omega))) .nil)))))) (.cons (.of_eq (by first | rfl | (simp; done) | omega | (simp; omega))) (.cons (.of_eq (by first | rfl | (simp; done) | omega | (simp; omega))) .nil)) (hK8 hi8 (s8 ++ ([s10] : List (List Range))) H)
    · have H := H2 (by have := of_decide_eq_false hb9; omega)
      refine W.exit ?_
      refine At.xthen ?_
      refine At.xthen ?_
      refine At.xhere ?_
      refine At.thenC ?_
      refine W.seq ?_
      refine W.region env [] [] rfl rfl rfl .nil .nil (At.keep (ts := [2, 3]) (ids := [507]) rfl rfl ?_)
      refine At.thenC ?_
      refine W.ret ?_
      cases H
      exact At.ret env.ty rfl rfl (fun q hq => by cases hq; exact (by first | rfl | (simp; done) | omega | (simp; omega))) (.refl _) hval

theorem c_gasolierref03_Same (fuel : Nat) (p0 : (List Int)) (p1 : (List Int)) {r : Bool} (H : gasolierref03_Same fuel p0 p1 = some r) : Ctr Try.prog 19 [roL 1 enc_Int p0, roL 1 enc_Int p1] (.bool (r)) := by
  unfold gasolierref03_Same at H
  refine Ctr.of_body (N := 31) Try.func19 (by kernel_rfl) (c := _) rfl Try.ntmps19 rfl (fun w0 h0 hval => ?_)
  refine W.seq ?_
  refine W.region env [] [] rfl rfl rfl .nil .nil (At.keep (ts := [0, 1]) (ids := []) rfl rfl ?_)
  refine At.thenC ?_
  refine W.seq ?_
  refine W.region env [] [] rfl rfl rfl .nil .nil (At.keep (ts := [0, 1, 5]) (ids := []) rfl rfl ?_)
  refine At.thenC ?_
  refine W.seq ?_
  refine W.seq ?_
  refine W.region env [] [] rfl rfl rfl .nil .nil (At.keep (ts := [0, 1, 5, 6]) (ids := []) rfl rfl ?_)
  refine At.thenC ?_
  refine W.block ?_
  refine At.keep (ts := [0, 1, 5, 6]) (ids := []) rfl rfl ?_
  refine W.loopGo H (fun (s1 : Bool × Int) => [(0, roL 1 enc_Int p0), (1, roL 1 enc_Int p1), (5, .bool (s1.1)), (6, .int .i64 (s1.2))]) (fun (s1 : Bool × Int) => []) (.cons (.of_eq (by first | rfl | (simp; done) | omega | (simp; omega))) (.cons (.of_eq (by first | rfl | (simp; done) | omega | (simp; omega))) (.cons (.of_eq (by first | rfl | (simp; done) | omega | (simp; omega))) (.cons (.of_eq (by first | rfl | (simp; done) | omega | (simp; omega))) .nil)))) .nil (fun k1 s1 H K0 hK1 => ?_)
  refine W.seq ?_
  refine W.seq ?_
  refine W.region env [] [] rfl rfl rfl (.cons (fun h => h) .nil) .nil (At.keep (ts := [0, 1, 5, 6, 18]) (ids := []) rfl rfl ?_)
  refine At.thenC ?_
  refine W.cond rfl (fun hb2 => ?_) (fun hb2 => ?_)
  · have H := of_true H hb2
    refine W.skip ?_
    refine At.thenC ?_
    refine W.seq ?_
    refine W.block ?_
    obtain ⟨hc3, H⟩ := of_must H
    obtain ⟨hc4, H⟩ := of_must H
    refine W.region env [] [] rfl rfl rfl (.cons hc3 (.cons hc4 .nil)) .nil (At.keep (ts := [0, 1, 5, 6]) (ids := []) rfl rfl ?_)
    refine At.inb ?_
    refine At.thenC ?_
    obtain ⟨hc5, H⟩ := of_must H
    refine W.region env [] [] rfl rfl rfl (.cons hc5 .nil) .nil (At.keep (ts := [0, 1, 5, 6]) (ids := []) rfl rfl ?_)
    refine At.thenK (At.keep (ts := [0, 1, 5, 6]) (ids := []) rfl rfl ?_)
    exact At.conv (.cons (.of_eq (by first | rfl | (simp; done) | omega | (simp; omega))) (.cons (.of_eq (by first | rfl | (simp; done) | omega | (simp; omega))) (.cons (.of_eq (by first | rfl | (simp; done) | omega | (simp; omega))) (.cons (.of_eq (by first | rfl | (simp; done) | omega | (simp; omega))) .nil)))) .nil (hK1 ((decide ((p0.getD (s1.2).toNat default) = (p1.getD (s1.2).toNat default))), (s1.2 + 1)) H)
  · have H := of_false H hb2
    refine W.exit ?_
    refine At.xthen ?_
    refine At.xthen ?_
    refine At.xhere ?_
    refine At.thenC ?_
    refine W.seq ?_
    refine W.region env [] [] rfl rfl rfl .nil .nil (At.keep (ts := [4]) (ids := []) rfl rfl ?_)
    refine At.thenC ?_
    refine W.ret ?_
    cases H
    exact At.ret env.ty rfl rfl (fun q hq => by cases hq) (.refl _) hval

theorem c_round_CheckPath (p0 : Chart) (p1 : Trip) (p2 : (List Int)) (p3 : Int) {r : Int} (H : round_CheckPath p0 p1 p2 p3 = some r) : Ctr Try.prog 51 [.agg [.int .i64 (p0.Places), roL 7 enc_Way p0.Ways], .agg [.int .i64 (p1.From), .int .i64 (p1.To), .int .i64 (p1.At)], roL 1 enc_Int p2, .int .i64 (p3)] (.int .i64 (r)) := by
  unfold round_CheckPath at H
  refine Ctr.of_body (N := 96) Try.func51 (by kernel_rfl) (c := _) rfl Try.ntmps51 rfl (fun w0 h0 hval => ?_)
  refine W.seq ?_
  refine W.region env [] [] rfl rfl rfl .nil .nil (At.keep (ts := [2, 3, 4, 5]) (ids := [4, 5]) rfl rfl ?_)
  refine At.thenC ?_
  refine W.seq ?_
  refine W.seq ?_
  obtain ⟨y1, hy2, H⟩ := of_bindO H
  refine W.region env [] [⟨.int .i64 (y1), [], 0, []⟩] rfl rfl rfl .nil (.free (Ctr.sim (.cons (.refl _) (.cons (.refl _) (.cons (Sim.lit (f := enc_Int) ([p1.From, p1.To] : List Int) rfl rfl (fun _ => rfl)) .nil))) (c_round_placeOf p0 p1.At ([p1.From, p1.To] : List Int) hy2)) .nil) (At.keep (ts := [2, 3, 4, 5, 9]) (ids := [4, 5]) rfl rfl ?_)
  refine At.thenC ?_
  refine W.seq ?_
  refine W.region env [] [] rfl rfl rfl .nil .nil (At.keep (ts := [2, 3, 4, 5, 9, 26]) (ids := [4, 5]) rfl rfl ?_)
  refine At.thenC ?_
  refine W.cond rfl (fun hb3 => ?_) (fun hb3 => ?_)
  · have H := of_true H hb3
    refine W.seq ?_
    refine W.region env [] [] rfl rfl rfl .nil .nil (At.keep (ts := [8]) (ids := []) rfl rfl ?_)
    refine At.thenC ?_
    refine W.ret ?_
    refine At.rthen ?_
    cases H
    exact At.ret env.ty rfl rfl (fun q hq => by cases hq) (.refl _) hval
  · have H := of_false H hb3
    refine W.skip ?_
    refine At.thenC ?_
    refine W.seq ?_
    refine W.region env [] [] rfl rfl rfl .nil .nil (At.keep (ts := [2, 3, 4, 5, 10, 11]) (ids := [4, 5]) rfl rfl ?_)
    refine At.thenC ?_
    refine W.seq ?_
    refine W.seq ?_
    refine W.region env [] [] rfl rfl rfl .nil .nil (At.keep (ts := [3, 4, 5, 10, 11, 32, 33, 34]) (ids := [4, 5]) rfl rfl ?_)
    refine At.thenC ?_
    refine W.block ?_
    refine At.keep (ts := [3, 4, 5, 10, 11, 32, 33, 34]) (ids := [4, 5]) rfl rfl ?_
    refine W.len (t := 32) rfl (fun hn4 => ?_)
    refine W.rangeGo H (fun i4 (s4 : Int × Int) => [(3, .int .i64 (p3)), (4, .lp 4 0), (5, .lp 5 0), (10, .int .i64 (s4.1)), (11, .int .i64 (s4.2)), (32, roL 1 enc_Int p2), (33, .int .i64 (((p2.length : Nat) : Int))), (34, .int .i64 ((i4 : Int)))]) (fun i4 (s4 : Int × Int) => [(4, .cells [.int .i64 (p0.Places), roL 7 enc_Way p0.Ways]), (5, .cells [.int .i64 (p1.From), .int .i64 (p1.To), .int .i64 (p1.At)])]) (.cons (.of_eq (by first | rfl | (simp; done) | omega | (simp; omega))) (.cons (.of_eq (by first | rfl | (simp; done) | omega | (simp; omega))) (.cons (.of_eq (by first | rfl | (simp; done) | omega | (simp; omega))) (.cons (.of_eq (by first | rfl | (simp; done) | omega | (simp; omega))) (.cons (.of_eq (by first | rfl | (simp; done) | omega | (simp; omega))) (.cons (.of_eq (by first | rfl | (simp; done) | omega | (simp; omega))) (.cons (.of_eq (by first | rfl | (simp; done) | omega | (simp; omega))) (.cons (.of_eq (by first | rfl | (simp; done) | omega | (simp; omega))) .nil)))))))) (.cons (.of_eq (by first | rfl | (simp; done) | omega | (simp; omega))) (.cons (.of_eq (by first | rfl | (simp; done) | omega | (simp; omega))) .nil)) (fun k4 i4 s4 hle4 H1 H2 K0 hK4 => ?_)
    refine W.seq ?_
    refine W.region env [] [] rfl rfl rfl .nil .nil (At.keep (ts := [3, 4, 5, 10, 11, 32, 33, 34, 35]) (ids := [4, 5]) rfl rfl ?_)
    refine At.thenC ?_
    refine W.seq ?_
    refine W.cond rfl (fun hb5 => ?_) (fun hb5 => ?_)
    · have hi4 : i4 < p2.length := by have := of_decide_eq_true hb5; omega
      have H := H1 hi4
      refine W.skip ?_
      refine At.thenC ?_
      refine W.seq ?_
      refine W.block ?_
      refine W.seq ?_
      refine W.region env [] [] rfl rfl rfl (.cons (⟨by omega, by omega⟩ : 0 ≤ (i4 : Int) ∧ (i4 : Int) < ((p2.length : Nat) : Int)) .nil) .nil (At.keep (ts := [3, 4, 5, 10, 11, 13, 32, 33, 34]) (ids := [4, 5]) rfl rfl ?_)
      refine At.thenC ?_
      refine W.seq ?_
      refine W.seq ?_
      obtain ⟨hc6, H⟩ := of_must H
      obtain ⟨hc7, H⟩ := of_must H
      refine W.region env [] [⟨.bool ((round_within (p2.getD i4 default) 0 (((p0.Ways.length : Nat) : Int) - 1))), [], 0, []⟩] rfl rfl rfl (.cons hc6 (.cons (fun h => h) (.cons hc7 (.cons (fun h => h) (.cons (fun h => h) (.cons (fun h => h) (.cons (fun h => h) (.cons (fun h => h) (.cons (fun h => h) (.cons (fun h => by rw [h]; rfl) .nil)))))))))) (.free (c_round_within (p2.getD i4 default) 0 (((p0.Ways.length : Nat) : Int) - 1)) .nil) (At.keep (ts := [3, 4, 5, 11, 13, 32, 33, 34, 54]) (ids := [4, 5]) rfl rfl ?_)
      refine At.thenC ?_
      refine W.cond rfl (fun hb8 => ?_) (fun hb8 => ?_)
      · have H := of_true H hb8
        refine W.seq ?_
        refine W.region env [] [] rfl rfl rfl .nil .nil (At.keep (ts := [8]) (ids := []) rfl rfl ?_)
        refine At.thenC ?_
        refine W.ret ?_
        refine At.rthen ?_
        refine At.rinb ?_
        refine At.rthen ?_
        refine At.rthen ?_
        refine At.rinb ?_
        refine At.rthen ?_
        cases H
        exact At.ret env.ty rfl rfl (fun q hq => by cases hq) (.refl _) hval
      · have H := of_false H hb8
        refine W.skip ?_
        refine At.thenC ?_
        refine W.seq ?_
        obtain ⟨hc9, H⟩ := of_must H
        obtain ⟨y10, hy11, H⟩ := of_bindO H
        refine W.region env [] [⟨.tup [.int .i64 (y10.1), .bool (y10.2)], [], 0, []⟩] rfl rfl rfl (.cons hc9 .nil) (.free (c_round_leave (p0.Ways.getD ((p2.getD i4 default)).toNat default) s4.2 hy11) .nil) (At.keep (ts := [3, 4, 5, 13, 14, 15, 32, 33, 34]) (ids := [4, 5]) rfl rfl ?_)
        refine At.thenC ?_
        refine W.seq ?_
        obtain ⟨hc12, H⟩ := of_must H
        obtain ⟨hc13, H⟩ := of_must H
        obtain ⟨hc14, H⟩ := of_must H
        refine W.region env [] [] rfl rfl rfl (.cons hc12 (.cons hc13 (.cons hc14 .nil))) .nil (At.keep (ts := [3, 4, 5, 10, 11, 15, 32, 33, 34]) (ids := [4, 5]) rfl rfl ?_)
        refine At.thenC ?_
        refine W.seq ?_
        refine W.region env [] [] rfl rfl rfl (.cons (fun h => h) (.cons (fun h => by rw [h]; rfl) .nil)) .nil (At.keep (ts := [3, 4, 5, 10, 11, 32, 33, 34, 85]) (ids := [4, 5]) rfl rfl ?_)
        refine At.thenC ?_
        refine W.cond rfl (fun hb15 => ?_) (fun hb15 => ?_)
        · have H := of_true H hb15
          refine W.seq ?_
          refine W.region env [] [] rfl rfl rfl .nil .nil (At.keep (ts := [8]) (ids := []) rfl rfl ?_)
          refine At.thenC ?_
          refine W.ret ?_
          refine At.rinb ?_
          refine At.rthen ?_
          refine At.rthen ?_
          refine At.rinb ?_
          refine At.rthen ?_
          cases H
          exact At.ret env.ty rfl rfl (fun q hq => by cases hq) (.refl _) hval
        · have H := of_false H hb15
          refine W.skip ?_
          refine At.inb ?_
          refine At.thenC ?_
          refine W.region env [] [] rfl rfl rfl (.cons (by unfold inI; have := hn4; (try unfold maxLen at this); omega) .nil) .nil (At.keep (ts := [3, 4, 5, 10, 11, 32, 33, 34]) (ids := [4, 5]) rfl rfl ?_)
          refine At.thenK (At.keep (ts := [3, 4, 5, 10, 11, 32, 33, 34]) (ids := [4, 5]) rfl rfl ?_)
          exact At.conv (.cons (.of_eq (by first | rfl | (simp; done) | omega | (simp; omega))) (.cons (.of_eq (by first | rfl | (simp; done) | omega | (simp; omega))) (.cons (.of_eq (by first | rfl | (simp; done) | omega | (simp; omega))) (.cons (.of_eq (by first | rfl | (simp; done) | omega | (simp; omega))) (.cons (.of_eq (by first | rfl | (simp; done) | omega | (simp; omega))) (.cons (.of_eq (by first | rfl | (simp; done) | omega | (simp; omega))) (.cons (.of_eq (by first | rfl | (simp; done) | omega | (simp; omega))) (.cons (.of_eq (by first | rfl | (simp; done) | omega | (simp; omega))) .nil)))))))) (.cons (.of_eq (by first | rfl | (simp; done) | omega | (simp; omega))) (.cons (.of_eq (by first | rfl | (simp; done) | omega | (simp; omega))) .nil)) (hK4 hi4 ((p0.Ways.getD ((p2.getD i4 default)).toNat default).To, (y10.1 + (p0.Ways.getD ((p2.getD i4 default)).toNat default).Takes.Hi)) H)
    · have H := H2 (by have := of_decide_eq_false hb5; omega)
      refine W.exit ?_
      refine At.xthen ?_
      refine At.xthen ?_
      refine At.xhere ?_
      refine At.thenC ?_
      refine W.seq ?_
      refine W.block ?_
      refine W.seq ?_
      refine W.region env [] [] rfl rfl rfl .nil .nil (At.keep (ts := [3, 11, 87]) (ids := []) rfl rfl ?_)
      refine At.thenC ?_
      refine W.cond rfl (fun hb16 => ?_) (fun hb16 => ?_)
      · have H := of_true H hb16
        refine W.seq ?_
        refine W.region env [] [] rfl rfl rfl .nil .nil (At.keep (ts := [8]) (ids := []) rfl rfl ?_)
        refine At.thenC ?_
        refine W.ret ?_
        refine At.rinb ?_
        refine At.rthen ?_
        cases H
        exact At.ret env.ty rfl rfl (fun q hq => by cases hq) (.refl _) hval
      · have H := of_false H hb16
        refine W.seq ?_
        refine W.region env [] [] rfl rfl rfl .nil .nil (At.keep (ts := [92]) (ids := []) rfl rfl ?_)
        refine At.thenC ?_
        refine W.cond rfl (fun hb17 => ?_) (fun hb17 => ?_)
        · have H := of_true H hb17
          refine W.seq ?_
          refine W.region env [] [] rfl rfl rfl .nil .nil (At.keep (ts := [8]) (ids := []) rfl rfl ?_)
          refine At.thenC ?_
          refine W.ret ?_
          refine At.rinb ?_
          refine At.rthen ?_
          cases H
          exact At.ret env.ty rfl rfl (fun q hq => by cases hq) (.refl _) hval
        · have H := of_false H hb17
          refine W.skip ?_
          refine At.inb ?_
          refine At.thenC ?_
          refine W.seq ?_
          refine W.region env [] [] rfl rfl rfl .nil .nil (At.keep (ts := [8]) (ids := []) rfl rfl ?_)
          refine At.thenC ?_
          refine W.ret ?_
          cases H
          exact At.ret env.ty rfl rfl (fun q hq => by cases hq) (.refl _) hval

theorem c_gasolierlaw03_sane (fuel : Nat) {r : Bool} (H : gasolierlaw03_sane fuel = some r) : Ctr Try.prog 16 [] (.bool (r)) := by
  unfold gasolierlaw03_sane at H
  refine Ctr.of_body (N := 148) Try.func16 (by kernel_rfl) (c := _) rfl Try.ntmps16 rfl (fun w0 h0 hval => ?_)
  refine W.seq ?_
  refine W.region env [] [] rfl rfl rfl .nil .nil (At.keep (ts := []) (ids := []) rfl rfl ?_)
  refine At.thenC ?_
  refine W.seq ?_
  refine W.region env [] [⟨.agg [.int .i64 ((gasolierlaw03_example).Places), roL 7 enc_Way ((gasolierlaw03_example).Ways)], [], 0, []⟩] rfl rfl rfl .nil (.free (c_gasolierlaw03_example) .nil) (At.keep (ts := [1]) (ids := [1]) rfl rfl ?_)
  refine At.thenC ?_
  refine W.seq ?_
  refine W.region env [] [] rfl rfl rfl .nil .nil (At.keep (ts := [1, 2]) (ids := [1, 2]) rfl rfl ?_)
  refine At.thenC ?_
  refine W.seq ?_
  obtain ⟨y1, hy2, H⟩ := of_bindO H
  refine W.region env [] [⟨.tup [roL 1 enc_Int y1.1, .int .i64 (y1.2)], [], 0, []⟩] rfl rfl rfl .nil (.free (c_round_Sure fuel (gasolierlaw03_example) 0 300 hy2) .nil) (At.keep (ts := [1, 2, 3, 4]) (ids := [1, 2]) rfl rfl ?_)
  refine At.thenC ?_
  refine W.seq ?_
  obtain ⟨y3, hy4, H⟩ := of_bindO H
  refine W.region env [] [⟨.tup [roL 1 enc_Int y3.1, .int .i64 (y3.2)], [], 0, []⟩] rfl rfl rfl .nil (.free (c_round_Sure fuel (gasolierlaw03_example) 0 316 hy4) .nil) (At.keep (ts := [1, 2, 3, 4, 5, 6]) (ids := [1, 2]) rfl rfl ?_)
  refine At.thenC ?_
  refine W.seq ?_
  obtain ⟨y5, hy6, H⟩ := of_bindO H
  refine W.region env [] [⟨.tup [roL 1 enc_Int y5.1, .int .i64 (y5.2)], [], 0, []⟩] rfl rfl rfl .nil (.free (c_round_Soonest fuel (gasolierlaw03_example) 0 315 hy6) .nil) (At.keep (ts := [1, 2, 3, 4, 5, 6, 7, 8]) (ids := [1, 2]) rfl rfl ?_)
  refine At.thenC ?_
  refine W.seq ?_
  obtain ⟨y7, hy8, H⟩ := of_bindO H
  refine W.region env [] [⟨.tup [roL 1 enc_Int y7.1, .int .i64 (y7.2)], [], 0, []⟩] rfl rfl rfl .nil (.free (Ctr.sim (.cons (.refl _) (.cons (Sim.lit (f := enc_Int) ([5, 5, 4, 10, 20] : List Int) rfl rfl (fun _ => rfl)) (.cons (.refl _) (.cons (.refl _) .nil)))) (c_round_Walked fuel (gasolierlaw03_example) ([5, 5, 4, 10, 20] : List Int) 0 315 hy8)) .nil) (At.keep (ts := [1, 2, 3, 4, 5, 6, 7, 8, 9, 10]) (ids := [1, 2]) rfl rfl ?_)
  refine At.thenC ?_
  refine W.seq ?_
  obtain ⟨y9, hy10, H⟩ := of_bindO H
  refine W.region env [] [⟨.tup [roL 1 enc_Int y9.1, .int .i64 (y9.2)], [], 0, []⟩] rfl rfl rfl .nil (.free (Ctr.sim (.cons (.refl _) (.cons (Sim.aggL (.cons (.refl _) (.cons (.refl _) (.cons (Sim.lit (f := enc_Stop) ([(⟨2, (⟨300, 312⟩ : Range), 3⟩ : Stop), (⟨3, (⟨330, 340⟩ : Range), 0⟩ : Stop)] : List Stop) rfl rfl (fun _ => rfl)) .nil)))) .nil)) (c_round_Begins fuel (gasolierlaw03_example) (⟨0, 300, ([(⟨2, (⟨300, 312⟩ : Range), 3⟩ : Stop), (⟨3, (⟨330, 340⟩ : Range), 0⟩ : Stop)] : List Stop)⟩ : Round) hy10)) .nil) (At.keep (ts := [1, 2, 3, 4, 5, 6, 7, 8, 9, 10, 11, 12]) (ids := [1, 2]) rfl rfl ?_)
  refine At.thenC ?_
  refine W.seq ?_
  obtain ⟨y11, hy12, H⟩ := of_bindO H
  refine W.region env [] [⟨.tup [.int .i64 (y11.1), .int .i64 (y11.2)], [], 0, []⟩] rfl rfl rfl .nil (.free (Ctr.sim (.cons (.refl _) (.cons (Sim.aggL (.cons (.refl _) (.cons (.refl _) (.cons (Sim.lit (f := enc_Stop) ([(⟨2, (⟨300, 312⟩ : Range), 3⟩ : Stop), (⟨3, (⟨330, 340⟩ : Range), 0⟩ : Stop)] : List Stop) rfl rfl (fun _ => rfl)) .nil)))) .nil)) (c_round_Slack fuel (gasolierlaw03_example) (⟨0, 300, ([(⟨2, (⟨300, 312⟩ : Range), 3⟩ : Stop), (⟨3, (⟨330, 340⟩ : Range), 0⟩ : Stop)] : List Stop)⟩ : Round) hy12)) .nil) (At.keep (ts := [1, 2, 3, 4, 5, 6, 7, 8, 9, 10, 11, 12, 13, 14]) (ids := [1, 2]) rfl rfl ?_)
  refine At.thenC ?_
  refine W.seq ?_
  obtain ⟨y13, hy14, H⟩ := of_bindO H
  refine W.region env [] [⟨.tup [roL 1 enc_Int y13.1, .int .i64 (y13.2)], [], 0, []⟩] rfl rfl rfl .nil (.free (Ctr.sim (.cons (.refl _) (.cons (.refl _) (.cons (Sim.lit2 (f := enc_Round) ([(⟨0, 300, ([(⟨2, (⟨300, 312⟩ : Range), 3⟩ : Stop), (⟨3, (⟨330, 340⟩ : Range), 0⟩ : Stop)] : List Stop)⟩ : Round)] : List Round) (.cons (.refl _) (.cons (.refl _) (.cons (Sim.lit (f := enc_Stop) ([(⟨2, (⟨300, 312⟩ : Range), 3⟩ : Stop), (⟨3, (⟨330, 340⟩ : Range), 0⟩ : Stop)] : List Stop) rfl rfl (fun _ => rfl)) .nil))) rfl rfl (fun _ => rfl)) .nil))) (c_round_Moved fuel (gasolierlaw03_example) 2 ([(⟨0, 300, ([(⟨2, (⟨300, 312⟩ : Range), 3⟩ : Stop), (⟨3, (⟨330, 340⟩ : Range), 0⟩ : Stop)] : List Stop)⟩ : Round)] : List Round) hy14)) .nil) (At.keep (ts := [1, 3, 4, 5, 6, 7, 8, 9, 10, 11, 12, 13, 14, 15, 16]) (ids := [1]) rfl rfl ?_)
  refine At.thenC ?_
  refine W.seq ?_
  obtain ⟨y15, hy16, H⟩ := of_bindO H
  refine W.region env [] [⟨.tup [roL 1 enc_ListRange y15.1, .int .i64 (y15.2)], [], 0, []⟩] rfl rfl rfl .nil (.free (c_round_Matrix fuel (gasolierlaw03_example) hy16) .nil) (At.keep (ts := [1, 3, 4, 5, 6, 7, 8, 9, 10, 11, 12, 13, 14, 15, 16, 18]) (ids := [1]) rfl rfl ?_)
  refine At.thenC ?_
  refine W.seq ?_
  refine W.region env [] [] rfl rfl rfl (.cons (fun h => h) (.cons (fun h => h) (.cons (fun h => h) (.cons (fun h => h) (.cons (fun h => h) (.cons (fun h => h) (.cons (fun h => h) (.cons (fun h => h) (.cons (fun h => h) (.cons (fun h => h) (.cons (fun h => h) (.cons (fun h => h) (.cons (fun h => h) (.cons (fun h => h) .nil)))))))))))))) .nil (At.keep (ts := [1, 3, 5, 7, 9, 11, 13, 15, 19]) (ids := [1]) rfl rfl ?_)
  refine At.thenC ?_
  refine W.seq ?_
  obtain ⟨y17, hy18, H⟩ := of_bindO H
  obtain ⟨y19, hy20, H⟩ := of_bindO H
  obtain ⟨y21, hy22, H⟩ := of_bindO H
  obtain ⟨y23, hy24, H⟩ := of_bindO H
  refine W.region env [] [⟨.bool (y17), [], 0, []⟩, ⟨.bool (y19), [], 0, []⟩, ⟨.bool (y21), [], 0, []⟩, ⟨.bool (y23), [], 0, []⟩] rfl rfl rfl (.cons (fun h => h) (.cons (fun h => h) (.cons (fun h => h) (.cons (fun h => h) (.cons (fun h => h) (.cons (fun h => h) (.cons (fun h => h) (.cons (fun h => h) (.cons (fun h => h) .nil))))))))) (.free (Ctr.sim (.cons (.refl _) (.cons (Sim.lit (f := enc_Int) ([300, 308, 312, 332] : List Int) rfl rfl (fun _ => rfl)) .nil)) (c_gasolierref03_Same fuel y1.1 ([300, 308, 312, 332] : List Int) hy18)) (.on (fun hW => Ctr.sim (.cons (.refl _) (.cons (Sim.lit (f := enc_Int) ([316, 324, 340, 360] : List Int) rfl rfl (fun _ => rfl)) .nil)) (c_gasolierref03_Same fuel y3.1 ([316, 324, 340, 360] : List Int) (of_true hy20 hW))) (.on (fun hW => Ctr.sim (.cons (.refl _) (.cons (Sim.lit (f := enc_Int) ([315, 320, 323, 325] : List Int) rfl rfl (fun _ => rfl)) .nil)) (c_gasolierref03_Same fuel y5.1 ([315, 320, 323, 325] : List Int) (of_true hy22 hW))) (.on (fun hW => Ctr.sim (.cons (.refl _) (.cons (Sim.lit (f := enc_Int) ([315, 320, 324, 344] : List Int) rfl rfl (fun _ => rfl)) .nil)) (c_gasolierref03_Same fuel y7.1 ([315, 320, 324, 344] : List Int) (of_true hy24 hW))) .nil)))) (At.keep (ts := [1, 11, 13, 15, 19, 20]) (ids := [1]) rfl rfl ?_)
  refine At.thenC ?_
  refine W.seq ?_
  obtain ⟨y25, hy26, H⟩ := of_bindO H
  obtain ⟨y27, hy28, H⟩ := of_bindO H
  refine W.region env [] [⟨.bool (y25), [], 0, []⟩, ⟨.bool (y27), [], 0, []⟩] rfl rfl rfl (.cons (fun h => h) (.cons (fun h => h) (.cons (fun h => h) (.cons (fun h => h) (.cons (fun h => h) .nil))))) (.free (Ctr.sim (.cons (.refl _) (.cons (Sim.lit (f := enc_Int) ([312, 335] : List Int) rfl rfl (fun _ => rfl)) .nil)) (c_gasolierref03_Same fuel y9.1 ([312, 335] : List Int) hy26)) (.on (fun hW => Ctr.sim (.cons (.refl _) (.cons (Sim.lit (f := enc_Int) ([0] : List Int) rfl rfl (fun _ => rfl)) .nil)) (c_gasolierref03_Same fuel y13.1 ([0] : List Int) (of_true hy28 hW))) .nil)) (At.keep (ts := [1, 19, 20, 21]) (ids := [1]) rfl rfl ?_)
  refine At.thenC ?_
  refine W.seq ?_
  obtain ⟨y29, hy30, H⟩ := of_bindO H
  refine W.region env [] [⟨.int .i64 (y29), [], 0, []⟩] rfl rfl rfl (.cons (fun h => h) (.cons (fun h => h) (.cons (fun h => h) (.cons (fun h => h) (.cons (fun h => h) (.cons (fun h => h) (.cons (fun h => h) .nil))))))) (.on (fun hW => Ctr.sim (.cons (.refl _) (.cons (.refl _) (.cons (Sim.lit (f := enc_Int) ([0, 2] : List Int) rfl rfl (fun _ => rfl)) (.cons (.refl _) .nil)))) (c_round_CheckPath (gasolierlaw03_example) (⟨0, 2, 300⟩ : Trip) ([0, 2] : List Int) 311 (of_true hy30 hW))) .nil) (At.keep (ts := [0]) (ids := []) rfl rfl ?_)
  refine At.thenC ?_
  refine W.ret ?_
  cases H
  exact At.ret env.ty rfl rfl (fun q hq => by cases hq) (.refl _) hval

theorem c_gasolierref03_Mod (p0 : Int) (p1 : Int) {r : Int} (H : gasolierref03_Mod p0 p1 = some r) : Ctr Try.prog 26 [.int .i64 (p0), .int .i64 (p1)] (.int .i64 (r)) := by
  unfold gasolierref03_Mod at H
  refine Ctr.of_body (N := 12) Try.func26 (by kernel_rfl) (c := _) rfl Try.ntmps26 rfl (fun w0 h0 hval => ?_)
  refine W.seq ?_
  refine W.region env [] [] rfl rfl rfl .nil .nil (At.keep (ts := [0, 1]) (ids := []) rfl rfl ?_)
  refine At.thenC ?_
  refine W.seq ?_
  obtain ⟨hc1, H⟩ := of_must H
  obtain ⟨hc2, H⟩ := of_must H
  obtain ⟨hc3, H⟩ := of_must H
  refine W.region env [] [] rfl rfl rfl (.cons hc1 (.cons hc2 (.cons hc3 .nil))) .nil (At.keep (ts := [4]) (ids := []) rfl rfl ?_)
  refine At.thenC ?_
  refine W.ret ?_
  cases H
  exact At.ret env.ty rfl rfl (fun q hq => by cases hq) (.refl _) hval

end Go.Sp
