/- Printed by gen.py. -/
import Derived.Test.YtnaodipmfaglfaaFr4
import Derived.Test.YtnaodipmfaglfaaFr3
import Derived.Test.YtnaodipmfaglfaaProg
import Derived.KernelRfl
set_option linter.all false
set_option maxRecDepth 100000
set_option linter.unusedVariables false
namespace Go.Sp
open Go Go.Av Go.Proofs

def enc_Int (x : Int) : List AV := [.int .i64 (x)]
def enc_ListInt (x : (List Int)) : List AV := [roL 1 enc_Int x]
def enc_Range (x : Range) : List AV := [.int .i64 (x.Lo), .int .i64 (x.Hi)]
def enc_Hand (x : Hand) : List AV := [.int .i64 (x.Id), .int .i64 (x.From), .int .i64 (x.To)]
def enc_Task (x : Task) : List AV := [.int .i64 (x.Lamp), .int .i64 (x.Place), .int .i64 (x.At), .int .i64 (x.Serve)]
def enc_ListRange (x : (List Range)) : List AV := [roL 2 enc_Range x]

def tids : List Nat := [3, 4, 22, 23, 24, 26, 27, 28, 31, 49, 59, 67, 71, 73, 77, 94, 99, 105, 107, 120]
def Γ : Tys := [(3, ⟨.int .i64, [.int .i64 0], 1, 8⟩),
  (4, ⟨.bool, [.bool false], 1, 1⟩),
  (22, ⟨.slice 67, [.slice none 0 0], 1, 24⟩),
  (23, ⟨.slice 71, [.slice none 0 0], 1, 24⟩),
  (24, ⟨.slice 59, [.slice none 0 0], 1, 24⟩),
  (26, ⟨.struct [(0, 22), (1, 23), (2, 24)], [.slice none 0 0, .slice none 0 0, .slice none 0 0], 3, 72⟩),
  (27, ⟨.slice 28, [.slice none 0 0], 1, 24⟩),
  (28, ⟨.slice 3, [.slice none 0 0], 1, 24⟩),
  (31, ⟨.int .i64, [.int .i64 0], 1, 8⟩),
  (49, ⟨.struct [(0, 3), (1, 3)], [.int .i64 0, .int .i64 0], 2, 16⟩),
  (59, ⟨.struct [(0, 3), (1, 3), (2, 3)], [.int .i64 0, .int .i64 0, .int .i64 0], 3, 24⟩),
  (67, ⟨.struct [(0, 3), (1, 3), (2, 3), (3, 3)], [.int .i64 0, .int .i64 0, .int .i64 0, .int .i64 0], 4, 32⟩),
  (71, ⟨.slice 49, [.slice none 0 0], 1, 24⟩),
  (73, ⟨.ptr 94, [.pointer none], 1, 8⟩),
  (77, ⟨.func, [.nilFunc], 1, 8⟩),
  (94, ⟨.struct [(0, 26), (3, 28)], [.slice none 0 0, .slice none 0 0, .slice none 0 0, .slice none 0 0], 4, 96⟩),
  (99, ⟨.struct [(0, 73), (1, 27)], [.pointer none, .slice none 0 0], 2, 32⟩),
  (105, ⟨.func, [.nilFunc], 1, 8⟩),
  (107, ⟨.func, [.nilFunc], 1, 8⟩),
  (120, ⟨.int .u64, [.int .u64 0], 1, 8⟩)]
theorem Γ_ok : mkTys Try.prog tids = some Γ := by kernel_rfl
theorem env : Env Try.prog Γ := ⟨mkTys_sound Γ_ok, by decide +kernel, by kernel_rfl⟩

def sort_ren : Go.Shelf.Ren where
  f := fun x => match x with
    | 189 => 48
    | 125 => 94
    | 257 => 93
    | 128 => 121
    | 129 => 122
    | 294 => 112
    | 295 => 113
    | 296 => 114
    | 297 => 115
    | 298 => 116
    | 299 => 117
    | 216 => 118
    | 300 => 119
    | 301 => 120
    | 328 => 125
    | 329 => 126
    | 330 => 127
    | 331 => 128
    | 332 => 129
    | 215 => 123
    | 343 => 131
    | n => n
  t := fun x => match x with
    | 28 => 28
    | 3 => 3
    | 46 => 120
    | 0 => 0
    | 51 => 143
    | 53 => 145
    | 4 => 4
    | 183 => 136
    | 182 => 135
    | 131 => 114
    | 5 => 5
    | 9 => 9
    | 218 => 146
    | 222 => 150
    | 228 => 153
    | 229 => 154
    | n => n
  g := fun x => x
theorem sort_lays : Go.Proofs.Lays.n189 Try.prog sort_ren :=
  {
    mixed := by kernel_rfl,
    f125 := Try.func94.trans (congrArg some (by kernel_rfl)),
    f128 := Try.func121.trans (congrArg some (by kernel_rfl)),
    f129 := Try.func122.trans (congrArg some (by kernel_rfl)),
    f189 := Try.func48.trans (congrArg some (by kernel_rfl)),
    f215 := Try.func123.trans (congrArg some (by kernel_rfl)),
    f216 := Try.func118.trans (congrArg some (by kernel_rfl)),
    f257 := Try.func93.trans (congrArg some (by kernel_rfl)),
    f294 := Try.func112.trans (congrArg some (by kernel_rfl)),
    f295 := Try.func113.trans (congrArg some (by kernel_rfl)),
    f296 := Try.func114.trans (congrArg some (by kernel_rfl)),
    f297 := Try.func115.trans (congrArg some (by kernel_rfl)),
    f298 := Try.func116.trans (congrArg some (by kernel_rfl)),
    f299 := Try.func117.trans (congrArg some (by kernel_rfl)),
    f300 := Try.func119.trans (congrArg some (by kernel_rfl)),
    f301 := Try.func120.trans (congrArg some (by kernel_rfl)),
    f328 := Try.func125.trans (congrArg some (by kernel_rfl)),
    f329 := Try.func126.trans (congrArg some (by kernel_rfl)),
    f330 := Try.func127.trans (congrArg some (by kernel_rfl)),
    f331 := Try.func128.trans (congrArg some (by kernel_rfl)),
    f332 := Try.func129.trans (congrArg some (by kernel_rfl)),
    f343 := Try.func131.trans (congrArg some (by kernel_rfl)),
    t0 := Try.underlying0,
    a0 := Try.isAgg0,
    z0 := Try.sizeOf0,
    v0 := Try.zeroValue0,
    t3 := Try.underlying3,
    a3 := Try.isAgg3,
    z3 := Try.sizeOf3,
    v3 := Try.zeroValue3,
    t4 := Try.underlying4,
    a4 := Try.isAgg4,
    z4 := Try.sizeOf4,
    v4 := Try.zeroValue4,
    t5 := Try.underlying5,
    a5 := Try.isAgg5,
    z5 := Try.sizeOf5,
    v5 := Try.zeroValue5,
    t9 := Try.underlying9,
    a9 := Try.isAgg9,
    z9 := Try.sizeOf9,
    v9 := Try.zeroValue9,
    t28 := Try.underlying28,
    a28 := Try.isAgg28,
    z28 := Try.sizeOf28,
    v28 := Try.zeroValue28,
    t46 := Try.underlying120,
    a46 := Try.isAgg120,
    z46 := Try.sizeOf120,
    v46 := Try.zeroValue120,
    t51 := Try.underlying143,
    a51 := Try.isAgg143,
    z51 := Try.sizeOf143,
    v51 := Try.zeroValue143,
    t53 := Try.underlying145,
    a53 := Try.isAgg145,
    z53 := Try.sizeOf145,
    v53 := Try.zeroValue145,
    t131 := Try.underlying114,
    a131 := Try.isAgg114,
    z131 := Try.sizeOf114,
    v131 := Try.zeroValue114,
    t182 := Try.underlying135,
    a182 := Try.isAgg135,
    z182 := Try.sizeOf135,
    v182 := Try.zeroValue135,
    t183 := Try.underlying136,
    a183 := Try.isAgg136,
    z183 := Try.sizeOf136,
    v183 := Try.zeroValue136,
    t218 := Try.underlying146,
    a218 := Try.isAgg146,
    z218 := Try.sizeOf146,
    v218 := Try.zeroValue146,
    t222 := Try.underlying150,
    a222 := Try.isAgg150,
    z222 := Try.sizeOf150,
    v222 := Try.zeroValue150,
    t228 := Try.underlying153,
    a228 := Try.isAgg153,
    z228 := Try.sizeOf153,
    v228 := Try.zeroValue153,
    t229 := Try.underlying154,
    a229 := Try.isAgg154,
    z229 := Try.sizeOf154,
    v229 := Try.zeroValue154 }

theorem c_gasolierref01_IsRange (p0 : Range) (p1 : Int) (p2 : Int) : Ctr Try.prog 95 [.agg [.int .i64 (p0.Lo), .int .i64 (p0.Hi)], .int .i64 (p1), .int .i64 (p2)] (.bool ((gasolierref01_IsRange p0 p1 p2))) := by
  obtain ⟨r, H⟩ : ∃ r, gasolierref01_IsRange p0 p1 p2 = r := ⟨_, rfl⟩
  rw [H]
  unfold gasolierref01_IsRange at H
  refine Ctr.of_body (N := 24) Try.func95 (by kernel_rfl) (c := _) rfl Try.ntmps95 rfl (fun w0 h0 hval => ?_)
  refine W.seq ?_
  refine W.region env [] [] rfl rfl rfl .nil .nil (At.keep (ts := [1, 2, 3]) (ids := [3]) rfl rfl ?_)
  refine At.thenC ?_
  refine W.seq ?_
  refine W.region env [] [] rfl rfl rfl (.cons (fun h => h) (.cons (fun h => h) (.cons (fun h => h) (.cons (fun h => h) (.cons (fun h => h) (.cons (fun h => h) (.cons (fun h => h) (.cons (fun h => h) (.cons (fun h => h) .nil))))))))) .nil (At.keep (ts := [6]) (ids := []) rfl rfl ?_)
  refine At.thenC ?_
  refine W.ret ?_
  cases H
  exact At.ret env.ty rfl rfl (fun q hq => by cases hq) (.refl _) hval

theorem c_gasolierref04_isTravel (p0 : (List (List Range))) {r : Bool} (H : gasolierref04_isTravel p0 = some r) : Ctr Try.prog 52 [roL 1 enc_ListRange p0] (.bool (r)) := by
  unfold gasolierref04_isTravel at H
  refine Ctr.of_body (N := 116) Try.func52 (by kernel_rfl) (c := _) rfl Try.ntmps52 rfl (fun w0 h0 hval => ?_)
  refine W.seq ?_
  refine W.region env [] [] rfl rfl rfl .nil .nil (At.keep (ts := [0]) (ids := []) rfl rfl ?_)
  refine At.thenC ?_
  refine W.seq ?_
  refine W.seq ?_
  refine W.region env [] [] rfl rfl rfl .nil .nil (At.keep (ts := [0, 12]) (ids := []) rfl rfl ?_)
  refine At.thenC ?_
  refine W.cond rfl (fun hb1 => ?_) (fun hb1 => ?_)
  · have H := of_true H hb1
    refine W.seq ?_
    refine W.region env [] [] rfl rfl rfl .nil .nil (At.keep (ts := [2]) (ids := []) rfl rfl ?_)
    refine At.thenC ?_
    refine W.ret ?_
    refine At.rthen ?_
    cases H
    exact At.ret env.ty rfl rfl (fun q hq => by cases hq) (.refl _) hval
  · have H := of_false H hb1
    refine W.skip ?_
    refine At.thenC ?_
    refine W.seq ?_
    refine W.seq ?_
    refine W.region env [] [] rfl rfl rfl .nil .nil (At.keep (ts := [0, 13, 14, 15]) (ids := []) rfl rfl ?_)
    refine At.thenC ?_
    refine W.block ?_
    refine At.keep (ts := [0, 13, 14, 15]) (ids := []) rfl rfl ?_
    refine W.len (t := 13) rfl (fun (hn2 : p0.length ≤ maxLen) => ?_)
    refine W.rangeGo H (fun i2 (s2 : Unit) => [(0, roL 1 enc_ListRange p0), (13, roL 1 enc_ListRange p0), (14, .int .i64 (((p0.length : Nat) : Int))), (15, .int .i64 ((i2 : Int)))]) (fun i2 (s2 : Unit) => []) (.cons (.of_eq (by first | rfl | (simp; done) | omega | (simp; omega))) (.cons (.of_eq (by first | rfl | (simp; done) | omega | (simp; omega))) (.cons (.of_eq (by first | rfl | (simp; done) | omega | (refine intEq ?_; first | omega | (simp; done) | (simp; omega)) | (simp; omega))) (.cons (.of_eq (by first | rfl | (simp; done) | omega | (refine intEq ?_; first | omega | (simp; done) | (simp; omega)) | (simp; omega))) .nil)))) .nil (fun k2 i2 s2 hle2 H1 H2 K0 hK2 => ?_)
    refine W.seq ?_
    refine W.region env [] [] rfl rfl rfl .nil .nil (At.keep (ts := [0, 13, 14, 15, 16]) (ids := []) rfl rfl ?_)
    refine At.thenC ?_
    refine W.seq ?_
    refine W.cond rfl (fun hb3 => ?_) (fun hb3 => ?_)
    · have hi2 : i2 < p0.length := by have := of_decide_eq_true hb3; omega
      have H := H1 hi2
      refine W.skip ?_
      refine At.thenC ?_
      refine W.seq ?_
      refine W.block ?_
      refine W.seq ?_
      refine W.region env [] [] rfl rfl rfl (.cons (⟨by omega, by omega⟩ : 0 ≤ (i2 : Int) ∧ (i2 : Int) < ((p0.length : Nat) : Int)) .nil) .nil (At.keep (ts := [0, 3, 4, 13, 14, 15]) (ids := []) rfl rfl ?_)
      refine At.thenC ?_
      refine W.seq ?_
      refine W.seq ?_
      obtain ⟨hc4, H⟩ := of_must H
      refine W.region env [] [] rfl rfl rfl (.cons hc4 (.cons (fun h => h) (.cons (fun h => h) (.cons (fun h => h) (.cons (fun h => h) (.cons (fun h => h) (.cons (fun h => by rw [h]; rfl) .nil))))))) .nil (At.keep (ts := [0, 4, 13, 14, 15, 32]) (ids := []) rfl rfl ?_)
      refine At.thenC ?_
      refine W.cond rfl (fun hb5 => ?_) (fun hb5 => ?_)
      · have H := of_true H hb5
        refine W.seq ?_
        refine W.region env [] [] rfl rfl rfl .nil .nil (At.keep (ts := [2]) (ids := []) rfl rfl ?_)
        refine At.thenC ?_
        refine W.ret ?_
        refine At.rthen ?_
        refine At.rinb ?_
        refine At.rthen ?_
        refine At.rthen ?_
        refine At.rinb ?_
        refine At.rthen ?_
        cases H
        exact At.ret env.ty rfl rfl (fun q hq => by cases hq) (.refl _) hval
      · have H := of_false H hb5
        refine W.skip ?_
        refine At.thenC ?_
        refine W.seq ?_
        refine W.region env [] [] rfl rfl rfl .nil .nil (At.keep (ts := [0, 13, 14, 15, 33, 34, 35]) (ids := []) rfl rfl ?_)
        refine At.thenC ?_
        refine W.block ?_
        refine At.keep (ts := [0, 13, 14, 15, 33, 34, 35]) (ids := []) rfl rfl ?_
        refine W.len (t := 33) rfl (fun (hn6 : (p0.getD i2 default).length ≤ maxLen) => ?_)
        refine W.rangeGo H (fun i6 (s6 : Unit) => [(0, roL 1 enc_ListRange p0), (13, roL 1 enc_ListRange p0), (14, .int .i64 (((p0.length : Nat) : Int))), (15, .int .i64 ((i2 : Int))), (33, roL 2 enc_Range (p0.getD i2 default)), (34, .int .i64 ((((p0.getD i2 default).length : Nat) : Int))), (35, .int .i64 ((i6 : Int)))]) (fun i6 (s6 : Unit) => []) (.cons (.of_eq (by first | rfl | (simp; done) | omega | (simp; omega))) (.cons (.of_eq (by first | rfl | (simp; done) | omega | (simp; omega))) (.cons (.of_eq (by first | rfl | (simp; done) | omega | (refine intEq ?_; first | omega | (simp; done) | (simp; omega)) | (simp; omega))) (.cons (.of_eq (by first | rfl | (simp; done) | omega | (refine intEq ?_; first | omega | (simp; done) | (simp; omega)) | (simp; omega))) (.cons (.of_eq (by first | rfl | (simp; done) | omega | (simp; omega))) (.cons (.of_eq (by first | rfl | (simp; done) | omega | (refine intEq ?_; first | omega | (simp; done) | (simp; omega)) | (simp; omega))) (.cons (.of_eq (by first | rfl | (simp; done) | omega | (refine intEq ?_; first | omega | (simp; done) | (simp; omega)) | (simp; omega))) .nil))))))) .nil (fun k6 i6 s6 hle6 H1 H2 K0 hK6 => ?_)
        refine W.seq ?_
        refine W.region env [] [] rfl rfl rfl .nil .nil (At.keep (ts := [0, 13, 14, 15, 33, 34, 35, 36]) (ids := []) rfl rfl ?_)
        refine At.thenC ?_
        refine W.seq ?_
        refine W.cond rfl (fun hb7 => ?_) (fun hb7 => ?_)
        · have hi6 : i6 < (p0.getD i2 default).length := by have := of_decide_eq_true hb7; omega
          have H := H1 hi6
          refine W.skip ?_
          refine At.thenC ?_
          refine W.seq ?_
          refine W.block ?_
          refine W.seq ?_
          refine W.region env [] [] rfl rfl rfl (.cons (⟨by omega, by omega⟩ : 0 ≤ (i6 : Int) ∧ (i6 : Int) < (((p0.getD i2 default).length : Nat) : Int)) .nil) .nil (At.keep (ts := [0, 6, 13, 14, 15, 33, 34, 35]) (ids := [6]) rfl rfl ?_)
          refine At.thenC ?_
          refine W.seq ?_
          refine W.region env [] [⟨.bool ((gasolierref01_IsRange ((p0.getD i2 default).getD i6 default) 0 600)), [], 0, []⟩] rfl rfl rfl .nil (.free (c_gasolierref01_IsRange ((p0.getD i2 default).getD i6 default) 0 600) .nil) (At.keep (ts := [0, 13, 14, 15, 33, 34, 35, 41]) (ids := []) rfl rfl ?_)
          refine At.thenC ?_
          refine W.cond rfl (fun hb8 => ?_) (fun hb8 => ?_)
          · have H := of_true H hb8
            refine W.seq ?_
            refine W.region env [] [] rfl rfl rfl .nil .nil (At.keep (ts := [2]) (ids := []) rfl rfl ?_)
            refine At.thenC ?_
            refine W.ret ?_
            refine At.rinb ?_
            refine At.rthen ?_
            refine At.rthen ?_
            refine At.rinb ?_
            refine At.rinb ?_
            refine At.rthen ?_
            refine At.rthen ?_
            refine At.rinb ?_
            refine At.rthen ?_
            cases H
            exact At.ret env.ty rfl rfl (fun q hq => by cases hq) (.refl _) hval
          · have H := of_false H hb8
            refine W.skip ?_
            refine At.inb ?_
            refine At.thenC ?_
            refine W.region env [] [] rfl rfl rfl (.cons (by unfold inI; have := hn6; (try unfold maxLen at this); omega) .nil) .nil (At.keep (ts := [0, 13, 14, 15, 33, 34, 35]) (ids := []) rfl rfl ?_)
            refine At.thenK (At.keep (ts := [0, 13, 14, 15, 33, 34, 35]) (ids := []) rfl rfl ?_)
            exact At.conv (.cons (.of_eq (by first | rfl | (simp; done) | omega | (simp; omega))) (.cons (.of_eq (by first | rfl | (simp; done) | omega | (simp; omega))) (.cons (.of_eq (by first | rfl | (simp; done) | omega | (refine intEq ?_; first | omega | (simp; done) | (simp; omega)) | (simp; omega))) (.cons (.of_eq (by first | rfl | (simp; done) | omega | (refine intEq ?_; first | omega | (simp; done) | (simp; omega)) | (simp; omega))) (.cons (.of_eq (by first | rfl | (simp; done) | omega | (simp; omega))) (.cons (.of_eq (by first | rfl | (simp; done) | omega | (refine intEq ?_; first | omega | (simp; done) | (simp; omega)) | (simp; omega))) (.cons (.of_eq (by first | rfl | (simp; done) | omega | (refine intEq ?_; first | omega | (simp; done) | (simp; omega)) | (simp; omega))) .nil))))))) .nil (hK6 hi6 () H)
        · have H := H2 (by have := of_decide_eq_false hb7; omega)
          refine W.exit ?_
          refine At.xthen ?_
          refine At.xthen ?_
          refine At.xhere ?_
          refine At.inb ?_
          refine At.thenC ?_
          refine W.region env [] [] rfl rfl rfl (.cons (by unfold inI; have := hn2; (try unfold maxLen at this); omega) .nil) .nil (At.keep (ts := [0, 13, 14, 15]) (ids := []) rfl rfl ?_)
          refine At.thenK (At.keep (ts := [0, 13, 14, 15]) (ids := []) rfl rfl ?_)
          exact At.conv (.cons (.of_eq (by first | rfl | (simp; done) | omega | (simp; omega))) (.cons (.of_eq (by first | rfl | (simp; done) | omega | (simp; omega))) (.cons (.of_eq (by first | rfl | (simp; done) | omega | (refine intEq ?_; first | omega | (simp; done) | (simp; omega)) | (simp; omega))) (.cons (.of_eq (by first | rfl | (simp; done) | omega | (refine intEq ?_; first | omega | (simp; done) | (simp; omega)) | (simp; omega))) .nil)))) .nil (hK2 hi2 () H)
    · have H := H2 (by have := of_decide_eq_false hb3; omega)
      refine W.exit ?_
      refine At.xthen ?_
      refine At.xthen ?_
      refine At.xhere ?_
      refine At.thenC ?_
      refine W.seq ?_
      refine W.seq ?_
      refine W.region env [] [] rfl rfl rfl .nil .nil (At.keep (ts := [0, 45, 46]) (ids := []) rfl rfl ?_)
      refine At.thenC ?_
      refine W.block ?_
      refine At.keep (ts := [0, 45, 46]) (ids := []) rfl rfl ?_
      refine W.len (t := 0) rfl (fun (hn9 : p0.length ≤ maxLen) => ?_)
      refine W.rangeGo H (fun i9 (s9 : Unit) => [(0, roL 1 enc_ListRange p0), (45, .int .i64 (((p0.length : Nat) : Int))), (46, .int .i64 ((i9 : Int)))]) (fun i9 (s9 : Unit) => []) (.cons (.of_eq (by first | rfl | (simp; done) | omega | (simp; omega))) (.cons (.of_eq (by first | rfl | (simp; done) | omega | (refine intEq ?_; first | omega | (simp; done) | (simp; omega)) | (simp; omega))) (.cons (.of_eq (by first | rfl | (simp; done) | omega | (refine intEq ?_; first | omega | (simp; done) | (simp; omega)) | (simp; omega))) .nil))) .nil (fun k9 i9 s9 hle9 H1 H2 K0 hK9 => ?_)
      refine W.seq ?_
      refine W.region env [] [] rfl rfl rfl .nil .nil (At.keep (ts := [0, 45, 46, 47]) (ids := []) rfl rfl ?_)
      refine At.thenC ?_
      refine W.seq ?_
      refine W.cond rfl (fun hb10 => ?_) (fun hb10 => ?_)
      · have hi9 : i9 < p0.length := by have := of_decide_eq_true hb10; omega
        have H := H1 hi9
        refine W.skip ?_
        refine At.thenC ?_
        refine W.seq ?_
        refine W.block ?_
        refine W.seq ?_
        refine W.region env [] [] rfl rfl rfl .nil .nil (At.keep (ts := [0, 7, 45, 46]) (ids := []) rfl rfl ?_)
        refine At.thenC ?_
        refine W.seq ?_
        refine W.region env [] [] rfl rfl rfl .nil .nil (At.keep (ts := [0, 7, 45, 46, 50, 51]) (ids := []) rfl rfl ?_)
        refine At.thenC ?_
        refine W.block ?_
        refine At.keep (ts := [0, 7, 45, 46, 50, 51]) (ids := []) rfl rfl ?_
        refine W.len (t := 0) rfl (fun (hn11 : p0.length ≤ maxLen) => ?_)
        refine W.rangeGo H (fun i11 (s11 : Unit) => [(0, roL 1 enc_ListRange p0), (7, .int .i64 ((i9 : Int))), (45, .int .i64 (((p0.length : Nat) : Int))), (46, .int .i64 ((i9 : Int))), (50, .int .i64 (((p0.length : Nat) : Int))), (51, .int .i64 ((i11 : Int)))]) (fun i11 (s11 : Unit) => []) (.cons (.of_eq (by first | rfl | (simp; done) | omega | (simp; omega))) (.cons (.of_eq (by first | rfl | (simp; done) | omega | (refine intEq ?_; first | omega | (simp; done) | (simp; omega)) | (simp; omega))) (.cons (.of_eq (by first | rfl | (simp; done) | omega | (refine intEq ?_; first | omega | (simp; done) | (simp; omega)) | (simp; omega))) (.cons (.of_eq (by first | rfl | (simp; done) | omega | (refine intEq ?_; first | omega | (simp; done) | (simp; omega)) | (simp; omega))) (.cons (.of_eq (by first | rfl | (simp; done) | omega | (refine intEq ?_; first | omega | (simp; done) | (simp; omega)) | (simp; omega))) (.cons (.of_eq (by first | rfl | (simp; done) | omega | (refine intEq ?_; first | omega | (simp; done) | (simp; omega)) | (simp; omega))) .nil)))))) .nil (fun k11 i11 s11 hle11 H1 H2 K0 hK11 => ?_)
        refine W.seq ?_
        refine W.region env [] [] rfl rfl rfl .nil .nil (At.keep (ts := [0, 7, 45, 46, 50, 51, 52]) (ids := []) rfl rfl ?_)
        refine At.thenC ?_
        refine W.seq ?_
        refine W.cond rfl (fun hb12 => ?_) (fun hb12 => ?_)
        · have hi11 : i11 < p0.length := by have := of_decide_eq_true hb12; omega
          have H := H1 hi11
          refine W.skip ?_
          refine At.thenC ?_
          refine W.seq ?_
          refine W.block ?_
          refine W.seq ?_
          refine W.region env [] [] rfl rfl rfl .nil .nil (At.keep (ts := [0, 7, 8, 45, 46, 50, 51]) (ids := []) rfl rfl ?_)
          refine At.thenC ?_
          refine W.seq ?_
          refine W.region env [] [] rfl rfl rfl .nil .nil (At.keep (ts := [0, 7, 8, 45, 46, 50, 51, 55, 56]) (ids := []) rfl rfl ?_)
          refine At.thenC ?_
          refine W.block ?_
          refine At.keep (ts := [0, 7, 8, 45, 46, 50, 51, 55, 56]) (ids := []) rfl rfl ?_
          refine W.len (t := 0) rfl (fun (hn13 : p0.length ≤ maxLen) => ?_)
          refine W.rangeGo H (fun i13 (s13 : Unit) => [(0, roL 1 enc_ListRange p0), (7, .int .i64 ((i9 : Int))), (8, .int .i64 ((i11 : Int))), (45, .int .i64 (((p0.length : Nat) : Int))), (46, .int .i64 ((i9 : Int))), (50, .int .i64 (((p0.length : Nat) : Int))), (51, .int .i64 ((i11 : Int))), (55, .int .i64 (((p0.length : Nat) : Int))), (56, .int .i64 ((i13 : Int)))]) (fun i13 (s13 : Unit) => []) (.cons (.of_eq (by first | rfl | (simp; done) | omega | (simp; omega))) (.cons (.of_eq (by first | rfl | (simp; done) | omega | (refine intEq ?_; first | omega | (simp; done) | (simp; omega)) | (simp; omega))) (.cons (.of_eq (by first | rfl | (simp; done) | omega | (refine intEq ?_; first | omega | (simp; done) | (simp; omega)) | (simp; omega))) (.cons (.of_eq (by first | rfl | (simp; done) | omega | (refine intEq ?_; first | omega | (simp; done) | (simp; omega)) | (simp; omega))) (.cons (.of_eq (by first | rfl | (simp; done) | omega | (refine intEq ?_; first | omega | (simp; done) | (simp; omega)) | (simp; omega))) (.cons (.of_eq (by first | rfl | (simp; done) | omega | (refine intEq ?_; first | omega | (simp; done) | (simp; omega)) | (simp; omega))) (.cons (.of_eq (by first | rfl | (simp; done) | omega | (refine intEq ?_; first | omega | (simp; done) | (simp; omega)) | (simp; omega))) (.cons (.of_eq (by first | rfl | (simp; done) | omega | (refine intEq ?_; first | omega | (simp; done) | (simp; omega)) | (simp; omega))) (.cons (.of_eq (by first | rfl | (simp; done) | omega | (refine intEq ?_; first | omega | (simp; done) | (simp; omega)) | (simp; omega))) .nil))))))))) .nil (fun k13 i13 s13 hle13 H1 H2 K0 hK13 => ?_)
          refine W.seq ?_
          refine W.region env [] [] rfl rfl rfl .nil .nil (At.keep (ts := [0, 7, 8, 45, 46, 50, 51, 55, 56, 57]) (ids := []) rfl rfl ?_)
          refine At.thenC ?_
          refine W.seq ?_
          refine W.cond rfl (fun hb14 => ?_) (fun hb14 => ?_)
          · have hi13 : i13 < p0.length := by have := of_decide_eq_true hb14; omega
            have H := H1 hi13
            refine W.skip ?_
            refine At.thenC ?_
            refine W.seq ?_
            refine W.block ?_
            refine W.seq ?_
            refine W.region env [] [] rfl rfl rfl .nil .nil (At.keep (ts := [0, 7, 8, 9, 45, 46, 50, 51, 55, 56]) (ids := []) rfl rfl ?_)
            refine At.thenC ?_
            refine W.seq ?_
            obtain ⟨hc15, H⟩ := of_must H
            obtain ⟨hc16, H⟩ := of_must H
            obtain ⟨hc17, H⟩ := of_must H
            obtain ⟨hc18, H⟩ := of_must H
            obtain ⟨hc19, H⟩ := of_must H
            obtain ⟨hc20, H⟩ := of_must H
            obtain ⟨hc21, H⟩ := of_must H
            obtain ⟨hc22, H⟩ := of_must H
            refine W.region env [] [] rfl rfl (by first | rfl | kernel_rfl) (.cons (⟨by omega, by omega⟩ : 0 ≤ (i9 : Int) ∧ (i9 : Int) < ((p0.length : Nat) : Int)) (.cons hc15 (.cons (⟨by omega, by omega⟩ : 0 ≤ (i9 : Int) ∧ (i9 : Int) < ((p0.length : Nat) : Int)) (.cons hc16 (.cons (⟨by omega, by omega⟩ : 0 ≤ (i11 : Int) ∧ (i11 : Int) < ((p0.length : Nat) : Int)) (.cons hc17 (.cons hc18 (.cons (fun _ => (⟨by omega, by omega⟩ : 0 ≤ (i9 : Int) ∧ (i9 : Int) < ((p0.length : Nat) : Int))) (.cons (fun h => h) (.cons (fun h => h) (.cons (fun h => h) (.cons hc19 (.cons (fun h => h) (.cons (fun h => h) (.cons (fun h => h) (.cons (fun h => h) (.cons (fun _ => (⟨by omega, by omega⟩ : 0 ≤ (i9 : Int) ∧ (i9 : Int) < ((p0.length : Nat) : Int))) (.cons (fun h => h) (.cons (fun h => h) (.cons (fun h => h) (.cons hc20 (.cons (fun h => h) (.cons (fun h => h) (.cons (fun h => h) (.cons (fun h => h) (.cons (fun _ => (⟨by omega, by omega⟩ : 0 ≤ (i11 : Int) ∧ (i11 : Int) < ((p0.length : Nat) : Int))) (.cons (fun h => h) (.cons (fun h => h) (.cons (fun h => h) (.cons hc21 (.cons (fun h => h) (.cons (fun h => h) (.cons (fun h => h) (.cons (fun h => h) (.cons hc22 (.cons (fun h => h) (.cons (fun h => h) (.cons (fun h => h) (.cons (fun h => h) (.cons (fun h => by rw [h]; rfl) .nil)))))))))))))))))))))))))))))))))))))))) .nil (At.keep (ts := [0, 7, 8, 45, 46, 50, 51, 55, 56, 112]) (ids := []) rfl rfl ?_)
            refine At.thenC ?_
            refine W.cond rfl (fun hb23 => ?_) (fun hb23 => ?_)
            · have H := of_true H hb23
              refine W.seq ?_
              refine W.region env [] [] rfl rfl rfl .nil .nil (At.keep (ts := [2]) (ids := []) rfl rfl ?_)
              refine At.thenC ?_
              refine W.ret ?_
              refine At.rinb ?_
              refine At.rthen ?_
              refine At.rthen ?_
              refine At.rinb ?_
              refine At.rinb ?_
              refine At.rthen ?_
              refine At.rthen ?_
              refine At.rinb ?_
              refine At.rinb ?_
              refine At.rthen ?_
              refine At.rthen ?_
              refine At.rinb ?_
              refine At.rthen ?_
              cases H
              exact At.ret env.ty rfl rfl (fun q hq => by cases hq) (.refl _) hval
            · have H := of_false H hb23
              refine W.skip ?_
              refine At.inb ?_
              refine At.thenC ?_
              refine W.region env [] [] rfl rfl rfl (.cons (by unfold inI; have := hn13; (try unfold maxLen at this); omega) .nil) .nil (At.keep (ts := [0, 7, 8, 45, 46, 50, 51, 55, 56]) (ids := []) rfl rfl ?_)
              refine At.thenK (At.keep (ts := [0, 7, 8, 45, 46, 50, 51, 55, 56]) (ids := []) rfl rfl ?_)
              exact At.conv (.cons (.of_eq (by first | rfl | (simp; done) | omega | (simp; omega))) (.cons (.of_eq (by first | rfl | (simp; done) | omega | (refine intEq ?_; first | omega | (simp; done) | (simp; omega)) | (simp; omega))) (.cons (.of_eq (by first | rfl | (simp; done) | omega | (refine intEq ?_; first | omega | (simp; done) | (simp; omega)) | (simp; omega))) (.cons (.of_eq (by first | rfl | (simp; done) | omega | (refine intEq ?_; first | omega | (simp; done) | (simp; omega)) | (simp; omega))) (.cons (.of_eq (by first | rfl | (simp; done) | omega | (refine intEq ?_; first | omega | (simp; done) | (simp; omega)) | (simp; omega))) (.cons (.of_eq (by first | rfl | (simp; done) | omega | (refine intEq ?_; first | omega | (simp; done) | (simp; omega)) | (simp; omega))) (.cons (.of_eq (by first | rfl | (simp; done) | omega | (refine intEq ?_; first | omega | (simp; done) | (simp; omega)) | (simp; omega))) (.cons (.of_eq (by first | rfl | (simp; done) | omega | (refine intEq ?_; first | omega | (simp; done) | (simp; omega)) | (simp; omega))) (.cons (.of_eq (by first | rfl | (simp; done) | omega | (refine intEq ?_; first | omega | (simp; done) | (simp; omega)) | (simp; omega))) .nil))))))))) .nil (hK13 hi13 () H)
          · have H := H2 (by have := of_decide_eq_false hb14; omega)
            refine W.exit ?_
            refine At.xthen ?_
            refine At.xthen ?_
            refine At.xhere ?_
            refine At.inb ?_
            refine At.thenC ?_
            refine W.region env [] [] rfl rfl rfl (.cons (by unfold inI; have := hn11; (try unfold maxLen at this); omega) .nil) .nil (At.keep (ts := [0, 7, 45, 46, 50, 51]) (ids := []) rfl rfl ?_)
            refine At.thenK (At.keep (ts := [0, 7, 45, 46, 50, 51]) (ids := []) rfl rfl ?_)
            exact At.conv (.cons (.of_eq (by first | rfl | (simp; done) | omega | (simp; omega))) (.cons (.of_eq (by first | rfl | (simp; done) | omega | (refine intEq ?_; first | omega | (simp; done) | (simp; omega)) | (simp; omega))) (.cons (.of_eq (by first | rfl | (simp; done) | omega | (refine intEq ?_; first | omega | (simp; done) | (simp; omega)) | (simp; omega))) (.cons (.of_eq (by first | rfl | (simp; done) | omega | (refine intEq ?_; first | omega | (simp; done) | (simp; omega)) | (simp; omega))) (.cons (.of_eq (by first | rfl | (simp; done) | omega | (refine intEq ?_; first | omega | (simp; done) | (simp; omega)) | (simp; omega))) (.cons (.of_eq (by first | rfl | (simp; done) | omega | (refine intEq ?_; first | omega | (simp; done) | (simp; omega)) | (simp; omega))) .nil)))))) .nil (hK11 hi11 () H)
        · have H := H2 (by have := of_decide_eq_false hb12; omega)
          refine W.exit ?_
          refine At.xthen ?_
          refine At.xthen ?_
          refine At.xhere ?_
          refine At.inb ?_
          refine At.thenC ?_
          refine W.region env [] [] rfl rfl rfl (.cons (by unfold inI; have := hn9; (try unfold maxLen at this); omega) .nil) .nil (At.keep (ts := [0, 45, 46]) (ids := []) rfl rfl ?_)
          refine At.thenK (At.keep (ts := [0, 45, 46]) (ids := []) rfl rfl ?_)
          exact At.conv (.cons (.of_eq (by first | rfl | (simp; done) | omega | (simp; omega))) (.cons (.of_eq (by first | rfl | (simp; done) | omega | (refine intEq ?_; first | omega | (simp; done) | (simp; omega)) | (simp; omega))) (.cons (.of_eq (by first | rfl | (simp; done) | omega | (refine intEq ?_; first | omega | (simp; done) | (simp; omega)) | (simp; omega))) .nil))) .nil (hK9 hi9 () H)
      · have H := H2 (by have := of_decide_eq_false hb10; omega)
        refine W.exit ?_
        refine At.xthen ?_
        refine At.xthen ?_
        refine At.xhere ?_
        refine At.thenC ?_
        refine W.seq ?_
        refine W.region env [] [] rfl rfl rfl .nil .nil (At.keep (ts := [2]) (ids := []) rfl rfl ?_)
        refine At.thenC ?_
        refine W.ret ?_
        cases H
        exact At.ret env.ty rfl rfl (fun q hq => by cases hq) (.refl _) hval

theorem c_gasolierref01_Within (p0 : Int) (p1 : Int) (p2 : Int) : Ctr Try.prog 49 [.int .i64 (p0), .int .i64 (p1), .int .i64 (p2)] (.bool ((gasolierref01_Within p0 p1 p2))) := by
  obtain ⟨r, H⟩ : ∃ r, gasolierref01_Within p0 p1 p2 = r := ⟨_, rfl⟩
  rw [H]
  unfold gasolierref01_Within at H
  refine Ctr.of_body (N := 15) Try.func49 (by kernel_rfl) (c := _) rfl Try.ntmps49 rfl (fun w0 h0 hval => ?_)
  refine W.seq ?_
  refine W.region env [] [] rfl rfl rfl .nil .nil (At.keep (ts := [0, 1, 2]) (ids := []) rfl rfl ?_)
  refine At.thenC ?_
  refine W.seq ?_
  refine W.region env [] [] rfl rfl rfl (.cons (fun h => h) (.cons (fun h => h) (.cons (fun h => h) .nil))) .nil (At.keep (ts := [6]) (ids := []) rfl rfl ?_)
  refine At.thenC ?_
  refine W.ret ?_
  cases H
  exact At.ret env.ty rfl rfl (fun q hq => by cases hq) (.refl _) hval

theorem c_gasolierref04_CheckTask (p0 : Task) : Ctr Try.prog 53 [.agg [.int .i64 (p0.Lamp), .int .i64 (p0.Place), .int .i64 (p0.At), .int .i64 (p0.Serve)]] (.int .i64 ((gasolierref04_CheckTask p0))) := by
  obtain ⟨r, H⟩ : ∃ r, gasolierref04_CheckTask p0 = r := ⟨_, rfl⟩
  rw [H]
  unfold gasolierref04_CheckTask at H
  refine Ctr.of_body (N := 25) Try.func53 (by kernel_rfl) (c := _) rfl Try.ntmps53 rfl (fun w0 h0 hval => ?_)
  refine W.seq ?_
  refine W.region env [] [] rfl rfl rfl .nil .nil (At.keep (ts := [1]) (ids := [1]) rfl rfl ?_)
  refine At.thenC ?_
  refine W.seq ?_
  refine W.seq ?_
  refine W.region env [] [⟨.bool ((gasolierref01_Within p0.Lamp 1 999)), [], 0, []⟩, ⟨.bool ((gasolierref01_Within p0.Place 0 11)), [], 0, []⟩, ⟨.bool ((gasolierref01_Within p0.At 0 1439)), [], 0, []⟩, ⟨.bool ((gasolierref01_Within p0.Serve 1 120)), [], 0, []⟩] rfl rfl rfl (.cons (fun h => h) (.cons (fun h => h) (.cons (fun h => h) (.cons (fun h => by rw [h]; rfl) (.cons (fun h => h) (.cons (fun h => h) (.cons (fun h => h) (.cons (fun h => by rw [h]; rfl) (.cons (fun h => h) (.cons (fun h => h) (.cons (fun h => h) (.cons (fun h => by rw [h]; rfl) .nil)))))))))))) (.free (c_gasolierref01_Within p0.Lamp 1 999) (.on (fun hW => c_gasolierref01_Within p0.Place 0 11) (.on (fun hW => c_gasolierref01_Within p0.At 0 1439) (.on (fun hW => c_gasolierref01_Within p0.Serve 1 120) .nil)))) (At.keep (ts := [24]) (ids := []) rfl rfl ?_)
  refine At.thenC ?_
  refine W.cond rfl (fun hb1 => ?_) (fun hb1 => ?_)
  · have H := of_true H hb1
    refine W.seq ?_
    refine W.region env [] [] rfl rfl rfl .nil .nil (At.keep (ts := [2]) (ids := []) rfl rfl ?_)
    refine At.thenC ?_
    refine W.ret ?_
    refine At.rthen ?_
    cases H
    exact At.ret env.ty rfl rfl (fun q hq => by cases hq) (.refl _) hval
  · have H := of_false H hb1
    refine W.skip ?_
    refine At.thenC ?_
    refine W.seq ?_
    refine W.region env [] [] rfl rfl rfl .nil .nil (At.keep (ts := [2]) (ids := []) rfl rfl ?_)
    refine At.thenC ?_
    refine W.ret ?_
    cases H
    exact At.ret env.ty rfl rfl (fun q hq => by cases hq) (.refl _) hval

theorem c_gasolierref04_CheckHand (p0 : Hand) : Ctr Try.prog 54 [.agg [.int .i64 (p0.Id), .int .i64 (p0.From), .int .i64 (p0.To)]] (.int .i64 ((gasolierref04_CheckHand p0))) := by
  obtain ⟨r, H⟩ : ∃ r, gasolierref04_CheckHand p0 = r := ⟨_, rfl⟩
  rw [H]
  unfold gasolierref04_CheckHand at H
  refine Ctr.of_body (N := 16) Try.func54 (by kernel_rfl) (c := _) rfl Try.ntmps54 rfl (fun w0 h0 hval => ?_)
  refine W.seq ?_
  refine W.region env [] [] rfl rfl rfl .nil .nil (At.keep (ts := [1]) (ids := [1]) rfl rfl ?_)
  refine At.thenC ?_
  refine W.seq ?_
  refine W.seq ?_
  refine W.region env [] [⟨.bool ((gasolierref01_Within p0.Id 1 99)), [], 0, []⟩, ⟨.bool ((gasolierref01_IsRange (⟨p0.From, p0.To⟩ : Range) 0 1439)), [], 0, []⟩] rfl rfl rfl (.cons (fun h => h) (.cons (fun h => h) (.cons (fun h => h) (.cons (fun h => h) (.cons (fun h => h) (.cons (fun h => h) (.cons (fun h => by rw [h]; rfl) .nil))))))) (.free (c_gasolierref01_Within p0.Id 1 99) (.on (fun hW => c_gasolierref01_IsRange (⟨p0.From, p0.To⟩ : Range) 0 1439) .nil)) (At.keep (ts := [15]) (ids := []) rfl rfl ?_)
  refine At.thenC ?_
  refine W.cond rfl (fun hb1 => ?_) (fun hb1 => ?_)
  · have H := of_true H hb1
    refine W.seq ?_
    refine W.region env [] [] rfl rfl rfl .nil .nil (At.keep (ts := [2]) (ids := []) rfl rfl ?_)
    refine At.thenC ?_
    refine W.ret ?_
    refine At.rthen ?_
    cases H
    exact At.ret env.ty rfl rfl (fun q hq => by cases hq) (.refl _) hval
  · have H := of_false H hb1
    refine W.skip ?_
    refine At.thenC ?_
    refine W.seq ?_
    refine W.region env [] [] rfl rfl rfl .nil .nil (At.keep (ts := [2]) (ids := []) rfl rfl ?_)
    refine At.thenC ?_
    refine W.ret ?_
    cases H
    exact At.ret env.ty rfl rfl (fun q hq => by cases hq) (.refl _) hval

theorem c_gasolierref04_Check (p0 : Crew) {r : Int} (H : gasolierref04_Check p0 = some r) : Ctr Try.prog 15 [.agg [roL 4 enc_Task p0.Tasks, roL 1 enc_ListRange p0.Travel, roL 3 enc_Hand p0.Hands]] (.int .i64 (r)) := by
  unfold gasolierref04_Check at H
  refine Ctr.of_body (N := 87) Try.func15 (by kernel_rfl) (c := _) rfl Try.ntmps15 rfl (fun w0 h0 hval => ?_)
  refine W.seq ?_
  refine W.region env [] [] rfl rfl rfl .nil .nil (At.keep (ts := [1]) (ids := [1]) rfl rfl ?_)
  refine At.thenC ?_
  refine W.seq ?_
  refine W.seq ?_
  obtain ⟨y1, hy2, H⟩ := of_bindO H
  refine W.region env [] [⟨.bool (y1), [], 0, []⟩] rfl rfl rfl (.cons (fun h => h) (.cons (fun h => h) (.cons (fun h => h) (.cons (fun h => by rw [h]; rfl) (.cons (fun h => h) (.cons (fun h => h) (.cons (fun h => h) (.cons (fun h => by rw [h]; rfl) .nil)))))))) (.on (fun hW => c_gasolierref04_isTravel p0.Travel (of_true hy2 hW)) .nil) (At.keep (ts := [1, 22]) (ids := [1]) rfl rfl ?_)
  refine At.thenC ?_
  refine W.cond rfl (fun hb3 => ?_) (fun hb3 => ?_)
  · have H := of_true H hb3
    refine W.seq ?_
    refine W.region env [] [] rfl rfl rfl .nil .nil (At.keep (ts := [2]) (ids := []) rfl rfl ?_)
    refine At.thenC ?_
    refine W.ret ?_
    refine At.rthen ?_
    cases H
    exact At.ret env.ty rfl rfl (fun q hq => by cases hq) (.refl _) hval
  · have H := of_false H hb3
    refine W.skip ?_
    refine At.thenC ?_
    refine W.seq ?_
    refine W.seq ?_
    refine W.region env [] [] rfl rfl rfl .nil .nil (At.keep (ts := [1, 24, 25, 26]) (ids := [1]) rfl rfl ?_)
    refine At.thenC ?_
    refine W.block ?_
    refine At.keep (ts := [1, 24, 25, 26]) (ids := [1]) rfl rfl ?_
    refine W.len (t := 24) rfl (fun (hn4 : p0.Tasks.length ≤ maxLen) => ?_)
    refine W.rangeGo H (fun i4 (s4 : Unit) => [(1, .lp 1 0), (24, roL 4 enc_Task p0.Tasks), (25, .int .i64 (((p0.Tasks.length : Nat) : Int))), (26, .int .i64 ((i4 : Int)))]) (fun i4 (s4 : Unit) => [(1, .cells [roL 4 enc_Task p0.Tasks, roL 1 enc_ListRange p0.Travel, roL 3 enc_Hand p0.Hands])]) (.cons (.of_eq (by first | rfl | (simp; done) | omega | (simp; omega))) (.cons (.of_eq (by first | rfl | (simp; done) | omega | (simp; omega))) (.cons (.of_eq (by first | rfl | (simp; done) | omega | (refine intEq ?_; first | omega | (simp; done) | (simp; omega)) | (simp; omega))) (.cons (.of_eq (by first | rfl | (simp; done) | omega | (refine intEq ?_; first | omega | (simp; done) | (simp; omega)) | (simp; omega))) .nil)))) (.cons (.of_eq (by first | rfl | (simp; done) | omega | (simp; omega))) .nil) (fun k4 i4 s4 hle4 H1 H2 K0 hK4 => ?_)
    refine W.seq ?_
    refine W.region env [] [] rfl rfl rfl .nil .nil (At.keep (ts := [1, 24, 25, 26, 27]) (ids := [1]) rfl rfl ?_)
    refine At.thenC ?_
    refine W.seq ?_
    refine W.cond rfl (fun hb5 => ?_) (fun hb5 => ?_)
    · have hi4 : i4 < p0.Tasks.length := by have := of_decide_eq_true hb5; omega
      have H := H1 hi4
      refine W.skip ?_
      refine At.thenC ?_
      refine W.seq ?_
      refine W.block ?_
      refine W.seq ?_
      refine W.region env [] [] rfl rfl rfl (.cons (⟨by omega, by omega⟩ : 0 ≤ (i4 : Int) ∧ (i4 : Int) < ((p0.Tasks.length : Nat) : Int)) .nil) .nil (At.keep (ts := [1, 3, 4, 24, 25, 26]) (ids := [1, 4]) rfl rfl ?_)
      refine At.thenC ?_
      refine W.seq ?_
      obtain ⟨hc6, H⟩ := of_must H
      obtain ⟨hc7, H⟩ := of_must H
      refine W.region env [] [⟨.int .i64 ((gasolierref04_CheckTask (p0.Tasks.getD i4 default))), [], 0, []⟩] rfl rfl (by kernel_rfl) (.cons (fun h => h) (.cons (fun h => h) (.cons (fun h => h) (.cons (fun h => h) (.cons (fun h => h) (.cons (fun h => by rw [h]; rfl) (.cons (fun h => h) (.cons (fun h => h) (.cons (fun h => h) (.cons hc6 (.cons (fun h => h) (.cons hc7 (.cons (fun h => h) (.cons (fun h => h) (.cons (fun h => h) (.cons (fun h => h) (.cons (fun h => h) (.cons (fun h => h) (.cons (fun h => h) (.cons (fun h => h) (.cons (fun hW h => by revert hW h; first | (simp +contextual; done) | grind) (.cons (fun h => by rw [h]; rfl) .nil)))))))))))))))))))))) (.free (c_gasolierref04_CheckTask (p0.Tasks.getD i4 default)) .nil) (At.keep (ts := [1, 24, 25, 26, 57]) (ids := [1]) rfl rfl ?_)
      refine At.thenC ?_
      refine W.cond rfl (fun hb8 => ?_) (fun hb8 => ?_)
      · have H := of_true H hb8
        refine W.seq ?_
        refine W.region env [] [] rfl rfl rfl .nil .nil (At.keep (ts := [2]) (ids := []) rfl rfl ?_)
        refine At.thenC ?_
        refine W.ret ?_
        refine At.rinb ?_
        refine At.rthen ?_
        refine At.rthen ?_
        refine At.rinb ?_
        refine At.rthen ?_
        cases H
        exact At.ret env.ty rfl rfl (fun q hq => by cases hq) (.refl _) hval
      · have H := of_false H hb8
        refine W.skip ?_
        refine At.inb ?_
        refine At.thenC ?_
        refine W.region env [] [] rfl rfl rfl (.cons (by unfold inI; have := hn4; (try unfold maxLen at this); omega) .nil) .nil (At.keep (ts := [1, 24, 25, 26]) (ids := [1]) rfl rfl ?_)
        refine At.thenK (At.keep (ts := [1, 24, 25, 26]) (ids := [1]) rfl rfl ?_)
        exact At.conv (.cons (.of_eq (by first | rfl | (simp; done) | omega | (simp; omega))) (.cons (.of_eq (by first | rfl | (simp; done) | omega | (simp; omega))) (.cons (.of_eq (by first | rfl | (simp; done) | omega | (refine intEq ?_; first | omega | (simp; done) | (simp; omega)) | (simp; omega))) (.cons (.of_eq (by first | rfl | (simp; done) | omega | (refine intEq ?_; first | omega | (simp; done) | (simp; omega)) | (simp; omega))) .nil)))) (.cons (.of_eq (by first | rfl | (simp; done) | omega | (simp; omega))) .nil) (hK4 hi4 () H)
    · have H := H2 (by have := of_decide_eq_false hb5; omega)
      refine W.exit ?_
      refine At.xthen ?_
      refine At.xthen ?_
      refine At.xhere ?_
      refine At.thenC ?_
      refine W.seq ?_
      refine W.seq ?_
      refine W.region env [] [] rfl rfl rfl .nil .nil (At.keep (ts := [1, 60, 61, 62]) (ids := [1]) rfl rfl ?_)
      refine At.thenC ?_
      refine W.block ?_
      refine At.keep (ts := [1, 60, 61, 62]) (ids := [1]) rfl rfl ?_
      refine W.len (t := 60) rfl (fun (hn9 : p0.Hands.length ≤ maxLen) => ?_)
      refine W.rangeGo H (fun i9 (s9 : Unit) => [(1, .lp 1 0), (60, roL 3 enc_Hand p0.Hands), (61, .int .i64 (((p0.Hands.length : Nat) : Int))), (62, .int .i64 ((i9 : Int)))]) (fun i9 (s9 : Unit) => [(1, .cells [roL 4 enc_Task p0.Tasks, roL 1 enc_ListRange p0.Travel, roL 3 enc_Hand p0.Hands])]) (.cons (.of_eq (by first | rfl | (simp; done) | omega | (simp; omega))) (.cons (.of_eq (by first | rfl | (simp; done) | omega | (simp; omega))) (.cons (.of_eq (by first | rfl | (simp; done) | omega | (refine intEq ?_; first | omega | (simp; done) | (simp; omega)) | (simp; omega))) (.cons (.of_eq (by first | rfl | (simp; done) | omega | (refine intEq ?_; first | omega | (simp; done) | (simp; omega)) | (simp; omega))) .nil)))) (.cons (.of_eq (by first | rfl | (simp; done) | omega | (simp; omega))) .nil) (fun k9 i9 s9 hle9 H1 H2 K0 hK9 => ?_)
      refine W.seq ?_
      refine W.region env [] [] rfl rfl rfl .nil .nil (At.keep (ts := [1, 60, 61, 62, 63]) (ids := [1]) rfl rfl ?_)
      refine At.thenC ?_
      refine W.seq ?_
      refine W.cond rfl (fun hb10 => ?_) (fun hb10 => ?_)
      · have hi9 : i9 < p0.Hands.length := by have := of_decide_eq_true hb10; omega
        have H := H1 hi9
        refine W.skip ?_
        refine At.thenC ?_
        refine W.seq ?_
        refine W.block ?_
        refine W.seq ?_
        refine W.region env [] [] rfl rfl rfl (.cons (⟨by omega, by omega⟩ : 0 ≤ (i9 : Int) ∧ (i9 : Int) < ((p0.Hands.length : Nat) : Int)) .nil) .nil (At.keep (ts := [1, 5, 6, 60, 61, 62]) (ids := [1, 6]) rfl rfl ?_)
        refine At.thenC ?_
        refine W.seq ?_
        obtain ⟨hc11, H⟩ := of_must H
        obtain ⟨hc12, H⟩ := of_must H
        refine W.region env [] [⟨.int .i64 ((gasolierref04_CheckHand (p0.Hands.getD i9 default))), [], 0, []⟩] rfl rfl (by kernel_rfl) (.cons (fun h => h) (.cons (fun h => h) (.cons (fun h => h) (.cons hc11 (.cons (fun h => h) (.cons hc12 (.cons (fun h => h) (.cons (fun h => h) (.cons (fun h => h) (.cons (fun h => h) (.cons (fun h => h) (.cons (fun h => h) (.cons (fun h => h) (.cons (fun h => h) (.cons (fun hW h => by revert hW h; first | (simp +contextual; done) | grind) (.cons (fun h => by rw [h]; rfl) .nil)))))))))))))))) (.free (c_gasolierref04_CheckHand (p0.Hands.getD i9 default)) .nil) (At.keep (ts := [1, 60, 61, 62, 85]) (ids := [1]) rfl rfl ?_)
        refine At.thenC ?_
        refine W.cond rfl (fun hb13 => ?_) (fun hb13 => ?_)
        · have H := of_true H hb13
          refine W.seq ?_
          refine W.region env [] [] rfl rfl rfl .nil .nil (At.keep (ts := [2]) (ids := []) rfl rfl ?_)
          refine At.thenC ?_
          refine W.ret ?_
          refine At.rinb ?_
          refine At.rthen ?_
          refine At.rthen ?_
          refine At.rinb ?_
          refine At.rthen ?_
          cases H
          exact At.ret env.ty rfl rfl (fun q hq => by cases hq) (.refl _) hval
        · have H := of_false H hb13
          refine W.skip ?_
          refine At.inb ?_
          refine At.thenC ?_
          refine W.region env [] [] rfl rfl rfl (.cons (by unfold inI; have := hn9; (try unfold maxLen at this); omega) .nil) .nil (At.keep (ts := [1, 60, 61, 62]) (ids := [1]) rfl rfl ?_)
          refine At.thenK (At.keep (ts := [1, 60, 61, 62]) (ids := [1]) rfl rfl ?_)
          exact At.conv (.cons (.of_eq (by first | rfl | (simp; done) | omega | (simp; omega))) (.cons (.of_eq (by first | rfl | (simp; done) | omega | (simp; omega))) (.cons (.of_eq (by first | rfl | (simp; done) | omega | (refine intEq ?_; first | omega | (simp; done) | (simp; omega)) | (simp; omega))) (.cons (.of_eq (by first | rfl | (simp; done) | omega | (refine intEq ?_; first | omega | (simp; done) | (simp; omega)) | (simp; omega))) .nil)))) (.cons (.of_eq (by first | rfl | (simp; done) | omega | (simp; omega))) .nil) (hK9 hi9 () H)
      · have H := H2 (by have := of_decide_eq_false hb10; omega)
        refine W.exit ?_
        refine At.xthen ?_
        refine At.xthen ?_
        refine At.xhere ?_
        refine At.thenC ?_
        refine W.seq ?_
        refine W.region env [] [] rfl rfl rfl .nil .nil (At.keep (ts := [2]) (ids := []) rfl rfl ?_)
        refine At.thenC ?_
        refine W.ret ?_
        cases H
        exact At.ret env.ty rfl rfl (fun q hq => by cases hq) (.refl _) hval

theorem c_crew_in (p0 : Int) (p1 : Int) (p2 : Int) : Ctr Try.prog 62 [.int .i64 (p0), .int .i64 (p1), .int .i64 (p2)] (.bool ((crew_in p0 p1 p2))) := by
  obtain ⟨r, H⟩ : ∃ r, crew_in p0 p1 p2 = r := ⟨_, rfl⟩
  rw [H]
  unfold crew_in at H
  refine Ctr.of_body (N := 15) Try.func62 (by kernel_rfl) (c := _) rfl Try.ntmps62 rfl (fun w0 h0 hval => ?_)
  refine W.seq ?_
  refine W.region env [] [] rfl rfl rfl .nil .nil (At.keep (ts := [0, 1, 2]) (ids := []) rfl rfl ?_)
  refine At.thenC ?_
  refine W.seq ?_
  refine W.region env [] [] rfl rfl rfl (.cons (fun h => h) (.cons (fun h => h) (.cons (fun h => h) .nil))) .nil (At.keep (ts := [6]) (ids := []) rfl rfl ?_)
  refine At.thenC ?_
  refine W.ret ?_
  cases H
  exact At.ret env.ty rfl rfl (fun q hq => by cases hq) (.refl _) hval

theorem c_crew_isTravel (p0 : (List (List Range))) {r : Bool} (H : crew_isTravel p0 = some r) : Ctr Try.prog 55 [roL 1 enc_ListRange p0] (.bool (r)) := by
  unfold crew_isTravel at H
  refine Ctr.of_body (N := 124) Try.func55 (by kernel_rfl) (c := _) rfl Try.ntmps55 rfl (fun w0 h0 hval => ?_)
  refine W.seq ?_
  refine W.region env [] [] rfl rfl rfl .nil .nil (At.keep (ts := [0]) (ids := []) rfl rfl ?_)
  refine At.thenC ?_
  refine W.seq ?_
  refine W.seq ?_
  refine W.region env [] [] rfl rfl rfl .nil .nil (At.keep (ts := [0, 12]) (ids := []) rfl rfl ?_)
  refine At.thenC ?_
  refine W.cond rfl (fun hb1 => ?_) (fun hb1 => ?_)
  · have H := of_true H hb1
    refine W.seq ?_
    refine W.region env [] [] rfl rfl rfl .nil .nil (At.keep (ts := [2]) (ids := []) rfl rfl ?_)
    refine At.thenC ?_
    refine W.ret ?_
    refine At.rthen ?_
    cases H
    exact At.ret env.ty rfl rfl (fun q hq => by cases hq) (.refl _) hval
  · have H := of_false H hb1
    refine W.skip ?_
    refine At.thenC ?_
    refine W.seq ?_
    refine W.seq ?_
    refine W.region env [] [] rfl rfl rfl .nil .nil (At.keep (ts := [0, 13, 14, 15]) (ids := []) rfl rfl ?_)
    refine At.thenC ?_
    refine W.block ?_
    refine At.keep (ts := [0, 13, 14, 15]) (ids := []) rfl rfl ?_
    refine W.len (t := 13) rfl (fun (hn2 : p0.length ≤ maxLen) => ?_)
    refine W.rangeGo H (fun i2 (s2 : Unit) => [(0, roL 1 enc_ListRange p0), (13, roL 1 enc_ListRange p0), (14, .int .i64 (((p0.length : Nat) : Int))), (15, .int .i64 ((i2 : Int)))]) (fun i2 (s2 : Unit) => []) (.cons (.of_eq (by first | rfl | (simp; done) | omega | (simp; omega))) (.cons (.of_eq (by first | rfl | (simp; done) | omega | (simp; omega))) (.cons (.of_eq (by first | rfl | (simp; done) | omega | (refine intEq ?_; first | omega | (simp; done) | (simp; omega)) | (simp; omega))) (.cons (.of_eq (by first | rfl | (simp; done) | omega | (refine intEq ?_; first | omega | (simp; done) | (simp; omega)) | (simp; omega))) .nil)))) .nil (fun k2 i2 s2 hle2 H1 H2 K0 hK2 => ?_)
    refine W.seq ?_
    refine W.region env [] [] rfl rfl rfl .nil .nil (At.keep (ts := [0, 13, 14, 15, 16]) (ids := []) rfl rfl ?_)
    refine At.thenC ?_
    refine W.seq ?_
    refine W.cond rfl (fun hb3 => ?_) (fun hb3 => ?_)
    · have hi2 : i2 < p0.length := by have := of_decide_eq_true hb3; omega
      have H := H1 hi2
      refine W.skip ?_
      refine At.thenC ?_
      refine W.seq ?_
      refine W.block ?_
      refine W.seq ?_
      refine W.region env [] [] rfl rfl rfl (.cons (⟨by omega, by omega⟩ : 0 ≤ (i2 : Int) ∧ (i2 : Int) < ((p0.length : Nat) : Int)) .nil) .nil (At.keep (ts := [0, 3, 4, 13, 14, 15]) (ids := []) rfl rfl ?_)
      refine At.thenC ?_
      refine W.seq ?_
      refine W.seq ?_
      obtain ⟨hc4, H⟩ := of_must H
      refine W.region env [] [] rfl rfl rfl (.cons hc4 (.cons (fun h => h) (.cons (fun h => h) (.cons (fun h => h) (.cons (fun h => h) (.cons (fun h => h) (.cons (fun h => by rw [h]; rfl) .nil))))))) .nil (At.keep (ts := [0, 4, 13, 14, 15, 32]) (ids := []) rfl rfl ?_)
      refine At.thenC ?_
      refine W.cond rfl (fun hb5 => ?_) (fun hb5 => ?_)
      · have H := of_true H hb5
        refine W.seq ?_
        refine W.region env [] [] rfl rfl rfl .nil .nil (At.keep (ts := [2]) (ids := []) rfl rfl ?_)
        refine At.thenC ?_
        refine W.ret ?_
        refine At.rthen ?_
        refine At.rinb ?_
        refine At.rthen ?_
        refine At.rthen ?_
        refine At.rinb ?_
        refine At.rthen ?_
        cases H
        exact At.ret env.ty rfl rfl (fun q hq => by cases hq) (.refl _) hval
      · have H := of_false H hb5
        refine W.skip ?_
        refine At.thenC ?_
        refine W.seq ?_
        refine W.region env [] [] rfl rfl rfl .nil .nil (At.keep (ts := [0, 13, 14, 15, 33, 34, 35]) (ids := []) rfl rfl ?_)
        refine At.thenC ?_
        refine W.block ?_
        refine At.keep (ts := [0, 13, 14, 15, 33, 34, 35]) (ids := []) rfl rfl ?_
        refine W.len (t := 33) rfl (fun (hn6 : (p0.getD i2 default).length ≤ maxLen) => ?_)
        refine W.rangeGo H (fun i6 (s6 : Unit) => [(0, roL 1 enc_ListRange p0), (13, roL 1 enc_ListRange p0), (14, .int .i64 (((p0.length : Nat) : Int))), (15, .int .i64 ((i2 : Int))), (33, roL 2 enc_Range (p0.getD i2 default)), (34, .int .i64 ((((p0.getD i2 default).length : Nat) : Int))), (35, .int .i64 ((i6 : Int)))]) (fun i6 (s6 : Unit) => []) (.cons (.of_eq (by first | rfl | (simp; done) | omega | (simp; omega))) (.cons (.of_eq (by first | rfl | (simp; done) | omega | (simp; omega))) (.cons (.of_eq (by first | rfl | (simp; done) | omega | (refine intEq ?_; first | omega | (simp; done) | (simp; omega)) | (simp; omega))) (.cons (.of_eq (by first | rfl | (simp; done) | omega | (refine intEq ?_; first | omega | (simp; done) | (simp; omega)) | (simp; omega))) (.cons (.of_eq (by first | rfl | (simp; done) | omega | (simp; omega))) (.cons (.of_eq (by first | rfl | (simp; done) | omega | (refine intEq ?_; first | omega | (simp; done) | (simp; omega)) | (simp; omega))) (.cons (.of_eq (by first | rfl | (simp; done) | omega | (refine intEq ?_; first | omega | (simp; done) | (simp; omega)) | (simp; omega))) .nil))))))) .nil (fun k6 i6 s6 hle6 H1 H2 K0 hK6 => ?_)
        refine W.seq ?_
        refine W.region env [] [] rfl rfl rfl .nil .nil (At.keep (ts := [0, 13, 14, 15, 33, 34, 35, 36]) (ids := []) rfl rfl ?_)
        refine At.thenC ?_
        refine W.seq ?_
        refine W.cond rfl (fun hb7 => ?_) (fun hb7 => ?_)
        · have hi6 : i6 < (p0.getD i2 default).length := by have := of_decide_eq_true hb7; omega
          have H := H1 hi6
          refine W.skip ?_
          refine At.thenC ?_
          refine W.seq ?_
          refine W.block ?_
          refine W.seq ?_
          refine W.region env [] [] rfl rfl rfl (.cons (⟨by omega, by omega⟩ : 0 ≤ (i6 : Int) ∧ (i6 : Int) < (((p0.getD i2 default).length : Nat) : Int)) .nil) .nil (At.keep (ts := [0, 6, 13, 14, 15, 33, 34, 35]) (ids := [6]) rfl rfl ?_)
          refine At.thenC ?_
          refine W.seq ?_
          refine W.region env [] [⟨.bool ((crew_in (((p0.getD i2 default).getD i6 default).Lo) 0 (((p0.getD i2 default).getD i6 default).Hi))), [], 0, []⟩] rfl rfl rfl (.cons (fun h => h) (.cons (fun h => h) (.cons (fun h => by rw [h]; rfl) .nil))) (.free (c_crew_in (((p0.getD i2 default).getD i6 default).Lo) 0 (((p0.getD i2 default).getD i6 default).Hi)) .nil) (At.keep (ts := [0, 13, 14, 15, 33, 34, 35, 49]) (ids := []) rfl rfl ?_)
          refine At.thenC ?_
          refine W.cond rfl (fun hb8 => ?_) (fun hb8 => ?_)
          · have H := of_true H hb8
            refine W.seq ?_
            refine W.region env [] [] rfl rfl rfl .nil .nil (At.keep (ts := [2]) (ids := []) rfl rfl ?_)
            refine At.thenC ?_
            refine W.ret ?_
            refine At.rinb ?_
            refine At.rthen ?_
            refine At.rthen ?_
            refine At.rinb ?_
            refine At.rinb ?_
            refine At.rthen ?_
            refine At.rthen ?_
            refine At.rinb ?_
            refine At.rthen ?_
            cases H
            exact At.ret env.ty rfl rfl (fun q hq => by cases hq) (.refl _) hval
          · have H := of_false H hb8
            refine W.skip ?_
            refine At.inb ?_
            refine At.thenC ?_
            refine W.region env [] [] rfl rfl rfl (.cons (by unfold inI; have := hn6; (try unfold maxLen at this); omega) .nil) .nil (At.keep (ts := [0, 13, 14, 15, 33, 34, 35]) (ids := []) rfl rfl ?_)
            refine At.thenK (At.keep (ts := [0, 13, 14, 15, 33, 34, 35]) (ids := []) rfl rfl ?_)
            exact At.conv (.cons (.of_eq (by first | rfl | (simp; done) | omega | (simp; omega))) (.cons (.of_eq (by first | rfl | (simp; done) | omega | (simp; omega))) (.cons (.of_eq (by first | rfl | (simp; done) | omega | (refine intEq ?_; first | omega | (simp; done) | (simp; omega)) | (simp; omega))) (.cons (.of_eq (by first | rfl | (simp; done) | omega | (refine intEq ?_; first | omega | (simp; done) | (simp; omega)) | (simp; omega))) (.cons (.of_eq (by first | rfl | (simp; done) | omega | (simp; omega))) (.cons (.of_eq (by first | rfl | (simp; done) | omega | (refine intEq ?_; first | omega | (simp; done) | (simp; omega)) | (simp; omega))) (.cons (.of_eq (by first | rfl | (simp; done) | omega | (refine intEq ?_; first | omega | (simp; done) | (simp; omega)) | (simp; omega))) .nil))))))) .nil (hK6 hi6 () H)
        · have H := H2 (by have := of_decide_eq_false hb7; omega)
          refine W.exit ?_
          refine At.xthen ?_
          refine At.xthen ?_
          refine At.xhere ?_
          refine At.inb ?_
          refine At.thenC ?_
          refine W.region env [] [] rfl rfl rfl (.cons (by unfold inI; have := hn2; (try unfold maxLen at this); omega) .nil) .nil (At.keep (ts := [0, 13, 14, 15]) (ids := []) rfl rfl ?_)
          refine At.thenK (At.keep (ts := [0, 13, 14, 15]) (ids := []) rfl rfl ?_)
          exact At.conv (.cons (.of_eq (by first | rfl | (simp; done) | omega | (simp; omega))) (.cons (.of_eq (by first | rfl | (simp; done) | omega | (simp; omega))) (.cons (.of_eq (by first | rfl | (simp; done) | omega | (refine intEq ?_; first | omega | (simp; done) | (simp; omega)) | (simp; omega))) (.cons (.of_eq (by first | rfl | (simp; done) | omega | (refine intEq ?_; first | omega | (simp; done) | (simp; omega)) | (simp; omega))) .nil)))) .nil (hK2 hi2 () H)
    · have H := H2 (by have := of_decide_eq_false hb3; omega)
      refine W.exit ?_
      refine At.xthen ?_
      refine At.xthen ?_
      refine At.xhere ?_
      refine At.thenC ?_
      refine W.seq ?_
      refine W.seq ?_
      refine W.region env [] [] rfl rfl rfl .nil .nil (At.keep (ts := [0, 53, 54]) (ids := []) rfl rfl ?_)
      refine At.thenC ?_
      refine W.block ?_
      refine At.keep (ts := [0, 53, 54]) (ids := []) rfl rfl ?_
      refine W.len (t := 0) rfl (fun (hn9 : p0.length ≤ maxLen) => ?_)
      refine W.rangeGo H (fun i9 (s9 : Unit) => [(0, roL 1 enc_ListRange p0), (53, .int .i64 (((p0.length : Nat) : Int))), (54, .int .i64 ((i9 : Int)))]) (fun i9 (s9 : Unit) => []) (.cons (.of_eq (by first | rfl | (simp; done) | omega | (simp; omega))) (.cons (.of_eq (by first | rfl | (simp; done) | omega | (refine intEq ?_; first | omega | (simp; done) | (simp; omega)) | (simp; omega))) (.cons (.of_eq (by first | rfl | (simp; done) | omega | (refine intEq ?_; first | omega | (simp; done) | (simp; omega)) | (simp; omega))) .nil))) .nil (fun k9 i9 s9 hle9 H1 H2 K0 hK9 => ?_)
      refine W.seq ?_
      refine W.region env [] [] rfl rfl rfl .nil .nil (At.keep (ts := [0, 53, 54, 55]) (ids := []) rfl rfl ?_)
      refine At.thenC ?_
      refine W.seq ?_
      refine W.cond rfl (fun hb10 => ?_) (fun hb10 => ?_)
      · have hi9 : i9 < p0.length := by have := of_decide_eq_true hb10; omega
        have H := H1 hi9
        refine W.skip ?_
        refine At.thenC ?_
        refine W.seq ?_
        refine W.block ?_
        refine W.seq ?_
        refine W.region env [] [] rfl rfl rfl .nil .nil (At.keep (ts := [0, 7, 53, 54]) (ids := []) rfl rfl ?_)
        refine At.thenC ?_
        refine W.seq ?_
        refine W.region env [] [] rfl rfl rfl .nil .nil (At.keep (ts := [0, 7, 53, 54, 58, 59]) (ids := []) rfl rfl ?_)
        refine At.thenC ?_
        refine W.block ?_
        refine At.keep (ts := [0, 7, 53, 54, 58, 59]) (ids := []) rfl rfl ?_
        refine W.len (t := 0) rfl (fun (hn11 : p0.length ≤ maxLen) => ?_)
        refine W.rangeGo H (fun i11 (s11 : Unit) => [(0, roL 1 enc_ListRange p0), (7, .int .i64 ((i9 : Int))), (53, .int .i64 (((p0.length : Nat) : Int))), (54, .int .i64 ((i9 : Int))), (58, .int .i64 (((p0.length : Nat) : Int))), (59, .int .i64 ((i11 : Int)))]) (fun i11 (s11 : Unit) => []) (.cons (.of_eq (by first | rfl | (simp; done) | omega | (simp; omega))) (.cons (.of_eq (by first | rfl | (simp; done) | omega | (refine intEq ?_; first | omega | (simp; done) | (simp; omega)) | (simp; omega))) (.cons (.of_eq (by first | rfl | (simp; done) | omega | (refine intEq ?_; first | omega | (simp; done) | (simp; omega)) | (simp; omega))) (.cons (.of_eq (by first | rfl | (simp; done) | omega | (refine intEq ?_; first | omega | (simp; done) | (simp; omega)) | (simp; omega))) (.cons (.of_eq (by first | rfl | (simp; done) | omega | (refine intEq ?_; first | omega | (simp; done) | (simp; omega)) | (simp; omega))) (.cons (.of_eq (by first | rfl | (simp; done) | omega | (refine intEq ?_; first | omega | (simp; done) | (simp; omega)) | (simp; omega))) .nil)))))) .nil (fun k11 i11 s11 hle11 H1 H2 K0 hK11 => ?_)
        refine W.seq ?_
        refine W.region env [] [] rfl rfl rfl .nil .nil (At.keep (ts := [0, 7, 53, 54, 58, 59, 60]) (ids := []) rfl rfl ?_)
        refine At.thenC ?_
        refine W.seq ?_
        refine W.cond rfl (fun hb12 => ?_) (fun hb12 => ?_)
        · have hi11 : i11 < p0.length := by have := of_decide_eq_true hb12; omega
          have H := H1 hi11
          refine W.skip ?_
          refine At.thenC ?_
          refine W.seq ?_
          refine W.block ?_
          refine W.seq ?_
          refine W.region env [] [] rfl rfl rfl .nil .nil (At.keep (ts := [0, 7, 8, 53, 54, 58, 59]) (ids := []) rfl rfl ?_)
          refine At.thenC ?_
          refine W.seq ?_
          refine W.region env [] [] rfl rfl rfl .nil .nil (At.keep (ts := [0, 7, 8, 53, 54, 58, 59, 63, 64]) (ids := []) rfl rfl ?_)
          refine At.thenC ?_
          refine W.block ?_
          refine At.keep (ts := [0, 7, 8, 53, 54, 58, 59, 63, 64]) (ids := []) rfl rfl ?_
          refine W.len (t := 0) rfl (fun (hn13 : p0.length ≤ maxLen) => ?_)
          refine W.rangeGo H (fun i13 (s13 : Unit) => [(0, roL 1 enc_ListRange p0), (7, .int .i64 ((i9 : Int))), (8, .int .i64 ((i11 : Int))), (53, .int .i64 (((p0.length : Nat) : Int))), (54, .int .i64 ((i9 : Int))), (58, .int .i64 (((p0.length : Nat) : Int))), (59, .int .i64 ((i11 : Int))), (63, .int .i64 (((p0.length : Nat) : Int))), (64, .int .i64 ((i13 : Int)))]) (fun i13 (s13 : Unit) => []) (.cons (.of_eq (by first | rfl | (simp; done) | omega | (simp; omega))) (.cons (.of_eq (by first | rfl | (simp; done) | omega | (refine intEq ?_; first | omega | (simp; done) | (simp; omega)) | (simp; omega))) (.cons (.of_eq (by first | rfl | (simp; done) | omega | (refine intEq ?_; first | omega | (simp; done) | (simp; omega)) | (simp; omega))) (.cons (.of_eq (by first | rfl | (simp; done) | omega | (refine intEq ?_; first | omega | (simp; done) | (simp; omega)) | (simp; omega))) (.cons (.of_eq (by first | rfl | (simp; done) | omega | (refine intEq ?_; first | omega | (simp; done) | (simp; omega)) | (simp; omega))) (.cons (.of_eq (by first | rfl | (simp; done) | omega | (refine intEq ?_; first | omega | (simp; done) | (simp; omega)) | (simp; omega))) (.cons (.of_eq (by first | rfl | (simp; done) | omega | (refine intEq ?_; first | omega | (simp; done) | (simp; omega)) | (simp; omega))) (.cons (.of_eq (by first | rfl | (simp; done) | omega | (refine intEq ?_; first | omega | (simp; done) | (simp; omega)) | (simp; omega))) (.cons (.of_eq (by first | rfl | (simp; done) | omega | (refine intEq ?_; first | omega | (simp; done) | (simp; omega)) | (simp; omega))) .nil))))))))) .nil (fun k13 i13 s13 hle13 H1 H2 K0 hK13 => ?_)
          refine W.seq ?_
          refine W.region env [] [] rfl rfl rfl .nil .nil (At.keep (ts := [0, 7, 8, 53, 54, 58, 59, 63, 64, 65]) (ids := []) rfl rfl ?_)
          refine At.thenC ?_
          refine W.seq ?_
          refine W.cond rfl (fun hb14 => ?_) (fun hb14 => ?_)
          · have hi13 : i13 < p0.length := by have := of_decide_eq_true hb14; omega
            have H := H1 hi13
            refine W.skip ?_
            refine At.thenC ?_
            refine W.seq ?_
            refine W.block ?_
            refine W.seq ?_
            refine W.region env [] [] rfl rfl rfl .nil .nil (At.keep (ts := [0, 7, 8, 9, 53, 54, 58, 59, 63, 64]) (ids := []) rfl rfl ?_)
            refine At.thenC ?_
            refine W.seq ?_
            obtain ⟨hc15, H⟩ := of_must H
            obtain ⟨hc16, H⟩ := of_must H
            obtain ⟨hc17, H⟩ := of_must H
            obtain ⟨hc18, H⟩ := of_must H
            obtain ⟨hc19, H⟩ := of_must H
            obtain ⟨hc20, H⟩ := of_must H
            obtain ⟨hc21, H⟩ := of_must H
            obtain ⟨hc22, H⟩ := of_must H
            refine W.region env [] [] rfl rfl (by first | rfl | kernel_rfl) (.cons (⟨by omega, by omega⟩ : 0 ≤ (i9 : Int) ∧ (i9 : Int) < ((p0.length : Nat) : Int)) (.cons hc15 (.cons (⟨by omega, by omega⟩ : 0 ≤ (i9 : Int) ∧ (i9 : Int) < ((p0.length : Nat) : Int)) (.cons hc16 (.cons (⟨by omega, by omega⟩ : 0 ≤ (i11 : Int) ∧ (i11 : Int) < ((p0.length : Nat) : Int)) (.cons hc17 (.cons hc18 (.cons (fun _ => (⟨by omega, by omega⟩ : 0 ≤ (i9 : Int) ∧ (i9 : Int) < ((p0.length : Nat) : Int))) (.cons (fun h => h) (.cons (fun h => h) (.cons (fun h => h) (.cons hc19 (.cons (fun h => h) (.cons (fun h => h) (.cons (fun h => h) (.cons (fun h => h) (.cons (fun _ => (⟨by omega, by omega⟩ : 0 ≤ (i9 : Int) ∧ (i9 : Int) < ((p0.length : Nat) : Int))) (.cons (fun h => h) (.cons (fun h => h) (.cons (fun h => h) (.cons hc20 (.cons (fun h => h) (.cons (fun h => h) (.cons (fun h => h) (.cons (fun h => h) (.cons (fun _ => (⟨by omega, by omega⟩ : 0 ≤ (i11 : Int) ∧ (i11 : Int) < ((p0.length : Nat) : Int))) (.cons (fun h => h) (.cons (fun h => h) (.cons (fun h => h) (.cons hc21 (.cons (fun h => h) (.cons (fun h => h) (.cons (fun h => h) (.cons (fun h => h) (.cons hc22 (.cons (fun h => h) (.cons (fun h => h) (.cons (fun h => h) (.cons (fun h => h) (.cons (fun h => by rw [h]; rfl) .nil)))))))))))))))))))))))))))))))))))))))) .nil (At.keep (ts := [0, 7, 8, 53, 54, 58, 59, 63, 64, 120]) (ids := []) rfl rfl ?_)
            refine At.thenC ?_
            refine W.cond rfl (fun hb23 => ?_) (fun hb23 => ?_)
            · have H := of_true H hb23
              refine W.seq ?_
              refine W.region env [] [] rfl rfl rfl .nil .nil (At.keep (ts := [2]) (ids := []) rfl rfl ?_)
              refine At.thenC ?_
              refine W.ret ?_
              refine At.rinb ?_
              refine At.rthen ?_
              refine At.rthen ?_
              refine At.rinb ?_
              refine At.rinb ?_
              refine At.rthen ?_
              refine At.rthen ?_
              refine At.rinb ?_
              refine At.rinb ?_
              refine At.rthen ?_
              refine At.rthen ?_
              refine At.rinb ?_
              refine At.rthen ?_
              cases H
              exact At.ret env.ty rfl rfl (fun q hq => by cases hq) (.refl _) hval
            · have H := of_false H hb23
              refine W.skip ?_
              refine At.inb ?_
              refine At.thenC ?_
              refine W.region env [] [] rfl rfl rfl (.cons (by unfold inI; have := hn13; (try unfold maxLen at this); omega) .nil) .nil (At.keep (ts := [0, 7, 8, 53, 54, 58, 59, 63, 64]) (ids := []) rfl rfl ?_)
              refine At.thenK (At.keep (ts := [0, 7, 8, 53, 54, 58, 59, 63, 64]) (ids := []) rfl rfl ?_)
              exact At.conv (.cons (.of_eq (by first | rfl | (simp; done) | omega | (simp; omega))) (.cons (.of_eq (by first | rfl | (simp; done) | omega | (refine intEq ?_; first | omega | (simp; done) | (simp; omega)) | (simp; omega))) (.cons (.of_eq (by first | rfl | (simp; done) | omega | (refine intEq ?_; first | omega | (simp; done) | (simp; omega)) | (simp; omega))) (.cons (.of_eq (by first | rfl | (simp; done) | omega | (refine intEq ?_; first | omega | (simp; done) | (simp; omega)) | (simp; omega))) (.cons (.of_eq (by first | rfl | (simp; done) | omega | (refine intEq ?_; first | omega | (simp; done) | (simp; omega)) | (simp; omega))) (.cons (.of_eq (by first | rfl | (simp; done) | omega | (refine intEq ?_; first | omega | (simp; done) | (simp; omega)) | (simp; omega))) (.cons (.of_eq (by first | rfl | (simp; done) | omega | (refine intEq ?_; first | omega | (simp; done) | (simp; omega)) | (simp; omega))) (.cons (.of_eq (by first | rfl | (simp; done) | omega | (refine intEq ?_; first | omega | (simp; done) | (simp; omega)) | (simp; omega))) (.cons (.of_eq (by first | rfl | (simp; done) | omega | (refine intEq ?_; first | omega | (simp; done) | (simp; omega)) | (simp; omega))) .nil))))))))) .nil (hK13 hi13 () H)
          · have H := H2 (by have := of_decide_eq_false hb14; omega)
            refine W.exit ?_
            refine At.xthen ?_
            refine At.xthen ?_
            refine At.xhere ?_
            refine At.inb ?_
            refine At.thenC ?_
            refine W.region env [] [] rfl rfl rfl (.cons (by unfold inI; have := hn11; (try unfold maxLen at this); omega) .nil) .nil (At.keep (ts := [0, 7, 53, 54, 58, 59]) (ids := []) rfl rfl ?_)
            refine At.thenK (At.keep (ts := [0, 7, 53, 54, 58, 59]) (ids := []) rfl rfl ?_)
            exact At.conv (.cons (.of_eq (by first | rfl | (simp; done) | omega | (simp; omega))) (.cons (.of_eq (by first | rfl | (simp; done) | omega | (refine intEq ?_; first | omega | (simp; done) | (simp; omega)) | (simp; omega))) (.cons (.of_eq (by first | rfl | (simp; done) | omega | (refine intEq ?_; first | omega | (simp; done) | (simp; omega)) | (simp; omega))) (.cons (.of_eq (by first | rfl | (simp; done) | omega | (refine intEq ?_; first | omega | (simp; done) | (simp; omega)) | (simp; omega))) (.cons (.of_eq (by first | rfl | (simp; done) | omega | (refine intEq ?_; first | omega | (simp; done) | (simp; omega)) | (simp; omega))) (.cons (.of_eq (by first | rfl | (simp; done) | omega | (refine intEq ?_; first | omega | (simp; done) | (simp; omega)) | (simp; omega))) .nil)))))) .nil (hK11 hi11 () H)
        · have H := H2 (by have := of_decide_eq_false hb12; omega)
          refine W.exit ?_
          refine At.xthen ?_
          refine At.xthen ?_
          refine At.xhere ?_
          refine At.inb ?_
          refine At.thenC ?_
          refine W.region env [] [] rfl rfl rfl (.cons (by unfold inI; have := hn9; (try unfold maxLen at this); omega) .nil) .nil (At.keep (ts := [0, 53, 54]) (ids := []) rfl rfl ?_)
          refine At.thenK (At.keep (ts := [0, 53, 54]) (ids := []) rfl rfl ?_)
          exact At.conv (.cons (.of_eq (by first | rfl | (simp; done) | omega | (simp; omega))) (.cons (.of_eq (by first | rfl | (simp; done) | omega | (refine intEq ?_; first | omega | (simp; done) | (simp; omega)) | (simp; omega))) (.cons (.of_eq (by first | rfl | (simp; done) | omega | (refine intEq ?_; first | omega | (simp; done) | (simp; omega)) | (simp; omega))) .nil))) .nil (hK9 hi9 () H)
      · have H := H2 (by have := of_decide_eq_false hb10; omega)
        refine W.exit ?_
        refine At.xthen ?_
        refine At.xthen ?_
        refine At.xhere ?_
        refine At.thenC ?_
        refine W.seq ?_
        refine W.region env [] [] rfl rfl rfl .nil .nil (At.keep (ts := [2]) (ids := []) rfl rfl ?_)
        refine At.thenC ?_
        refine W.ret ?_
        cases H
        exact At.ret env.ty rfl rfl (fun q hq => by cases hq) (.refl _) hval

theorem c_crew_isMinute (p0 : Int) : Ctr Try.prog 82 [.int .i64 (p0)] (.bool ((crew_isMinute p0))) := by
  obtain ⟨r, H⟩ : ∃ r, crew_isMinute p0 = r := ⟨_, rfl⟩
  rw [H]
  unfold crew_isMinute at H
  refine Ctr.of_body (N := 5) Try.func82 (by kernel_rfl) (c := _) rfl Try.ntmps82 rfl (fun w0 h0 hval => ?_)
  refine W.seq ?_
  refine W.region env [] [] rfl rfl rfl .nil .nil (At.keep (ts := [0]) (ids := []) rfl rfl ?_)
  refine At.thenC ?_
  refine W.seq ?_
  refine W.region env [] [⟨.bool ((crew_in p0 0 1439)), [], 0, []⟩] rfl rfl rfl .nil (.free (c_crew_in p0 0 1439) .nil) (At.keep (ts := [2]) (ids := []) rfl rfl ?_)
  refine At.thenC ?_
  refine W.ret ?_
  cases H
  exact At.ret env.ty rfl rfl (fun q hq => by cases hq) (.refl _) hval

theorem c_crew_CheckTask (p0 : Task) : Ctr Try.prog 56 [.agg [.int .i64 (p0.Lamp), .int .i64 (p0.Place), .int .i64 (p0.At), .int .i64 (p0.Serve)]] (.int .i64 ((crew_CheckTask p0))) := by
  obtain ⟨r, H⟩ : ∃ r, crew_CheckTask p0 = r := ⟨_, rfl⟩
  rw [H]
  unfold crew_CheckTask at H
  refine Ctr.of_body (N := 25) Try.func56 (by kernel_rfl) (c := _) rfl Try.ntmps56 rfl (fun w0 h0 hval => ?_)
  refine W.seq ?_
  refine W.region env [] [] rfl rfl rfl .nil .nil (At.keep (ts := [1]) (ids := [1]) rfl rfl ?_)
  refine At.thenC ?_
  refine W.seq ?_
  refine W.seq ?_
  refine W.region env [] [⟨.bool ((crew_in p0.Lamp 1 999)), [], 0, []⟩, ⟨.bool ((crew_in p0.Place 0 11)), [], 0, []⟩, ⟨.bool ((crew_isMinute p0.At)), [], 0, []⟩, ⟨.bool ((crew_in p0.Serve 1 120)), [], 0, []⟩] rfl rfl rfl (.cons (fun h => h) (.cons (fun h => h) (.cons (fun h => h) (.cons (fun h => by rw [h]; rfl) (.cons (fun h => h) (.cons (fun h => h) (.cons (fun h => h) (.cons (fun h => by rw [h]; rfl) (.cons (fun h => h) (.cons (fun h => h) (.cons (fun h => h) (.cons (fun h => by rw [h]; rfl) .nil)))))))))))) (.free (c_crew_in p0.Lamp 1 999) (.on (fun hW => c_crew_in p0.Place 0 11) (.on (fun hW => c_crew_isMinute p0.At) (.on (fun hW => c_crew_in p0.Serve 1 120) .nil)))) (At.keep (ts := [24]) (ids := []) rfl rfl ?_)
  refine At.thenC ?_
  refine W.cond rfl (fun hb1 => ?_) (fun hb1 => ?_)
  · have H := of_true H hb1
    refine W.seq ?_
    refine W.region env [] [] rfl rfl rfl .nil .nil (At.keep (ts := [2]) (ids := []) rfl rfl ?_)
    refine At.thenC ?_
    refine W.ret ?_
    refine At.rthen ?_
    cases H
    exact At.ret env.ty rfl rfl (fun q hq => by cases hq) (.refl _) hval
  · have H := of_false H hb1
    refine W.skip ?_
    refine At.thenC ?_
    refine W.seq ?_
    refine W.region env [] [] rfl rfl rfl .nil .nil (At.keep (ts := [2]) (ids := []) rfl rfl ?_)
    refine At.thenC ?_
    refine W.ret ?_
    cases H
    exact At.ret env.ty rfl rfl (fun q hq => by cases hq) (.refl _) hval

theorem c_crew_CheckHand (p0 : Hand) : Ctr Try.prog 57 [.agg [.int .i64 (p0.Id), .int .i64 (p0.From), .int .i64 (p0.To)]] (.int .i64 ((crew_CheckHand p0))) := by
  obtain ⟨r, H⟩ : ∃ r, crew_CheckHand p0 = r := ⟨_, rfl⟩
  rw [H]
  unfold crew_CheckHand at H
  refine Ctr.of_body (N := 21) Try.func57 (by kernel_rfl) (c := _) rfl Try.ntmps57 rfl (fun w0 h0 hval => ?_)
  refine W.seq ?_
  refine W.region env [] [] rfl rfl rfl .nil .nil (At.keep (ts := [1]) (ids := [1]) rfl rfl ?_)
  refine At.thenC ?_
  refine W.seq ?_
  refine W.seq ?_
  refine W.region env [] [⟨.bool ((crew_in p0.Id 1 99)), [], 0, []⟩, ⟨.bool ((crew_isMinute p0.From)), [], 0, []⟩, ⟨.bool ((crew_in p0.To p0.From 1439)), [], 0, []⟩] rfl rfl rfl (.cons (fun h => h) (.cons (fun h => h) (.cons (fun h => h) (.cons (fun h => by rw [h]; rfl) (.cons (fun h => h) (.cons (fun h => h) (.cons (fun h => h) (.cons (fun h => h) (.cons (fun h => h) (.cons (fun h => by rw [h]; rfl) .nil)))))))))) (.free (c_crew_in p0.Id 1 99) (.on (fun hW => c_crew_isMinute p0.From) (.on (fun hW => c_crew_in p0.To p0.From 1439) .nil))) (At.keep (ts := [20]) (ids := []) rfl rfl ?_)
  refine At.thenC ?_
  refine W.cond rfl (fun hb1 => ?_) (fun hb1 => ?_)
  · have H := of_true H hb1
    refine W.seq ?_
    refine W.region env [] [] rfl rfl rfl .nil .nil (At.keep (ts := [2]) (ids := []) rfl rfl ?_)
    refine At.thenC ?_
    refine W.ret ?_
    refine At.rthen ?_
    cases H
    exact At.ret env.ty rfl rfl (fun q hq => by cases hq) (.refl _) hval
  · have H := of_false H hb1
    refine W.skip ?_
    refine At.thenC ?_
    refine W.seq ?_
    refine W.region env [] [] rfl rfl rfl .nil .nil (At.keep (ts := [2]) (ids := []) rfl rfl ?_)
    refine At.thenC ?_
    refine W.ret ?_
    cases H
    exact At.ret env.ty rfl rfl (fun q hq => by cases hq) (.refl _) hval

theorem c_crew_Check (p0 : Crew) {r : Int} (H : crew_Check p0 = some r) : Ctr Try.prog 16 [.agg [roL 4 enc_Task p0.Tasks, roL 1 enc_ListRange p0.Travel, roL 3 enc_Hand p0.Hands]] (.int .i64 (r)) := by
  unfold crew_Check at H
  refine Ctr.of_body (N := 87) Try.func16 (by kernel_rfl) (c := _) rfl Try.ntmps16 rfl (fun w0 h0 hval => ?_)
  refine W.seq ?_
  refine W.region env [] [] rfl rfl rfl .nil .nil (At.keep (ts := [1]) (ids := [1]) rfl rfl ?_)
  refine At.thenC ?_
  refine W.seq ?_
  refine W.seq ?_
  obtain ⟨y1, hy2, H⟩ := of_bindO H
  refine W.region env [] [⟨.bool (y1), [], 0, []⟩] rfl rfl rfl (.cons (fun h => h) (.cons (fun h => h) (.cons (fun h => h) (.cons (fun h => by rw [h]; rfl) (.cons (fun h => h) (.cons (fun h => h) (.cons (fun h => h) (.cons (fun h => by rw [h]; rfl) .nil)))))))) (.on (fun hW => c_crew_isTravel p0.Travel (of_true hy2 hW)) .nil) (At.keep (ts := [1, 22]) (ids := [1]) rfl rfl ?_)
  refine At.thenC ?_
  refine W.cond rfl (fun hb3 => ?_) (fun hb3 => ?_)
  · have H := of_true H hb3
    refine W.seq ?_
    refine W.region env [] [] rfl rfl rfl .nil .nil (At.keep (ts := [2]) (ids := []) rfl rfl ?_)
    refine At.thenC ?_
    refine W.ret ?_
    refine At.rthen ?_
    cases H
    exact At.ret env.ty rfl rfl (fun q hq => by cases hq) (.refl _) hval
  · have H := of_false H hb3
    refine W.skip ?_
    refine At.thenC ?_
    refine W.seq ?_
    refine W.seq ?_
    refine W.region env [] [] rfl rfl rfl .nil .nil (At.keep (ts := [1, 24, 25, 26]) (ids := [1]) rfl rfl ?_)
    refine At.thenC ?_
    refine W.block ?_
    refine At.keep (ts := [1, 24, 25, 26]) (ids := [1]) rfl rfl ?_
    refine W.len (t := 24) rfl (fun (hn4 : p0.Tasks.length ≤ maxLen) => ?_)
    refine W.rangeGo H (fun i4 (s4 : Unit) => [(1, .lp 1 0), (24, roL 4 enc_Task p0.Tasks), (25, .int .i64 (((p0.Tasks.length : Nat) : Int))), (26, .int .i64 ((i4 : Int)))]) (fun i4 (s4 : Unit) => [(1, .cells [roL 4 enc_Task p0.Tasks, roL 1 enc_ListRange p0.Travel, roL 3 enc_Hand p0.Hands])]) (.cons (.of_eq (by first | rfl | (simp; done) | omega | (simp; omega))) (.cons (.of_eq (by first | rfl | (simp; done) | omega | (simp; omega))) (.cons (.of_eq (by first | rfl | (simp; done) | omega | (refine intEq ?_; first | omega | (simp; done) | (simp; omega)) | (simp; omega))) (.cons (.of_eq (by first | rfl | (simp; done) | omega | (refine intEq ?_; first | omega | (simp; done) | (simp; omega)) | (simp; omega))) .nil)))) (.cons (.of_eq (by first | rfl | (simp; done) | omega | (simp; omega))) .nil) (fun k4 i4 s4 hle4 H1 H2 K0 hK4 => ?_)
    refine W.seq ?_
    refine W.region env [] [] rfl rfl rfl .nil .nil (At.keep (ts := [1, 24, 25, 26, 27]) (ids := [1]) rfl rfl ?_)
    refine At.thenC ?_
    refine W.seq ?_
    refine W.cond rfl (fun hb5 => ?_) (fun hb5 => ?_)
    · have hi4 : i4 < p0.Tasks.length := by have := of_decide_eq_true hb5; omega
      have H := H1 hi4
      refine W.skip ?_
      refine At.thenC ?_
      refine W.seq ?_
      refine W.block ?_
      refine W.seq ?_
      refine W.region env [] [] rfl rfl rfl (.cons (⟨by omega, by omega⟩ : 0 ≤ (i4 : Int) ∧ (i4 : Int) < ((p0.Tasks.length : Nat) : Int)) .nil) .nil (At.keep (ts := [1, 3, 4, 24, 25, 26]) (ids := [1, 4]) rfl rfl ?_)
      refine At.thenC ?_
      refine W.seq ?_
      obtain ⟨hc6, H⟩ := of_must H
      obtain ⟨hc7, H⟩ := of_must H
      refine W.region env [] [⟨.int .i64 ((crew_CheckTask (p0.Tasks.getD i4 default))), [], 0, []⟩] rfl rfl (by kernel_rfl) (.cons (fun h => h) (.cons (fun h => h) (.cons (fun h => h) (.cons (fun h => h) (.cons (fun h => h) (.cons (fun h => by rw [h]; rfl) (.cons (fun h => h) (.cons (fun h => h) (.cons (fun h => h) (.cons hc6 (.cons (fun h => h) (.cons hc7 (.cons (fun h => h) (.cons (fun h => h) (.cons (fun h => h) (.cons (fun h => h) (.cons (fun h => h) (.cons (fun h => h) (.cons (fun h => h) (.cons (fun h => h) (.cons (fun hW h => by revert hW h; first | (simp +contextual; done) | grind) (.cons (fun h => by rw [h]; rfl) .nil)))))))))))))))))))))) (.free (c_crew_CheckTask (p0.Tasks.getD i4 default)) .nil) (At.keep (ts := [1, 24, 25, 26, 57]) (ids := [1]) rfl rfl ?_)
      refine At.thenC ?_
      refine W.cond rfl (fun hb8 => ?_) (fun hb8 => ?_)
      · have H := of_true H hb8
        refine W.seq ?_
        refine W.region env [] [] rfl rfl rfl .nil .nil (At.keep (ts := [2]) (ids := []) rfl rfl ?_)
        refine At.thenC ?_
        refine W.ret ?_
        refine At.rinb ?_
        refine At.rthen ?_
        refine At.rthen ?_
        refine At.rinb ?_
        refine At.rthen ?_
        cases H
        exact At.ret env.ty rfl rfl (fun q hq => by cases hq) (.refl _) hval
      · have H := of_false H hb8
        refine W.skip ?_
        refine At.inb ?_
        refine At.thenC ?_
        refine W.region env [] [] rfl rfl rfl (.cons (by unfold inI; have := hn4; (try unfold maxLen at this); omega) .nil) .nil (At.keep (ts := [1, 24, 25, 26]) (ids := [1]) rfl rfl ?_)
        refine At.thenK (At.keep (ts := [1, 24, 25, 26]) (ids := [1]) rfl rfl ?_)
        exact At.conv (.cons (.of_eq (by first | rfl | (simp; done) | omega | (simp; omega))) (.cons (.of_eq (by first | rfl | (simp; done) | omega | (simp; omega))) (.cons (.of_eq (by first | rfl | (simp; done) | omega | (refine intEq ?_; first | omega | (simp; done) | (simp; omega)) | (simp; omega))) (.cons (.of_eq (by first | rfl | (simp; done) | omega | (refine intEq ?_; first | omega | (simp; done) | (simp; omega)) | (simp; omega))) .nil)))) (.cons (.of_eq (by first | rfl | (simp; done) | omega | (simp; omega))) .nil) (hK4 hi4 () H)
    · have H := H2 (by have := of_decide_eq_false hb5; omega)
      refine W.exit ?_
      refine At.xthen ?_
      refine At.xthen ?_
      refine At.xhere ?_
      refine At.thenC ?_
      refine W.seq ?_
      refine W.seq ?_
      refine W.region env [] [] rfl rfl rfl .nil .nil (At.keep (ts := [1, 60, 61, 62]) (ids := [1]) rfl rfl ?_)
      refine At.thenC ?_
      refine W.block ?_
      refine At.keep (ts := [1, 60, 61, 62]) (ids := [1]) rfl rfl ?_
      refine W.len (t := 60) rfl (fun (hn9 : p0.Hands.length ≤ maxLen) => ?_)
      refine W.rangeGo H (fun i9 (s9 : Unit) => [(1, .lp 1 0), (60, roL 3 enc_Hand p0.Hands), (61, .int .i64 (((p0.Hands.length : Nat) : Int))), (62, .int .i64 ((i9 : Int)))]) (fun i9 (s9 : Unit) => [(1, .cells [roL 4 enc_Task p0.Tasks, roL 1 enc_ListRange p0.Travel, roL 3 enc_Hand p0.Hands])]) (.cons (.of_eq (by first | rfl | (simp; done) | omega | (simp; omega))) (.cons (.of_eq (by first | rfl | (simp; done) | omega | (simp; omega))) (.cons (.of_eq (by first | rfl | (simp; done) | omega | (refine intEq ?_; first | omega | (simp; done) | (simp; omega)) | (simp; omega))) (.cons (.of_eq (by first | rfl | (simp; done) | omega | (refine intEq ?_; first | omega | (simp; done) | (simp; omega)) | (simp; omega))) .nil)))) (.cons (.of_eq (by first | rfl | (simp; done) | omega | (simp; omega))) .nil) (fun k9 i9 s9 hle9 H1 H2 K0 hK9 => ?_)
      refine W.seq ?_
      refine W.region env [] [] rfl rfl rfl .nil .nil (At.keep (ts := [1, 60, 61, 62, 63]) (ids := [1]) rfl rfl ?_)
      refine At.thenC ?_
      refine W.seq ?_
      refine W.cond rfl (fun hb10 => ?_) (fun hb10 => ?_)
      · have hi9 : i9 < p0.Hands.length := by have := of_decide_eq_true hb10; omega
        have H := H1 hi9
        refine W.skip ?_
        refine At.thenC ?_
        refine W.seq ?_
        refine W.block ?_
        refine W.seq ?_
        refine W.region env [] [] rfl rfl rfl (.cons (⟨by omega, by omega⟩ : 0 ≤ (i9 : Int) ∧ (i9 : Int) < ((p0.Hands.length : Nat) : Int)) .nil) .nil (At.keep (ts := [1, 5, 6, 60, 61, 62]) (ids := [1, 6]) rfl rfl ?_)
        refine At.thenC ?_
        refine W.seq ?_
        obtain ⟨hc11, H⟩ := of_must H
        obtain ⟨hc12, H⟩ := of_must H
        refine W.region env [] [⟨.int .i64 ((crew_CheckHand (p0.Hands.getD i9 default))), [], 0, []⟩] rfl rfl (by kernel_rfl) (.cons (fun h => h) (.cons (fun h => h) (.cons (fun h => h) (.cons hc11 (.cons (fun h => h) (.cons hc12 (.cons (fun h => h) (.cons (fun h => h) (.cons (fun h => h) (.cons (fun h => h) (.cons (fun h => h) (.cons (fun h => h) (.cons (fun h => h) (.cons (fun h => h) (.cons (fun hW h => by revert hW h; first | (simp +contextual; done) | grind) (.cons (fun h => by rw [h]; rfl) .nil)))))))))))))))) (.free (c_crew_CheckHand (p0.Hands.getD i9 default)) .nil) (At.keep (ts := [1, 60, 61, 62, 85]) (ids := [1]) rfl rfl ?_)
        refine At.thenC ?_
        refine W.cond rfl (fun hb13 => ?_) (fun hb13 => ?_)
        · have H := of_true H hb13
          refine W.seq ?_
          refine W.region env [] [] rfl rfl rfl .nil .nil (At.keep (ts := [2]) (ids := []) rfl rfl ?_)
          refine At.thenC ?_
          refine W.ret ?_
          refine At.rinb ?_
          refine At.rthen ?_
          refine At.rthen ?_
          refine At.rinb ?_
          refine At.rthen ?_
          cases H
          exact At.ret env.ty rfl rfl (fun q hq => by cases hq) (.refl _) hval
        · have H := of_false H hb13
          refine W.skip ?_
          refine At.inb ?_
          refine At.thenC ?_
          refine W.region env [] [] rfl rfl rfl (.cons (by unfold inI; have := hn9; (try unfold maxLen at this); omega) .nil) .nil (At.keep (ts := [1, 60, 61, 62]) (ids := [1]) rfl rfl ?_)
          refine At.thenK (At.keep (ts := [1, 60, 61, 62]) (ids := [1]) rfl rfl ?_)
          exact At.conv (.cons (.of_eq (by first | rfl | (simp; done) | omega | (simp; omega))) (.cons (.of_eq (by first | rfl | (simp; done) | omega | (simp; omega))) (.cons (.of_eq (by first | rfl | (simp; done) | omega | (refine intEq ?_; first | omega | (simp; done) | (simp; omega)) | (simp; omega))) (.cons (.of_eq (by first | rfl | (simp; done) | omega | (refine intEq ?_; first | omega | (simp; done) | (simp; omega)) | (simp; omega))) .nil)))) (.cons (.of_eq (by first | rfl | (simp; done) | omega | (simp; omega))) .nil) (hK9 hi9 () H)
      · have H := H2 (by have := of_decide_eq_false hb10; omega)
        refine W.exit ?_
        refine At.xthen ?_
        refine At.xthen ?_
        refine At.xhere ?_
        refine At.thenC ?_
        refine W.seq ?_
        refine W.region env [] [] rfl rfl rfl .nil .nil (At.keep (ts := [2]) (ids := []) rfl rfl ?_)
        refine At.thenC ?_
        refine W.ret ?_
        cases H
        exact At.ret env.ty rfl rfl (fun q hq => by cases hq) (.refl _) hval

theorem c_gasolierlaw04_team  : Ctr Try.prog 51 [] (.agg [roL 4 enc_Task ((gasolierlaw04_team).Tasks), roL 1 enc_ListRange ((gasolierlaw04_team).Travel), roL 3 enc_Hand ((gasolierlaw04_team).Hands)]) := by
  obtain ⟨r, H⟩ : ∃ r, gasolierlaw04_team = r := ⟨_, rfl⟩
  rw [H]
  unfold gasolierlaw04_team at H
  refine Ctr.of_body (N := 17) Try.func51 (by kernel_rfl) (c := _) rfl Try.ntmps51 rfl (fun w0 h0 hval => ?_)
  refine W.seq ?_
  refine W.region env [] [] rfl rfl rfl .nil .nil (At.keep (ts := [0]) (ids := [0]) rfl rfl ?_)
  refine At.thenC ?_
  refine W.seq ?_
  refine W.region env [] [] rfl rfl rfl .nil .nil (At.keep (ts := [0]) (ids := [0]) rfl rfl ?_)
  refine At.thenC ?_
  refine W.ret ?_
  cases H
  exact At.ret env.ty rfl rfl (fun q hq => by cases hq) (Sim.aggL (.cons (Sim.lit (f := enc_Task) ([(⟨1, 0, 300, 2⟩ : Task), (⟨2, 1, 320, 2⟩ : Task), (⟨3, 0, 325, 2⟩ : Task), (⟨4, 1, 350, 2⟩ : Task)] : List Task) rfl rfl (fun _ => rfl)) (.cons (Sim.lit2 (f := enc_ListRange) ([([(⟨0, 0⟩ : Range), (⟨10, 20⟩ : Range)] : List Range), ([(⟨10, 20⟩ : Range), (⟨0, 0⟩ : Range)] : List Range)] : List (List Range)) (.cons (Sim.lit (f := enc_Range) ([(⟨0, 0⟩ : Range), (⟨10, 20⟩ : Range)] : List Range) rfl rfl (fun _ => rfl)) (.cons (Sim.lit (f := enc_Range) ([(⟨10, 20⟩ : Range), (⟨0, 0⟩ : Range)] : List Range) rfl rfl (fun _ => rfl)) .nil)) rfl rfl (fun _ => rfl)) (.cons (Sim.lit (f := enc_Hand) ([(⟨7, 290, 400⟩ : Hand), (⟨8, 310, 330⟩ : Hand)] : List Hand) rfl rfl (fun _ => rfl)) .nil)))) hval

theorem c_crew_spare (p0 : Crew) (p1 : Int) (p2 : Int) (p3 : Range → Option Int) (p3_g : Nat) (p3_a p3_b : List AV) (p3_h : ∀ x0 r, p3 x0 = some r → Ctr Try.prog p3_g (p3_a ++ ([.agg [.int .i64 (x0.Lo), .int .i64 (x0.Hi)]] ++ p3_b)) (.int .i64 (r))) {r : Int} (H : crew_spare p0 p1 p2 p3 = some r) : Ctr Try.prog 45 [.agg [roL 4 enc_Task p0.Tasks, roL 1 enc_ListRange p0.Travel, roL 3 enc_Hand p0.Hands], .int .i64 (p1), .int .i64 (p2), .clo (.func p3_g) p3_a p3_b] (.int .i64 (r)) := by
  unfold crew_spare at H
  refine Ctr.of_body (N := 42) Try.func45 (by kernel_rfl) (c := _) rfl Try.ntmps45 rfl (fun w0 h0 hval => ?_)
  refine W.seq ?_
  refine W.region env [] [] rfl rfl rfl .nil .nil (At.keep (ts := [1, 2, 3, 4]) (ids := [4]) rfl rfl ?_)
  refine At.thenC ?_
  refine W.seq ?_
  obtain ⟨hc1, H⟩ := of_must H
  obtain ⟨hc2, H⟩ := of_must H
  refine W.region env [] [] rfl rfl (by first | rfl | kernel_rfl) (.cons hc1 (.cons hc2 .nil)) .nil (At.keep (ts := [3, 4, 9, 10]) (ids := [4, 9, 10]) rfl rfl ?_)
  refine At.thenC ?_
  refine W.seq ?_
  obtain ⟨hc3, H⟩ := of_must H
  obtain ⟨hc4, H⟩ := of_must H
  obtain ⟨hc5, H⟩ := of_must H
  obtain ⟨hc6, H⟩ := of_must H
  obtain ⟨y7, hy8, H⟩ := of_bindO H
  obtain ⟨hc9, H⟩ := of_must H
  refine W.region env [] [⟨.int .i64 (y7), [], 0, []⟩] rfl rfl (by kernel_rfl) (.cons hc3 (.cons hc4 (.cons hc5 (.cons hc6 (.cons hc9 .nil))))) (.free (p3_h ((p0.Travel.getD ((p0.Tasks.getD (p1).toNat default).Place).toNat default).getD ((p0.Tasks.getD (p2).toNat default).Place).toNat default) _ hy8) .nil) (At.keep (ts := [8]) (ids := []) rfl rfl ?_)
  refine At.thenC ?_
  refine W.ret ?_
  cases H
  exact At.ret env.ty rfl rfl (fun q hq => by cases hq) (.refl _) hval

theorem c_crew_least (p0 : Range) : Ctr Try.prog 63 [.agg [.int .i64 (p0.Lo), .int .i64 (p0.Hi)]] (.int .i64 ((crew_least p0))) := by
  obtain ⟨r, H⟩ : ∃ r, crew_least p0 = r := ⟨_, rfl⟩
  rw [H]
  unfold crew_least at H
  refine Ctr.of_body (N := 5) Try.func63 (by kernel_rfl) (c := _) rfl Try.ntmps63 rfl (fun w0 h0 hval => ?_)
  refine W.seq ?_
  refine W.region env [] [] rfl rfl rfl .nil .nil (At.keep (ts := [1]) (ids := [1]) rfl rfl ?_)
  refine At.thenC ?_
  refine W.seq ?_
  refine W.region env [] [] rfl rfl rfl .nil .nil (At.keep (ts := [2]) (ids := []) rfl rfl ?_)
  refine At.thenC ?_
  refine W.ret ?_
  cases H
  exact At.ret env.ty rfl rfl (fun q hq => by cases hq) (.refl _) hval

theorem c_crew_most (p0 : Range) : Ctr Try.prog 46 [.agg [.int .i64 (p0.Lo), .int .i64 (p0.Hi)]] (.int .i64 ((crew_most p0))) := by
  obtain ⟨r, H⟩ : ∃ r, crew_most p0 = r := ⟨_, rfl⟩
  rw [H]
  unfold crew_most at H
  refine Ctr.of_body (N := 5) Try.func46 (by kernel_rfl) (c := _) rfl Try.ntmps46 rfl (fun w0 h0 hval => ?_)
  refine W.seq ?_
  refine W.region env [] [] rfl rfl rfl .nil .nil (At.keep (ts := [1]) (ids := [1]) rfl rfl ?_)
  refine At.thenC ?_
  refine W.seq ?_
  refine W.region env [] [] rfl rfl rfl .nil .nil (At.keep (ts := [2]) (ids := []) rfl rfl ?_)
  refine At.thenC ?_
  refine W.ret ?_
  cases H
  exact At.ret env.ty rfl rfl (fun q hq => by cases hq) (.refl _) hval

theorem c_crew_Follows (p0 : Crew) (p1 : Int) (p2 : Int) {r : (Int × Int)} (H : crew_Follows p0 p1 p2 = some r) : Ctr Try.prog 20 [.agg [roL 4 enc_Task p0.Tasks, roL 1 enc_ListRange p0.Travel, roL 3 enc_Hand p0.Hands], .int .i64 (p1), .int .i64 (p2)] (.tup [.int .i64 (r.1), .int .i64 (r.2)]) := by
  unfold crew_Follows at H
  refine Ctr.of_body (N := 49) Try.func20 (by kernel_rfl) (c := _) rfl Try.ntmps20 rfl (fun w0 h0 hval => ?_)
  refine W.seq ?_
  refine W.region env [] [] rfl rfl rfl .nil .nil (At.keep (ts := [1, 2, 3]) (ids := [3]) rfl rfl ?_)
  refine At.thenC ?_
  refine W.seq ?_
  obtain ⟨y1, hy2, H⟩ := of_bindO H
  refine W.region env [] [⟨.int .i64 (y1), [], 0, []⟩] rfl rfl rfl .nil (.free (c_crew_Check p0 hy2) .nil) (At.keep (ts := [1, 2, 3, 8]) (ids := [3]) rfl rfl ?_)
  refine At.thenC ?_
  refine W.seq ?_
  refine W.block ?_
  refine W.seq ?_
  refine W.region env [] [] rfl rfl rfl .nil .nil (At.keep (ts := [1, 2, 3, 8, 11]) (ids := [3]) rfl rfl ?_)
  refine At.thenC ?_
  refine W.cond rfl (fun hb3 => ?_) (fun hb3 => ?_)
  · have H := of_true H hb3
    refine W.seq ?_
    refine W.region env [] [] rfl rfl rfl .nil .nil (At.keep (ts := [6, 7]) (ids := []) rfl rfl ?_)
    refine At.thenC ?_
    refine W.ret ?_
    refine At.rinb ?_
    refine At.rthen ?_
    cases H
    exact At.ret env.ty rfl rfl (fun q hq => by cases hq) (.refl _) hval
  · have H := of_false H hb3
    refine W.seq ?_
    obtain ⟨hc4, H⟩ := of_must H
    obtain ⟨hc5, H⟩ := of_must H
    refine W.region env [] [⟨.bool ((crew_in p1 0 (((p0.Tasks.length : Nat) : Int) - 1))), [], 0, []⟩, ⟨.bool ((crew_in p2 0 (((p0.Tasks.length : Nat) : Int) - 1))), [], 0, []⟩] rfl rfl rfl (.cons hc4 (.cons (fun h => h) (.cons (fun h => h) (.cons hc5 (.cons (fun h => h) (.cons (fun h => h) (.cons (fun h => h) (.cons (fun h => h) (.cons (fun h => by rw [h]; rfl) .nil))))))))) (.free (c_crew_in p1 0 (((p0.Tasks.length : Nat) : Int) - 1)) (.on (fun hW => c_crew_in p2 0 (((p0.Tasks.length : Nat) : Int) - 1)) .nil)) (At.keep (ts := [1, 2, 3, 15]) (ids := [3]) rfl rfl ?_)
    refine At.thenC ?_
    refine W.cond rfl (fun hb6 => ?_) (fun hb6 => ?_)
    · have H := of_true H hb6
      refine W.seq ?_
      refine W.region env [] [] rfl rfl rfl .nil .nil (At.keep (ts := [6, 7]) (ids := []) rfl rfl ?_)
      refine At.thenC ?_
      refine W.ret ?_
      refine At.rinb ?_
      refine At.rthen ?_
      cases H
      exact At.ret env.ty rfl rfl (fun q hq => by cases hq) (.refl _) hval
    · have H := of_false H hb6
      refine W.seq ?_
      obtain ⟨y7, hy8, H⟩ := of_bindO H
      refine W.region env [] [⟨.int .i64 (y7), [], 0, []⟩] rfl rfl rfl (.cons (fun h => h) (.cons (fun h => h) (.cons (fun h => h) (.cons (fun h => h) (.cons (fun h => by rw [h]; rfl) .nil))))) (.on (fun hW => c_crew_spare p0 p1 p2 (fun x0 => some (crew_least x0)) 63 [] [] (fun x0 r h => by cases h; exact c_crew_least x0) (of_true hy8 hW)) .nil) (At.keep (ts := [1, 2, 3, 32]) (ids := [3]) rfl rfl ?_)
      refine At.thenC ?_
      refine W.cond rfl (fun hb9 => ?_) (fun hb9 => ?_)
      · have H := of_true H hb9
        refine W.seq ?_
        refine W.region env [] [] rfl rfl rfl .nil .nil (At.keep (ts := [6, 7]) (ids := []) rfl rfl ?_)
        refine At.thenC ?_
        refine W.ret ?_
        refine At.rinb ?_
        refine At.rthen ?_
        cases H
        exact At.ret env.ty rfl rfl (fun q hq => by cases hq) (.refl _) hval
      · have H := of_false H hb9
        refine W.seq ?_
        obtain ⟨y10, hy11, H⟩ := of_bindO H
        refine W.region env [] [⟨.int .i64 (y10), [], 0, []⟩] rfl rfl rfl .nil (.free (c_crew_spare p0 p1 p2 (fun x0 => some (crew_most x0)) 46 [] [] (fun x0 r h => by cases h; exact c_crew_most x0) hy11) .nil) (At.keep (ts := [43]) (ids := []) rfl rfl ?_)
        refine At.thenC ?_
        refine W.cond rfl (fun hb12 => ?_) (fun hb12 => ?_)
        · have H := of_true H hb12
          refine W.seq ?_
          refine W.region env [] [] rfl rfl rfl .nil .nil (At.keep (ts := [6, 7]) (ids := []) rfl rfl ?_)
          refine At.thenC ?_
          refine W.ret ?_
          refine At.rinb ?_
          refine At.rthen ?_
          cases H
          exact At.ret env.ty rfl rfl (fun q hq => by cases hq) (.refl _) hval
        · have H := of_false H hb12
          refine W.skip ?_
          refine At.inb ?_
          refine At.thenC ?_
          refine W.seq ?_
          refine W.region env [] [] rfl rfl rfl .nil .nil (At.keep (ts := [6, 7]) (ids := []) rfl rfl ?_)
          refine At.thenC ?_
          refine W.ret ?_
          cases H
          exact At.ret env.ty rfl rfl (fun q hq => by cases hq) (.refl _) hval

theorem c_crew_newPlan (p0 : Crew) (p1 : Range → Option Int) (p1_g : Nat) (p1_a p1_b : List AV) (p1_h : ∀ x0 r, p1 x0 = some r → Ctr Try.prog p1_g (p1_a ++ ([.agg [.int .i64 (x0.Lo), .int .i64 (x0.Hi)]] ++ p1_b)) (.int .i64 (r))) {r : (Option crew_plan)} (H : crew_newPlan p0 p1 = some r) : Ctr Try.prog 58 [.agg [roL 4 enc_Task p0.Tasks, roL 1 enc_ListRange p0.Travel, roL 3 enc_Hand p0.Hands], .clo (.func p1_g) p1_a p1_b] (.po r.isSome [roL 4 enc_Task ((r.getD default).Crew.Tasks), roL 1 enc_ListRange ((r.getD default).Crew.Travel), roL 3 enc_Hand ((r.getD default).Crew.Hands), roL 1 enc_Int ((r.getD default).next)]) := by
  unfold crew_newPlan at H
  refine Ctr.of_body (N := 52) Try.func58 (by kernel_rfl) (c := _) rfl Try.ntmps58 rfl (fun w0 h0 hval => ?_)
  refine W.seq ?_
  refine W.region env [] [] rfl rfl rfl .nil .nil (At.keep (ts := [1, 2]) (ids := [2]) rfl rfl ?_)
  refine At.thenC ?_
  refine W.seq ?_
  obtain ⟨hc1, H⟩ := of_must H
  refine W.region env [] [] rfl rfl (by first | rfl | kernel_rfl) (.cons hc1 .nil) .nil (At.keep (ts := [1, 2, 5]) (ids := [2, 12, 14]) rfl rfl ?_)
  refine At.convM (.cons (.refl _) (.cons (y := bufL 3 1 enc_Int (List.replicate (((p0.Tasks.length : Nat) : Int)).toNat (0 : Int))) (BSim.seg (Seg.made (f := enc_Int) 0 rfl)) (.cons (.refl _) .nil))) ?_
  refine At.thenC ?_
  refine W.seq ?_
  refine W.seq ?_
  refine W.region env [] [] rfl rfl rfl .nil .nil (At.keep (ts := [1, 2, 5, 17, 18]) (ids := [2, 12, 14]) rfl rfl ?_)
  refine At.thenC ?_
  refine W.block ?_
  refine At.keep (ts := [1, 2, 5, 17, 18]) (ids := [2, 12, 14]) rfl rfl ?_
  obtain ⟨hn2, H⟩ := of_must H
  refine W.rangeGo H (fun i2 (s2 : (List Int)) => [(1, .clo (.func p1_g) p1_a p1_b), (2, .lp 2 0), (5, .lp 14 0), (17, .int .i64 (((p0.Tasks.length : Nat) : Int))), (18, .int .i64 ((i2 : Int)))]) (fun i2 (s2 : (List Int)) => [(2, .cells [roL 4 enc_Task p0.Tasks, roL 1 enc_ListRange p0.Travel, roL 3 enc_Hand p0.Hands]), (12, bufL 3 1 enc_Int s2), (14, .cells [roL 4 enc_Task p0.Tasks, roL 1 enc_ListRange p0.Travel, roL 3 enc_Hand p0.Hands, .buf 12 (s2).length])]) (.cons (.of_eq (by first | rfl | (simp; done) | omega | (simp; omega))) (.cons (.of_eq (by first | rfl | (simp; done) | omega | (simp; omega))) (.cons (.of_eq (by first | rfl | (simp; done) | omega | (simp; omega))) (.cons (.of_eq (by first | rfl | (simp; done) | omega | (refine intEq ?_; first | omega | (simp; done) | (simp; omega)) | (simp; omega))) (.cons (.of_eq (by first | rfl | (simp; done) | omega | (refine intEq ?_; first | omega | (simp; done) | (simp; omega)) | (simp; omega))) .nil))))) (.cons (.of_eq (by first | rfl | (simp; done) | omega | (simp; omega))) (.cons (.of_eq (by first | rfl | (simp; done) | omega | (simp; omega))) (.cons (BSim.cells (.cons (.of_eq (by first | rfl | (simp; done) | omega | (simp; omega))) (.cons (.of_eq (by first | rfl | (simp; done) | omega | (simp; omega))) (.cons (.of_eq (by first | rfl | (simp; done) | omega | (simp; omega))) (.cons (.of_eq (by refine bufEq ?_; first | rfl | (simp; done) | omega | (simp; omega))) .nil))))) .nil))) (fun k2 i2 s2 hle2 H1 H2 K0 hK2 => ?_)
  refine W.seq ?_
  refine W.region env [] [] rfl rfl rfl .nil .nil (At.keep (ts := [1, 2, 5, 17, 18, 19]) (ids := [2, 12, 14]) rfl rfl ?_)
  refine At.thenC ?_
  refine W.seq ?_
  refine W.cond rfl (fun hb3 => ?_) (fun hb3 => ?_)
  · have hi2 : i2 < p0.Tasks.length := by have := of_decide_eq_true hb3; omega
    have H := H1 hi2
    refine W.skip ?_
    refine At.thenC ?_
    refine W.seq ?_
    refine W.block ?_
    refine W.seq ?_
    refine W.region env [] [] rfl rfl rfl .nil .nil (At.keep (ts := [1, 2, 5, 6, 17, 18]) (ids := [2, 12, 14]) rfl rfl ?_)
    refine At.thenC ?_
    refine W.seq ?_
    refine W.region env [] [] rfl rfl rfl .nil .nil (At.keep (ts := [1, 2, 5, 6, 17, 18, 23, 24]) (ids := [2, 12, 14]) rfl rfl ?_)
    refine At.thenC ?_
    refine W.block ?_
    refine At.keep (ts := [1, 2, 5, 6, 17, 18, 23, 24]) (ids := [2, 12, 14]) rfl rfl ?_
    obtain ⟨hn4, H⟩ := of_must H
    refine W.rangeGo H (fun i4 (s4 : (List Int)) => [(1, .clo (.func p1_g) p1_a p1_b), (2, .lp 2 0), (5, .lp 14 0), (6, .int .i64 ((i2 : Int))), (17, .int .i64 (((p0.Tasks.length : Nat) : Int))), (18, .int .i64 ((i2 : Int))), (23, .int .i64 (((p0.Tasks.length : Nat) : Int))), (24, .int .i64 ((i4 : Int)))]) (fun i4 (s4 : (List Int)) => [(2, .cells [roL 4 enc_Task p0.Tasks, roL 1 enc_ListRange p0.Travel, roL 3 enc_Hand p0.Hands]), (12, bufL 3 1 enc_Int s4), (14, .cells [roL 4 enc_Task p0.Tasks, roL 1 enc_ListRange p0.Travel, roL 3 enc_Hand p0.Hands, .buf 12 (s4).length])]) (.cons (.of_eq (by first | rfl | (simp; done) | omega | (simp; omega))) (.cons (.of_eq (by first | rfl | (simp; done) | omega | (simp; omega))) (.cons (.of_eq (by first | rfl | (simp; done) | omega | (simp; omega))) (.cons (.of_eq (by first | rfl | (simp; done) | omega | (refine intEq ?_; first | omega | (simp; done) | (simp; omega)) | (simp; omega))) (.cons (.of_eq (by first | rfl | (simp; done) | omega | (refine intEq ?_; first | omega | (simp; done) | (simp; omega)) | (simp; omega))) (.cons (.of_eq (by first | rfl | (simp; done) | omega | (refine intEq ?_; first | omega | (simp; done) | (simp; omega)) | (simp; omega))) (.cons (.of_eq (by first | rfl | (simp; done) | omega | (refine intEq ?_; first | omega | (simp; done) | (simp; omega)) | (simp; omega))) (.cons (.of_eq (by first | rfl | (simp; done) | omega | (refine intEq ?_; first | omega | (simp; done) | (simp; omega)) | (simp; omega))) .nil)))))))) (.cons (.of_eq (by first | rfl | (simp; done) | omega | (simp; omega))) (.cons (.of_eq (by first | rfl | (simp; done) | omega | (simp; omega))) (.cons (BSim.cells (.cons (.of_eq (by first | rfl | (simp; done) | omega | (simp; omega))) (.cons (.of_eq (by first | rfl | (simp; done) | omega | (simp; omega))) (.cons (.of_eq (by first | rfl | (simp; done) | omega | (simp; omega))) (.cons (.of_eq (by refine bufEq ?_; first | rfl | (simp; done) | omega | (simp; omega))) .nil))))) .nil))) (fun k4 i4 s4 hle4 H1 H2 K0 hK4 => ?_)
    refine W.seq ?_
    refine W.region env [] [] rfl rfl rfl .nil .nil (At.keep (ts := [1, 2, 5, 6, 17, 18, 23, 24, 25]) (ids := [2, 12, 14]) rfl rfl ?_)
    refine At.thenC ?_
    refine W.seq ?_
    refine W.cond rfl (fun hb5 => ?_) (fun hb5 => ?_)
    · have hi4 : i4 < p0.Tasks.length := by have := of_decide_eq_true hb5; omega
      have H := H1 hi4
      refine W.skip ?_
      refine At.thenC ?_
      refine W.seq ?_
      refine W.block ?_
      refine W.seq ?_
      refine W.region env [] [] rfl rfl rfl .nil .nil (At.keep (ts := [1, 2, 5, 6, 7, 17, 18, 23, 24]) (ids := [2, 12, 14]) rfl rfl ?_)
      refine At.thenC ?_
      refine W.seq ?_
      obtain ⟨y6, hy7, H⟩ := of_bindO H
      refine W.region env [] [⟨.int .i64 (y6), [], 0, []⟩] rfl rfl rfl (.cons (fun h => h) (.cons (fun h => h) (.cons (fun h => h) (.cons (fun h => h) (.cons (fun h => h) (.cons (fun h => h) .nil)))))) (.on (fun hW => c_crew_spare p0 (i2 : Int) (i4 : Int) p1 p1_g p1_a p1_b p1_h (of_true hy7 hW)) .nil) (At.keep (ts := [1, 2, 5, 6, 7, 17, 18, 23, 24, 37]) (ids := [2, 12, 14]) rfl rfl ?_)
      refine At.thenC ?_
      refine W.cond rfl (fun hb8 => ?_) (fun hb8 => ?_)
      · have H := of_true H hb8
        obtain ⟨hc9, H⟩ := of_must H
        obtain ⟨hc10, H⟩ := of_must H
        obtain ⟨hc11, H⟩ := of_must H
        obtain ⟨hc12, H⟩ := of_must H
        refine W.region env [] [] rfl rfl (by first | rfl | kernel_rfl) (.cons (⟨by first | rfl | (simp; done) | omega | (simp; omega), hc9⟩) (.cons (⟨by first | rfl | (simp; done) | omega | (simp; omega), (by have := hc9; first | omega | (simp only [List.length_set]; omega) | (simp only [Int.toNat_natCast] at *; omega) | (simp at this ⊢; omega))⟩) (.cons hc10 (.cons hc11 (.cons (⟨by first | rfl | (simp; done) | omega | (simp; omega), hc12⟩) (.cons (⟨by first | rfl | (simp; done) | omega | (simp; omega), (by have := hc12; first | omega | (simp only [List.length_set]; omega) | (simp only [Int.toNat_natCast] at *; omega) | (simp at this ⊢; omega))⟩) .nil)))))) .nil (At.keep (ts := [1, 2, 5, 6, 17, 18, 23, 24]) (ids := [2, 12, 14]) rfl rfl ?_)
        refine At.convM (.cons (.refl _) (.cons (y := bufL 3 1 enc_Int (s4.set i2 ((((s4.getD i2 default) : Int).toNat ||| (((1 : Int) * 2 ^ ((i4 : Int) : Int).toNat) : Int).toNat : Nat) : Int))) (BSim.seg (Seg.set (Seg.refl enc_Int _) ((((s4.getD i2 default) : Int).toNat ||| (((1 : Int) * 2 ^ ((i4 : Int) : Int).toNat) : Int).toNat : Nat) : Int) rfl)) (.cons (.refl _) .nil))) ?_
        refine At.inb ?_
        refine At.thenC ?_
        refine W.region env [] [] rfl rfl rfl (.cons (by unfold inI; have := hn4; (try unfold maxLen at this); omega) .nil) .nil (At.keep (ts := [1, 2, 5, 6, 17, 18, 23, 24]) (ids := [2, 12, 14]) rfl rfl ?_)
        refine At.thenK (At.keep (ts := [1, 2, 5, 6, 17, 18, 23, 24]) (ids := [2, 12, 14]) rfl rfl ?_)
        exact At.conv (.cons (.of_eq (by first | rfl | (simp; done) | omega | (simp; omega))) (.cons (.of_eq (by first | rfl | (simp; done) | omega | (simp; omega))) (.cons (.of_eq (by first | rfl | (simp; done) | omega | (simp; omega))) (.cons (.of_eq (by first | rfl | (simp; done) | omega | (refine intEq ?_; first | omega | (simp; done) | (simp; omega)) | (simp; omega))) (.cons (.of_eq (by first | rfl | (simp; done) | omega | (refine intEq ?_; first | omega | (simp; done) | (simp; omega)) | (simp; omega))) (.cons (.of_eq (by first | rfl | (simp; done) | omega | (refine intEq ?_; first | omega | (simp; done) | (simp; omega)) | (simp; omega))) (.cons (.of_eq (by first | rfl | (simp; done) | omega | (refine intEq ?_; first | omega | (simp; done) | (simp; omega)) | (simp; omega))) (.cons (.of_eq (by first | rfl | (simp; done) | omega | (refine intEq ?_; first | omega | (simp; done) | (simp; omega)) | (simp; omega))) .nil)))))))) (.cons (.of_eq (by first | rfl | (simp; done) | omega | (simp; omega))) (.cons (.of_eq (by first | rfl | (simp; done) | omega | (simp; omega))) (.cons (BSim.cells (.cons (.of_eq (by first | rfl | (simp; done) | omega | (simp; omega))) (.cons (.of_eq (by first | rfl | (simp; done) | omega | (simp; omega))) (.cons (.of_eq (by first | rfl | (simp; done) | omega | (simp; omega))) (.cons (.of_eq (by refine bufEq ?_; first | rfl | (simp; done) | omega | (simp; omega))) .nil))))) .nil))) (hK4 hi4 (s4.set i2 ((((s4.getD i2 default) : Int).toNat ||| (((1 : Int) * 2 ^ ((i4 : Int) : Int).toNat) : Int).toNat : Nat) : Int)) H)
      · have H := of_false H hb8
        refine W.skip ?_
        refine At.inb ?_
        refine At.thenC ?_
        refine W.region env [] [] rfl rfl rfl (.cons (by unfold inI; have := hn4; (try unfold maxLen at this); omega) .nil) .nil (At.keep (ts := [1, 2, 5, 6, 17, 18, 23, 24]) (ids := [2, 12, 14]) rfl rfl ?_)
        refine At.thenK (At.keep (ts := [1, 2, 5, 6, 17, 18, 23, 24]) (ids := [2, 12, 14]) rfl rfl ?_)
        exact At.conv (.cons (.of_eq (by first | rfl | (simp; done) | omega | (simp; omega))) (.cons (.of_eq (by first | rfl | (simp; done) | omega | (simp; omega))) (.cons (.of_eq (by first | rfl | (simp; done) | omega | (simp; omega))) (.cons (.of_eq (by first | rfl | (simp; done) | omega | (refine intEq ?_; first | omega | (simp; done) | (simp; omega)) | (simp; omega))) (.cons (.of_eq (by first | rfl | (simp; done) | omega | (refine intEq ?_; first | omega | (simp; done) | (simp; omega)) | (simp; omega))) (.cons (.of_eq (by first | rfl | (simp; done) | omega | (refine intEq ?_; first | omega | (simp; done) | (simp; omega)) | (simp; omega))) (.cons (.of_eq (by first | rfl | (simp; done) | omega | (refine intEq ?_; first | omega | (simp; done) | (simp; omega)) | (simp; omega))) (.cons (.of_eq (by first | rfl | (simp; done) | omega | (refine intEq ?_; first | omega | (simp; done) | (simp; omega)) | (simp; omega))) .nil)))))))) (.cons (.of_eq (by first | rfl | (simp; done) | omega | (simp; omega))) (.cons (.of_eq (by first | rfl | (simp; done) | omega | (simp; omega))) (.cons (BSim.cells (.cons (.of_eq (by first | rfl | (simp; done) | omega | (simp; omega))) (.cons (.of_eq (by first | rfl | (simp; done) | omega | (simp; omega))) (.cons (.of_eq (by first | rfl | (simp; done) | omega | (simp; omega))) (.cons (.of_eq (by refine bufEq ?_; first | rfl | (simp; done) | omega | (simp; omega))) .nil))))) .nil))) (hK4 hi4 s4 H)
    · have H := H2 (by have := of_decide_eq_false hb5; omega)
      refine W.exit ?_
      refine At.xthen ?_
      refine At.xthen ?_
      refine At.xhere ?_
      refine At.inb ?_
      refine At.thenC ?_
      refine W.region env [] [] rfl rfl rfl (.cons (by unfold inI; have := hn2; (try unfold maxLen at this); omega) .nil) .nil (At.keep (ts := [1, 2, 5, 17, 18]) (ids := [2, 12, 14]) rfl rfl ?_)
      refine At.thenK (At.keep (ts := [1, 2, 5, 17, 18]) (ids := [2, 12, 14]) rfl rfl ?_)
      exact At.conv (.cons (.of_eq (by first | rfl | (simp; done) | omega | (simp; omega))) (.cons (.of_eq (by first | rfl | (simp; done) | omega | (simp; omega))) (.cons (.of_eq (by first | rfl | (simp; done) | omega | (simp; omega))) (.cons (.of_eq (by first | rfl | (simp; done) | omega | (refine intEq ?_; first | omega | (simp; done) | (simp; omega)) | (simp; omega))) (.cons (.of_eq (by first | rfl | (simp; done) | omega | (refine intEq ?_; first | omega | (simp; done) | (simp; omega)) | (simp; omega))) .nil))))) (.cons (.of_eq (by first | rfl | (simp; done) | omega | (simp; omega))) (.cons (.of_eq (by first | rfl | (simp; done) | omega | (simp; omega))) (.cons (BSim.cells (.cons (.of_eq (by first | rfl | (simp; done) | omega | (simp; omega))) (.cons (.of_eq (by first | rfl | (simp; done) | omega | (simp; omega))) (.cons (.of_eq (by first | rfl | (simp; done) | omega | (simp; omega))) (.cons (.of_eq (by refine bufEq ?_; first | rfl | (simp; done) | omega | (simp; omega))) .nil))))) .nil))) (hK2 hi2 s4 H)
  · have H := H2 (by have := of_decide_eq_false hb3; omega)
    refine W.exit ?_
    refine At.xthen ?_
    refine At.xthen ?_
    refine At.xhere ?_
    refine At.thenC ?_
    refine W.seq ?_
    refine W.region env [] [] rfl rfl rfl .nil .nil (At.keep (ts := [4]) (ids := [12, 14]) rfl rfl ?_)
    refine At.thenC ?_
    refine W.ret ?_
    cases H
    exact At.ret env.ty rfl rfl (fun q hq => by cases hq; exact (by first | rfl | (simp; done) | omega | (simp; omega))) (Sim.po_rp rfl (.cons (.refl _) (.cons (.refl _) (.cons (.refl _) (.cons (.refl _) .nil))))) hval

theorem c_crew_plan__followers (p0 : crew_plan) (p1 : Int) : Ctr Try.prog 69 [.rp [roL 4 enc_Task p0.Crew.Tasks, roL 1 enc_ListRange p0.Crew.Travel, roL 3 enc_Hand p0.Crew.Hands, roL 1 enc_Int p0.next], .int .i64 (p1)] (.clo (.func 98) [] [.rp [.rp [roL 4 enc_Task p0.Crew.Tasks, roL 1 enc_ListRange p0.Crew.Travel, roL 3 enc_Hand p0.Crew.Hands, roL 1 enc_Int p0.next]], .rp [.int .i64 (p1)]]) := by
  refine Ctr.of_body (N := 6) Try.func69 (by kernel_rfl) (c := _) rfl Try.ntmps69 rfl (fun w0 h0 hval => ?_)
  refine W.seq ?_
  refine W.region env [] [] rfl rfl rfl .nil .nil (At.keep (ts := [2, 3]) (ids := [2, 3]) rfl rfl ?_)
  refine At.thenC ?_
  refine W.seq ?_
  refine W.region env [] [] rfl rfl rfl .nil .nil (At.keep (ts := [4]) (ids := [2, 3]) rfl rfl ?_)
  refine At.thenC ?_
  refine W.ret ?_
  exact At.ret env.ty rfl rfl (fun q hq => by cases hq) (.refl _) hval

theorem c_crew_plan__followers_1 (c0 : crew_plan) (c1 : Int) {r : List (Int)} (H : crew_plan__followers_1 c0 c1 = some r) : Iter Try.prog 98 [.rp [.rp [roL 4 enc_Task c0.Crew.Tasks, roL 1 enc_ListRange c0.Crew.Travel, roL 3 enc_Hand c0.Crew.Hands, roL 1 enc_Int c0.next]], .rp [.int .i64 (c1)]] (r.map (fun (x : Int) => [.int .i64 (x)])) := by
  unfold crew_plan__followers_1 at H
  have hYl := Yl.start r
  skip
  refine Iter.of_body (N := 31) Try.func98 (by kernel_rfl) (c := _) rfl Try.ntmps98 rfl (fun w0 h0 lp J hJ hval hY => ?_)
  refine W.seq ?_
  refine W.region env [] [] rfl rfl rfl .nil .nil (At.keep (ts := [0, 1, 2, 9, 10]) (ids := []) rfl rfl ?_)
  refine At.thenC ?_
  refine W.block ?_
  refine At.keep (ts := [0, 1, 2, 9, 10]) (ids := []) rfl rfl ?_
  obtain ⟨hn1, H⟩ := of_must H
  refine W.rangeGoI H hYl (fun i1 (s1 : Unit) => [(0, .fn (.yield lp) [] []), (1, .rp [.rp [roL 4 enc_Task c0.Crew.Tasks, roL 1 enc_ListRange c0.Crew.Travel, roL 3 enc_Hand c0.Crew.Hands, roL 1 enc_Int c0.next]]), (2, .rp [.int .i64 (c1)]), (9, .int .i64 (((c0.next.length : Nat) : Int))), (10, .int .i64 ((i1 : Int)))]) (fun i1 (s1 : Unit) => []) (.cons (.of_eq (by first | rfl | (simp; done) | omega | (simp; omega))) (.cons (.of_eq (by first | rfl | (simp; done) | omega | (simp; omega))) (.cons (.of_eq (by first | rfl | (simp; done) | omega | (simp; omega))) (.cons (.of_eq (by first | rfl | (simp; done) | omega | (refine intEq ?_; first | omega | (simp; done) | (simp; omega)) | (simp; omega))) (.cons (.of_eq (by first | rfl | (simp; done) | omega | (refine intEq ?_; first | omega | (simp; done) | (simp; omega)) | (simp; omega))) .nil))))) .nil (fun k1 i1 s1 g r hle1 hYl H1 H2 K0 hK1 => ?_)
  refine W.seq ?_
  refine W.region env [] [] rfl rfl rfl .nil .nil (At.keep (ts := [0, 1, 2, 9, 10, 11]) (ids := []) rfl rfl ?_)
  refine At.thenC ?_
  refine W.seq ?_
  refine W.cond rfl (fun hb2 => ?_) (fun hb2 => ?_)
  · have hi1 : i1 < c0.next.length := by have := of_decide_eq_true hb2; omega
    have H := H1 hi1
    refine W.skip ?_
    refine At.thenC ?_
    refine W.seq ?_
    refine W.block ?_
    refine W.seq ?_
    refine W.region env [] [] rfl rfl rfl .nil .nil (At.keep (ts := [0, 1, 2, 4, 9, 10]) (ids := []) rfl rfl ?_)
    refine At.thenC ?_
    refine W.seq ?_
    obtain ⟨hc3, H⟩ := of_must H
    obtain ⟨hc4, H⟩ := of_must H
    obtain ⟨hc5, H⟩ := of_must H
    refine W.regionYd env hY [] 14 [] [] rfl rfl rfl rfl rfl rfl rfl rfl (fun b => rfl) rfl (fun b => by cases b <;> rfl) (.cons hc3 (.cons hc4 (.cons hc5 .nil))) .nil (.cons (fun h => h) (.cons (fun h => h) .nil)) (fun b => (.cons (fun h => h) (.cons (fun h => h) .nil))) (fun b => .nil) (fun hW => Yl.item (fun (x : Int) => [.int .i64 (x)]) H hYl hW) (fun b g1 hg1 hg2 => ?_)
    refine At.keep (ts := [0, 1, 2, 9, 10, 29]) (ids := []) rfl rfl ?_
    refine At.thenC ?_
    rcases Yl.split hg1 hg2 with ⟨hw1, hw2, rfl⟩ | ⟨hw1, hw2, hw3⟩
    · refine W.cond rfl (fun hb => ?_) (fun hb => ?_)
      · refine W.ret ?_
        refine At.rinb ?_
        refine At.rthen ?_
        refine At.rthen ?_
        refine At.rinb ?_
        exact At.iret rfl (.inl rfl) hval
      · exact absurd hb (by rw [hw1, hw2]; simp)
    · refine W.cond rfl (fun hb => ?_) (fun hb => ?_)
      · exact absurd hb (by intro hb; simp only [Bool.and_eq_true, Bool.not_eq_true'] at hb; have := hw1 (by first | exact hb.1 | (simp only [Bool.and_eq_true]; exact hb.1)); rw [this] at hb; simp at hb)
      · obtain ⟨r, H, hYl⟩ := Yl.next H hYl hw2 hw3
        refine W.skip ?_
        refine At.inb ?_
        refine At.thenC ?_
        refine W.region env [] [] rfl rfl rfl (.cons (by unfold inI; have := hn1; (try unfold maxLen at this); omega) .nil) .nil (At.keep (ts := [0, 1, 2, 9, 10]) (ids := []) rfl rfl ?_)
        refine At.thenK (At.keep (ts := [0, 1, 2, 9, 10]) (ids := []) rfl rfl ?_)
        exact At.conv (.cons (.of_eq (by first | rfl | (simp; done) | omega | (simp; omega))) (.cons (.of_eq (by first | rfl | (simp; done) | omega | (simp; omega))) (.cons (.of_eq (by first | rfl | (simp; done) | omega | (simp; omega))) (.cons (.of_eq (by first | rfl | (simp; done) | omega | (refine intEq ?_; first | omega | (simp; done) | (simp; omega)) | (simp; omega))) (.cons (.of_eq (by first | rfl | (simp; done) | omega | (refine intEq ?_; first | omega | (simp; done) | (simp; omega)) | (simp; omega))) .nil))))) .nil (hK1 hi1 () _ _ hYl H)
  · have H := H2 (by have := of_decide_eq_false hb2; omega)
    refine W.exit ?_
    refine At.xthen ?_
    refine At.xthen ?_
    refine At.xhere ?_
    refine At.iofNormal ?_
    exact At.iret rfl (.inr (Yl.fin (fun (x : Int) => [.int .i64 (x)]) H hYl)) hval

theorem cl_crew_plan__pair_1_l (fuel : Nat) : ∀ (n : Nat) (p0 : Int) (c0 : crew_plan) (c1 : Int) (c2 : (List Int)) (c4 : (List Int)) {r : (Bool × Int × (List Int) × (List Int))} (H : crew_plan__pair_1_l fuel n p0 c0 c1 c2 c4 = some r), CtrO Try.prog 96 [.int .i64 (p0), .lp 90000 0, .lp 90001 0, .lp 90002 0, .lp 90004 0, .lp 90005 0] [(90000, .cells [.rp [roL 4 enc_Task c0.Crew.Tasks, roL 1 enc_ListRange c0.Crew.Travel, roL 3 enc_Hand c0.Crew.Hands, roL 1 enc_Int c0.next]]), (90001, .cells [.int .i64 (c1)]), (90002, .cells [.buf 90003 (c2).length]), (90003, bufL 3 1 enc_Int c2), (90004, .cells [.fn (.func 96) [] [.lp 90000 0, .lp 90001 0, .lp 90002 0, .lp 90004 0, .lp 90005 0]]), (90005, .cells [.buf 90006 (c4).length]), (90006, bufL 3 1 enc_Int c4)] (.bool (r.1)) [(90000, .cells [.rp [roL 4 enc_Task c0.Crew.Tasks, roL 1 enc_ListRange c0.Crew.Travel, roL 3 enc_Hand c0.Crew.Hands, roL 1 enc_Int c0.next]]), (90001, .cells [.int .i64 (r.2.1)]), (90002, .cells [.buf 90003 (r.2.2.1).length]), (90003, bufL 3 1 enc_Int r.2.2.1), (90004, .cells [.fn (.func 96) [] [.lp 90000 0, .lp 90001 0, .lp 90002 0, .lp 90004 0, .lp 90005 0]]), (90005, .cells [.buf 90006 (r.2.2.2).length]), (90006, bufL 3 1 enc_Int r.2.2.2)] := by
  intro n; induction n with
  | zero => intro p0 c0 c1 c2 c4 r H; cases H
  | succ n ih =>
    intro p0 c0 c1 c2 c4 r H
    have H : crew_plan__pair_1_l_F fuel (crew_plan__pair_1_l fuel n) p0 c0 c1 c2 c4 = some r := H
    unfold crew_plan__pair_1_l_F at H
    refine CtrL.of_body (N := 43) Try.func96 (by kernel_rfl) (c := _) rfl Try.ntmps96 rfl rfl (fun w0 h0 ρb hval hdom hent => ?_)
    refine W.seq ?_
    refine W.region env [] [] rfl rfl rfl .nil .nil (At.keep (ts := [1, 2, 3, 4, 5, 6, 7]) (ids := [6, 7, 90000, 90001, 90002, 90003, 90004, 90005, 90006]) rfl rfl ?_)
    refine At.thenC ?_
    refine W.seq ?_
    refine W.seq ?_
    refine W.region env [] [⟨.clo (.func 98) [] [.rp [.rp [roL 4 enc_Task c0.Crew.Tasks, roL 1 enc_ListRange c0.Crew.Travel, roL 3 enc_Hand c0.Crew.Hands, roL 1 enc_Int c0.next]], .rp [.int .i64 (p0)]], [], 0, []⟩] rfl rfl rfl .nil (.free (c_crew_plan__followers c0 p0) .nil) (At.keep (ts := [2, 3, 4, 5, 6, 7, 11]) (ids := [6, 7, 90000, 90001, 90002, 90003, 90004, 90005, 90006]) rfl rfl ?_)
    refine At.thenC ?_
    refine W.block ?_
    obtain ⟨it1, hit1, H⟩ := of_bindO H
    refine At.keep (ts := [2, 3, 4, 5, 6, 7, 11]) (ids := [6, 7, 90000, 90001, 90002, 90003, 90004, 90005, 90006]) rfl rfl ?_
    refine W.listGo H (fun (x : Int) => [.int .i64 (x)]) (c_crew_plan__followers_1 c0 p0 hit1) rfl (fun _ => ⟨rfl, rfl⟩) rfl rfl rfl (fun (s2 : (List Int) × (List Int) × Int) => [(6, .cells [.int .i64 (p0)]), (7, .cells [.bool (false)]), (90000, .cells [.rp [roL 4 enc_Task c0.Crew.Tasks, roL 1 enc_ListRange c0.Crew.Travel, roL 3 enc_Hand c0.Crew.Hands, roL 1 enc_Int c0.next]]), (90001, .cells [.int .i64 (s2.2.2)]), (90002, .cells [.buf 90003 (s2.1).length]), (90003, bufL 3 1 enc_Int s2.1), (90004, .cells [.fn (.func 96) [] [.lp 90000 0, .lp 90001 0, .lp 90002 0, .lp 90004 0, .lp 90005 0]]), (90005, .cells [.buf 90006 (s2.2.1).length]), (90006, bufL 3 1 enc_Int s2.2.1)]) (.cons (.of_eq (by first | rfl | (simp; done) | omega | (simp; omega))) (.cons (.of_eq (by first | rfl | (simp; done) | omega | (simp; omega))) (.cons (.of_eq (by first | rfl | (simp; done) | omega | (simp; omega))) (.cons (.of_eq (by first | rfl | (simp; done) | omega | (simp; omega))) (.cons (BSim.cells (.cons (.of_eq (by refine bufEq ?_; first | rfl | (simp; done) | omega | (simp; omega))) .nil)) (.cons (.of_eq (by first | rfl | (simp; done) | omega | (simp; omega))) (.cons (.of_eq (by first | rfl | (simp; done) | omega | (simp; omega))) (.cons (BSim.cells (.cons (.of_eq (by refine bufEq ?_; first | rfl | (simp; done) | omega | (simp; omega))) .nil)) (.cons (.of_eq (by first | rfl | (simp; done) | omega | (simp; omega))) .nil))))))))) (fun (x1 : Int) => [(2, .lp 90001 0), (3, .lp 90002 0), (4, .lp 90004 0), (5, .lp 90005 0), (6, .lp 6 0), (7, .lp 7 0), (8, .int .i64 (x1))]) (fun e (sx : Bool × Int × (List Int) × (List Int)) => e = Exit.ret ∧ some (sx.1, sx.2.1, sx.2.2.1, sx.2.2.2) = some r) (fun _ (sx : Bool × Int × (List Int) × (List Int)) => [(6, .cells [.int .i64 (p0)]), (7, .cells [.bool (sx.1)]), (90000, .cells [.rp [roL 4 enc_Task c0.Crew.Tasks, roL 1 enc_ListRange c0.Crew.Travel, roL 3 enc_Hand c0.Crew.Hands, roL 1 enc_Int c0.next]]), (90001, .cells [.int .i64 (sx.2.1)]), (90002, .cells [.buf 90003 (sx.2.2.1).length]), (90003, bufL 3 1 enc_Int sx.2.2.1), (90004, .cells [.fn (.func 96) [] [.lp 90000 0, .lp 90001 0, .lp 90002 0, .lp 90004 0, .lp 90005 0]]), (90005, .cells [.buf 90006 (sx.2.2.2).length]), (90006, bufL 3 1 enc_Int sx.2.2.2)]) (fun e s h => .inl h.1) hval (fun h1 vs gh st lp x1 s2 K hK => ?_) (fun k2 h1 vs gh st lp x1 s2 H Qr hQ2 hX2 => ?_) (fun s2 H => ?_) (fun e sx h => ?_)
    · refine W.region env [] [] rfl rfl rfl .nil .nil (At.keep (ts := [2, 3, 4, 5, 6, 7, 8]) (ids := [6, 7, 90000, 90001, 90002, 90003, 90004, 90005, 90006]) rfl rfl ?_)
      refine At.thenK (At.keep (ts := [2, 3, 4, 5, 6, 7, 8]) (ids := [6, 7, 90000, 90001, 90002, 90003, 90004, 90005, 90006]) rfl rfl ?_)
      exact hK
    · refine W.block ?_
      refine W.seq ?_
      refine W.seq ?_
      obtain ⟨hc3, H⟩ := of_must H
      obtain ⟨hc4, H⟩ := of_must H
      refine W.region env [] [] rfl rfl rfl (.cons hc3 (.cons hc4 .nil)) .nil (At.keep (ts := [2, 3, 4, 5, 6, 7, 8, 17]) (ids := [6, 7, 90000, 90001, 90002, 90003, 90004, 90005, 90006]) rfl rfl ?_)
      refine At.thenC ?_
      refine W.cond rfl (fun hb5 => ?_) (fun hb5 => ?_)
      · have H := of_true H hb5
        refine W.exit ?_
        refine At.xthen ?_
        refine At.xhere ?_
        refine At.keep (ts := []) (ids := [6, 7, 90000, 90001, 90002, 90003, 90004, 90005, 90006]) rfl rfl ?_
        exact At.conv .nil (.cons (.of_eq (by first | rfl | (simp; done) | omega | (simp; omega))) (.cons (.of_eq (by first | rfl | (simp; done) | omega | (simp; omega))) (.cons (.of_eq (by first | rfl | (simp; done) | omega | (simp; omega))) (.cons (.of_eq (by first | rfl | (simp; done) | omega | (simp; omega))) (.cons (BSim.cells (.cons (.of_eq (by refine bufEq ?_; first | rfl | (simp; done) | omega | (simp; omega))) .nil)) (.cons (.of_eq (by first | rfl | (simp; done) | omega | (simp; omega))) (.cons (.of_eq (by first | rfl | (simp; done) | omega | (simp; omega))) (.cons (BSim.cells (.cons (.of_eq (by refine bufEq ?_; first | rfl | (simp; done) | omega | (simp; omega))) .nil)) (.cons (.of_eq (by first | rfl | (simp; done) | omega | (simp; omega))) .nil))))))))) (hQ2 (s2.1, s2.2.1, s2.2.2) H)
      · have H := of_false H hb5
        refine W.skip ?_
        refine At.thenC ?_
        refine W.seq ?_
        obtain ⟨hc6, H⟩ := of_must H
        obtain ⟨hc7, H⟩ := of_must H
        refine W.region env [] [] rfl rfl (by first | rfl | kernel_rfl) (.cons hc6 (.cons hc7 .nil)) .nil (At.keep (ts := [3, 4, 5, 6, 7, 8]) (ids := [6, 7, 90000, 90001, 90002, 90003, 90004, 90005, 90006]) rfl rfl ?_)
        refine At.thenC ?_
        refine W.seq ?_
        obtain ⟨hc8, H⟩ := of_must H
        obtain ⟨hc9, H⟩ := of_must H
        obtain ⟨y10, hy11, H⟩ := of_bindO H
        obtain ⟨hc12, H⟩ := of_must H
        obtain ⟨hc13, H⟩ := of_must H
        refine W.region env [] [⟨.bool (y10.1), [(90000, .cells [.rp [roL 4 enc_Task c0.Crew.Tasks, roL 1 enc_ListRange c0.Crew.Travel, roL 3 enc_Hand c0.Crew.Hands, roL 1 enc_Int c0.next]]), (90001, .cells [.int .i64 (y10.2.1)]), (90002, .cells [.buf 90003 (y10.2.2.1).length]), (90003, bufL 3 1 enc_Int y10.2.2.1), (90004, .cells [.fn (.func 96) [] [.lp 90000 0, .lp 90001 0, .lp 90002 0, .lp 90004 0, .lp 90005 0]]), (90005, .cells [.buf 90006 (y10.2.2.2).length]), (90006, bufL 3 1 enc_Int y10.2.2.2)], 0, [90000, 90001, 90002, 90003, 90004, 90005, 90006]⟩] rfl rfl (by kernel_rfl) (.cons (⟨by first | rfl | (simp; done) | omega | (simp; omega), hc8⟩) (.cons (⟨by first | rfl | (simp; done) | omega | (simp; omega), (by have := hc8; first | omega | (simp only [List.length_set]; omega) | (simp only [Int.toNat_natCast] at *; omega) | (simp at this ⊢; omega))⟩) (.cons (fun hW => ⟨by first | rfl | (simp; done) | omega | (simp; omega), hc9 hW⟩) (.cons (fun h => h) (.cons (fun h => h) (.cons (fun hW => (⟨by first | rfl | (simp; done) | omega | (simp; omega), (by have := hc9 hW; first | omega | (simp only [List.length_set]; omega) | (simp only [Int.toNat_natCast] at *; omega) | (simp at this ⊢; omega))⟩)) (.cons (fun h => h) (.cons (fun hW => by obtain rfl := lend_off hy11 hW; first | exact .refl _ | exact .of_eq (by first | rfl | (simp; done) | omega | (simp; omega))) (.cons (fun hW => by obtain rfl := lend_off hy11 hW; first | exact .refl _ | exact .of_eq (by first | rfl | (simp; done) | omega | (simp; omega))) (.cons (fun hW => by obtain rfl := lend_off hy11 hW; first | exact .refl _ | exact .of_eq (by first | rfl | (simp; done) | omega | (simp; omega))) (.cons (fun hW => by obtain rfl := lend_off hy11 hW; first | exact .refl _ | exact .of_eq (by first | rfl | (simp; done) | omega | (simp; omega))) (.cons (fun hW => by obtain rfl := lend_off hy11 hW; first | exact .refl _ | exact .of_eq (by first | rfl | (simp; done) | omega | (simp; omega))) (.cons (fun hW => by obtain rfl := lend_off hy11 hW; first | exact .refl _ | exact .of_eq (by first | rfl | (simp; done) | omega | (simp; omega))) (.cons (fun hW => by obtain rfl := lend_off hy11 hW; first | exact .refl _ | exact .of_eq (by first | rfl | (simp; done) | omega | (simp; omega))) (.cons (fun h => h) (.cons (fun h => h) (.cons (fun h => by rw [h]; rfl) .nil))))))))))))))))) (.on (fun hW => (CtrO.sim (CtrO.ren (ih (s2.1.getD (x1).toNat default) c0 (((s2.2.2 : Int).toNat ||| (((1 : Int) * 2 ^ (x1 : Int).toNat) : Int).toNat : Nat) : Int) s2.1 s2.2.1 (of_true hy11 hW)) [(90000, 90000), (90001, 90001), (90002, 90002), (90003, 90003), (90004, 90004), (90005, 90005), (90006, 90006)]) (.cons (.refl _) (.cons (.refl _) (.cons (.refl _) (.cons (.refl _) (.cons (.refl _) (.cons (.refl _) .nil)))))) (.cons (.refl _) (.cons (.refl _) (.cons (BSim.cells (.cons (.of_eq (by refine bufEq ?_; first | rfl | (simp; done) | omega | (simp; omega))) .nil)) (.cons (.refl _) (.cons (.refl _) (.cons (BSim.cells (.cons (.of_eq (by refine bufEq ?_; first | rfl | (simp; done) | omega | (simp; omega))) .nil)) (.cons (.refl _) .nil))))))))) .nil) (At.keep (ts := [3, 5, 6, 7, 8, 34]) (ids := [6, 7, 90000, 90001, 90002, 90003, 90004, 90005, 90006]) rfl rfl ?_)
        refine At.thenC ?_
        refine W.cond rfl (fun hb14 => ?_) (fun hb14 => ?_)
        · have H := of_true H hb14
          refine W.seq ?_
          obtain ⟨hc15, H⟩ := of_must H
          obtain ⟨hc16, H⟩ := of_must H
          refine W.region env [] [] rfl rfl (by first | rfl | kernel_rfl) (.cons (⟨by first | rfl | (simp; done) | omega | (simp; omega), hc15⟩) (.cons (⟨by first | rfl | (simp; done) | omega | (simp; omega), (by have := hc15; first | omega | (simp only [List.length_set]; omega) | (simp only [Int.toNat_natCast] at *; omega) | (simp at this ⊢; omega))⟩) (.cons (⟨by first | rfl | (simp; done) | omega | (simp; omega), hc16⟩) (.cons (⟨by first | rfl | (simp; done) | omega | (simp; omega), (by have := hc16; first | omega | (simp only [List.length_set]; omega) | (simp only [Int.toNat_natCast] at *; omega) | (simp at this ⊢; omega))⟩) .nil)))) .nil (At.keep (ts := [7]) (ids := [6, 7, 90000, 90001, 90002, 90003, 90004, 90005, 90006]) rfl rfl ?_)
          refine At.convM (.cons (.refl _) (.cons (.refl _) (.cons (.refl _) (.cons (.refl _) (.cons (.refl _) (.cons (y := bufL 3 1 enc_Int (y10.2.2.1.set (x1).toNat p0)) (BSim.seg (Seg.set (Seg.refl enc_Int _) p0 rfl)) (.cons (.refl _) (.cons (.refl _) (.cons (y := bufL 3 1 enc_Int (y10.2.2.2.set (p0).toNat x1)) (BSim.seg (Seg.set (Seg.refl enc_Int _) x1 rfl)) .nil))))))))) ?_
          refine At.thenC ?_
          refine W.seq ?_
          refine W.region env [] [] rfl rfl rfl .nil .nil (At.keep (ts := [7]) (ids := [6, 7, 90000, 90001, 90002, 90003, 90004, 90005, 90006]) rfl rfl ?_)
          refine At.thenC ?_
          refine W.ret ?_
          refine At.rinb ?_
          refine At.keep (ts := []) (ids := [6, 7, 90000, 90001, 90002, 90003, 90004, 90005, 90006]) rfl rfl ?_
          exact At.conv .nil (.cons (.of_eq (by first | rfl | (simp; done) | omega | (simp; omega))) (.cons (.of_eq (by first | rfl | (simp; done) | omega | (simp; omega))) (.cons (.of_eq (by first | rfl | (simp; done) | omega | (simp; omega))) (.cons (.of_eq (by first | rfl | (simp; done) | omega | (simp; omega))) (.cons (BSim.cells (.cons (.of_eq (by refine bufEq ?_; first | rfl | (simp; done) | omega | (simp; omega))) .nil)) (.cons (.of_eq (by first | rfl | (simp; done) | omega | (simp; omega))) (.cons (.of_eq (by first | rfl | (simp; done) | omega | (simp; omega))) (.cons (BSim.cells (.cons (.of_eq (by refine bufEq ?_; first | rfl | (simp; done) | omega | (simp; omega))) .nil)) (.cons (.of_eq (by first | rfl | (simp; done) | omega | (simp; omega))) .nil))))))))) (hX2 .ret (true, y10.2.1, (y10.2.2.1.set (x1).toNat p0), (y10.2.2.2.set (p0).toNat x1)) ⟨rfl, H⟩)
        · have H := of_false H hb14
          refine W.skip ?_
          refine At.inb ?_
          refine At.keep (ts := []) (ids := [6, 7, 90000, 90001, 90002, 90003, 90004, 90005, 90006]) rfl rfl ?_
          exact At.conv .nil (.cons (.of_eq (by first | rfl | (simp; done) | omega | (simp; omega))) (.cons (.of_eq (by first | rfl | (simp; done) | omega | (simp; omega))) (.cons (.of_eq (by first | rfl | (simp; done) | omega | (simp; omega))) (.cons (.of_eq (by first | rfl | (simp; done) | omega | (simp; omega))) (.cons (BSim.cells (.cons (.of_eq (by refine bufEq ?_; first | rfl | (simp; done) | omega | (simp; omega))) .nil)) (.cons (.of_eq (by first | rfl | (simp; done) | omega | (simp; omega))) (.cons (.of_eq (by first | rfl | (simp; done) | omega | (simp; omega))) (.cons (BSim.cells (.cons (.of_eq (by refine bufEq ?_; first | rfl | (simp; done) | omega | (simp; omega))) .nil)) (.cons (.of_eq (by first | rfl | (simp; done) | omega | (simp; omega))) .nil))))))))) (hQ2 (y10.2.2.1, y10.2.2.2, y10.2.1) H)
    · refine At.inb ?_
      refine At.thenC ?_
      refine W.seq ?_
      refine W.region env [] [] rfl rfl rfl .nil .nil (At.keep (ts := [7]) (ids := [7, 90000, 90001, 90002, 90003, 90004, 90005, 90006]) rfl rfl ?_)
      refine At.thenC ?_
      refine W.ret ?_
      cases H
      exact At.retL env.ty [90000, 90001, 90002, 90003, 90004, 90005, 90006] rfl rfl rfl rfl (.cons (.refl _) (.cons (.refl _) (.cons (BSim.cells (.cons (.of_eq (by refine bufEq ?_; first | rfl | (simp; done) | omega | (simp; omega))) .nil)) (.cons (.refl _) (.cons (.refl _) (.cons (BSim.cells (.cons (.of_eq (by refine bufEq ?_; first | rfl | (simp; done) | omega | (simp; omega))) .nil)) (.cons (.refl _) .nil))))))) (.refl _) hval hdom hent rfl rfl
    · obtain ⟨rfl, H⟩ := h
      refine At.rinb ?_
      refine At.rthen ?_
      cases H
      exact At.retL env.ty [90000, 90001, 90002, 90003, 90004, 90005, 90006] rfl rfl rfl rfl (.cons (.refl _) (.cons (.refl _) (.cons (BSim.cells (.cons (.of_eq (by refine bufEq ?_; first | rfl | (simp; done) | omega | (simp; omega))) .nil)) (.cons (.refl _) (.cons (.refl _) (.cons (BSim.cells (.cons (.of_eq (by refine bufEq ?_; first | rfl | (simp; done) | omega | (simp; omega))) .nil)) (.cons (.refl _) .nil))))))) (.refl _) hval hdom hent rfl rfl

theorem c_crew_plan__pair (fuel : Nat) (p0 : crew_plan) {r : ((List Int) × (List Int))} (H : crew_plan__pair fuel p0 = some r) : Ctr Try.prog 59 [.rp [roL 4 enc_Task p0.Crew.Tasks, roL 1 enc_ListRange p0.Crew.Travel, roL 3 enc_Hand p0.Crew.Hands, roL 1 enc_Int p0.next]] (.tup [roL 1 enc_Int r.1, roL 1 enc_Int r.2]) := by
  unfold crew_plan__pair at H
  refine Ctr.of_body (N := 47) Try.func59 (by kernel_rfl) (c := _) rfl Try.ntmps59 rfl (fun w0 h0 hval => ?_)
  refine W.seq ?_
  refine W.region env [] [] rfl rfl rfl .nil .nil (At.keep (ts := [1, 2, 3]) (ids := [1, 2, 3]) rfl rfl ?_)
  refine At.thenC ?_
  refine W.seq ?_
  obtain ⟨hc1, H⟩ := of_must H
  obtain ⟨hc2, H⟩ := of_must H
  refine W.region env [] [] rfl rfl (by first | rfl | kernel_rfl) (.cons hc1 (.cons hc2 .nil)) .nil (At.keep (ts := [1, 2, 3]) (ids := [1, 2, 3, 13, 19]) rfl rfl ?_)
  refine At.convM (.cons (.refl _) (.cons (.refl _) (.cons (.refl _) (.cons (y := bufL 3 1 enc_Int (List.replicate (((p0.next.length : Nat) : Int)).toNat (0 : Int))) (BSim.seg (Seg.made (f := enc_Int) 0 rfl)) (.cons (y := bufL 3 1 enc_Int (List.replicate (((p0.next.length : Nat) : Int)).toNat (0 : Int))) (BSim.seg (Seg.made (f := enc_Int) 0 rfl)) .nil))))) ?_
  refine At.thenC ?_
  refine W.seq ?_
  refine W.seq ?_
  refine W.region env [] [] rfl rfl rfl (.cons (by first | rfl | (simp; done) | omega | (simp; omega)) .nil) .nil (At.keep (ts := [1, 2, 3, 21, 22]) (ids := [1, 2, 3, 13, 19]) rfl rfl ?_)
  refine At.thenC ?_
  refine W.block ?_
  refine At.keep (ts := [1, 2, 3, 21, 22]) (ids := [1, 2, 3, 13, 19]) rfl rfl ?_
  obtain ⟨hn3, H⟩ := of_must H
  refine W.rangeGo H (fun i3 (s3 : (List Int) × (List Int)) => [(1, .lp 1 0), (2, .lp 2 0), (3, .lp 3 0), (21, .int .i64 ((((List.replicate (((p0.next.length : Nat) : Int)).toNat (0 : Int)).length : Nat) : Int))), (22, .int .i64 ((i3 : Int)))]) (fun i3 (s3 : (List Int) × (List Int)) => [(1, .cells [.rp [roL 4 enc_Task p0.Crew.Tasks, roL 1 enc_ListRange p0.Crew.Travel, roL 3 enc_Hand p0.Crew.Hands, roL 1 enc_Int p0.next]]), (2, .cells [.buf 13 (s3.1).length]), (3, .cells [.buf 19 (s3.2).length]), (13, bufL 3 1 enc_Int s3.1), (19, bufL 3 1 enc_Int s3.2)]) (.cons (.of_eq (by first | rfl | (simp; done) | omega | (simp; omega))) (.cons (.of_eq (by first | rfl | (simp; done) | omega | (simp; omega))) (.cons (.of_eq (by first | rfl | (simp; done) | omega | (simp; omega))) (.cons (.of_eq (by first | rfl | (simp; done) | omega | (refine intEq ?_; first | omega | (simp; done) | (simp; omega)) | (simp; omega))) (.cons (.of_eq (by first | rfl | (simp; done) | omega | (refine intEq ?_; first | omega | (simp; done) | (simp; omega)) | (simp; omega))) .nil))))) (.cons (.of_eq (by first | rfl | (simp; done) | omega | (simp; omega))) (.cons (BSim.cells (.cons (.of_eq (by refine bufEq ?_; first | rfl | (simp; done) | omega | (simp; omega))) .nil)) (.cons (BSim.cells (.cons (.of_eq (by refine bufEq ?_; first | rfl | (simp; done) | omega | (simp; omega))) .nil)) (.cons (.of_eq (by first | rfl | (simp; done) | omega | (simp; omega))) (.cons (.of_eq (by first | rfl | (simp; done) | omega | (simp; omega))) .nil))))) (fun k3 i3 s3 hle3 H1 H2 K0 hK3 => ?_)
  refine W.seq ?_
  refine W.region env [] [] rfl rfl rfl .nil .nil (At.keep (ts := [1, 2, 3, 21, 22, 23]) (ids := [1, 2, 3, 13, 19]) rfl rfl ?_)
  refine At.thenC ?_
  refine W.seq ?_
  refine W.cond rfl (fun hb4 => ?_) (fun hb4 => ?_)
  · have hi3 : i3 < (List.replicate (((p0.next.length : Nat) : Int)).toNat (0 : Int)).length := by have := of_decide_eq_true hb4; omega
    have H := H1 hi3
    refine W.skip ?_
    refine At.thenC ?_
    refine W.seq ?_
    refine W.block ?_
    refine W.seq ?_
    refine W.region env [] [] rfl rfl rfl .nil .nil (At.keep (ts := [1, 2, 3, 4, 21, 22]) (ids := [1, 2, 3, 13, 19]) rfl rfl ?_)
    refine At.thenC ?_
    obtain ⟨hc5, H⟩ := of_must H
    obtain ⟨hc6, H⟩ := of_must H
    refine W.region env [] [] rfl rfl (by first | rfl | kernel_rfl) (.cons (⟨by first | rfl | (simp; done) | omega | (simp; omega), hc5⟩) (.cons (⟨by first | rfl | (simp; done) | omega | (simp; omega), (by have := hc5; first | omega | (simp only [List.length_set]; omega) | (simp only [Int.toNat_natCast] at *; omega) | (simp at this ⊢; omega))⟩) (.cons (⟨by first | rfl | (simp; done) | omega | (simp; omega), hc6⟩) (.cons (⟨by first | rfl | (simp; done) | omega | (simp; omega), (by have := hc6; first | omega | (simp only [List.length_set]; omega) | (simp only [Int.toNat_natCast] at *; omega) | (simp at this ⊢; omega))⟩) .nil)))) .nil (At.keep (ts := [1, 2, 3, 21, 22]) (ids := [1, 2, 3, 13, 19]) rfl rfl ?_)
    refine At.convM (.cons (.refl _) (.cons (.refl _) (.cons (.refl _) (.cons (y := bufL 3 1 enc_Int (s3.1.set i3 (-1))) (BSim.seg (Seg.set (Seg.refl enc_Int _) (-1) rfl)) (.cons (y := bufL 3 1 enc_Int (s3.2.set i3 (-1))) (BSim.seg (Seg.set (Seg.refl enc_Int _) (-1) rfl)) .nil))))) ?_
    refine At.inb ?_
    refine At.thenC ?_
    refine W.region env [] [] rfl rfl rfl (.cons (by unfold inI; have := hn3; (try unfold maxLen at this); omega) .nil) .nil (At.keep (ts := [1, 2, 3, 21, 22]) (ids := [1, 2, 3, 13, 19]) rfl rfl ?_)
    refine At.thenK (At.keep (ts := [1, 2, 3, 21, 22]) (ids := [1, 2, 3, 13, 19]) rfl rfl ?_)
    exact At.conv (.cons (.of_eq (by first | rfl | (simp; done) | omega | (simp; omega))) (.cons (.of_eq (by first | rfl | (simp; done) | omega | (simp; omega))) (.cons (.of_eq (by first | rfl | (simp; done) | omega | (simp; omega))) (.cons (.of_eq (by first | rfl | (simp; done) | omega | (refine intEq ?_; first | omega | (simp; done) | (simp; omega)) | (simp; omega))) (.cons (.of_eq (by first | rfl | (simp; done) | omega | (refine intEq ?_; first | omega | (simp; done) | (simp; omega)) | (simp; omega))) .nil))))) (.cons (.of_eq (by first | rfl | (simp; done) | omega | (simp; omega))) (.cons (BSim.cells (.cons (.of_eq (by refine bufEq ?_; first | rfl | (simp; done) | omega | (simp; omega))) .nil)) (.cons (BSim.cells (.cons (.of_eq (by refine bufEq ?_; first | rfl | (simp; done) | omega | (simp; omega))) .nil)) (.cons (.of_eq (by first | rfl | (simp; done) | omega | (simp; omega))) (.cons (.of_eq (by first | rfl | (simp; done) | omega | (simp; omega))) .nil))))) (hK3 hi3 ((s3.1.set i3 (-1)), (s3.2.set i3 (-1))) H)
  · have H := H2 (by have := of_decide_eq_false hb4; omega)
    refine W.exit ?_
    refine At.xthen ?_
    refine At.xthen ?_
    refine At.xhere ?_
    refine At.thenC ?_
    refine W.seq ?_
    refine W.seq ?_
    refine W.region env [] [] rfl rfl rfl .nil .nil (At.keep (ts := [1, 2, 3, 36, 37]) (ids := [1, 2, 3, 13, 19]) rfl rfl ?_)
    refine At.thenC ?_
    refine W.block ?_
    refine At.keep (ts := [1, 2, 3, 36, 37]) (ids := [1, 2, 3, 13, 19]) rfl rfl ?_
    obtain ⟨hn7, H⟩ := of_must H
    refine W.rangeGo H (fun i7 (s7 : (List Int) × (List Int)) => [(1, .lp 1 0), (2, .lp 2 0), (3, .lp 3 0), (36, .int .i64 (((p0.next.length : Nat) : Int))), (37, .int .i64 ((i7 : Int)))]) (fun i7 (s7 : (List Int) × (List Int)) => [(1, .cells [.rp [roL 4 enc_Task p0.Crew.Tasks, roL 1 enc_ListRange p0.Crew.Travel, roL 3 enc_Hand p0.Crew.Hands, roL 1 enc_Int p0.next]]), (2, .cells [.buf 13 (s7.1).length]), (3, .cells [.buf 19 (s7.2).length]), (13, bufL 3 1 enc_Int s7.1), (19, bufL 3 1 enc_Int s7.2)]) (.cons (.of_eq (by first | rfl | (simp; done) | omega | (simp; omega))) (.cons (.of_eq (by first | rfl | (simp; done) | omega | (simp; omega))) (.cons (.of_eq (by first | rfl | (simp; done) | omega | (simp; omega))) (.cons (.of_eq (by first | rfl | (simp; done) | omega | (refine intEq ?_; first | omega | (simp; done) | (simp; omega)) | (simp; omega))) (.cons (.of_eq (by first | rfl | (simp; done) | omega | (refine intEq ?_; first | omega | (simp; done) | (simp; omega)) | (simp; omega))) .nil))))) (.cons (.of_eq (by first | rfl | (simp; done) | omega | (simp; omega))) (.cons (BSim.cells (.cons (.of_eq (by refine bufEq ?_; first | rfl | (simp; done) | omega | (simp; omega))) .nil)) (.cons (BSim.cells (.cons (.of_eq (by refine bufEq ?_; first | rfl | (simp; done) | omega | (simp; omega))) .nil)) (.cons (.of_eq (by first | rfl | (simp; done) | omega | (simp; omega))) (.cons (.of_eq (by first | rfl | (simp; done) | omega | (simp; omega))) .nil))))) (fun k7 i7 s7 hle7 H1 H2 K0 hK7 => ?_)
    refine W.seq ?_
    refine W.region env [] [] rfl rfl rfl .nil .nil (At.keep (ts := [1, 2, 3, 36, 37, 38]) (ids := [1, 2, 3, 13, 19]) rfl rfl ?_)
    refine At.thenC ?_
    refine W.seq ?_
    refine W.cond rfl (fun hb8 => ?_) (fun hb8 => ?_)
    · have hi7 : i7 < p0.next.length := by have := of_decide_eq_true hb8; omega
      have H := H1 hi7
      refine W.skip ?_
      refine At.thenC ?_
      refine W.seq ?_
      refine W.block ?_
      refine W.seq ?_
      refine W.region env [] [] rfl rfl rfl .nil .nil (At.keep (ts := [1, 2, 3, 5, 36, 37]) (ids := [1, 2, 3, 13, 19]) rfl rfl ?_)
      refine At.thenC ?_
      refine W.seq ?_
      refine W.region env [] [] rfl rfl rfl .nil .nil (At.keep (ts := [1, 2, 3, 5, 6, 36, 37]) (ids := [1, 2, 3, 6, 13, 19]) rfl rfl ?_)
      refine At.thenC ?_
      refine W.seq ?_
      refine W.region env [] [] rfl rfl rfl .nil .nil (At.keep (ts := [1, 2, 3, 5, 6, 7, 36, 37]) (ids := [1, 2, 3, 6, 7, 13, 19]) rfl rfl ?_)
      refine At.thenC ?_
      refine W.seq ?_
      refine W.region env [] [] rfl rfl rfl .nil .nil (At.keep (ts := [1, 2, 3, 5, 7, 36, 37]) (ids := [1, 2, 3, 6, 7, 13, 19]) rfl rfl ?_)
      refine At.thenC ?_
      obtain ⟨y9, hy10, H⟩ := of_bindO H
      obtain ⟨hc11, H⟩ := of_must H
      obtain ⟨hc12, H⟩ := of_must H
      refine W.region env [] [⟨.bool (y9.1), [(1, .cells [.rp [roL 4 enc_Task p0.Crew.Tasks, roL 1 enc_ListRange p0.Crew.Travel, roL 3 enc_Hand p0.Crew.Hands, roL 1 enc_Int p0.next]]), (6, .cells [.int .i64 (y9.2.1)]), (2, .cells [.buf 13 (y9.2.2.1).length]), (13, bufL 3 1 enc_Int y9.2.2.1), (7, .cells [.fn (.func 96) [] [.lp 1 0, .lp 6 0, .lp 2 0, .lp 7 0, .lp 3 0]]), (3, .cells [.buf 19 (y9.2.2.2).length]), (19, bufL 3 1 enc_Int y9.2.2.2)], 0, [1, 6, 2, 13, 7, 3, 19]⟩] rfl rfl (by kernel_rfl) .nil (.free (CtrO.sim (CtrO.ren (cl_crew_plan__pair_1_l fuel fuel (i7 : Int) p0 0 s7.1 s7.2 hy10) [(90000, 1), (90001, 6), (90002, 2), (90003, 13), (90004, 7), (90005, 3), (90006, 19)]) (.cons (.refl _) (.cons (.refl _) (.cons (.refl _) (.cons (.refl _) (.cons (.refl _) (.cons (.refl _) .nil)))))) (.cons (.refl _) (.cons (.refl _) (.cons (BSim.cells (.cons (.of_eq (by refine bufEq ?_; first | rfl | (simp; done) | omega | (simp; omega))) .nil)) (.cons (.refl _) (.cons (.refl _) (.cons (BSim.cells (.cons (.of_eq (by refine bufEq ?_; first | rfl | (simp; done) | omega | (simp; omega))) .nil)) (.cons (.refl _) .nil)))))))) .nil) (At.keep (ts := [1, 2, 3, 36, 37]) (ids := [1, 2, 3, 13, 19]) rfl rfl ?_)
      refine At.inb ?_
      refine At.thenC ?_
      refine W.region env [] [] rfl rfl rfl (.cons (by unfold inI; have := hn7; (try unfold maxLen at this); omega) .nil) .nil (At.keep (ts := [1, 2, 3, 36, 37]) (ids := [1, 2, 3, 13, 19]) rfl rfl ?_)
      refine At.thenK (At.keep (ts := [1, 2, 3, 36, 37]) (ids := [1, 2, 3, 13, 19]) rfl rfl ?_)
      exact At.conv (.cons (.of_eq (by first | rfl | (simp; done) | omega | (simp; omega))) (.cons (.of_eq (by first | rfl | (simp; done) | omega | (simp; omega))) (.cons (.of_eq (by first | rfl | (simp; done) | omega | (simp; omega))) (.cons (.of_eq (by first | rfl | (simp; done) | omega | (refine intEq ?_; first | omega | (simp; done) | (simp; omega)) | (simp; omega))) (.cons (.of_eq (by first | rfl | (simp; done) | omega | (refine intEq ?_; first | omega | (simp; done) | (simp; omega)) | (simp; omega))) .nil))))) (.cons (.of_eq (by first | rfl | (simp; done) | omega | (simp; omega))) (.cons (BSim.cells (.cons (.of_eq (by refine bufEq ?_; first | rfl | (simp; done) | omega | (simp; omega))) .nil)) (.cons (BSim.cells (.cons (.of_eq (by refine bufEq ?_; first | rfl | (simp; done) | omega | (simp; omega))) .nil)) (.cons (.of_eq (by first | rfl | (simp; done) | omega | (simp; omega))) (.cons (.of_eq (by first | rfl | (simp; done) | omega | (simp; omega))) .nil))))) (hK7 hi7 (y9.2.2.1, y9.2.2.2) H)
    · have H := H2 (by have := of_decide_eq_false hb8; omega)
      refine W.exit ?_
      refine At.xthen ?_
      refine At.xthen ?_
      refine At.xhere ?_
      refine At.thenC ?_
      refine W.seq ?_
      refine W.region env [] [] rfl rfl (by first | rfl | kernel_rfl) .nil .nil (At.keep (ts := [2, 3]) (ids := [2, 3, 13, 19]) rfl rfl ?_)
      refine At.thenC ?_
      refine W.ret ?_
      cases H
      exact At.ret env.ty rfl rfl (fun q hq => by cases hq; exact ⟨by first | rfl | (simp; done) | omega | (simp; omega), (by first | rfl | (simp; done) | omega | (simp; omega))⟩) (.refl _) hval

theorem c_crew_plan__count (fuel : Nat) (p0 : crew_plan) {r : Int} (H : crew_plan__count fuel p0 = some r) : Ctr Try.prog 65 [.rp [roL 4 enc_Task p0.Crew.Tasks, roL 1 enc_ListRange p0.Crew.Travel, roL 3 enc_Hand p0.Crew.Hands, roL 1 enc_Int p0.next]] (.int .i64 (r)) := by
  unfold crew_plan__count at H
  refine Ctr.of_body (N := 25) Try.func65 (by kernel_rfl) (c := _) rfl Try.ntmps65 rfl (fun w0 h0 hval => ?_)
  refine W.seq ?_
  refine W.region env [] [] rfl rfl rfl .nil .nil (At.keep (ts := [0]) (ids := []) rfl rfl ?_)
  refine At.thenC ?_
  refine W.seq ?_
  obtain ⟨y1, hy2, H⟩ := of_bindO H
  refine W.region env [] [⟨.tup [roL 1 enc_Int y1.1, roL 1 enc_Int y1.2], [], 0, []⟩] rfl rfl rfl .nil (.free (c_crew_plan__pair fuel p0 hy2) .nil) (At.keep (ts := [3]) (ids := []) rfl rfl ?_)
  refine At.thenC ?_
  refine W.seq ?_
  refine W.region env [] [] rfl rfl rfl .nil .nil (At.keep (ts := [3, 5]) (ids := []) rfl rfl ?_)
  refine At.thenC ?_
  refine W.seq ?_
  refine W.seq ?_
  refine W.region env [] [] rfl rfl rfl .nil .nil (At.keep (ts := [5, 13, 14, 15]) (ids := []) rfl rfl ?_)
  refine At.thenC ?_
  refine W.block ?_
  refine At.keep (ts := [5, 13, 14, 15]) (ids := []) rfl rfl ?_
  refine W.len (t := 13) rfl (fun (hn3 : y1.1.length ≤ maxLen) => ?_)
  refine W.rangeGo H (fun i3 (s3 : Int) => [(5, .int .i64 (s3)), (13, roL 1 enc_Int y1.1), (14, .int .i64 (((y1.1.length : Nat) : Int))), (15, .int .i64 ((i3 : Int)))]) (fun i3 (s3 : Int) => []) (.cons (.of_eq (by first | rfl | (simp; done) | omega | (refine intEq ?_; first | omega | (simp; done) | (simp; omega)) | (simp; omega))) (.cons (.of_eq (by first | rfl | (simp; done) | omega | (simp; omega))) (.cons (.of_eq (by first | rfl | (simp; done) | omega | (refine intEq ?_; first | omega | (simp; done) | (simp; omega)) | (simp; omega))) (.cons (.of_eq (by first | rfl | (simp; done) | omega | (refine intEq ?_; first | omega | (simp; done) | (simp; omega)) | (simp; omega))) .nil)))) .nil (fun k3 i3 s3 hle3 H1 H2 K0 hK3 => ?_)
  refine W.seq ?_
  refine W.region env [] [] rfl rfl rfl .nil .nil (At.keep (ts := [5, 13, 14, 15, 16]) (ids := []) rfl rfl ?_)
  refine At.thenC ?_
  refine W.seq ?_
  refine W.cond rfl (fun hb4 => ?_) (fun hb4 => ?_)
  · have hi3 : i3 < y1.1.length := by have := of_decide_eq_true hb4; omega
    have H := H1 hi3
    refine W.skip ?_
    refine At.thenC ?_
    refine W.seq ?_
    refine W.block ?_
    refine W.seq ?_
    refine W.region env [] [] rfl rfl rfl (.cons (⟨by omega, by omega⟩ : 0 ≤ (i3 : Int) ∧ (i3 : Int) < ((y1.1.length : Nat) : Int)) .nil) .nil (At.keep (ts := [5, 7, 13, 14, 15]) (ids := []) rfl rfl ?_)
    refine At.thenC ?_
    refine W.seq ?_
    refine W.region env [] [] rfl rfl rfl .nil .nil (At.keep (ts := [5, 13, 14, 15, 20]) (ids := []) rfl rfl ?_)
    refine At.thenC ?_
    refine W.cond rfl (fun hb5 => ?_) (fun hb5 => ?_)
    · have H := of_true H hb5
      obtain ⟨hc6, H⟩ := of_must H
      refine W.region env [] [] rfl rfl rfl (.cons hc6 .nil) .nil (At.keep (ts := [5, 13, 14, 15]) (ids := []) rfl rfl ?_)
      refine At.inb ?_
      refine At.thenC ?_
      refine W.region env [] [] rfl rfl rfl (.cons (by unfold inI; have := hn3; (try unfold maxLen at this); omega) .nil) .nil (At.keep (ts := [5, 13, 14, 15]) (ids := []) rfl rfl ?_)
      refine At.thenK (At.keep (ts := [5, 13, 14, 15]) (ids := []) rfl rfl ?_)
      exact At.conv (.cons (.of_eq (by first | rfl | (simp; done) | omega | (refine intEq ?_; first | omega | (simp; done) | (simp; omega)) | (simp; omega))) (.cons (.of_eq (by first | rfl | (simp; done) | omega | (simp; omega))) (.cons (.of_eq (by first | rfl | (simp; done) | omega | (refine intEq ?_; first | omega | (simp; done) | (simp; omega)) | (simp; omega))) (.cons (.of_eq (by first | rfl | (simp; done) | omega | (refine intEq ?_; first | omega | (simp; done) | (simp; omega)) | (simp; omega))) .nil)))) .nil (hK3 hi3 (s3 + 1) H)
    · have H := of_false H hb5
      refine W.skip ?_
      refine At.inb ?_
      refine At.thenC ?_
      refine W.region env [] [] rfl rfl rfl (.cons (by unfold inI; have := hn3; (try unfold maxLen at this); omega) .nil) .nil (At.keep (ts := [5, 13, 14, 15]) (ids := []) rfl rfl ?_)
      refine At.thenK (At.keep (ts := [5, 13, 14, 15]) (ids := []) rfl rfl ?_)
      exact At.conv (.cons (.of_eq (by first | rfl | (simp; done) | omega | (refine intEq ?_; first | omega | (simp; done) | (simp; omega)) | (simp; omega))) (.cons (.of_eq (by first | rfl | (simp; done) | omega | (simp; omega))) (.cons (.of_eq (by first | rfl | (simp; done) | omega | (refine intEq ?_; first | omega | (simp; done) | (simp; omega)) | (simp; omega))) (.cons (.of_eq (by first | rfl | (simp; done) | omega | (refine intEq ?_; first | omega | (simp; done) | (simp; omega)) | (simp; omega))) .nil)))) .nil (hK3 hi3 s3 H)
  · have H := H2 (by have := of_decide_eq_false hb4; omega)
    refine W.exit ?_
    refine At.xthen ?_
    refine At.xthen ?_
    refine At.xhere ?_
    refine At.thenC ?_
    refine W.seq ?_
    refine W.region env [] [] rfl rfl rfl .nil .nil (At.keep (ts := [2]) (ids := []) rfl rfl ?_)
    refine At.thenC ?_
    refine W.ret ?_
    cases H
    exact At.ret env.ty rfl rfl (fun q hq => by cases hq) (.refl _) hval

theorem c_crew_Count (fuel : Nat) (p0 : Crew) {r : (Int × Int)} (H : crew_Count fuel p0 = some r) : Ctr Try.prog 22 [.agg [roL 4 enc_Task p0.Tasks, roL 1 enc_ListRange p0.Travel, roL 3 enc_Hand p0.Hands]] (.tup [.int .i64 (r.1), .int .i64 (r.2)]) := by
  unfold crew_Count at H
  refine Ctr.of_body (N := 13) Try.func22 (by kernel_rfl) (c := _) rfl Try.ntmps22 rfl (fun w0 h0 hval => ?_)
  refine W.seq ?_
  refine W.region env [] [] rfl rfl rfl .nil .nil (At.keep (ts := [1]) (ids := [1]) rfl rfl ?_)
  refine At.thenC ?_
  refine W.seq ?_
  refine W.seq ?_
  obtain ⟨y1, hy2, H⟩ := of_bindO H
  refine W.region env [] [⟨.int .i64 (y1), [], 0, []⟩] rfl rfl rfl .nil (.free (c_crew_Check p0 hy2) .nil) (At.keep (ts := [1, 4]) (ids := [1]) rfl rfl ?_)
  refine At.thenC ?_
  refine W.seq ?_
  refine W.region env [] [] rfl rfl rfl .nil .nil (At.keep (ts := [1, 4, 8]) (ids := [1]) rfl rfl ?_)
  refine At.thenC ?_
  refine W.cond rfl (fun hb3 => ?_) (fun hb3 => ?_)
  · have H := of_true H hb3
    refine W.seq ?_
    refine W.region env [] [] rfl rfl rfl .nil .nil (At.keep (ts := [2, 3]) (ids := []) rfl rfl ?_)
    refine At.thenC ?_
    refine W.ret ?_
    refine At.rthen ?_
    cases H
    exact At.ret env.ty rfl rfl (fun q hq => by cases hq) (.refl _) hval
  · have H := of_false H hb3
    refine W.skip ?_
    refine At.thenC ?_
    refine W.seq ?_
    obtain ⟨y4, hy5, H⟩ := of_bindO H
    obtain ⟨hc6, H⟩ := of_must H
    obtain ⟨y7, hy8, H⟩ := of_bindO H
    refine W.region env [] [⟨.po y4.isSome [roL 4 enc_Task ((y4.getD default).Crew.Tasks), roL 1 enc_ListRange ((y4.getD default).Crew.Travel), roL 3 enc_Hand ((y4.getD default).Crew.Hands), roL 1 enc_Int ((y4.getD default).next)], [], 0, []⟩, ⟨.int .i64 (y7), [], 0, []⟩] rfl rfl rfl .nil (.free (c_crew_newPlan p0 (fun x0 => some (crew_most x0)) 46 [] [] (fun x0 r h => by cases h; exact c_crew_most x0) hy5) (.free (Ctr.sim (.cons (Sim.rp_po hc6) .nil) (c_crew_plan__count fuel (y4.getD default) hy8)) .nil)) (At.keep (ts := [2, 3]) (ids := []) rfl rfl ?_)
    refine At.thenC ?_
    refine W.ret ?_
    cases H
    exact At.ret env.ty rfl rfl (fun q hq => by cases hq) (.refl _) hval

theorem c_crew_Bounds (fuel : Nat) (p0 : Crew) {r : (Range × Int)} (H : crew_Bounds fuel p0 = some r) : Ctr Try.prog 24 [.agg [roL 4 enc_Task p0.Tasks, roL 1 enc_ListRange p0.Travel, roL 3 enc_Hand p0.Hands]] (.tup [.agg [.int .i64 (r.1.Lo), .int .i64 (r.1.Hi)], .int .i64 (r.2)]) := by
  unfold crew_Bounds at H
  refine Ctr.of_body (N := 18) Try.func24 (by kernel_rfl) (c := _) rfl Try.ntmps24 rfl (fun w0 h0 hval => ?_)
  refine W.seq ?_
  refine W.region env [] [] rfl rfl rfl .nil .nil (At.keep (ts := [1, 2]) (ids := [1, 2]) rfl rfl ?_)
  refine At.thenC ?_
  refine W.seq ?_
  refine W.seq ?_
  obtain ⟨y1, hy2, H⟩ := of_bindO H
  refine W.region env [] [⟨.int .i64 (y1), [], 0, []⟩] rfl rfl rfl .nil (.free (c_crew_Check p0 hy2) .nil) (At.keep (ts := [1, 2, 4]) (ids := [1, 2]) rfl rfl ?_)
  refine At.thenC ?_
  refine W.seq ?_
  refine W.region env [] [] rfl rfl rfl .nil .nil (At.keep (ts := [1, 2, 4, 8]) (ids := [1, 2]) rfl rfl ?_)
  refine At.thenC ?_
  refine W.cond rfl (fun hb3 => ?_) (fun hb3 => ?_)
  · have H := of_true H hb3
    refine W.seq ?_
    refine W.region env [] [] rfl rfl rfl .nil .nil (At.keep (ts := [2, 3]) (ids := [2]) rfl rfl ?_)
    refine At.thenC ?_
    refine W.ret ?_
    refine At.rthen ?_
    cases H
    exact At.ret env.ty rfl rfl (fun q hq => by cases hq) (.refl _) hval
  · have H := of_false H hb3
    refine W.skip ?_
    refine At.thenC ?_
    refine W.seq ?_
    obtain ⟨y4, hy5, H⟩ := of_bindO H
    obtain ⟨hc6, H⟩ := of_must H
    obtain ⟨y7, hy8, H⟩ := of_bindO H
    obtain ⟨y9, hy10, H⟩ := of_bindO H
    obtain ⟨hc11, H⟩ := of_must H
    obtain ⟨y12, hy13, H⟩ := of_bindO H
    refine W.region env [] [⟨.po y4.isSome [roL 4 enc_Task ((y4.getD default).Crew.Tasks), roL 1 enc_ListRange ((y4.getD default).Crew.Travel), roL 3 enc_Hand ((y4.getD default).Crew.Hands), roL 1 enc_Int ((y4.getD default).next)], [], 0, []⟩, ⟨.int .i64 (y7), [], 0, []⟩, ⟨.po y9.isSome [roL 4 enc_Task ((y9.getD default).Crew.Tasks), roL 1 enc_ListRange ((y9.getD default).Crew.Travel), roL 3 enc_Hand ((y9.getD default).Crew.Hands), roL 1 enc_Int ((y9.getD default).next)], [], 0, []⟩, ⟨.int .i64 (y12), [], 0, []⟩] rfl rfl (by kernel_rfl) .nil (.free (c_crew_newPlan p0 (fun x0 => some (crew_least x0)) 63 [] [] (fun x0 r h => by cases h; exact c_crew_least x0) hy5) (.free (Ctr.sim (.cons (Sim.rp_po hc6) .nil) (c_crew_plan__count fuel (y4.getD default) hy8)) (.free (c_crew_newPlan p0 (fun x0 => some (crew_most x0)) 46 [] [] (fun x0 r h => by cases h; exact c_crew_most x0) hy10) (.free (Ctr.sim (.cons (Sim.rp_po hc11) .nil) (c_crew_plan__count fuel (y9.getD default) hy13)) .nil)))) (At.keep (ts := [2, 3]) (ids := [2]) rfl rfl ?_)
    refine At.thenC ?_
    refine W.ret ?_
    cases H
    exact At.ret env.ty rfl rfl (fun q hq => by cases hq) (.refl _) hval

theorem c_crew_plan__isRound (p0 : crew_plan) (p1 : (List Int)) {r : Bool} (H : crew_plan__isRound p0 p1 = some r) : Ctr Try.prog 102 [.rp [roL 4 enc_Task p0.Crew.Tasks, roL 1 enc_ListRange p0.Crew.Travel, roL 3 enc_Hand p0.Crew.Hands, roL 1 enc_Int p0.next], roL 1 enc_Int p1] (.bool (r)) := by
  unfold crew_plan__isRound at H
  refine Ctr.of_body (N := 48) Try.func102 (by kernel_rfl) (c := _) rfl Try.ntmps102 rfl (fun w0 h0 hval => ?_)
  refine W.seq ?_
  refine W.region env [] [] rfl rfl rfl .nil .nil (At.keep (ts := [0, 1]) (ids := []) rfl rfl ?_)
  refine At.thenC ?_
  refine W.seq ?_
  refine W.seq ?_
  refine W.region env [] [] rfl rfl rfl .nil .nil (At.keep (ts := [0, 1, 7, 8, 9]) (ids := []) rfl rfl ?_)
  refine At.thenC ?_
  refine W.block ?_
  refine At.keep (ts := [0, 1, 7, 8, 9]) (ids := []) rfl rfl ?_
  refine W.len (t := 7) rfl (fun (hn1 : p1.length ≤ maxLen) => ?_)
  refine W.rangeGo H (fun i1 (s1 : Unit) => [(0, .rp [roL 4 enc_Task p0.Crew.Tasks, roL 1 enc_ListRange p0.Crew.Travel, roL 3 enc_Hand p0.Crew.Hands, roL 1 enc_Int p0.next]), (1, roL 1 enc_Int p1), (7, roL 1 enc_Int p1), (8, .int .i64 (((p1.length : Nat) : Int))), (9, .int .i64 ((i1 : Int)))]) (fun i1 (s1 : Unit) => []) (.cons (.of_eq (by first | rfl | (simp; done) | omega | (simp; omega))) (.cons (.of_eq (by first | rfl | (simp; done) | omega | (simp; omega))) (.cons (.of_eq (by first | rfl | (simp; done) | omega | (simp; omega))) (.cons (.of_eq (by first | rfl | (simp; done) | omega | (refine intEq ?_; first | omega | (simp; done) | (simp; omega)) | (simp; omega))) (.cons (.of_eq (by first | rfl | (simp; done) | omega | (refine intEq ?_; first | omega | (simp; done) | (simp; omega)) | (simp; omega))) .nil))))) .nil (fun k1 i1 s1 hle1 H1 H2 K0 hK1 => ?_)
  refine W.seq ?_
  refine W.region env [] [] rfl rfl rfl .nil .nil (At.keep (ts := [0, 1, 7, 8, 9, 10]) (ids := []) rfl rfl ?_)
  refine At.thenC ?_
  refine W.seq ?_
  refine W.cond rfl (fun hb2 => ?_) (fun hb2 => ?_)
  · have hi1 : i1 < p1.length := by have := of_decide_eq_true hb2; omega
    have H := H1 hi1
    refine W.skip ?_
    refine At.thenC ?_
    refine W.seq ?_
    refine W.block ?_
    refine W.seq ?_
    refine W.region env [] [] rfl rfl rfl (.cons (⟨by omega, by omega⟩ : 0 ≤ (i1 : Int) ∧ (i1 : Int) < ((p1.length : Nat) : Int)) .nil) .nil (At.keep (ts := [0, 1, 5, 6, 7, 8, 9]) (ids := []) rfl rfl ?_)
    refine At.thenC ?_
    refine W.seq ?_
    obtain ⟨hc3, H⟩ := of_must H
    obtain ⟨hc4, H⟩ := of_must H
    obtain ⟨hc5, H⟩ := of_must H
    obtain ⟨hc6, H⟩ := of_must H
    obtain ⟨hc7, H⟩ := of_must H
    obtain ⟨hc8, H⟩ := of_must H
    refine W.region env [] [⟨.bool ((crew_in (p1.getD i1 default) 0 (((p0.next.length : Nat) : Int) - 1))), [], 0, []⟩] rfl rfl (by kernel_rfl) (.cons hc3 (.cons (fun h => h) (.cons (fun h => h) (.cons (fun h => h) (.cons (fun h => h) (.cons (fun h => h) (.cons hc4 (.cons (fun h => h) (.cons hc5 (.cons (fun h => h) (.cons (fun h => h) (.cons (fun h => h) (.cons hc6 (.cons (fun h => h) (.cons (fun h => h) (.cons (fun h => h) (.cons hc7 (.cons (fun h => h) (.cons (fun h => h) (.cons hc8 (.cons (fun h => h) (.cons (fun h => h) (.cons (fun h => h) (.cons (fun hW h => by revert hW h; first | (simp +contextual; done) | grind) (.cons (fun h => by rw [h]; rfl) .nil))))))))))))))))))))))))) (.free (c_crew_in (p1.getD i1 default) 0 (((p0.next.length : Nat) : Int) - 1)) .nil) (At.keep (ts := [0, 1, 7, 8, 9, 43]) (ids := []) rfl rfl ?_)
    refine At.thenC ?_
    refine W.cond rfl (fun hb9 => ?_) (fun hb9 => ?_)
    · have H := of_true H hb9
      refine W.seq ?_
      refine W.region env [] [] rfl rfl rfl .nil .nil (At.keep (ts := [4]) (ids := []) rfl rfl ?_)
      refine At.thenC ?_
      refine W.ret ?_
      refine At.rinb ?_
      refine At.rthen ?_
      refine At.rthen ?_
      refine At.rinb ?_
      refine At.rthen ?_
      cases H
      exact At.ret env.ty rfl rfl (fun q hq => by cases hq) (.refl _) hval
    · have H := of_false H hb9
      refine W.skip ?_
      refine At.inb ?_
      refine At.thenC ?_
      refine W.region env [] [] rfl rfl rfl (.cons (by unfold inI; have := hn1; (try unfold maxLen at this); omega) .nil) .nil (At.keep (ts := [0, 1, 7, 8, 9]) (ids := []) rfl rfl ?_)
      refine At.thenK (At.keep (ts := [0, 1, 7, 8, 9]) (ids := []) rfl rfl ?_)
      exact At.conv (.cons (.of_eq (by first | rfl | (simp; done) | omega | (simp; omega))) (.cons (.of_eq (by first | rfl | (simp; done) | omega | (simp; omega))) (.cons (.of_eq (by first | rfl | (simp; done) | omega | (simp; omega))) (.cons (.of_eq (by first | rfl | (simp; done) | omega | (refine intEq ?_; first | omega | (simp; done) | (simp; omega)) | (simp; omega))) (.cons (.of_eq (by first | rfl | (simp; done) | omega | (refine intEq ?_; first | omega | (simp; done) | (simp; omega)) | (simp; omega))) .nil))))) .nil (hK1 hi1 () H)
  · have H := H2 (by have := of_decide_eq_false hb2; omega)
    refine W.exit ?_
    refine At.xthen ?_
    refine At.xthen ?_
    refine At.xhere ?_
    refine At.thenC ?_
    refine W.seq ?_
    refine W.region env [] [] rfl rfl rfl .nil .nil (At.keep (ts := [4]) (ids := []) rfl rfl ?_)
    refine At.thenC ?_
    refine W.ret ?_
    cases H
    exact At.ret env.ty rfl rfl (fun q hq => by cases hq) (.refl _) hval

theorem c_crew_plan__areRounds (p0 : crew_plan) (p1 : (List (List Int))) {r : Bool} (H : crew_plan__areRounds p0 p1 = some r) : Ctr Try.prog 91 [.rp [roL 4 enc_Task p0.Crew.Tasks, roL 1 enc_ListRange p0.Crew.Travel, roL 3 enc_Hand p0.Crew.Hands, roL 1 enc_Int p0.next], roL 1 enc_ListInt p1] (.bool (r)) := by
  unfold crew_plan__areRounds at H
  refine Ctr.of_body (N := 64) Try.func91 (by kernel_rfl) (c := _) rfl Try.ntmps91 rfl (fun w0 h0 hval => ?_)
  refine W.seq ?_
  refine W.region env [] [] rfl rfl rfl .nil .nil (At.keep (ts := [0, 1]) (ids := []) rfl rfl ?_)
  refine At.thenC ?_
  refine W.seq ?_
  refine W.region env [] [] rfl rfl rfl .nil .nil (At.keep (ts := [0, 1, 5]) (ids := []) rfl rfl ?_)
  refine At.thenC ?_
  refine W.seq ?_
  refine W.seq ?_
  refine W.region env [] [] rfl rfl rfl .nil .nil (At.keep (ts := [0, 1, 5, 10, 11, 12]) (ids := []) rfl rfl ?_)
  refine At.thenC ?_
  refine W.block ?_
  refine At.keep (ts := [0, 1, 5, 10, 11, 12]) (ids := []) rfl rfl ?_
  refine W.len (t := 10) rfl (fun (hn1 : p1.length ≤ maxLen) => ?_)
  refine W.rangeGo H (fun i1 (s1 : Int) => [(0, .rp [roL 4 enc_Task p0.Crew.Tasks, roL 1 enc_ListRange p0.Crew.Travel, roL 3 enc_Hand p0.Crew.Hands, roL 1 enc_Int p0.next]), (1, roL 1 enc_ListInt p1), (5, .int .i64 (s1)), (10, roL 1 enc_ListInt p1), (11, .int .i64 (((p1.length : Nat) : Int))), (12, .int .i64 ((i1 : Int)))]) (fun i1 (s1 : Int) => []) (.cons (.of_eq (by first | rfl | (simp; done) | omega | (simp; omega))) (.cons (.of_eq (by first | rfl | (simp; done) | omega | (simp; omega))) (.cons (.of_eq (by first | rfl | (simp; done) | omega | (refine intEq ?_; first | omega | (simp; done) | (simp; omega)) | (simp; omega))) (.cons (.of_eq (by first | rfl | (simp; done) | omega | (simp; omega))) (.cons (.of_eq (by first | rfl | (simp; done) | omega | (refine intEq ?_; first | omega | (simp; done) | (simp; omega)) | (simp; omega))) (.cons (.of_eq (by first | rfl | (simp; done) | omega | (refine intEq ?_; first | omega | (simp; done) | (simp; omega)) | (simp; omega))) .nil)))))) .nil (fun k1 i1 s1 hle1 H1 H2 K0 hK1 => ?_)
  refine W.seq ?_
  refine W.region env [] [] rfl rfl rfl .nil .nil (At.keep (ts := [0, 1, 5, 10, 11, 12, 13]) (ids := []) rfl rfl ?_)
  refine At.thenC ?_
  refine W.seq ?_
  refine W.cond rfl (fun hb2 => ?_) (fun hb2 => ?_)
  · have hi1 : i1 < p1.length := by have := of_decide_eq_true hb2; omega
    have H := H1 hi1
    refine W.skip ?_
    refine At.thenC ?_
    refine W.seq ?_
    refine W.block ?_
    refine W.seq ?_
    refine W.region env [] [] rfl rfl rfl (.cons (⟨by omega, by omega⟩ : 0 ≤ (i1 : Int) ∧ (i1 : Int) < ((p1.length : Nat) : Int)) .nil) .nil (At.keep (ts := [0, 1, 5, 6, 7, 10, 11, 12]) (ids := []) rfl rfl ?_)
    refine At.thenC ?_
    refine W.seq ?_
    refine W.seq ?_
    obtain ⟨y3, hy4, H⟩ := of_bindO H
    obtain ⟨hc5, H⟩ := of_must H
    obtain ⟨hc6, H⟩ := of_must H
    obtain ⟨hc7, H⟩ := of_must H
    obtain ⟨hc8, H⟩ := of_must H
    refine W.region env [] [⟨.bool (y3), [], 0, []⟩] rfl rfl (by kernel_rfl) (.cons (fun h => h) (.cons (fun h => h) (.cons hc5 (.cons (fun h => h) (.cons hc6 (.cons (fun h => h) (.cons (fun h => h) (.cons (fun h => h) (.cons hc7 (.cons (fun h => h) (.cons (fun h => h) (.cons hc8 (.cons (fun h => h) (.cons (fun h => h) (.cons (fun h => h) (.cons (fun h => h) (.cons (fun h => h) (.cons (fun hW h => by revert hW h; first | (simp +contextual; done) | grind) (.cons (fun h => by rw [h]; rfl) .nil))))))))))))))))))) (.free (c_crew_plan__isRound p0 (p1.getD i1 default) hy4) .nil) (At.keep (ts := [0, 1, 5, 7, 10, 11, 12, 37]) (ids := []) rfl rfl ?_)
    refine At.thenC ?_
    refine W.cond rfl (fun hb9 => ?_) (fun hb9 => ?_)
    · have H := of_true H hb9
      refine W.seq ?_
      refine W.region env [] [] rfl rfl rfl .nil .nil (At.keep (ts := [4]) (ids := []) rfl rfl ?_)
      refine At.thenC ?_
      refine W.ret ?_
      refine At.rthen ?_
      refine At.rinb ?_
      refine At.rthen ?_
      refine At.rthen ?_
      refine At.rinb ?_
      refine At.rthen ?_
      cases H
      exact At.ret env.ty rfl rfl (fun q hq => by cases hq) (.refl _) hval
    · have H := of_false H hb9
      refine W.skip ?_
      refine At.thenC ?_
      refine W.seq ?_
      refine W.region env [] [] rfl rfl rfl .nil .nil (At.keep (ts := [0, 1, 5, 10, 11, 12, 38, 39, 40]) (ids := []) rfl rfl ?_)
      refine At.thenC ?_
      refine W.block ?_
      refine At.keep (ts := [0, 1, 5, 10, 11, 12, 38, 39, 40]) (ids := []) rfl rfl ?_
      refine W.len (t := 38) rfl (fun (hn10 : (p1.getD i1 default).length ≤ maxLen) => ?_)
      refine W.rangeGo H (fun i10 (s10 : Int) => [(0, .rp [roL 4 enc_Task p0.Crew.Tasks, roL 1 enc_ListRange p0.Crew.Travel, roL 3 enc_Hand p0.Crew.Hands, roL 1 enc_Int p0.next]), (1, roL 1 enc_ListInt p1), (5, .int .i64 (s10)), (10, roL 1 enc_ListInt p1), (11, .int .i64 (((p1.length : Nat) : Int))), (12, .int .i64 ((i1 : Int))), (38, roL 1 enc_Int (p1.getD i1 default)), (39, .int .i64 ((((p1.getD i1 default).length : Nat) : Int))), (40, .int .i64 ((i10 : Int)))]) (fun i10 (s10 : Int) => []) (.cons (.of_eq (by first | rfl | (simp; done) | omega | (simp; omega))) (.cons (.of_eq (by first | rfl | (simp; done) | omega | (simp; omega))) (.cons (.of_eq (by first | rfl | (simp; done) | omega | (refine intEq ?_; first | omega | (simp; done) | (simp; omega)) | (simp; omega))) (.cons (.of_eq (by first | rfl | (simp; done) | omega | (simp; omega))) (.cons (.of_eq (by first | rfl | (simp; done) | omega | (refine intEq ?_; first | omega | (simp; done) | (simp; omega)) | (simp; omega))) (.cons (.of_eq (by first | rfl | (simp; done) | omega | (refine intEq ?_; first | omega | (simp; done) | (simp; omega)) | (simp; omega))) (.cons (.of_eq (by first | rfl | (simp; done) | omega | (simp; omega))) (.cons (.of_eq (by first | rfl | (simp; done) | omega | (refine intEq ?_; first | omega | (simp; done) | (simp; omega)) | (simp; omega))) (.cons (.of_eq (by first | rfl | (simp; done) | omega | (refine intEq ?_; first | omega | (simp; done) | (simp; omega)) | (simp; omega))) .nil))))))))) .nil (fun k10 i10 s10 hle10 H1 H2 K0 hK10 => ?_)
      refine W.seq ?_
      refine W.region env [] [] rfl rfl rfl .nil .nil (At.keep (ts := [0, 1, 5, 10, 11, 12, 38, 39, 40, 41]) (ids := []) rfl rfl ?_)
      refine At.thenC ?_
      refine W.seq ?_
      refine W.cond rfl (fun hb11 => ?_) (fun hb11 => ?_)
      · have hi10 : i10 < (p1.getD i1 default).length := by have := of_decide_eq_true hb11; omega
        have H := H1 hi10
        refine W.skip ?_
        refine At.thenC ?_
        refine W.seq ?_
        refine W.block ?_
        refine W.seq ?_
        refine W.region env [] [] rfl rfl rfl (.cons (⟨by omega, by omega⟩ : 0 ≤ (i10 : Int) ∧ (i10 : Int) < (((p1.getD i1 default).length : Nat) : Int)) .nil) .nil (At.keep (ts := [0, 1, 5, 9, 10, 11, 12, 38, 39, 40]) (ids := []) rfl rfl ?_)
        refine At.thenC ?_
        refine W.seq ?_
        refine W.seq ?_
        obtain ⟨hc12, H⟩ := of_must H
        obtain ⟨hc13, H⟩ := of_must H
        refine W.region env [] [] rfl rfl rfl (.cons hc12 (.cons hc13 .nil)) .nil (At.keep (ts := [0, 1, 5, 9, 10, 11, 12, 38, 39, 40, 48]) (ids := []) rfl rfl ?_)
        refine At.thenC ?_
        refine W.cond rfl (fun hb14 => ?_) (fun hb14 => ?_)
        · have H := of_true H hb14
          refine W.seq ?_
          refine W.region env [] [] rfl rfl rfl .nil .nil (At.keep (ts := [4]) (ids := []) rfl rfl ?_)
          refine At.thenC ?_
          refine W.ret ?_
          refine At.rthen ?_
          refine At.rinb ?_
          refine At.rthen ?_
          refine At.rthen ?_
          refine At.rinb ?_
          refine At.rinb ?_
          refine At.rthen ?_
          refine At.rthen ?_
          refine At.rinb ?_
          refine At.rthen ?_
          cases H
          exact At.ret env.ty rfl rfl (fun q hq => by cases hq) (.refl _) hval
        · have H := of_false H hb14
          refine W.skip ?_
          refine At.thenC ?_
          obtain ⟨hc15, H⟩ := of_must H
          obtain ⟨hc16, H⟩ := of_must H
          refine W.region env [] [] rfl rfl rfl (.cons hc15 (.cons hc16 .nil)) .nil (At.keep (ts := [0, 1, 5, 10, 11, 12, 38, 39, 40]) (ids := []) rfl rfl ?_)
          refine At.inb ?_
          refine At.thenC ?_
          refine W.region env [] [] rfl rfl rfl (.cons (by unfold inI; have := hn10; (try unfold maxLen at this); omega) .nil) .nil (At.keep (ts := [0, 1, 5, 10, 11, 12, 38, 39, 40]) (ids := []) rfl rfl ?_)
          refine At.thenK (At.keep (ts := [0, 1, 5, 10, 11, 12, 38, 39, 40]) (ids := []) rfl rfl ?_)
          exact At.conv (.cons (.of_eq (by first | rfl | (simp; done) | omega | (simp; omega))) (.cons (.of_eq (by first | rfl | (simp; done) | omega | (simp; omega))) (.cons (.of_eq (by first | rfl | (simp; done) | omega | (refine intEq ?_; first | omega | (simp; done) | (simp; omega)) | (simp; omega))) (.cons (.of_eq (by first | rfl | (simp; done) | omega | (simp; omega))) (.cons (.of_eq (by first | rfl | (simp; done) | omega | (refine intEq ?_; first | omega | (simp; done) | (simp; omega)) | (simp; omega))) (.cons (.of_eq (by first | rfl | (simp; done) | omega | (refine intEq ?_; first | omega | (simp; done) | (simp; omega)) | (simp; omega))) (.cons (.of_eq (by first | rfl | (simp; done) | omega | (simp; omega))) (.cons (.of_eq (by first | rfl | (simp; done) | omega | (refine intEq ?_; first | omega | (simp; done) | (simp; omega)) | (simp; omega))) (.cons (.of_eq (by first | rfl | (simp; done) | omega | (refine intEq ?_; first | omega | (simp; done) | (simp; omega)) | (simp; omega))) .nil))))))))) .nil (hK10 hi10 (((s10 : Int).toNat ||| (((1 : Int) * 2 ^ (((p1.getD i1 default).getD i10 default) : Int).toNat) : Int).toNat : Nat) : Int) H)
      · have H := H2 (by have := of_decide_eq_false hb11; omega)
        refine W.exit ?_
        refine At.xthen ?_
        refine At.xthen ?_
        refine At.xhere ?_
        refine At.inb ?_
        refine At.thenC ?_
        refine W.region env [] [] rfl rfl rfl (.cons (by unfold inI; have := hn1; (try unfold maxLen at this); omega) .nil) .nil (At.keep (ts := [0, 1, 5, 10, 11, 12]) (ids := []) rfl rfl ?_)
        refine At.thenK (At.keep (ts := [0, 1, 5, 10, 11, 12]) (ids := []) rfl rfl ?_)
        exact At.conv (.cons (.of_eq (by first | rfl | (simp; done) | omega | (simp; omega))) (.cons (.of_eq (by first | rfl | (simp; done) | omega | (simp; omega))) (.cons (.of_eq (by first | rfl | (simp; done) | omega | (refine intEq ?_; first | omega | (simp; done) | (simp; omega)) | (simp; omega))) (.cons (.of_eq (by first | rfl | (simp; done) | omega | (simp; omega))) (.cons (.of_eq (by first | rfl | (simp; done) | omega | (refine intEq ?_; first | omega | (simp; done) | (simp; omega)) | (simp; omega))) (.cons (.of_eq (by first | rfl | (simp; done) | omega | (refine intEq ?_; first | omega | (simp; done) | (simp; omega)) | (simp; omega))) .nil)))))) .nil (hK1 hi1 s10 H)
  · have H := H2 (by have := of_decide_eq_false hb2; omega)
    refine W.exit ?_
    refine At.xthen ?_
    refine At.xthen ?_
    refine At.xhere ?_
    refine At.thenC ?_
    refine W.seq ?_
    obtain ⟨hc17, H⟩ := of_must H
    obtain ⟨hc18, H⟩ := of_must H
    refine W.region env [] [] rfl rfl rfl (.cons hc17 (.cons hc18 .nil)) .nil (At.keep (ts := [4]) (ids := []) rfl rfl ?_)
    refine At.thenC ?_
    refine W.ret ?_
    cases H
    exact At.ret env.ty rfl rfl (fun q hq => by cases hq) (.refl _) hval

theorem c_crew_asked (p0 : Crew) (p1 : (List (List Int))) {r : ((Option crew_plan) × Int)} (H : crew_asked p0 p1 = some r) : Ctr Try.prog 44 [.agg [roL 4 enc_Task p0.Tasks, roL 1 enc_ListRange p0.Travel, roL 3 enc_Hand p0.Hands], roL 1 enc_ListInt p1] (.tup [.po r.1.isSome [roL 4 enc_Task ((r.1.getD default).Crew.Tasks), roL 1 enc_ListRange ((r.1.getD default).Crew.Travel), roL 3 enc_Hand ((r.1.getD default).Crew.Hands), roL 1 enc_Int ((r.1.getD default).next)], .int .i64 (r.2)]) := by
  unfold crew_asked at H
  refine Ctr.of_body (N := 20) Try.func44 (by kernel_rfl) (c := _) rfl Try.ntmps44 rfl (fun w0 h0 hval => ?_)
  refine W.seq ?_
  refine W.region env [] [] rfl rfl rfl .nil .nil (At.keep (ts := [1, 2]) (ids := [2]) rfl rfl ?_)
  refine At.thenC ?_
  refine W.seq ?_
  refine W.seq ?_
  obtain ⟨y1, hy2, H⟩ := of_bindO H
  refine W.region env [] [⟨.int .i64 (y1), [], 0, []⟩] rfl rfl rfl .nil (.free (c_crew_Check p0 hy2) .nil) (At.keep (ts := [1, 2, 6]) (ids := [2]) rfl rfl ?_)
  refine At.thenC ?_
  refine W.seq ?_
  refine W.region env [] [] rfl rfl rfl .nil .nil (At.keep (ts := [1, 2, 6, 11]) (ids := [2]) rfl rfl ?_)
  refine At.thenC ?_
  refine W.cond rfl (fun hb3 => ?_) (fun hb3 => ?_)
  · have H := of_true H hb3
    refine W.seq ?_
    refine W.region env [] [] rfl rfl rfl .nil .nil (At.keep (ts := [4, 5]) (ids := []) rfl rfl ?_)
    refine At.thenC ?_
    refine W.ret ?_
    refine At.rthen ?_
    cases H
    exact At.ret env.ty rfl rfl (fun q hq => by cases hq) (Sim.tupL (.cons (Sim.po_nil rfl) (.cons (.refl _) .nil))) hval
  · have H := of_false H hb3
    refine W.skip ?_
    refine At.thenC ?_
    refine W.seq ?_
    obtain ⟨y4, hy5, H⟩ := of_bindO H
    refine W.region env [] [⟨.po y4.isSome [roL 4 enc_Task ((y4.getD default).Crew.Tasks), roL 1 enc_ListRange ((y4.getD default).Crew.Travel), roL 3 enc_Hand ((y4.getD default).Crew.Hands), roL 1 enc_Int ((y4.getD default).next)], [], 0, []⟩] rfl rfl rfl .nil (.free (c_crew_newPlan p0 (fun x0 => some (crew_most x0)) 46 [] [] (fun x0 r h => by cases h; exact c_crew_most x0) hy5) .nil) (At.keep (ts := [1, 7]) (ids := []) rfl rfl ?_)
    refine At.thenC ?_
    refine W.seq ?_
    refine W.seq ?_
    obtain ⟨hc6, H⟩ := of_must H
    obtain ⟨y7, hy8, H⟩ := of_bindO H
    refine W.region env [] [⟨.bool (y7), [], 0, []⟩] rfl rfl rfl .nil (.free (Ctr.sim (.cons (Sim.rp_po hc6) (.cons (.refl _) .nil)) (c_crew_plan__areRounds (y4.getD default) p1 hy8)) .nil) (At.keep (ts := [7, 18]) (ids := []) rfl rfl ?_)
    refine At.thenC ?_
    refine W.cond rfl (fun hb9 => ?_) (fun hb9 => ?_)
    · have H := of_true H hb9
      refine W.seq ?_
      refine W.region env [] [] rfl rfl rfl .nil .nil (At.keep (ts := [4, 5]) (ids := []) rfl rfl ?_)
      refine At.thenC ?_
      refine W.ret ?_
      refine At.rthen ?_
      cases H
      exact At.ret env.ty rfl rfl (fun q hq => by cases hq) (Sim.tupL (.cons (Sim.po_nil rfl) (.cons (.refl _) .nil))) hval
    · have H := of_false H hb9
      refine W.skip ?_
      refine At.thenC ?_
      refine W.seq ?_
      refine W.region env [] [] rfl rfl rfl .nil .nil (At.keep (ts := [4, 5]) (ids := []) rfl rfl ?_)
      refine At.thenC ?_
      refine W.ret ?_
      cases H
      exact At.ret env.ty rfl rfl (fun q hq => by cases hq) (.refl _) hval

theorem c_crew_Slack (fuel : Nat) (p0 : Crew) (p1 : (List (List Int))) {r : (Int × Int)} (H : crew_Slack fuel p0 p1 = some r) : Ctr Try.prog 9 [.agg [roL 4 enc_Task p0.Tasks, roL 1 enc_ListRange p0.Travel, roL 3 enc_Hand p0.Hands], roL 1 enc_ListInt p1] (.tup [.int .i64 (r.1), .int .i64 (r.2)]) := by
  unfold crew_Slack at H
  refine Ctr.of_body (N := 57) Try.func9 (by kernel_rfl) (c := _) rfl Try.ntmps9 rfl (fun w0 h0 hval => ?_)
  refine W.seq ?_
  refine W.region env [] [] rfl rfl rfl .nil .nil (At.keep (ts := [1, 2]) (ids := [2]) rfl rfl ?_)
  refine At.thenC ?_
  refine W.seq ?_
  refine W.seq ?_
  obtain ⟨y1, hy2, H⟩ := of_bindO H
  refine W.region env [] [⟨.tup [.po y1.1.isSome [roL 4 enc_Task ((y1.1.getD default).Crew.Tasks), roL 1 enc_ListRange ((y1.1.getD default).Crew.Travel), roL 3 enc_Hand ((y1.1.getD default).Crew.Hands), roL 1 enc_Int ((y1.1.getD default).next)], .int .i64 (y1.2)], [], 0, []⟩] rfl rfl rfl .nil (.free (c_crew_asked p0 p1 hy2) .nil) (At.keep (ts := [1, 2, 7]) (ids := [2]) rfl rfl ?_)
  refine At.thenC ?_
  refine W.seq ?_
  refine W.region env [] [] rfl rfl rfl .nil .nil (At.keep (ts := [1, 2, 7, 20]) (ids := [2]) rfl rfl ?_)
  refine At.thenC ?_
  refine W.cond rfl (fun hb3 => ?_) (fun hb3 => ?_)
  · have H := of_true H hb3
    refine W.seq ?_
    refine W.region env [] [] rfl rfl rfl .nil .nil (At.keep (ts := [4, 5]) (ids := []) rfl rfl ?_)
    refine At.thenC ?_
    refine W.ret ?_
    refine At.rthen ?_
    cases H
    exact At.ret env.ty rfl rfl (fun q hq => by cases hq) (.refl _) hval
  · have H := of_false H hb3
    refine W.skip ?_
    refine At.thenC ?_
    refine W.seq ?_
    refine W.region env [] [] rfl rfl rfl .nil .nil (At.keep (ts := [1, 2, 8]) (ids := [2]) rfl rfl ?_)
    refine At.thenC ?_
    refine W.seq ?_
    refine W.seq ?_
    refine W.region env [] [] rfl rfl rfl .nil .nil (At.keep (ts := [2, 8, 22, 23, 24]) (ids := [2]) rfl rfl ?_)
    refine At.thenC ?_
    refine W.block ?_
    refine At.keep (ts := [2, 8, 22, 23, 24]) (ids := [2]) rfl rfl ?_
    refine W.len (t := 22) rfl (fun (hn4 : p1.length ≤ maxLen) => ?_)
    refine W.rangeGo H (fun i4 (s4 : Int) => [(2, .lp 2 0), (8, .int .i64 (s4)), (22, roL 1 enc_ListInt p1), (23, .int .i64 (((p1.length : Nat) : Int))), (24, .int .i64 ((i4 : Int)))]) (fun i4 (s4 : Int) => [(2, .cells [roL 4 enc_Task p0.Tasks, roL 1 enc_ListRange p0.Travel, roL 3 enc_Hand p0.Hands])]) (.cons (.of_eq (by first | rfl | (simp; done) | omega | (simp; omega))) (.cons (.of_eq (by first | rfl | (simp; done) | omega | (refine intEq ?_; first | omega | (simp; done) | (simp; omega)) | (simp; omega))) (.cons (.of_eq (by first | rfl | (simp; done) | omega | (simp; omega))) (.cons (.of_eq (by first | rfl | (simp; done) | omega | (refine intEq ?_; first | omega | (simp; done) | (simp; omega)) | (simp; omega))) (.cons (.of_eq (by first | rfl | (simp; done) | omega | (refine intEq ?_; first | omega | (simp; done) | (simp; omega)) | (simp; omega))) .nil))))) (.cons (.of_eq (by first | rfl | (simp; done) | omega | (simp; omega))) .nil) (fun k4 i4 s4 hle4 H1 H2 K0 hK4 => ?_)
    refine W.seq ?_
    refine W.region env [] [] rfl rfl rfl .nil .nil (At.keep (ts := [2, 8, 22, 23, 24, 25]) (ids := [2]) rfl rfl ?_)
    refine At.thenC ?_
    refine W.seq ?_
    refine W.cond rfl (fun hb5 => ?_) (fun hb5 => ?_)
    · have hi4 : i4 < p1.length := by have := of_decide_eq_true hb5; omega
      have H := H1 hi4
      refine W.skip ?_
      refine At.thenC ?_
      refine W.seq ?_
      refine W.block ?_
      refine W.seq ?_
      refine W.region env [] [] rfl rfl rfl (.cons (⟨by omega, by omega⟩ : 0 ≤ (i4 : Int) ∧ (i4 : Int) < ((p1.length : Nat) : Int)) .nil) .nil (At.keep (ts := [2, 8, 10, 22, 23, 24]) (ids := [2]) rfl rfl ?_)
      refine At.thenC ?_
      refine W.seq ?_
      refine W.region env [] [] rfl rfl rfl .nil .nil (At.keep (ts := [2, 8, 10, 11, 22, 23, 24]) (ids := [2]) rfl rfl ?_)
      refine At.thenC ?_
      refine W.block ?_
      refine At.keep (ts := [2, 8, 10, 11, 22, 23, 24]) (ids := [2]) rfl rfl ?_
      refine W.loopGo H (fun (s6 : Int × Int) => [(2, .lp 2 0), (8, .int .i64 (s6.2)), (10, roL 1 enc_Int (p1.getD i4 default)), (11, .int .i64 (s6.1)), (22, roL 1 enc_ListInt p1), (23, .int .i64 (((p1.length : Nat) : Int))), (24, .int .i64 ((i4 : Int)))]) (fun (s6 : Int × Int) => [(2, .cells [roL 4 enc_Task p0.Tasks, roL 1 enc_ListRange p0.Travel, roL 3 enc_Hand p0.Hands])]) (.cons (.of_eq (by first | rfl | (simp; done) | omega | (simp; omega))) (.cons (.of_eq (by first | rfl | (simp; done) | omega | (refine intEq ?_; first | omega | (simp; done) | (simp; omega)) | (simp; omega))) (.cons (.of_eq (by first | rfl | (simp; done) | omega | (simp; omega))) (.cons (.of_eq (by first | rfl | (simp; done) | omega | (refine intEq ?_; first | omega | (simp; done) | (simp; omega)) | (simp; omega))) (.cons (.of_eq (by first | rfl | (simp; done) | omega | (simp; omega))) (.cons (.of_eq (by first | rfl | (simp; done) | omega | (refine intEq ?_; first | omega | (simp; done) | (simp; omega)) | (simp; omega))) (.cons (.of_eq (by first | rfl | (simp; done) | omega | (refine intEq ?_; first | omega | (simp; done) | (simp; omega)) | (simp; omega))) .nil))))))) (.cons (.of_eq (by first | rfl | (simp; done) | omega | (simp; omega))) .nil) (fun k6 s6 H K0 hK6 => ?_)
      refine W.seq ?_
      refine W.seq ?_
      refine W.region env [] [] rfl rfl rfl .nil .nil (At.keep (ts := [2, 8, 10, 11, 22, 23, 24, 31]) (ids := [2]) rfl rfl ?_)
      refine At.thenC ?_
      refine W.cond rfl (fun hb7 => ?_) (fun hb7 => ?_)
      · have H := of_true H hb7
        refine W.skip ?_
        refine At.thenC ?_
        refine W.seq ?_
        refine W.block ?_
        refine W.seq ?_
        obtain ⟨hc8, H⟩ := of_must H
        obtain ⟨hc9, H⟩ := of_must H
        obtain ⟨hc10, H⟩ := of_must H
        obtain ⟨y11, hy12, H⟩ := of_bindO H
        refine W.region env [] [⟨.int .i64 (y11), [], 0, []⟩] rfl rfl (by kernel_rfl) (.cons hc8 (.cons hc9 (.cons hc10 .nil))) (.free (c_crew_spare p0 ((p1.getD i4 default).getD ((s6.1 - 1)).toNat default) ((p1.getD i4 default).getD (s6.1).toNat default) (fun x0 => some (crew_most x0)) 46 [] [] (fun x0 r h => by cases h; exact c_crew_most x0) hy12) .nil) (At.keep (ts := [2, 8, 10, 11, 12, 22, 23, 24]) (ids := [2]) rfl rfl ?_)
        refine At.thenC ?_
        refine W.seq ?_
        refine W.region env [] [] rfl rfl rfl (.cons (fun h => h) (.cons (fun h => h) (.cons (fun h => by rw [h]; rfl) .nil))) .nil (At.keep (ts := [2, 8, 10, 11, 12, 22, 23, 24, 51]) (ids := [2]) rfl rfl ?_)
        refine At.thenC ?_
        refine W.cond rfl (fun hb13 => ?_) (fun hb13 => ?_)
        · have H := of_true H hb13
          refine W.region env [] [] rfl rfl rfl .nil .nil (At.keep (ts := [2, 8, 10, 11, 22, 23, 24]) (ids := [2]) rfl rfl ?_)
          refine At.inb ?_
          refine At.thenC ?_
          obtain ⟨hc14, H⟩ := of_must H
          refine W.region env [] [] rfl rfl rfl (.cons hc14 .nil) .nil (At.keep (ts := [2, 8, 10, 11, 22, 23, 24]) (ids := [2]) rfl rfl ?_)
          refine At.thenK (At.keep (ts := [2, 8, 10, 11, 22, 23, 24]) (ids := [2]) rfl rfl ?_)
          exact At.conv (.cons (.of_eq (by first | rfl | (simp; done) | omega | (simp; omega))) (.cons (.of_eq (by first | rfl | (simp; done) | omega | (refine intEq ?_; first | omega | (simp; done) | (simp; omega)) | (simp; omega))) (.cons (.of_eq (by first | rfl | (simp; done) | omega | (simp; omega))) (.cons (.of_eq (by first | rfl | (simp; done) | omega | (refine intEq ?_; first | omega | (simp; done) | (simp; omega)) | (simp; omega))) (.cons (.of_eq (by first | rfl | (simp; done) | omega | (simp; omega))) (.cons (.of_eq (by first | rfl | (simp; done) | omega | (refine intEq ?_; first | omega | (simp; done) | (simp; omega)) | (simp; omega))) (.cons (.of_eq (by first | rfl | (simp; done) | omega | (refine intEq ?_; first | omega | (simp; done) | (simp; omega)) | (simp; omega))) .nil))))))) (.cons (.of_eq (by first | rfl | (simp; done) | omega | (simp; omega))) .nil) (hK6 ((s6.1 + 1), y11) H)
        · have H := of_false H hb13
          refine W.skip ?_
          refine At.inb ?_
          refine At.thenC ?_
          obtain ⟨hc15, H⟩ := of_must H
          refine W.region env [] [] rfl rfl rfl (.cons hc15 .nil) .nil (At.keep (ts := [2, 8, 10, 11, 22, 23, 24]) (ids := [2]) rfl rfl ?_)
          refine At.thenK (At.keep (ts := [2, 8, 10, 11, 22, 23, 24]) (ids := [2]) rfl rfl ?_)
          exact At.conv (.cons (.of_eq (by first | rfl | (simp; done) | omega | (simp; omega))) (.cons (.of_eq (by first | rfl | (simp; done) | omega | (refine intEq ?_; first | omega | (simp; done) | (simp; omega)) | (simp; omega))) (.cons (.of_eq (by first | rfl | (simp; done) | omega | (simp; omega))) (.cons (.of_eq (by first | rfl | (simp; done) | omega | (refine intEq ?_; first | omega | (simp; done) | (simp; omega)) | (simp; omega))) (.cons (.of_eq (by first | rfl | (simp; done) | omega | (simp; omega))) (.cons (.of_eq (by first | rfl | (simp; done) | omega | (refine intEq ?_; first | omega | (simp; done) | (simp; omega)) | (simp; omega))) (.cons (.of_eq (by first | rfl | (simp; done) | omega | (refine intEq ?_; first | omega | (simp; done) | (simp; omega)) | (simp; omega))) .nil))))))) (.cons (.of_eq (by first | rfl | (simp; done) | omega | (simp; omega))) .nil) (hK6 ((s6.1 + 1), s6.2) H)
      · have H := of_false H hb7
        refine W.exit ?_
        refine At.xthen ?_
        refine At.xthen ?_
        refine At.xhere ?_
        refine At.inb ?_
        refine At.thenC ?_
        refine W.region env [] [] rfl rfl rfl (.cons (by unfold inI; have := hn4; (try unfold maxLen at this); omega) .nil) .nil (At.keep (ts := [2, 8, 22, 23, 24]) (ids := [2]) rfl rfl ?_)
        refine At.thenK (At.keep (ts := [2, 8, 22, 23, 24]) (ids := [2]) rfl rfl ?_)
        exact At.conv (.cons (.of_eq (by first | rfl | (simp; done) | omega | (simp; omega))) (.cons (.of_eq (by first | rfl | (simp; done) | omega | (refine intEq ?_; first | omega | (simp; done) | (simp; omega)) | (simp; omega))) (.cons (.of_eq (by first | rfl | (simp; done) | omega | (simp; omega))) (.cons (.of_eq (by first | rfl | (simp; done) | omega | (refine intEq ?_; first | omega | (simp; done) | (simp; omega)) | (simp; omega))) (.cons (.of_eq (by first | rfl | (simp; done) | omega | (refine intEq ?_; first | omega | (simp; done) | (simp; omega)) | (simp; omega))) .nil))))) (.cons (.of_eq (by first | rfl | (simp; done) | omega | (simp; omega))) .nil) (hK4 hi4 s6.2 H)
    · have H := H2 (by have := of_decide_eq_false hb5; omega)
      refine W.exit ?_
      refine At.xthen ?_
      refine At.xthen ?_
      refine At.xhere ?_
      refine At.thenC ?_
      refine W.seq ?_
      refine W.seq ?_
      refine W.region env [] [] rfl rfl rfl .nil .nil (At.keep (ts := [8, 55]) (ids := []) rfl rfl ?_)
      refine At.thenC ?_
      refine W.cond rfl (fun hb16 => ?_) (fun hb16 => ?_)
      · have H := of_true H hb16
        refine W.seq ?_
        refine W.region env [] [] rfl rfl rfl .nil .nil (At.keep (ts := [4, 5]) (ids := []) rfl rfl ?_)
        refine At.thenC ?_
        refine W.ret ?_
        refine At.rthen ?_
        cases H
        exact At.ret env.ty rfl rfl (fun q hq => by cases hq) (.refl _) hval
      · have H := of_false H hb16
        refine W.skip ?_
        refine At.thenC ?_
        refine W.seq ?_
        refine W.region env [] [] rfl rfl rfl .nil .nil (At.keep (ts := [4, 5]) (ids := []) rfl rfl ?_)
        refine At.thenC ?_
        refine W.ret ?_
        cases H
        exact At.ret env.ty rfl rfl (fun q hq => by cases hq) (.refl _) hval

theorem c_slices_IndexFunc_int (p0 : (List Int)) (p1 : Int → Option Bool) (p1_g : Nat) (p1_a p1_b : List AV) (p1_h : ∀ x0 r, p1 x0 = some r → Ctr Try.prog p1_g (p1_a ++ ([.int .i64 (x0)] ++ p1_b)) (.bool (r))) {r : Int} (H : slices_IndexFunc_int p0 p1 = some r) : Ctr Try.prog 101 [roL 1 enc_Int p0, .clo (.func p1_g) p1_a p1_b] (.int .i64 (r)) := by
  unfold slices_IndexFunc_int at H
  refine Ctr.of_body (N := 19) Try.func101 (by kernel_rfl) (c := _) rfl Try.ntmps101 rfl (fun w0 h0 hval => ?_)
  refine W.seq ?_
  refine W.region env [] [] rfl rfl rfl .nil .nil (At.keep (ts := [0, 1]) (ids := []) rfl rfl ?_)
  refine At.thenC ?_
  refine W.seq ?_
  refine W.seq ?_
  refine W.region env [] [] rfl rfl rfl .nil .nil (At.keep (ts := [0, 1, 7, 8]) (ids := []) rfl rfl ?_)
  refine At.thenC ?_
  refine W.block ?_
  refine At.keep (ts := [0, 1, 7, 8]) (ids := []) rfl rfl ?_
  refine W.len (t := 0) rfl (fun (hn1 : p0.length ≤ maxLen) => ?_)
  refine W.rangeGo H (fun i1 (s1 : Unit) => [(0, roL 1 enc_Int p0), (1, .clo (.func p1_g) p1_a p1_b), (7, .int .i64 (((p0.length : Nat) : Int))), (8, .int .i64 ((i1 : Int)))]) (fun i1 (s1 : Unit) => []) (.cons (.of_eq (by first | rfl | (simp; done) | omega | (simp; omega))) (.cons (.of_eq (by first | rfl | (simp; done) | omega | (simp; omega))) (.cons (.of_eq (by first | rfl | (simp; done) | omega | (refine intEq ?_; first | omega | (simp; done) | (simp; omega)) | (simp; omega))) (.cons (.of_eq (by first | rfl | (simp; done) | omega | (refine intEq ?_; first | omega | (simp; done) | (simp; omega)) | (simp; omega))) .nil)))) .nil (fun k1 i1 s1 hle1 H1 H2 K0 hK1 => ?_)
  refine W.seq ?_
  refine W.region env [] [] rfl rfl rfl .nil .nil (At.keep (ts := [0, 1, 7, 8, 9]) (ids := []) rfl rfl ?_)
  refine At.thenC ?_
  refine W.seq ?_
  refine W.cond rfl (fun hb2 => ?_) (fun hb2 => ?_)
  · have hi1 : i1 < p0.length := by have := of_decide_eq_true hb2; omega
    have H := H1 hi1
    refine W.skip ?_
    refine At.thenC ?_
    refine W.seq ?_
    refine W.block ?_
    refine W.seq ?_
    refine W.region env [] [] rfl rfl rfl .nil .nil (At.keep (ts := [0, 1, 5, 7, 8]) (ids := []) rfl rfl ?_)
    refine At.thenC ?_
    refine W.seq ?_
    obtain ⟨y3, hy4, H⟩ := of_bindO H
    refine W.region env [] [⟨.bool (y3), [], 0, []⟩] rfl rfl rfl (.cons (⟨by omega, by omega⟩ : 0 ≤ (i1 : Int) ∧ (i1 : Int) < ((p0.length : Nat) : Int)) .nil) (.free (p1_h (p0.getD i1 default) _ hy4) .nil) (At.keep (ts := [0, 1, 5, 7, 8, 16]) (ids := []) rfl rfl ?_)
    refine At.thenC ?_
    refine W.cond rfl (fun hb5 => ?_) (fun hb5 => ?_)
    · have H := of_true H hb5
      refine W.seq ?_
      refine W.region env [] [] rfl rfl rfl .nil .nil (At.keep (ts := [4]) (ids := []) rfl rfl ?_)
      refine At.thenC ?_
      refine W.ret ?_
      refine At.rinb ?_
      refine At.rthen ?_
      refine At.rthen ?_
      refine At.rinb ?_
      refine At.rthen ?_
      cases H
      exact At.ret env.ty rfl rfl (fun q hq => by cases hq) (.refl _) hval
    · have H := of_false H hb5
      refine W.skip ?_
      refine At.inb ?_
      refine At.thenC ?_
      refine W.region env [] [] rfl rfl rfl (.cons (by unfold inI; have := hn1; (try unfold maxLen at this); omega) .nil) .nil (At.keep (ts := [0, 1, 7, 8]) (ids := []) rfl rfl ?_)
      refine At.thenK (At.keep (ts := [0, 1, 7, 8]) (ids := []) rfl rfl ?_)
      exact At.conv (.cons (.of_eq (by first | rfl | (simp; done) | omega | (simp; omega))) (.cons (.of_eq (by first | rfl | (simp; done) | omega | (simp; omega))) (.cons (.of_eq (by first | rfl | (simp; done) | omega | (refine intEq ?_; first | omega | (simp; done) | (simp; omega)) | (simp; omega))) (.cons (.of_eq (by first | rfl | (simp; done) | omega | (refine intEq ?_; first | omega | (simp; done) | (simp; omega)) | (simp; omega))) .nil)))) .nil (hK1 hi1 () H)
  · have H := H2 (by have := of_decide_eq_false hb2; omega)
    refine W.exit ?_
    refine At.xthen ?_
    refine At.xthen ?_
    refine At.xhere ?_
    refine At.thenC ?_
    refine W.seq ?_
    refine W.region env [] [] rfl rfl rfl .nil .nil (At.keep (ts := [4]) (ids := []) rfl rfl ?_)
    refine At.thenC ?_
    refine W.ret ?_
    cases H
    exact At.ret env.ty rfl rfl (fun q hq => by cases hq) (.refl _) hval

theorem c_slices_ContainsFunc_int (p0 : (List Int)) (p1 : Int → Option Bool) (p1_g : Nat) (p1_a p1_b : List AV) (p1_h : ∀ x0 r, p1 x0 = some r → Ctr Try.prog p1_g (p1_a ++ ([.int .i64 (x0)] ++ p1_b)) (.bool (r))) {r : Bool} (H : slices_ContainsFunc_int p0 p1 = some r) : Ctr Try.prog 77 [roL 1 enc_Int p0, .clo (.func p1_g) p1_a p1_b] (.bool (r)) := by
  unfold slices_ContainsFunc_int at H
  refine Ctr.of_body (N := 9) Try.func77 (by kernel_rfl) (c := _) rfl Try.ntmps77 rfl (fun w0 h0 hval => ?_)
  refine W.seq ?_
  refine W.region env [] [] rfl rfl rfl .nil .nil (At.keep (ts := [0, 1]) (ids := []) rfl rfl ?_)
  refine At.thenC ?_
  refine W.seq ?_
  obtain ⟨y1, hy2, H⟩ := of_bindO H
  refine W.region env [] [⟨.int .i64 (y1), [], 0, []⟩] rfl rfl rfl .nil (.free (c_slices_IndexFunc_int p0 p1 p1_g p1_a p1_b p1_h hy2) .nil) (At.keep (ts := [4]) (ids := []) rfl rfl ?_)
  refine At.thenC ?_
  refine W.ret ?_
  cases H
  exact At.ret env.ty rfl rfl (fun q hq => by cases hq) (.refl _) hval

theorem c_crew_areWalks_1 (p0 : Int) : Ctr Try.prog 92 [.int .i64 (p0)] (.bool ((crew_areWalks_1 p0))) := by
  obtain ⟨r, H⟩ : ∃ r, crew_areWalks_1 p0 = r := ⟨_, rfl⟩
  rw [H]
  unfold crew_areWalks_1 at H
  refine Ctr.of_body (N := 6) Try.func92 (by kernel_rfl) (c := _) rfl Try.ntmps92 rfl (fun w0 h0 hval => ?_)
  refine W.seq ?_
  refine W.region env [] [] rfl rfl rfl .nil .nil (At.keep (ts := [0]) (ids := []) rfl rfl ?_)
  refine At.thenC ?_
  refine W.seq ?_
  refine W.region env [] [⟨.bool ((crew_in p0 0 600)), [], 0, []⟩] rfl rfl rfl .nil (.free (c_crew_in p0 0 600) .nil) (At.keep (ts := [2]) (ids := []) rfl rfl ?_)
  refine At.thenC ?_
  refine W.ret ?_
  cases H
  exact At.ret env.ty rfl rfl (fun q hq => by cases hq) (.refl _) hval

theorem c_crew_areWalks (p0 : (List (List Int))) (p1 : (List (List Int))) {r : Bool} (H : crew_areWalks p0 p1 = some r) : Ctr Try.prog 47 [roL 1 enc_ListInt p0, roL 1 enc_ListInt p1] (.bool (r)) := by
  unfold crew_areWalks at H
  refine Ctr.of_body (N := 33) Try.func47 (by kernel_rfl) (c := _) rfl Try.ntmps47 rfl (fun w0 h0 hval => ?_)
  refine W.seq ?_
  refine W.region env [] [] rfl rfl rfl .nil .nil (At.keep (ts := [0, 1]) (ids := []) rfl rfl ?_)
  refine At.thenC ?_
  refine W.seq ?_
  refine W.seq ?_
  refine W.region env [] [] rfl rfl rfl .nil .nil (At.keep (ts := [0, 1, 11]) (ids := []) rfl rfl ?_)
  refine At.thenC ?_
  refine W.cond rfl (fun hb1 => ?_) (fun hb1 => ?_)
  · have H := of_true H hb1
    refine W.seq ?_
    refine W.region env [] [] rfl rfl rfl .nil .nil (At.keep (ts := [4]) (ids := []) rfl rfl ?_)
    refine At.thenC ?_
    refine W.ret ?_
    refine At.rthen ?_
    cases H
    exact At.ret env.ty rfl rfl (fun q hq => by cases hq) (.refl _) hval
  · have H := of_false H hb1
    refine W.skip ?_
    refine At.thenC ?_
    refine W.seq ?_
    refine W.seq ?_
    refine W.region env [] [] rfl rfl rfl .nil .nil (At.keep (ts := [0, 12, 13, 14]) (ids := []) rfl rfl ?_)
    refine At.thenC ?_
    refine W.block ?_
    refine At.keep (ts := [0, 12, 13, 14]) (ids := []) rfl rfl ?_
    refine W.len (t := 12) rfl (fun (hn2 : p1.length ≤ maxLen) => ?_)
    refine W.rangeGo H (fun i2 (s2 : Unit) => [(0, roL 1 enc_ListInt p0), (12, roL 1 enc_ListInt p1), (13, .int .i64 (((p1.length : Nat) : Int))), (14, .int .i64 ((i2 : Int)))]) (fun i2 (s2 : Unit) => []) (.cons (.of_eq (by first | rfl | (simp; done) | omega | (simp; omega))) (.cons (.of_eq (by first | rfl | (simp; done) | omega | (simp; omega))) (.cons (.of_eq (by first | rfl | (simp; done) | omega | (refine intEq ?_; first | omega | (simp; done) | (simp; omega)) | (simp; omega))) (.cons (.of_eq (by first | rfl | (simp; done) | omega | (refine intEq ?_; first | omega | (simp; done) | (simp; omega)) | (simp; omega))) .nil)))) .nil (fun k2 i2 s2 hle2 H1 H2 K0 hK2 => ?_)
    refine W.seq ?_
    refine W.region env [] [] rfl rfl rfl .nil .nil (At.keep (ts := [0, 12, 13, 14, 15]) (ids := []) rfl rfl ?_)
    refine At.thenC ?_
    refine W.seq ?_
    refine W.cond rfl (fun hb3 => ?_) (fun hb3 => ?_)
    · have hi2 : i2 < p1.length := by have := of_decide_eq_true hb3; omega
      have H := H1 hi2
      refine W.skip ?_
      refine At.thenC ?_
      refine W.seq ?_
      refine W.block ?_
      refine W.seq ?_
      refine W.region env [] [] rfl rfl rfl (.cons (⟨by omega, by omega⟩ : 0 ≤ (i2 : Int) ∧ (i2 : Int) < ((p1.length : Nat) : Int)) .nil) .nil (At.keep (ts := [0, 5, 6, 12, 13, 14]) (ids := []) rfl rfl ?_)
      refine At.thenC ?_
      refine W.seq ?_
      obtain ⟨hc4, H⟩ := of_must H
      obtain ⟨hc5, H⟩ := of_must H
      obtain ⟨y6, hy7, H⟩ := of_bindO H
      refine W.region env [] [⟨.bool (y6), [], 0, []⟩] rfl rfl rfl (.cons hc4 (.cons hc5 (.cons (fun h => h) (.cons (fun h => by rw [h]; rfl) .nil)))) (.on (fun hW => c_slices_ContainsFunc_int (p1.getD i2 default) (fun x0 => some (crew_areWalks_1 x0)) 92 [] [] (fun x0 r h => by cases h; exact c_crew_areWalks_1 x0) (of_true hy7 hW)) .nil) (At.keep (ts := [0, 12, 13, 14, 31]) (ids := []) rfl rfl ?_)
      refine At.thenC ?_
      refine W.cond rfl (fun hb8 => ?_) (fun hb8 => ?_)
      · have H := of_true H hb8
        refine W.seq ?_
        refine W.region env [] [] rfl rfl rfl .nil .nil (At.keep (ts := [4]) (ids := []) rfl rfl ?_)
        refine At.thenC ?_
        refine W.ret ?_
        refine At.rinb ?_
        refine At.rthen ?_
        refine At.rthen ?_
        refine At.rinb ?_
        refine At.rthen ?_
        cases H
        exact At.ret env.ty rfl rfl (fun q hq => by cases hq) (.refl _) hval
      · have H := of_false H hb8
        refine W.skip ?_
        refine At.inb ?_
        refine At.thenC ?_
        refine W.region env [] [] rfl rfl rfl (.cons (by unfold inI; have := hn2; (try unfold maxLen at this); omega) .nil) .nil (At.keep (ts := [0, 12, 13, 14]) (ids := []) rfl rfl ?_)
        refine At.thenK (At.keep (ts := [0, 12, 13, 14]) (ids := []) rfl rfl ?_)
        exact At.conv (.cons (.of_eq (by first | rfl | (simp; done) | omega | (simp; omega))) (.cons (.of_eq (by first | rfl | (simp; done) | omega | (simp; omega))) (.cons (.of_eq (by first | rfl | (simp; done) | omega | (refine intEq ?_; first | omega | (simp; done) | (simp; omega)) | (simp; omega))) (.cons (.of_eq (by first | rfl | (simp; done) | omega | (refine intEq ?_; first | omega | (simp; done) | (simp; omega)) | (simp; omega))) .nil)))) .nil (hK2 hi2 () H)
    · have H := H2 (by have := of_decide_eq_false hb3; omega)
      refine W.exit ?_
      refine At.xthen ?_
      refine At.xthen ?_
      refine At.xhere ?_
      refine At.thenC ?_
      refine W.seq ?_
      refine W.region env [] [] rfl rfl rfl .nil .nil (At.keep (ts := [4]) (ids := []) rfl rfl ?_)
      refine At.thenC ?_
      refine W.ret ?_
      cases H
      exact At.ret env.ty rfl rfl (fun q hq => by cases hq) (.refl _) hval

theorem cl_slices_Sort_int (p0 : List Int) {r : List Int} (H : slices_Sort_int_l p0 = some r) : CtrO Try.prog 48 [.buf 90000 p0.length] [(90000, bufL 3 1 enc_Int p0)] (.tup []) [(90000, bufL 3 1 enc_Int r)] :=
  sort_ctr (Go.Av.enters_of Try.func48 (by kernel_rfl) (c := _) rfl) (Any.slices_Sort_int sort_lays) (Any.slices_Sort_int_none sort_lays) 3 p0 H

theorem c_crew_Late (p0 : Crew) (p1 : (List (List Int))) (p2 : (List (List Int))) {r : ((List Int) × Int)} (H : crew_Late p0 p1 p2 = some r) : Ctr Try.prog 11 [.agg [roL 4 enc_Task p0.Tasks, roL 1 enc_ListRange p0.Travel, roL 3 enc_Hand p0.Hands], roL 1 enc_ListInt p1, roL 1 enc_ListInt p2] (.tup [roL 1 enc_Int r.1, .int .i64 (r.2)]) := by
  unfold crew_Late at H
  refine Ctr.of_body (N := 96) Try.func11 (by kernel_rfl) (c := _) rfl Try.ntmps11 rfl (fun w0 h0 hval => ?_)
  refine W.seq ?_
  refine W.region env [] [] rfl rfl rfl .nil .nil (At.keep (ts := [1, 2, 3]) (ids := [3]) rfl rfl ?_)
  refine At.thenC ?_
  refine W.seq ?_
  refine W.seq ?_
  obtain ⟨y1, hy2, H⟩ := of_bindO H
  refine W.region env [] [⟨.tup [.po y1.1.isSome [roL 4 enc_Task ((y1.1.getD default).Crew.Tasks), roL 1 enc_ListRange ((y1.1.getD default).Crew.Travel), roL 3 enc_Hand ((y1.1.getD default).Crew.Hands), roL 1 enc_Int ((y1.1.getD default).next)], .int .i64 (y1.2)], [], 0, []⟩] rfl rfl rfl .nil (.free (c_crew_asked p0 p1 hy2) .nil) (At.keep (ts := [1, 2, 3, 9]) (ids := [3]) rfl rfl ?_)
  refine At.thenC ?_
  refine W.seq ?_
  refine W.region env [] [] rfl rfl rfl .nil .nil (At.keep (ts := [1, 2, 3, 9, 23]) (ids := [3]) rfl rfl ?_)
  refine At.thenC ?_
  refine W.cond rfl (fun hb3 => ?_) (fun hb3 => ?_)
  · have H := of_true H hb3
    refine W.seq ?_
    refine W.region env [] [] rfl rfl rfl .nil .nil (At.keep (ts := [6, 7]) (ids := []) rfl rfl ?_)
    refine At.thenC ?_
    refine W.ret ?_
    refine At.rthen ?_
    cases H
    exact At.ret env.ty rfl rfl (fun q hq => by cases hq) (Sim.tupL (.cons (Sim.nil _ _) (.cons (.refl _) .nil))) hval
  · have H := of_false H hb3
    refine W.skip ?_
    refine At.thenC ?_
    refine W.seq ?_
    refine W.seq ?_
    obtain ⟨y4, hy5, H⟩ := of_bindO H
    refine W.region env [] [⟨.bool (y4), [], 0, []⟩] rfl rfl rfl .nil (.free (c_crew_areWalks p1 p2 hy5) .nil) (At.keep (ts := [1, 2, 3, 28]) (ids := [3]) rfl rfl ?_)
    refine At.thenC ?_
    refine W.cond rfl (fun hb6 => ?_) (fun hb6 => ?_)
    · have H := of_true H hb6
      refine W.seq ?_
      refine W.region env [] [] rfl rfl rfl .nil .nil (At.keep (ts := [6, 7]) (ids := []) rfl rfl ?_)
      refine At.thenC ?_
      refine W.ret ?_
      refine At.rthen ?_
      cases H
      exact At.ret env.ty rfl rfl (fun q hq => by cases hq) (Sim.tupL (.cons (Sim.nil _ _) (.cons (.refl _) .nil))) hval
    · have H := of_false H hb6
      refine W.skip ?_
      refine At.thenC ?_
      refine W.seq ?_
      refine W.region env [] [] rfl rfl rfl .nil .nil (At.keep (ts := [1, 2, 3, 10]) (ids := [3]) rfl rfl ?_)
      refine At.thenC ?_
      refine W.seq ?_
      refine W.seq ?_
      refine W.region env [] [] rfl rfl rfl .nil .nil (At.keep (ts := [2, 3, 10, 29, 30, 31]) (ids := [3]) rfl rfl ?_)
      refine At.thenC ?_
      refine W.block ?_
      refine At.nilOwn 10 510 3 1 (e := fun i => enc_Int (([] : List Int).getD i default)) rfl rfl ?_
      refine At.keep (ts := [2, 3, 10, 29, 30, 31]) (ids := [3, 510]) rfl rfl ?_
      refine W.len (t := 29) rfl (fun (hn7 : p1.length ≤ maxLen) => ?_)
      refine W.rangeGo H (fun i7 (s7 : (List Int)) => [(2, roL 1 enc_ListInt p2), (3, .lp 3 0), (10, .buf 510 (s7).length), (29, roL 1 enc_ListInt p1), (30, .int .i64 (((p1.length : Nat) : Int))), (31, .int .i64 ((i7 : Int)))]) (fun i7 (s7 : (List Int)) => [(3, .cells [roL 4 enc_Task p0.Tasks, roL 1 enc_ListRange p0.Travel, roL 3 enc_Hand p0.Hands]), (510, bufL 3 1 enc_Int s7)]) (.cons (.of_eq (by first | rfl | (simp; done) | omega | (simp; omega))) (.cons (.of_eq (by first | rfl | (simp; done) | omega | (simp; omega))) (.cons (.of_eq (by refine bufEq ?_; first | (simp [copyAt]; done) | omega | (simp [copyAt]; omega) | (simp only [List.length_set] at *; omega) | rfl)) (.cons (.of_eq (by first | rfl | (simp; done) | omega | (simp; omega))) (.cons (.of_eq (by first | rfl | (simp; done) | omega | (refine intEq ?_; first | omega | (simp; done) | (simp; omega)) | (simp; omega))) (.cons (.of_eq (by first | rfl | (simp; done) | omega | (refine intEq ?_; first | omega | (simp; done) | (simp; omega)) | (simp; omega))) .nil)))))) (.cons (.of_eq (by first | rfl | (simp; done) | omega | (simp; omega))) (.cons (.of_eq (by first | rfl | (simp; done) | omega | (simp; omega))) .nil)) (fun k7 i7 s7 hle7 H1 H2 K0 hK7 => ?_)
      refine W.seq ?_
      refine W.region env [] [] rfl rfl rfl .nil .nil (At.keep (ts := [2, 3, 10, 29, 30, 31, 32]) (ids := [3, 510]) rfl rfl ?_)
      refine At.thenC ?_
      refine W.seq ?_
      refine W.cond rfl (fun hb8 => ?_) (fun hb8 => ?_)
      · have hi7 : i7 < p1.length := by have := of_decide_eq_true hb8; omega
        have H := H1 hi7
        refine W.skip ?_
        refine At.thenC ?_
        refine W.seq ?_
        refine W.block ?_
        refine W.seq ?_
        refine W.region env [] [] rfl rfl rfl (.cons (⟨by omega, by omega⟩ : 0 ≤ (i7 : Int) ∧ (i7 : Int) < ((p1.length : Nat) : Int)) .nil) .nil (At.keep (ts := [2, 3, 10, 11, 12, 29, 30, 31]) (ids := [3, 510]) rfl rfl ?_)
        refine At.thenC ?_
        refine W.seq ?_
        obtain ⟨hc9, H⟩ := of_must H
        obtain ⟨hc10, H⟩ := of_must H
        refine W.region env [] [] rfl rfl (by first | rfl | kernel_rfl) (.cons hc9 (.cons hc10 .nil)) .nil (At.keep (ts := [2, 3, 10, 11, 12, 13, 29, 30, 31]) (ids := [3, 510]) rfl rfl ?_)
        refine At.thenC ?_
        refine W.seq ?_
        obtain ⟨hc11, H⟩ := of_must H
        refine W.region env [] [] rfl rfl rfl (.cons hc11 .nil) .nil (At.keep (ts := [2, 3, 10, 11, 12, 13, 29, 30, 31, 45, 46, 47]) (ids := [3, 510]) rfl rfl ?_)
        refine At.slot (t := 45) (v := roL 1 enc_Int ((p1.getD i7 default).drop 1)) (Sim.seg (Seg.drop enc_Int (p1.getD i7 default) 1)) ?_
        refine At.thenC ?_
        refine W.block ?_
        refine At.keep (ts := [2, 3, 10, 11, 12, 13, 29, 30, 31, 45, 46, 47]) (ids := [3, 510]) rfl rfl ?_
        refine W.len (t := 45) rfl (fun (hn12 : ((p1.getD i7 default).drop 1).length ≤ maxLen) => ?_)
        refine W.rangeGo H (fun i12 (s12 : Int × (List Int)) => [(2, roL 1 enc_ListInt p2), (3, .lp 3 0), (10, .buf 510 (s12.2).length), (11, .int .i64 ((i7 : Int))), (12, roL 1 enc_Int (p1.getD i7 default)), (13, .int .i64 (s12.1)), (29, roL 1 enc_ListInt p1), (30, .int .i64 (((p1.length : Nat) : Int))), (31, .int .i64 ((i7 : Int))), (45, roL 1 enc_Int ((p1.getD i7 default).drop 1)), (46, .int .i64 (((((p1.getD i7 default).drop 1).length : Nat) : Int))), (47, .int .i64 ((i12 : Int)))]) (fun i12 (s12 : Int × (List Int)) => [(3, .cells [roL 4 enc_Task p0.Tasks, roL 1 enc_ListRange p0.Travel, roL 3 enc_Hand p0.Hands]), (510, bufL 3 1 enc_Int s12.2)]) (.cons (.of_eq (by first | rfl | (simp; done) | omega | (simp; omega))) (.cons (.of_eq (by first | rfl | (simp; done) | omega | (simp; omega))) (.cons (.of_eq (by refine bufEq ?_; first | (simp [copyAt]; done) | omega | (simp [copyAt]; omega) | (simp only [List.length_set] at *; omega) | rfl)) (.cons (.of_eq (by first | rfl | (simp; done) | omega | (refine intEq ?_; first | omega | (simp; done) | (simp; omega)) | (simp; omega))) (.cons (.of_eq (by first | rfl | (simp; done) | omega | (simp; omega))) (.cons (.of_eq (by first | rfl | (simp; done) | omega | (refine intEq ?_; first | omega | (simp; done) | (simp; omega)) | (simp; omega))) (.cons (.of_eq (by first | rfl | (simp; done) | omega | (simp; omega))) (.cons (.of_eq (by first | rfl | (simp; done) | omega | (refine intEq ?_; first | omega | (simp; done) | (simp; omega)) | (simp; omega))) (.cons (.of_eq (by first | rfl | (simp; done) | omega | (refine intEq ?_; first | omega | (simp; done) | (simp; omega)) | (simp; omega))) (.cons (.of_eq (by first | rfl | (simp; done) | omega | (simp; omega))) (.cons (.of_eq (by first | rfl | (simp; done) | omega | (refine intEq ?_; first | omega | (simp; done) | (simp; omega)) | (simp; omega))) (.cons (.of_eq (by first | rfl | (simp; done) | omega | (refine intEq ?_; first | omega | (simp; done) | (simp; omega)) | (simp; omega))) .nil)))))))))))) (.cons (.of_eq (by first | rfl | (simp; done) | omega | (simp; omega))) (.cons (.of_eq (by first | rfl | (simp; done) | omega | (simp; omega))) .nil)) (fun k12 i12 s12 hle12 H1 H2 K0 hK12 => ?_)
        refine W.seq ?_
        refine W.region env [] [] rfl rfl rfl .nil .nil (At.keep (ts := [2, 3, 10, 11, 12, 13, 29, 30, 31, 45, 46, 47, 48]) (ids := [3, 510]) rfl rfl ?_)
        refine At.thenC ?_
        refine W.seq ?_
        refine W.cond rfl (fun hb13 => ?_) (fun hb13 => ?_)
        · have hi12 : i12 < ((p1.getD i7 default).drop 1).length := by have := of_decide_eq_true hb13; omega
          have H := H1 hi12
          refine W.skip ?_
          refine At.thenC ?_
          refine W.seq ?_
          refine W.block ?_
          refine W.seq ?_
          refine W.region env [] [] rfl rfl rfl (.cons (⟨by omega, by omega⟩ : 0 ≤ (i12 : Int) ∧ (i12 : Int) < ((((p1.getD i7 default).drop 1).length : Nat) : Int)) .nil) .nil (At.keep (ts := [2, 3, 10, 11, 12, 13, 14, 15, 29, 30, 31, 45, 46, 47]) (ids := [3, 510]) rfl rfl ?_)
          refine At.thenC ?_
          refine W.seq ?_
          obtain ⟨hc14, H⟩ := of_must H
          obtain ⟨hc15, H⟩ := of_must H
          obtain ⟨hc16, H⟩ := of_must H
          obtain ⟨hc17, H⟩ := of_must H
          obtain ⟨hc18, H⟩ := of_must H
          obtain ⟨hc19, H⟩ := of_must H
          refine W.region env [] [] rfl rfl (by first | rfl | kernel_rfl) (.cons hc14 (.cons hc15 (.cons hc16 (.cons hc17 (.cons hc18 (.cons hc19 .nil)))))) .nil (At.keep (ts := [2, 3, 10, 11, 12, 13, 15, 29, 30, 31, 45, 46, 47]) (ids := [3, 510]) rfl rfl ?_)
          refine At.thenC ?_
          refine W.seq ?_
          refine W.seq ?_
          obtain ⟨hc20, H⟩ := of_must H
          refine W.region env [] [] rfl rfl rfl (.cons hc20 .nil) .nil (At.keep (ts := [2, 3, 10, 11, 12, 13, 15, 29, 30, 31, 45, 46, 47, 78]) (ids := [3, 510]) rfl rfl ?_)
          refine At.thenC ?_
          refine W.joinC H (fun (s21 : (List Int)) => [(2, roL 1 enc_ListInt p2), (3, .lp 3 0), (10, .buf 510 (s21).length), (11, .int .i64 ((i7 : Int))), (12, roL 1 enc_Int (p1.getD i7 default)), (13, .int .i64 ((s12.1 + ((p0.Tasks.getD (((p1.getD i7 default).getD i12 default)).toNat default).Serve + ((p2.getD i7 default).getD i12 default))))), (15, .int .i64 ((((p1.getD i7 default).drop 1).getD i12 default))), (29, roL 1 enc_ListInt p1), (30, .int .i64 (((p1.length : Nat) : Int))), (31, .int .i64 ((i7 : Int))), (45, roL 1 enc_Int ((p1.getD i7 default).drop 1)), (46, .int .i64 (((((p1.getD i7 default).drop 1).length : Nat) : Int))), (47, .int .i64 ((i12 : Int)))]) (fun (s21 : (List Int)) => [(3, .cells [roL 4 enc_Task p0.Tasks, roL 1 enc_ListRange p0.Travel, roL 3 enc_Hand p0.Hands]), (510, bufL 3 1 enc_Int s21)]) (fun s21 H => ?_) (fun k21 H hK21 => ?_)
          · obtain ⟨hc22, H⟩ := of_must H
            refine W.region env [] [] rfl rfl rfl (.cons hc22 .nil) .nil (At.keep (ts := [2, 3, 10, 11, 12, 13, 29, 30, 31, 45, 46, 47]) (ids := [3, 510]) rfl rfl ?_)
            refine At.inb ?_
            refine At.thenC ?_
            refine W.region env [] [] rfl rfl rfl (.cons (by unfold inI; have := hn12; (try unfold maxLen at this); omega) .nil) .nil (At.keep (ts := [2, 3, 10, 11, 12, 13, 29, 30, 31, 45, 46, 47]) (ids := [3, 510]) rfl rfl ?_)
            refine At.thenK (At.keep (ts := [2, 3, 10, 11, 12, 13, 29, 30, 31, 45, 46, 47]) (ids := [3, 510]) rfl rfl ?_)
            exact At.conv (.cons (.of_eq (by first | rfl | (simp; done) | omega | (simp; omega))) (.cons (.of_eq (by first | rfl | (simp; done) | omega | (simp; omega))) (.cons (.of_eq (by refine bufEq ?_; first | (simp [copyAt]; done) | omega | (simp [copyAt]; omega) | (simp only [List.length_set] at *; omega) | rfl)) (.cons (.of_eq (by first | rfl | (simp; done) | omega | (refine intEq ?_; first | omega | (simp; done) | (simp; omega)) | (simp; omega))) (.cons (.of_eq (by first | rfl | (simp; done) | omega | (simp; omega))) (.cons (.of_eq (by first | rfl | (simp; done) | omega | (refine intEq ?_; first | omega | (simp; done) | (simp; omega)) | (simp; omega))) (.cons (.of_eq (by first | rfl | (simp; done) | omega | (simp; omega))) (.cons (.of_eq (by first | rfl | (simp; done) | omega | (refine intEq ?_; first | omega | (simp; done) | (simp; omega)) | (simp; omega))) (.cons (.of_eq (by first | rfl | (simp; done) | omega | (refine intEq ?_; first | omega | (simp; done) | (simp; omega)) | (simp; omega))) (.cons (.of_eq (by first | rfl | (simp; done) | omega | (simp; omega))) (.cons (.of_eq (by first | rfl | (simp; done) | omega | (refine intEq ?_; first | omega | (simp; done) | (simp; omega)) | (simp; omega))) (.cons (.of_eq (by first | rfl | (simp; done) | omega | (refine intEq ?_; first | omega | (simp; done) | (simp; omega)) | (simp; omega))) .nil)))))))))))) (.cons (.of_eq (by first | rfl | (simp; done) | omega | (simp; omega))) (.cons (.of_eq (by first | rfl | (simp; done) | omega | (simp; omega))) .nil)) (hK12 hi12 ((max (s12.1 + ((p0.Tasks.getD (((p1.getD i7 default).getD i12 default)).toNat default).Serve + ((p2.getD i7 default).getD i12 default))) ((p0.Tasks.getD ((((p1.getD i7 default).drop 1).getD i12 default)).toNat default).At)), s21) H)
          · refine W.cond rfl (fun hb23 => ?_) (fun hb23 => ?_)
            · have H := of_true H hb23
              obtain ⟨hc24, H⟩ := of_must H
              refine W.region env [] [] rfl rfl rfl (.cons (⟨by first | rfl | (simp; done) | omega | (simp; omega), by have := hc24; first | simpa using this | (unfold room at this ⊢; simp at this ⊢; omega)⟩) .nil) .nil (At.keep (ts := [2, 3, 10, 11, 12, 13, 15, 29, 30, 31, 45, 46, 47]) (ids := [3, 510]) rfl rfl ?_)
              refine At.convM (.cons (.refl _) (.cons (y := bufL 3 1 enc_Int (s12.2 ++ ([(((p1.getD i7 default).drop 1).getD i12 default)] : List Int))) (BSim.seg (Seg.push (Seg.refl enc_Int _) (Seg.lit (f := enc_Int) (sz := 1) ([(((p1.getD i7 default).drop 1).getD i12 default)] : List Int) rfl rfl (fun _ => rfl)))) .nil)) ?_
              refine At.thenK (At.keep (ts := [2, 3, 10, 11, 12, 13, 15, 29, 30, 31, 45, 46, 47]) (ids := [3, 510]) rfl rfl ?_)
              exact At.conv (.cons (.of_eq (by first | rfl | (simp; done) | omega | (simp; omega))) (.cons (.of_eq (by first | rfl | (simp; done) | omega | (simp; omega))) (.cons (.of_eq (by refine bufEq ?_; first | (simp [copyAt]; done) | omega | (simp [copyAt]; omega) | (simp only [List.length_set] at *; omega) | rfl)) (.cons (.of_eq (by first | rfl | (simp; done) | omega | (refine intEq ?_; first | omega | (simp; done) | (simp; omega)) | (simp; omega))) (.cons (.of_eq (by first | rfl | (simp; done) | omega | (simp; omega))) (.cons (.of_eq (by first | rfl | (simp; done) | omega | (refine intEq ?_; first | omega | (simp; done) | (simp; omega)) | (simp; omega))) (.cons (.of_eq (by first | rfl | (simp; done) | omega | (refine intEq ?_; first | omega | (simp; done) | (simp; omega)) | (simp; omega))) (.cons (.of_eq (by first | rfl | (simp; done) | omega | (simp; omega))) (.cons (.of_eq (by first | rfl | (simp; done) | omega | (refine intEq ?_; first | omega | (simp; done) | (simp; omega)) | (simp; omega))) (.cons (.of_eq (by first | rfl | (simp; done) | omega | (refine intEq ?_; first | omega | (simp; done) | (simp; omega)) | (simp; omega))) (.cons (.of_eq (by first | rfl | (simp; done) | omega | (simp; omega))) (.cons (.of_eq (by first | rfl | (simp; done) | omega | (refine intEq ?_; first | omega | (simp; done) | (simp; omega)) | (simp; omega))) (.cons (.of_eq (by first | rfl | (simp; done) | omega | (refine intEq ?_; first | omega | (simp; done) | (simp; omega)) | (simp; omega))) .nil))))))))))))) (.cons (.of_eq (by first | rfl | (simp; done) | omega | (simp; omega))) (.cons (.of_eq (by first | rfl | (simp; done) | omega | (simp; omega))) .nil)) (hK21 (s12.2 ++ ([(((p1.getD i7 default).drop 1).getD i12 default)] : List Int)) H)
            · have H := of_false H hb23
              refine W.skip ?_
              refine At.thenK (At.keep (ts := [2, 3, 10, 11, 12, 13, 15, 29, 30, 31, 45, 46, 47]) (ids := [3, 510]) rfl rfl ?_)
              exact At.conv (.cons (.of_eq (by first | rfl | (simp; done) | omega | (simp; omega))) (.cons (.of_eq (by first | rfl | (simp; done) | omega | (simp; omega))) (.cons (.of_eq (by refine bufEq ?_; first | (simp [copyAt]; done) | omega | (simp [copyAt]; omega) | (simp only [List.length_set] at *; omega) | rfl)) (.cons (.of_eq (by first | rfl | (simp; done) | omega | (refine intEq ?_; first | omega | (simp; done) | (simp; omega)) | (simp; omega))) (.cons (.of_eq (by first | rfl | (simp; done) | omega | (simp; omega))) (.cons (.of_eq (by first | rfl | (simp; done) | omega | (refine intEq ?_; first | omega | (simp; done) | (simp; omega)) | (simp; omega))) (.cons (.of_eq (by first | rfl | (simp; done) | omega | (refine intEq ?_; first | omega | (simp; done) | (simp; omega)) | (simp; omega))) (.cons (.of_eq (by first | rfl | (simp; done) | omega | (simp; omega))) (.cons (.of_eq (by first | rfl | (simp; done) | omega | (refine intEq ?_; first | omega | (simp; done) | (simp; omega)) | (simp; omega))) (.cons (.of_eq (by first | rfl | (simp; done) | omega | (refine intEq ?_; first | omega | (simp; done) | (simp; omega)) | (simp; omega))) (.cons (.of_eq (by first | rfl | (simp; done) | omega | (simp; omega))) (.cons (.of_eq (by first | rfl | (simp; done) | omega | (refine intEq ?_; first | omega | (simp; done) | (simp; omega)) | (simp; omega))) (.cons (.of_eq (by first | rfl | (simp; done) | omega | (refine intEq ?_; first | omega | (simp; done) | (simp; omega)) | (simp; omega))) .nil))))))))))))) (.cons (.of_eq (by first | rfl | (simp; done) | omega | (simp; omega))) (.cons (.of_eq (by first | rfl | (simp; done) | omega | (simp; omega))) .nil)) (hK21 s12.2 H)
        · have H := H2 (by have := of_decide_eq_false hb13; omega)
          refine W.exit ?_
          refine At.xthen ?_
          refine At.xthen ?_
          refine At.xhere ?_
          refine At.inb ?_
          refine At.thenC ?_
          refine W.region env [] [] rfl rfl rfl (.cons (by unfold inI; have := hn7; (try unfold maxLen at this); omega) .nil) .nil (At.keep (ts := [2, 3, 10, 29, 30, 31]) (ids := [3, 510]) rfl rfl ?_)
          refine At.thenK (At.keep (ts := [2, 3, 10, 29, 30, 31]) (ids := [3, 510]) rfl rfl ?_)
          exact At.conv (.cons (.of_eq (by first | rfl | (simp; done) | omega | (simp; omega))) (.cons (.of_eq (by first | rfl | (simp; done) | omega | (simp; omega))) (.cons (.of_eq (by refine bufEq ?_; first | (simp [copyAt]; done) | omega | (simp [copyAt]; omega) | (simp only [List.length_set] at *; omega) | rfl)) (.cons (.of_eq (by first | rfl | (simp; done) | omega | (simp; omega))) (.cons (.of_eq (by first | rfl | (simp; done) | omega | (refine intEq ?_; first | omega | (simp; done) | (simp; omega)) | (simp; omega))) (.cons (.of_eq (by first | rfl | (simp; done) | omega | (refine intEq ?_; first | omega | (simp; done) | (simp; omega)) | (simp; omega))) .nil)))))) (.cons (.of_eq (by first | rfl | (simp; done) | omega | (simp; omega))) (.cons (.of_eq (by first | rfl | (simp; done) | omega | (simp; omega))) .nil)) (hK7 hi7 s12.2 H)
      · have H := H2 (by have := of_decide_eq_false hb8; omega)
        refine W.exit ?_
        refine At.xthen ?_
        refine At.xthen ?_
        refine At.xhere ?_
        refine At.thenC ?_
        refine W.seq ?_
        obtain ⟨y25, hy26, H⟩ := of_bindO H
        obtain ⟨hc27, H⟩ := of_must H
        refine W.region env [] [⟨.tup [], [(510, bufL 3 1 enc_Int y25)], 0, [510]⟩] rfl rfl (by kernel_rfl) .nil (.free (CtrO.sim (CtrO.ren (cl_slices_Sort_int s7 hy26) [(90000, 510)]) (.cons (.of_eq (by refine bufEq ?_; first | rfl | (simp; done) | omega | (simp; omega))) .nil) (.cons (.refl _) .nil)) .nil) (At.keep (ts := [10]) (ids := [510]) rfl rfl ?_)
        refine At.thenC ?_
        refine W.seq ?_
        refine W.region env [] [] rfl rfl rfl .nil .nil (At.keep (ts := [6, 7]) (ids := [510]) rfl rfl ?_)
        refine At.thenC ?_
        refine W.ret ?_
        cases H
        exact At.ret env.ty rfl rfl (fun q hq => by cases hq; exact (by first | rfl | (simp; done) | omega | (simp; omega))) (.refl _) hval

theorem c_crew_shift__free (p0 : crew_shift) {r : (List Int)} (H : crew_shift__free p0 = some r) : Ctr Try.prog 70 [.agg [.po p0.plan.isSome [roL 4 enc_Task ((p0.plan.getD default).Crew.Tasks), roL 1 enc_ListRange ((p0.plan.getD default).Crew.Travel), roL 3 enc_Hand ((p0.plan.getD default).Crew.Hands), roL 1 enc_Int ((p0.plan.getD default).next)], roL 1 enc_ListInt p0.rounds]] (roL 1 enc_Int r) := by
  unfold crew_shift__free at H
  refine Ctr.of_body (N := 19) Try.func70 (by kernel_rfl) (c := _) rfl Try.ntmps70 rfl (fun w0 h0 hval => ?_)
  refine W.seq ?_
  refine W.region env [] [] rfl rfl rfl .nil .nil (At.keep (ts := [1]) (ids := [1]) rfl rfl ?_)
  refine At.thenC ?_
  refine W.seq ?_
  obtain ⟨hc1, H⟩ := of_must H
  refine W.region env [] [] rfl rfl rfl (.cons hc1 .nil) .nil (At.keep (ts := [3]) (ids := [8]) rfl rfl ?_)
  refine At.convM (.cons (y := bufL 3 1 enc_Int (List.replicate (((p0.rounds.length : Nat) : Int)).toNat (0 : Int))) (BSim.seg (Seg.made (f := enc_Int) 0 rfl)) .nil) ?_
  refine At.thenC ?_
  refine W.seq ?_
  refine W.seq ?_
  refine W.region env [] [] rfl rfl rfl (.cons (by first | rfl | (simp; done) | omega | (simp; omega)) .nil) .nil (At.keep (ts := [3, 10, 11]) (ids := [8]) rfl rfl ?_)
  refine At.thenC ?_
  refine W.block ?_
  refine At.keep (ts := [3, 10, 11]) (ids := [8]) rfl rfl ?_
  obtain ⟨hn2, H⟩ := of_must H
  refine W.rangeGo H (fun i2 (s2 : (List Int)) => [(3, .buf 8 (s2).length), (10, .int .i64 ((((List.replicate (((p0.rounds.length : Nat) : Int)).toNat (0 : Int)).length : Nat) : Int))), (11, .int .i64 ((i2 : Int)))]) (fun i2 (s2 : (List Int)) => [(8, bufL 3 1 enc_Int s2)]) (.cons (.of_eq (by refine bufEq ?_; first | (simp [copyAt]; done) | omega | (simp [copyAt]; omega) | (simp only [List.length_set] at *; omega) | rfl)) (.cons (.of_eq (by first | rfl | (simp; done) | omega | (refine intEq ?_; first | omega | (simp; done) | (simp; omega)) | (simp; omega))) (.cons (.of_eq (by first | rfl | (simp; done) | omega | (refine intEq ?_; first | omega | (simp; done) | (simp; omega)) | (simp; omega))) .nil))) (.cons (.of_eq (by first | rfl | (simp; done) | omega | (simp; omega))) .nil) (fun k2 i2 s2 hle2 H1 H2 K0 hK2 => ?_)
  refine W.seq ?_
  refine W.region env [] [] rfl rfl rfl .nil .nil (At.keep (ts := [3, 10, 11, 12]) (ids := [8]) rfl rfl ?_)
  refine At.thenC ?_
  refine W.seq ?_
  refine W.cond rfl (fun hb3 => ?_) (fun hb3 => ?_)
  · have hi2 : i2 < (List.replicate (((p0.rounds.length : Nat) : Int)).toNat (0 : Int)).length := by have := of_decide_eq_true hb3; omega
    have H := H1 hi2
    refine W.skip ?_
    refine At.thenC ?_
    refine W.seq ?_
    refine W.block ?_
    refine W.seq ?_
    refine W.region env [] [] rfl rfl rfl .nil .nil (At.keep (ts := [3, 4, 10, 11]) (ids := [8]) rfl rfl ?_)
    refine At.thenC ?_
    obtain ⟨hc4, H⟩ := of_must H
    refine W.region env [] [] rfl rfl rfl (.cons (⟨by first | rfl | (simp; done) | omega | (simp; omega), hc4⟩) (.cons (⟨by first | rfl | (simp; done) | omega | (simp; omega), (by have := hc4; first | omega | (simp only [List.length_set]; omega) | (simp only [Int.toNat_natCast] at *; omega) | (simp at this ⊢; omega))⟩) .nil)) .nil (At.keep (ts := [3, 10, 11]) (ids := [8]) rfl rfl ?_)
    refine At.convM (.cons (y := bufL 3 1 enc_Int (s2.set i2 (-1))) (BSim.seg (Seg.set (Seg.refl enc_Int _) (-1) rfl)) .nil) ?_
    refine At.inb ?_
    refine At.thenC ?_
    refine W.region env [] [] rfl rfl rfl (.cons (by unfold inI; have := hn2; (try unfold maxLen at this); omega) .nil) .nil (At.keep (ts := [3, 10, 11]) (ids := [8]) rfl rfl ?_)
    refine At.thenK (At.keep (ts := [3, 10, 11]) (ids := [8]) rfl rfl ?_)
    exact At.conv (.cons (.of_eq (by refine bufEq ?_; first | (simp [copyAt]; done) | omega | (simp [copyAt]; omega) | (simp only [List.length_set] at *; omega) | rfl)) (.cons (.of_eq (by first | rfl | (simp; done) | omega | (refine intEq ?_; first | omega | (simp; done) | (simp; omega)) | (simp; omega))) (.cons (.of_eq (by first | rfl | (simp; done) | omega | (refine intEq ?_; first | omega | (simp; done) | (simp; omega)) | (simp; omega))) .nil))) (.cons (.of_eq (by first | rfl | (simp; done) | omega | (simp; omega))) .nil) (hK2 hi2 (s2.set i2 (-1)) H)
  · have H := H2 (by have := of_decide_eq_false hb3; omega)
    refine W.exit ?_
    refine At.xthen ?_
    refine At.xthen ?_
    refine At.xhere ?_
    refine At.thenC ?_
    refine W.seq ?_
    refine W.region env [] [] rfl rfl rfl .nil .nil (At.keep (ts := [2]) (ids := [8]) rfl rfl ?_)
    refine At.thenC ?_
    refine W.ret ?_
    cases H
    exact At.ret env.ty rfl rfl (fun q hq => by cases hq; exact (by first | rfl | (simp; done) | omega | (simp; omega))) (.refl _) hval

theorem c_crew_shift__indices (p0 : crew_shift) {r : (List Int)} (H : crew_shift__indices p0 = some r) : Ctr Try.prog 72 [.agg [.po p0.plan.isSome [roL 4 enc_Task ((p0.plan.getD default).Crew.Tasks), roL 1 enc_ListRange ((p0.plan.getD default).Crew.Travel), roL 3 enc_Hand ((p0.plan.getD default).Crew.Hands), roL 1 enc_Int ((p0.plan.getD default).next)], roL 1 enc_ListInt p0.rounds]] (roL 1 enc_Int r) := by
  unfold crew_shift__indices at H
  refine Ctr.of_body (N := 17) Try.func72 (by kernel_rfl) (c := _) rfl Try.ntmps72 rfl (fun w0 h0 hval => ?_)
  refine W.seq ?_
  refine W.region env [] [] rfl rfl rfl .nil .nil (At.keep (ts := [1]) (ids := [1]) rfl rfl ?_)
  refine At.thenC ?_
  refine W.seq ?_
  refine W.region env [] [] rfl rfl rfl .nil .nil (At.keep (ts := [1, 3]) (ids := [1]) rfl rfl ?_)
  refine At.thenC ?_
  refine W.seq ?_
  refine W.seq ?_
  refine W.region env [] [] rfl rfl rfl .nil .nil (At.keep (ts := [3, 7, 8]) (ids := []) rfl rfl ?_)
  refine At.thenC ?_
  refine W.block ?_
  refine At.nilOwn 3 503 3 1 (e := fun i => enc_Int (([] : List Int).getD i default)) rfl rfl ?_
  refine At.keep (ts := [3, 7, 8]) (ids := [503]) rfl rfl ?_
  obtain ⟨hn1, H⟩ := of_must H
  refine W.rangeGo H (fun i1 (s1 : (List Int)) => [(3, .buf 503 (s1).length), (7, .int .i64 (((p0.rounds.length : Nat) : Int))), (8, .int .i64 ((i1 : Int)))]) (fun i1 (s1 : (List Int)) => [(503, bufL 3 1 enc_Int s1)]) (.cons (.of_eq (by refine bufEq ?_; first | (simp [copyAt]; done) | omega | (simp [copyAt]; omega) | (simp only [List.length_set] at *; omega) | rfl)) (.cons (.of_eq (by first | rfl | (simp; done) | omega | (refine intEq ?_; first | omega | (simp; done) | (simp; omega)) | (simp; omega))) (.cons (.of_eq (by first | rfl | (simp; done) | omega | (refine intEq ?_; first | omega | (simp; done) | (simp; omega)) | (simp; omega))) .nil))) (.cons (.of_eq (by first | rfl | (simp; done) | omega | (simp; omega))) .nil) (fun k1 i1 s1 hle1 H1 H2 K0 hK1 => ?_)
  refine W.seq ?_
  refine W.region env [] [] rfl rfl rfl .nil .nil (At.keep (ts := [3, 7, 8, 9]) (ids := [503]) rfl rfl ?_)
  refine At.thenC ?_
  refine W.seq ?_
  refine W.cond rfl (fun hb2 => ?_) (fun hb2 => ?_)
  · have hi1 : i1 < p0.rounds.length := by have := of_decide_eq_true hb2; omega
    have H := H1 hi1
    refine W.skip ?_
    refine At.thenC ?_
    refine W.seq ?_
    refine W.block ?_
    refine W.seq ?_
    refine W.region env [] [] rfl rfl rfl .nil .nil (At.keep (ts := [3, 4, 7, 8]) (ids := [503]) rfl rfl ?_)
    refine At.thenC ?_
    obtain ⟨hc3, H⟩ := of_must H
    refine W.region env [] [] rfl rfl rfl (.cons (⟨by first | rfl | (simp; done) | omega | (simp; omega), by have := hc3; first | simpa using this | (unfold room at this ⊢; simp at this ⊢; omega)⟩) .nil) .nil (At.keep (ts := [3, 7, 8]) (ids := [503]) rfl rfl ?_)
    refine At.convM (.cons (y := bufL 3 1 enc_Int (s1 ++ ([(i1 : Int)] : List Int))) (BSim.seg (Seg.push (Seg.refl enc_Int _) (Seg.lit (f := enc_Int) (sz := 1) ([(i1 : Int)] : List Int) rfl rfl (fun _ => rfl)))) .nil) ?_
    refine At.inb ?_
    refine At.thenC ?_
    refine W.region env [] [] rfl rfl rfl (.cons (by unfold inI; have := hn1; (try unfold maxLen at this); omega) .nil) .nil (At.keep (ts := [3, 7, 8]) (ids := [503]) rfl rfl ?_)
    refine At.thenK (At.keep (ts := [3, 7, 8]) (ids := [503]) rfl rfl ?_)
    exact At.conv (.cons (.of_eq (by refine bufEq ?_; first | (simp [copyAt]; done) | omega | (simp [copyAt]; omega) | (simp only [List.length_set] at *; omega) | rfl)) (.cons (.of_eq (by first | rfl | (simp; done) | omega | (refine intEq ?_; first | omega | (simp; done) | (simp; omega)) | (simp; omega))) (.cons (.of_eq (by first | rfl | (simp; done) | omega | (refine intEq ?_; first | omega | (simp; done) | (simp; omega)) | (simp; omega))) .nil))) (.cons (.of_eq (by first | rfl | (simp; done) | omega | (simp; omega))) .nil) (hK1 hi1 (s1 ++ ([(i1 : Int)] : List Int)) H)
  · have H := H2 (by have := of_decide_eq_false hb2; omega)
    refine W.exit ?_
    refine At.xthen ?_
    refine At.xthen ?_
    refine At.xhere ?_
    refine At.thenC ?_
    refine W.seq ?_
    refine W.region env [] [] rfl rfl rfl .nil .nil (At.keep (ts := [2]) (ids := [503]) rfl rfl ?_)
    refine At.thenC ?_
    refine W.ret ?_
    cases H
    exact At.ret env.ty rfl rfl (fun q hq => by cases hq; exact (by first | rfl | (simp; done) | omega | (simp; omega))) (.refl _) hval

theorem c_crew_plan__able (p0 : crew_plan) (p1 : Hand) (p2 : (List Int)) {r : Bool} (H : crew_plan__able p0 p1 p2 = some r) : Ctr Try.prog 73 [.rp [roL 4 enc_Task p0.Crew.Tasks, roL 1 enc_ListRange p0.Crew.Travel, roL 3 enc_Hand p0.Crew.Hands, roL 1 enc_Int p0.next], .agg [.int .i64 (p1.Id), .int .i64 (p1.From), .int .i64 (p1.To)], roL 1 enc_Int p2] (.bool (r)) := by
  unfold crew_plan__able at H
  refine Ctr.of_body (N := 47) Try.func73 (by kernel_rfl) (c := _) rfl Try.ntmps73 rfl (fun w0 h0 hval => ?_)
  refine W.seq ?_
  refine W.region env [] [] rfl rfl rfl .nil .nil (At.keep (ts := [0, 2, 4]) (ids := [4]) rfl rfl ?_)
  refine At.thenC ?_
  refine W.seq ?_
  obtain ⟨hc1, H⟩ := of_must H
  obtain ⟨hc2, H⟩ := of_must H
  obtain ⟨hc3, H⟩ := of_must H
  obtain ⟨hc4, H⟩ := of_must H
  obtain ⟨hc5, H⟩ := of_must H
  refine W.region env [] [] rfl rfl (by first | rfl | kernel_rfl) (.cons hc1 (.cons hc2 (.cons hc3 (.cons hc4 (.cons hc5 .nil))))) .nil (At.keep (ts := [4, 7, 8]) (ids := [4, 7, 8]) rfl rfl ?_)
  refine At.thenC ?_
  refine W.seq ?_
  obtain ⟨hc6, H⟩ := of_must H
  refine W.region env [] [] rfl rfl rfl (.cons (fun h => h) (.cons (fun h => h) (.cons (fun h => h) (.cons hc6 (.cons (fun h => h) (.cons (fun h => h) (.cons (fun h => h) (.cons (fun h => h) (.cons (fun h => h) .nil))))))))) .nil (At.keep (ts := [6]) (ids := []) rfl rfl ?_)
  refine At.thenC ?_
  refine W.ret ?_
  cases H
  exact At.ret env.ty rfl rfl (fun q hq => by cases hq) (.refl _) hval

end Go.Sp
