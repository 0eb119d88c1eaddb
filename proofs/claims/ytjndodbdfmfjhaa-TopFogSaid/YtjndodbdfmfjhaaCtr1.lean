/- Printed by gen.py. -/
import Derived.Test.YtjndodbdfmfjhaaFr3
import Derived.Test.YtjndodbdfmfjhaaFr4
import Derived.Test.YtjndodbdfmfjhaaProg
import Derived.KernelRfl
set_option linter.all false
set_option maxRecDepth 100000
set_option maxHeartbeats 1000000
set_option linter.unusedVariables false
namespace Go.Sp
open Go Go.Av Go.Proofs
def enc_Int (x : Int) : List AV := [.int .i64 (x)]
def enc_Version (x : Version) : List AV := [.int .i64 (x.Source), .int .i64 (x.Class), .int .i64 (x.From), .int .i64 (x.On.Lo), .int .i64 (x.On.Hi), .int .i64 (x.Off.Lo), .int .i64 (x.Off.Hi), .int .i64 (x.Moon), .int .i64 (x.Fog), .int .i64 (x.Known), .int .i64 (x.Until)]
def enc_Street (x : Street) : List AV := [.int .i64 (x.Id), .int .i64 (x.Class), .int .i64 (x.District), .int .i64 (x.First), .int .i64 (x.Many)]
def enc_Report (x : Report) : List AV := [.int .i64 (x.Source), .int .i64 (x.District), .int .i64 (x.Night), .int .i64 (x.From), .int .i64 (x.To), .int .i64 (x.Sight.Lo), .int .i64 (x.Sight.Hi), .int .i64 (x.Known), .int .i64 (x.Until)]
def enc_Arr4Int (x : (Arr4 Int)) : List AV := [.int .i64 (x.x0), .int .i64 (x.x1), .int .i64 (x.x2), .int .i64 (x.x3)]
def tids : List Nat := [3, 4, 22, 23, 24, 26, 28, 32, 34, 35, 44, 45, 47, 48, 50, 52, 56, 59, 65, 66, 67, 70, 82, 89, 97, 98, 100, 101, 112, 114]
def Γ : Tys := [(3, ⟨.int .i64, [.int .i64 0], 1, 8⟩),
 (4, ⟨.bool, [.bool false], 1, 1⟩),
 (22, ⟨.slice 3, [.slice none 0 0], 1, 24⟩),
 (23, ⟨.slice 66, [.slice none 0 0], 1, 24⟩),
 (24, ⟨.array 3 3, [.int .i64 0, .int .i64 0, .int .i64 0], 3, 24⟩),
 (26, ⟨.struct [(0, 22), (1, 23), (2, 24), (5, 3)], [.slice none 0 0, .slice none 0 0, .int .i64 0, .int .i64 0, .int .i64 0, .int .i64 0], 6, 80⟩),
 (28, ⟨.slice 65, [.slice none 0 0], 1, 24⟩),
 (32, ⟨.struct [(0, 3), (1, 3)], [.int .i64 0, .int .i64 0], 2, 16⟩),
 (34, ⟨.struct [(0, 3), (1, 32), (3, 32), (5, 32), (7, 3)], [.int .i64 0, .int .i64 0, .int .i64 0, .int .i64 0, .int .i64 0, .int .i64 0, .int .i64 0, .int .i64 0], 8, 64⟩),
 (35, ⟨.int .i64, [.int .i64 0], 1, 8⟩),
 (44, ⟨.struct [(0, 3), (1, 3), (2, 3), (3, 32), (5, 32), (7, 3), (8, 3), (9, 3), (10, 3)], [.int .i64 0, .int .i64 0, .int .i64 0, .int .i64 0, .int .i64 0, .int .i64 0, .int .i64 0, .int .i64 0, .int .i64 0, .int .i64 0, .int .i64 0], 11, 88⟩),
 (45, ⟨.slice 44, [.slice none 0 0], 1, 24⟩),
 (47, ⟨.struct [(0, 3), (1, 3), (2, 3), (3, 3), (4, 3)], [.int .i64 0, .int .i64 0, .int .i64 0, .int .i64 0, .int .i64 0], 5, 40⟩),
 (48, ⟨.slice 47, [.slice none 0 0], 1, 24⟩),
 (50, ⟨.struct [(0, 45), (1, 48)], [.slice none 0 0, .slice none 0 0], 2, 48⟩),
 (52, ⟨.struct [(0, 3), (1, 3), (2, 3), (3, 4)], [.int .i64 0, .int .i64 0, .int .i64 0, .bool false], 4, 32⟩),
 (56, ⟨.struct [(0, 3), (1, 3)], [.int .i64 0, .int .i64 0], 2, 16⟩),
 (59, ⟨.struct [(0, 3), (1, 32), (3, 32)], [.int .i64 0, .int .i64 0, .int .i64 0, .int .i64 0, .int .i64 0], 5, 40⟩),
 (65, ⟨.struct [(0, 3), (1, 3), (2, 3), (3, 3), (4, 3), (5, 32), (7, 3), (8, 3)], [.int .i64 0, .int .i64 0, .int .i64 0, .int .i64 0, .int .i64 0, .int .i64 0, .int .i64 0, .int .i64 0, .int .i64 0], 9, 72⟩),
 (66, ⟨.array 4 3, [.int .i64 0, .int .i64 0, .int .i64 0, .int .i64 0], 4, 32⟩),
 (67, ⟨.slice 65, [.slice none 0 0], 1, 24⟩),
 (70, ⟨.struct [(0, 3), (1, 3), (2, 3), (3, 3), (4, 32), (6, 3)], [.int .i64 0, .int .i64 0, .int .i64 0, .int .i64 0, .int .i64 0, .int .i64 0, .int .i64 0], 7, 56⟩),
 (82, ⟨.struct [(0, 44), (11, 34)], [.int .i64 0, .int .i64 0, .int .i64 0, .int .i64 0, .int .i64 0, .int .i64 0, .int .i64 0, .int .i64 0, .int .i64 0, .int .i64 0, .int .i64 0, .int .i64 0, .int .i64 0, .int .i64 0, .int .i64 0, .int .i64 0, .int .i64 0, .int .i64 0, .int .i64 0], 19, 152⟩),
 (89, ⟨.func, [.nilFunc], 1, 8⟩),
 (97, ⟨.func, [.nilFunc], 1, 8⟩),
 (98, ⟨.func, [.nilFunc], 1, 8⟩),
 (100, ⟨.func, [.nilFunc], 1, 8⟩),
 (101, ⟨.func, [.nilFunc], 1, 8⟩),
 (112, ⟨.func, [.nilFunc], 1, 8⟩),
 (114, ⟨.func, [.nilFunc], 1, 8⟩)]
theorem Γ_ok : mkTys Try.prog tids = some Γ := by kernel_rfl
theorem env : Env Try.prog Γ := ⟨mkTys_sound Γ_ok, by decide +kernel, by kernel_rfl⟩
theorem c_fog_within (p0 : Int) (p1 : Int) (p2 : Int) : Ctr Try.prog 36 [.int .i64 (p0), .int .i64 (p1), .int .i64 (p2)] (.bool ((fog_within p0 p1 p2))) := by
 obtain ⟨r, H⟩ : ∃ r, fog_within p0 p1 p2 = r := ⟨_, rfl⟩
 rw [H]
 unfold fog_within at H
 refine Ctr.of_body (N := 15) Try.func36 (by kernel_rfl) (c := _) rfl Try.ntmps36 rfl (fun w0 h0 hval => ?_)
 refine W.rg env [0, 1, 2] [] ?_
 refine W.sr env [] [] [6] [] rfl rfl rfl (.cons (fun h => h) (.cons (fun h => h) (.cons (fun h => h) .nil))) .nil ?_
 refine W.ret ?_
 cases H
 exact At.ret env.ty rfl rfl (fun q hq => by cases hq) (.refl _) hval
theorem c_fog_isDistrict (p0 : Int) : Ctr Try.prog 37 [.int .i64 (p0)] (.bool ((fog_isDistrict p0))) := by
 obtain ⟨r, H⟩ : ∃ r, fog_isDistrict p0 = r := ⟨_, rfl⟩
 rw [H]
 unfold fog_isDistrict at H
 refine Ctr.of_body (N := 5) Try.func37 (by kernel_rfl) (c := _) rfl Try.ntmps37 rfl (fun w0 h0 hval => ?_)
 refine W.rg env [0] [] ?_
 refine W.sr env [] [⟨.bool ((fog_within p0 1 9)), [], 0, []⟩] [2] [] rfl rfl rfl .nil (.free (c_fog_within p0 1 9) .nil) ?_
 refine W.ret ?_
 cases H
 exact At.ret env.ty rfl rfl (fun q hq => by cases hq) (.refl _) hval
theorem c_fog_isNight (p0 : Int) : Ctr Try.prog 38 [.int .i64 (p0)] (.bool ((fog_isNight p0))) := by
 obtain ⟨r, H⟩ : ∃ r, fog_isNight p0 = r := ⟨_, rfl⟩
 rw [H]
 unfold fog_isNight at H
 refine Ctr.of_body (N := 5) Try.func38 (by kernel_rfl) (c := _) rfl Try.ntmps38 rfl (fun w0 h0 hval => ?_)
 refine W.rg env [0] [] ?_
 refine W.sr env [] [⟨.bool ((fog_within p0 0 100000)), [], 0, []⟩] [2] [] rfl rfl rfl .nil (.free (c_fog_within p0 0 100000) .nil) ?_
 refine W.ret ?_
 cases H
 exact At.ret env.ty rfl rfl (fun q hq => by cases hq) (.refl _) hval
theorem c_fog_isRange (p0 : Range) (p1 : Int) : Ctr Try.prog 39 [.agg [.int .i64 (p0.Lo), .int .i64 (p0.Hi)], .int .i64 (p1)] (.bool ((fog_isRange p0 p1))) := by
 obtain ⟨r, H⟩ : ∃ r, fog_isRange p0 p1 = r := ⟨_, rfl⟩
 rw [H]
 unfold fog_isRange at H
 refine Ctr.of_body (N := 21) Try.func39 (by kernel_rfl) (c := _) rfl Try.ntmps39 rfl (fun w0 h0 hval => ?_)
 refine W.rg env [1, 2] [2] ?_
 refine W.sr env [] [] [4] [] rfl rfl rfl (.cons (fun h => h) (.cons (fun h => h) (.cons (fun h => h) (.cons (fun h => h) (.cons (fun h => h) (.cons (fun h => h) (.cons (fun h => h) (.cons (fun h => h) (.cons (fun h => h) .nil))))))))) .nil ?_
 refine W.ret ?_
 cases H
 exact At.ret env.ty rfl rfl (fun q hq => by cases hq) (.refl _) hval
theorem c_fog_isMoment (p0 : Int) : Ctr Try.prog 40 [.int .i64 (p0)] (.bool ((fog_isMoment p0))) := by
 obtain ⟨r, H⟩ : ∃ r, fog_isMoment p0 = r := ⟨_, rfl⟩
 rw [H]
 unfold fog_isMoment at H
 refine Ctr.of_body (N := 5) Try.func40 (by kernel_rfl) (c := _) rfl Try.ntmps40 rfl (fun w0 h0 hval => ?_)
 refine W.rg env [0] [] ?_
 refine W.sr env [] [⟨.bool ((fog_within p0 0 144001439)), [], 0, []⟩] [2] [] rfl rfl rfl .nil (.free (c_fog_within p0 0 144001439) .nil) ?_
 refine W.ret ?_
 cases H
 exact At.ret env.ty rfl rfl (fun q hq => by cases hq) (.refl _) hval
theorem c_fog_CheckReport (p0 : Report) : Ctr Try.prog 19 [.agg [.int .i64 (p0.Source), .int .i64 (p0.District), .int .i64 (p0.Night), .int .i64 (p0.From), .int .i64 (p0.To), .int .i64 (p0.Sight.Lo), .int .i64 (p0.Sight.Hi), .int .i64 (p0.Known), .int .i64 (p0.Until)]] (.int .i64 ((fog_CheckReport p0))) := by
 obtain ⟨r, H⟩ : ∃ r, fog_CheckReport p0 = r := ⟨_, rfl⟩
 rw [H]
 unfold fog_CheckReport at H
 refine Ctr.of_body (N := 58) Try.func19 (by kernel_rfl) (c := _) rfl Try.ntmps19 rfl (fun w0 h0 hval => ?_)
 refine W.rg env [1] [1] ?_
 refine W.seq ?_
 refine W.sr env [] [⟨.bool ((fog_within p0.Source 1 99999)), [], 0, []⟩, ⟨.bool ((fog_isDistrict p0.District)), [], 0, []⟩, ⟨.bool ((fog_isNight p0.Night)), [], 0, []⟩, ⟨.bool ((fog_isRange (⟨p0.From, p0.To⟩ : Range) 1439)), [], 0, []⟩, ⟨.bool ((fog_isRange p0.Sight 5000)), [], 0, []⟩, ⟨.bool ((fog_isMoment p0.Known)), [], 0, []⟩, ⟨.bool ((fog_isMoment p0.Until)), [], 0, []⟩] [57] [] rfl rfl rfl (.cons (fun h => h) (.cons (fun h => h) (.cons (fun h => h) (.cons (fun h => by rw [h]; rfl) (.cons (fun h => h) (.cons (fun h => h) (.cons (fun h => h) (.cons (fun h => by rw [h]; rfl) (.cons (fun h => h) (.cons (fun h => h) (.cons (fun h => h) (.cons (fun h => h) (.cons (fun h => h) (.cons (fun h => h) (.cons (fun h => by rw [h]; rfl) (.cons (fun h => h) (.cons (fun h => h) (.cons (fun h => h) (.cons (fun h => by rw [h]; rfl) (.cons (fun h => h) (.cons (fun h => h) (.cons (fun h => h) (.cons (fun h => by rw [h]; rfl) (.cons (fun h => h) (.cons (fun h => h) (.cons (fun h => h) (.cons (fun h => h) (.cons (fun h => h) (.cons (fun h => h) (.cons (fun h => h) (.cons (fun h => h) (.cons (fun h => h) (.cons (fun h => h) (.cons (fun h => h) (.cons (fun h => h) (.cons (fun hW h => by revert hW h; first | (simp +contextual; done) | grind) (.cons (fun h => h) (.cons (fun hW h => by revert hW h; first | (simp +contextual; done) | grind) (.cons (fun h => by rw [h]; rfl) .nil))))))))))))))))))))))))))))))))))))))) (.free (c_fog_within p0.Source 1 99999) (.on (fun hW => c_fog_isDistrict p0.District) (.on (fun hW => c_fog_isNight p0.Night) (.on (fun hW => c_fog_isRange (⟨p0.From, p0.To⟩ : Range) 1439) (.on (fun hW => c_fog_isRange p0.Sight 5000) (.on (fun hW => c_fog_isMoment p0.Known) (.on (fun hW => c_fog_isMoment p0.Until) .nil))))))) ?_
 refine W.cond rfl (fun hb1 => ?_) (fun hb1 => ?_)
 · have H := of_true H hb1
   refine W.rg env [2] [] ?_
   refine W.ret ?_
   refine At.rthen ?_
   cases H
   exact At.ret env.ty rfl rfl (fun q hq => by cases hq) (.refl _) hval
 · have H := of_false H hb1
   refine W.skip ?_
   refine At.thenC ?_
   refine W.rg env [2] [] ?_
   refine W.ret ?_
   cases H
   exact At.ret env.ty rfl rfl (fun q hq => by cases hq) (.refl _) hval
theorem c_cmp_isNaN_int (p0 : Int) : Ctr Try.prog 60 [.int .i64 (p0)] (.bool ((cmp_isNaN_int p0))) := by
 obtain ⟨r, H⟩ : ∃ r, cmp_isNaN_int p0 = r := ⟨_, rfl⟩
 rw [H]
 unfold cmp_isNaN_int at H
 refine Ctr.of_body (N := 6) Try.func60 (by kernel_rfl) (c := _) rfl Try.ntmps60 rfl (fun w0 h0 hval => ?_)
 refine W.rg env [0] [] ?_
 refine W.rg env [2] [] ?_
 refine W.ret ?_
 cases H
 exact At.ret env.ty rfl rfl (fun q hq => by cases hq) (.refl _) hval
theorem c_cmp_Compare_int (p0 : Int) (p1 : Int) : Ctr Try.prog 41 [.int .i64 (p0), .int .i64 (p1)] (.int .i64 ((cmp_Compare_int p0 p1))) := by
 obtain ⟨r, H⟩ : ∃ r, cmp_Compare_int p0 p1 = r := ⟨_, rfl⟩
 rw [H]
 unfold cmp_Compare_int at H
 refine Ctr.of_body (N := 20) Try.func41 (by kernel_rfl) (c := _) rfl Try.ntmps41 rfl (fun w0 h0 hval => ?_)
 refine W.rg env [0, 1] [] ?_
 refine W.sr env [] [⟨.bool ((cmp_isNaN_int p0)), [], 0, []⟩] [0, 1, 5] [] rfl rfl rfl .nil (.free (c_cmp_isNaN_int p0) .nil) ?_
 refine W.sr env [] [⟨.bool ((cmp_isNaN_int p1)), [], 0, []⟩] [0, 1, 5, 6] [] rfl rfl rfl .nil (.free (c_cmp_isNaN_int p1) .nil) ?_
 refine W.seq ?_
 refine W.rg env [0, 1, 6, 11] [] ?_
 refine W.cond rfl (fun hb1 => ?_) (fun hb1 => ?_)
 · have H := of_true H hb1
   refine W.seq ?_
   refine W.rg env [12] [] ?_
   refine W.cond rfl (fun hb2 => ?_) (fun hb2 => ?_)
   · have H := of_true H hb2
     refine W.rg env [4] [] ?_
     refine W.ret ?_
     refine At.rthen ?_
     refine At.rthen ?_
     cases H
     exact At.ret env.ty rfl rfl (fun q hq => by cases hq) (.refl _) hval
   · have H := of_false H hb2
     refine W.skip ?_
     refine At.thenC ?_
     refine W.rg env [4] [] ?_
     refine W.ret ?_
     refine At.rthen ?_
     cases H
     exact At.ret env.ty rfl rfl (fun q hq => by cases hq) (.refl _) hval
 · have H := of_false H hb1
   refine W.skip ?_
   refine At.thenC ?_
   refine W.seq ?_
   refine W.rg env [0, 1, 13] [] ?_
   refine W.cond rfl (fun hb3 => ?_) (fun hb3 => ?_)
   · have H := of_true H hb3
     refine W.rg env [4] [] ?_
     refine W.ret ?_
     refine At.rthen ?_
     cases H
     exact At.ret env.ty rfl rfl (fun q hq => by cases hq) (.refl _) hval
   · have H := of_false H hb3
     refine W.skip ?_
     refine At.thenC ?_
     refine W.seq ?_
     refine W.rg env [0, 1, 16] [] ?_
     refine W.cond rfl (fun hb4 => ?_) (fun hb4 => ?_)
     · have H := of_true H hb4
       refine W.rg env [4] [] ?_
       refine W.ret ?_
       refine At.rthen ?_
       cases H
       exact At.ret env.ty rfl rfl (fun q hq => by cases hq) (.refl _) hval
     · have H := of_false H hb4
       refine W.skip ?_
       refine At.thenC ?_
       refine W.seq ?_
       refine W.rg env [19] [] ?_
       refine W.cond rfl (fun hb5 => ?_) (fun hb5 => ?_)
       · have H := of_true H hb5
         refine W.rg env [4] [] ?_
         refine W.ret ?_
         refine At.rthen ?_
         cases H
         exact At.ret env.ty rfl rfl (fun q hq => by cases hq) (.refl _) hval
       · have H := of_false H hb5
         refine W.skip ?_
         refine At.thenC ?_
         refine W.rg env [4] [] ?_
         refine W.ret ?_
         cases H
         exact At.ret env.ty rfl rfl (fun q hq => by cases hq) (.refl _) hval
theorem c_fog_compare (p0 : Report) (p1 : Report) : Ctr Try.prog 20 [.agg [.int .i64 (p0.Source), .int .i64 (p0.District), .int .i64 (p0.Night), .int .i64 (p0.From), .int .i64 (p0.To), .int .i64 (p0.Sight.Lo), .int .i64 (p0.Sight.Hi), .int .i64 (p0.Known), .int .i64 (p0.Until)], .agg [.int .i64 (p1.Source), .int .i64 (p1.District), .int .i64 (p1.Night), .int .i64 (p1.From), .int .i64 (p1.To), .int .i64 (p1.Sight.Lo), .int .i64 (p1.Sight.Hi), .int .i64 (p1.Known), .int .i64 (p1.Until)]] (.int .i64 ((fog_compare p0 p1))) := by
 obtain ⟨r, H⟩ : ∃ r, fog_compare p0 p1 = r := ⟨_, rfl⟩
 rw [H]
 unfold fog_compare at H
 refine Ctr.of_body (N := 10) Try.func20 (by kernel_rfl) (c := _) rfl Try.ntmps20 rfl (fun w0 h0 hval => ?_)
 refine W.rg env [2, 3] [2, 3] ?_
 refine W.sr env [] [⟨.int .i64 ((cmp_Compare_int p0.Source p1.Source)), [], 0, []⟩] [4] [] rfl rfl rfl .nil (.free (c_cmp_Compare_int p0.Source p1.Source) .nil) ?_
 refine W.ret ?_
 cases H
 exact At.ret env.ty rfl rfl (fun q hq => by cases hq) (.refl _) hval
theorem c_fog_Check (p0 : (List Report)) {r : Int} (H : fog_Check p0 = some r) : Ctr Try.prog 9 [roL 9 enc_Report p0] (.int .i64 (r)) := by
 unfold fog_Check at H
 refine Ctr.of_body (N := 33) Try.func9 (by kernel_rfl) (c := _) rfl Try.ntmps9 rfl (fun w0 h0 hval => ?_)
 refine W.rg env [0] [] ?_
 refine W.seq ?_
 refine W.rg env [0, 7] [] ?_
 refine W.cond rfl (fun hb1 => ?_) (fun hb1 => ?_)
 · have H := of_true H hb1
   refine W.rg env [2] [] ?_
   refine W.ret ?_
   refine At.rthen ?_
   cases H
   exact At.ret env.ty rfl rfl (fun q hq => by cases hq) (.refl _) hval
 · have H := of_false H hb1
   refine W.skip ?_
   refine At.thenC ?_
   refine W.seq ?_
   refine W.rg env [0, 8, 9, 10] [] ?_
   refine W.block ?_
   refine At.keep (ts := [0, 8, 9, 10]) (ids := []) rfl rfl ?_
   refine W.len (t := 8) rfl (fun (hn2 : p0.length ≤ maxLen) => ?_)
   refine W.rangeGo H (fun i2 (s2 : Unit) => [(0, roL 9 enc_Report p0), (8, roL 9 enc_Report p0), (9, .int .i64 (((p0.length : Nat) : Int))), (10, .int .i64 ((i2 : Int)))]) (fun i2 (s2 : Unit) => []) (.cons .q (.cons .q (.cons .qi (.cons .qi .nil)))) .nil (fun k2 i2 s2 hle2 H1 H2 K0 hK2 => ?_)
   refine W.rg env [0, 8, 9, 10, 11] [] ?_
   refine W.seq ?_
   refine W.cond rfl (fun hb3 => ?_) (fun hb3 => ?_)
   · have hi2 : i2 < p0.length := by have := of_decide_eq_true hb3; omega
     have H := H1 hi2
     refine W.skip ?_
     refine At.thenC ?_
     refine W.seq ?_
     refine W.block ?_
     refine W.sr env [] [] [0, 3, 4, 8, 9, 10] [4] rfl rfl rfl (.cons (⟨by omega, by omega⟩ : 0 ≤ (i2 : Int) ∧ (i2 : Int) < ((p0.length : Nat) : Int)) .nil) .nil ?_
     obtain ⟨hc4, H⟩ := of_must H
     obtain ⟨hc5, H⟩ := of_must H
     refine W.sr env [] [⟨.int .i64 ((fog_CheckReport (p0.getD i2 default))), [], 0, []⟩, ⟨.int .i64 ((fog_compare (p0.getD (((i2 : Int) - 1)).toNat default) (p0.getD i2 default))), [], 0, []⟩] [0, 8, 9, 10, 31] [] rfl rfl (by kernel_rfl) (.cons (fun h => h) (.cons (fun h => h) (.cons hc4 (.cons (fun h => h) (.cons hc5 (.cons (fun h => h) (.cons (fun h => h) (.cons (fun h => h) (.cons (fun h => h) (.cons (fun h => h) (.cons (fun h => h) (.cons (fun h => h) (.cons (fun hW h => by revert hW h; first | (simp +contextual; done) | grind) (.cons (fun h => by rw [h]; rfl) .nil)))))))))))))) (.free (c_fog_CheckReport (p0.getD i2 default)) (.on (fun hW => c_fog_compare (p0.getD (((i2 : Int) - 1)).toNat default) (p0.getD i2 default)) .nil)) ?_
     refine W.cond rfl (fun hb6 => ?_) (fun hb6 => ?_)
     · have H := of_true H hb6
       refine W.rg env [2] [] ?_
       refine W.ret ?_
       refine At.rinb ?_
       refine At.rthen ?_
       refine At.rthen ?_
       refine At.rinb ?_
       refine At.rthen ?_
       cases H
       exact At.ret env.ty rfl rfl (fun q hq => by cases hq) (.refl _) hval
     · have H := of_false H hb6
       refine W.skip ?_
       refine At.inb ?_
       refine At.thenC ?_
       refine W.region env [] [] rfl rfl rfl (.cons (by unfold inI; have := hn2; (try unfold maxLen at this); omega) .nil) .nil (At.keep (ts := [0, 8, 9, 10]) (ids := []) rfl rfl ?_)
       refine At.thenK (At.keep (ts := [0, 8, 9, 10]) (ids := []) rfl rfl ?_)
       exact At.conv (.cons .q (.cons .q (.cons .qi (.cons .qi .nil)))) .nil (hK2 hi2 () H)
   · have H := H2 (by have := of_decide_eq_false hb3; omega)
     refine W.exit ?_
     refine At.xthen ?_
     refine At.xthen ?_
     refine At.xhere ?_
     refine At.thenC ?_
     refine W.rg env [2] [] ?_
     refine W.ret ?_
     cases H
     exact At.ret env.ty rfl rfl (fun q hq => by cases hq) (.refl _) hval
theorem c_fog_isMinute (p0 : Int) : Ctr Try.prog 56 [.int .i64 (p0)] (.bool ((fog_isMinute p0))) := by
 obtain ⟨r, H⟩ : ∃ r, fog_isMinute p0 = r := ⟨_, rfl⟩
 rw [H]
 unfold fog_isMinute at H
 refine Ctr.of_body (N := 5) Try.func56 (by kernel_rfl) (c := _) rfl Try.ntmps56 rfl (fun w0 h0 hval => ?_)
 refine W.rg env [0] [] ?_
 refine W.sr env [] [⟨.bool ((fog_within p0 0 1439)), [], 0, []⟩] [2] [] rfl rfl rfl .nil (.free (c_fog_within p0 0 1439) .nil) ?_
 refine W.ret ?_
 cases H
 exact At.ret env.ty rfl rfl (fun q hq => by cases hq) (.refl _) hval
theorem c_slices_Clone_Report (p0 : (List Report)) {r : (List Report)} (H : slices_Clone_Report p0 = some r) : Ctr Try.prog 65 [roL 9 enc_Report p0] (roL 9 enc_Report r) := by
 unfold slices_Clone_Report at H
 refine Ctr.of_body (N := 8) Try.func65 (by kernel_rfl) (c := _) rfl Try.ntmps65 rfl (fun w0 h0 hval => ?_)
 refine W.rg env [0] [] ?_
 refine W.seq ?_
 refine W.rg env [0, 4] [] ?_
 refine W.condNz rfl (fun hz => ?_) ?_
 · obtain rfl : p0 = [] := List.length_eq_zero_iff.1 hz
   obtain ⟨hc1, H⟩ := of_must H
   refine W.rg env [2] [] ?_
   refine W.ret ?_
   refine At.rthen ?_
   cases H
   exact At.ret env.ty rfl rfl (fun q hq => by cases hq) (Sim.nil _ _) hval
 · refine W.skip ?_
   refine At.thenC ?_
   refine W.seq ?_
   obtain ⟨hc1, H⟩ := of_must H
   refine W.region env [5] [] rfl rfl rfl (.cons (⟨by first | rfl | (simp; done) | omega | (simp; omega), by have := hc1; first | simpa using this | (unfold room at this ⊢; simp at this ⊢; omega)⟩) .nil) .nil (At.keep (ts := [2]) (ids := [5]) rfl rfl ?_)
   refine At.convM (.cons (y := bufL 65 9 enc_Report (([] : List Report) ++ p0)) (BSim.seg (Seg.push (Seg.lit (f := enc_Report) (sz := 9) ([] : List Report) rfl rfl (fun _ => rfl)) (Seg.refl enc_Report p0))) .nil) ?_
   refine At.thenC ?_
   refine W.ret ?_
   cases H
   exact At.ret env.ty rfl rfl (fun q hq => by cases hq; exact (by first | rfl | (simp; done) | omega | (simp; omega))) (.refl _) hval
theorem c_slices_IndexFunc_Report (p0 : (List Report)) (p1 : Report → Option Bool) (p1_g : Nat) (p1_a p1_b : List AV) (p1_h : ∀ x0 r, p1 x0 = some r → Ctr Try.prog p1_g (p1_a ++ ([.agg [.int .i64 (x0.Source), .int .i64 (x0.District), .int .i64 (x0.Night), .int .i64 (x0.From), .int .i64 (x0.To), .int .i64 (x0.Sight.Lo), .int .i64 (x0.Sight.Hi), .int .i64 (x0.Known), .int .i64 (x0.Until)]] ++ p1_b)) (.bool (r))) {r : Int} (H : slices_IndexFunc_Report p0 p1 = some r) : Ctr Try.prog 68 [roL 9 enc_Report p0, .clo (.func p1_g) p1_a p1_b] (.int .i64 (r)) := by
 unfold slices_IndexFunc_Report at H
 refine Ctr.of_body (N := 19) Try.func68 (by kernel_rfl) (c := _) rfl Try.ntmps68 rfl (fun w0 h0 hval => ?_)
 refine W.rg env [0, 1] [] ?_
 refine W.seq ?_
 refine W.rg env [0, 1, 7, 8] [] ?_
 refine W.block ?_
 refine At.keep (ts := [0, 1, 7, 8]) (ids := []) rfl rfl ?_
 refine W.len (t := 0) rfl (fun (hn1 : p0.length ≤ maxLen) => ?_)
 refine W.rangeGo H (fun i1 (s1 : Unit) => [(0, roL 9 enc_Report p0), (1, .clo (.func p1_g) p1_a p1_b), (7, .int .i64 (((p0.length : Nat) : Int))), (8, .int .i64 ((i1 : Int)))]) (fun i1 (s1 : Unit) => []) (.cons .q (.cons .q (.cons .qi (.cons .qi .nil)))) .nil (fun k1 i1 s1 hle1 H1 H2 K0 hK1 => ?_)
 refine W.rg env [0, 1, 7, 8, 9] [] ?_
 refine W.seq ?_
 refine W.cond rfl (fun hb2 => ?_) (fun hb2 => ?_)
 · have hi1 : i1 < p0.length := by have := of_decide_eq_true hb2; omega
   have H := H1 hi1
   refine W.skip ?_
   refine At.thenC ?_
   refine W.seq ?_
   refine W.block ?_
   refine W.rg env [0, 1, 5, 7, 8] [] ?_
   refine W.seq ?_
   obtain ⟨y3, hy4, H⟩ := of_bindO H
   refine W.region env [] [⟨.bool (y3), [], 0, []⟩] rfl rfl rfl (.cons (⟨by omega, by omega⟩ : 0 ≤ (i1 : Int) ∧ (i1 : Int) < ((p0.length : Nat) : Int)) .nil) (.free (p1_h (p0.getD i1 default) _ hy4) .nil) (At.keep (ts := [0, 1, 5, 7, 8, 16]) (ids := []) rfl rfl ?_)
   refine At.thenC ?_
   refine W.cond rfl (fun hb5 => ?_) (fun hb5 => ?_)
   · have H := of_true H hb5
     refine W.rg env [4] [] ?_
     refine W.ret ?_
     refine At.rinb ?_
     refine At.rthen ?_
     refine At.rthen ?_
     refine At.rinb ?_
     refine At.rthen ?_
     cases H
     exact At.ret env.ty rfl rfl (fun q hq => by cases hq) (.refl _) hval
   · have H := of_false H hb5
     refine W.skip ?_
     refine At.inb ?_
     refine At.thenC ?_
     refine W.region env [] [] rfl rfl rfl (.cons (by unfold inI; have := hn1; (try unfold maxLen at this); omega) .nil) .nil (At.keep (ts := [0, 1, 7, 8]) (ids := []) rfl rfl ?_)
     refine At.thenK (At.keep (ts := [0, 1, 7, 8]) (ids := []) rfl rfl ?_)
     exact At.conv (.cons .q (.cons .q (.cons .qi (.cons .qi .nil)))) .nil (hK1 hi1 () H)
 · have H := H2 (by have := of_decide_eq_false hb2; omega)
   refine W.exit ?_
   refine At.xthen ?_
   refine At.xthen ?_
   refine At.xhere ?_
   refine At.thenC ?_
   refine W.rg env [4] [] ?_
   refine W.ret ?_
   cases H
   exact At.ret env.ty rfl rfl (fun q hq => by cases hq) (.refl _) hval
theorem co_slices_DeleteFunc_Report (fuel : Nat) (p0 : (List Report)) (p1 : Report → Option Bool) (p1_g : Nat) (p1_a p1_b : List AV) (p1_h : ∀ x0 r, p1 x0 = some r → Ctr Try.prog p1_g (p1_a ++ ([.agg [.int .i64 (x0.Source), .int .i64 (x0.District), .int .i64 (x0.Night), .int .i64 (x0.From), .int .i64 (x0.To), .int .i64 (x0.Sight.Lo), .int .i64 (x0.Sight.Hi), .int .i64 (x0.Known), .int .i64 (x0.Until)]] ++ p1_b)) (.bool (r))) {r : (List Report)} (H : slices_DeleteFunc_Report fuel p0 p1 = some r) : CtrO Try.prog 64 [.buf 700 (p0).length, .clo (.func p1_g) p1_a p1_b] [(700, bufL 65 9 enc_Report p0)] (.buf 900 r.length) [(900, bufL 65 9 enc_Report r)] := by
 unfold slices_DeleteFunc_Report at H
 refine CtrO.of_body (N := 42) Try.func64 (by kernel_rfl) (c := _) rfl Try.ntmps64 rfl (fun w0 h0 ρb hval hdom => ?_)
 refine W.rg env [0, 1] [700] ?_
 refine W.seq ?_
 obtain ⟨y1, hy2, H⟩ := of_bindO H
 refine W.region env [] [⟨.int .i64 (y1), [], 0, []⟩] rfl rfl rfl (.cons (by first | rfl | (simp; done) | omega | (simp; omega)) .nil) (.free (c_slices_IndexFunc_Report p0 p1 p1_g p1_a p1_b p1_h hy2) .nil) (At.keep (ts := [0, 1, 5]) (ids := [700]) rfl rfl ?_)
 refine At.thenC ?_
 refine W.seq ?_
 refine W.rg env [0, 1, 5, 12] [700] ?_
 refine W.cond rfl (fun hb3 => ?_) (fun hb3 => ?_)
 · have H := of_true H hb3
   refine W.rg env [4] [700] ?_
   refine W.ret ?_
   refine At.rthen ?_
   cases H
   exact At.retK env.ty [700] 200 rfl rfl rfl rfl (.cons (.refl _) .nil) (.of_eq (by refine bufEq ?_; first | (simp [copyAt]; done) | omega | (simp [copyAt]; omega) | rfl)) hval hdom rfl
 · have H := of_false H hb3
   refine W.skip ?_
   refine At.thenC ?_
   refine W.seq ?_
   obtain ⟨hc4, H⟩ := of_must H
   refine W.sr env [] [] [0, 1, 5, 6] [700] rfl rfl rfl (.cons hc4 .nil) .nil ?_
   refine W.block ?_
   refine At.keep (ts := [0, 1, 5, 6]) (ids := [700]) rfl rfl ?_
   refine W.loopGo H (fun (s5 : Int × Int × (List Report)) => [(0, .buf 700 (s5.2.2).length), (1, .clo (.func p1_g) p1_a p1_b), (5, .int .i64 (s5.1)), (6, .int .i64 (s5.2.1))]) (fun (s5 : Int × Int × (List Report)) => [(700, bufL 65 9 enc_Report s5.2.2)]) (.cons .qb (.cons .q (.cons .qi (.cons .qi .nil)))) (.cons .q .nil) (fun k5 s5 H K0 hK5 => ?_)
   refine W.seq ?_
   refine W.sr env [] [] [0, 1, 5, 6, 19] [700] rfl rfl rfl (.cons (by first | rfl | (simp; done) | omega | (simp; omega)) .nil) .nil ?_
   refine W.cond rfl (fun hb6 => ?_) (fun hb6 => ?_)
   · have H := of_true H hb6
     refine W.skip ?_
     refine At.thenC ?_
     refine W.seq ?_
     refine W.block ?_
     obtain ⟨hc7, H⟩ := of_must H
     refine W.sr env [] [] [0, 1, 5, 6, 7] [7, 700] rfl rfl rfl (.cons (⟨by first | rfl | (simp; done) | omega | (simp; omega), hc7⟩) (.cons (⟨by first | rfl | (simp; done) | omega | (simp; omega), (by have := hc7; first | omega | (simp only [List.length_set]; omega) | (simp only [Int.toNat_natCast] at *; omega) | (simp at this ⊢; omega))⟩) .nil)) .nil ?_
     refine W.seq ?_
     obtain ⟨y8, hy9, H⟩ := of_bindO H
     refine W.region env [] [⟨.bool (y8), [], 0, []⟩] rfl rfl rfl .nil (.free (p1_h (s5.2.2.getD (s5.2.1).toNat default) _ hy9) .nil) (At.keep (ts := [0, 1, 5, 6, 7, 29]) (ids := [7, 700]) rfl rfl ?_)
     refine At.thenC ?_
     refine W.cond rfl (fun hb10 => ?_) (fun hb10 => ?_)
     · have H := of_true H hb10
       refine W.seq ?_
       obtain ⟨hc11, H⟩ := of_must H
       refine W.region env [] [] rfl rfl rfl (.cons (⟨by first | rfl | (simp; done) | omega | (simp; omega), hc11⟩) (.cons (⟨by first | rfl | (simp; done) | omega | (simp; omega), (by have := hc11; first | omega | (simp only [List.length_set]; omega) | (simp only [Int.toNat_natCast] at *; omega) | (simp at this ⊢; omega))⟩) .nil)) .nil (At.keep (ts := [0, 1, 5, 6]) (ids := [700]) rfl rfl ?_)
       refine At.convM (.cons (y := bufL 65 9 enc_Report (s5.2.2.set (s5.1).toNat (s5.2.2.getD (s5.2.1).toNat default))) (BSim.seg (Seg.set (Seg.refl enc_Report _) (s5.2.2.getD (s5.2.1).toNat default) rfl)) .nil) ?_
       refine At.thenC ?_
       obtain ⟨hc12, H⟩ := of_must H
       refine W.region env [] [] rfl rfl rfl (.cons hc12 .nil) .nil (At.keep (ts := [0, 1, 5, 6]) (ids := [700]) rfl rfl ?_)
       refine At.inb ?_
       refine At.thenC ?_
       obtain ⟨hc13, H⟩ := of_must H
       refine W.region env [] [] rfl rfl rfl (.cons hc13 .nil) .nil (At.keep (ts := [0, 1, 5, 6]) (ids := [700]) rfl rfl ?_)
       refine At.thenK (At.keep (ts := [0, 1, 5, 6]) (ids := [700]) rfl rfl ?_)
       exact At.conv (.cons .qb (.cons .q (.cons .qi (.cons .qi .nil)))) (.cons .q .nil) (hK5 ((s5.1 + 1), (s5.2.1 + 1), (s5.2.2.set (s5.1).toNat (s5.2.2.getD (s5.2.1).toNat default))) H)
     · have H := of_false H hb10
       refine W.skip ?_
       refine At.inb ?_
       refine At.thenC ?_
       obtain ⟨hc14, H⟩ := of_must H
       refine W.region env [] [] rfl rfl rfl (.cons hc14 .nil) .nil (At.keep (ts := [0, 1, 5, 6]) (ids := [700]) rfl rfl ?_)
       refine At.thenK (At.keep (ts := [0, 1, 5, 6]) (ids := [700]) rfl rfl ?_)
       exact At.conv (.cons .qb (.cons .q (.cons .qi (.cons .qi .nil)))) (.cons .q .nil) (hK5 (s5.1, (s5.2.1 + 1), s5.2.2) H)
   · have H := of_false H hb6
     refine W.exit ?_
     refine At.xthen ?_
     refine At.xthen ?_
     refine At.xhere ?_
     refine At.thenC ?_
     refine W.seq ?_
     obtain ⟨hc15, H⟩ := of_must H
     refine W.region env [] [] rfl rfl rfl (.cons (⟨by first | rfl | (simp; done) | omega | (simp; omega), hc15⟩) (.cons (⟨by first | rfl | (simp; done) | omega | (simp; omega), (by have := hc15; omega), (by have := hc15; omega)⟩) .nil)) .nil (At.keep (ts := [0, 5]) (ids := [700]) rfl rfl ?_)
     refine At.convM (.cons (y := bufL 65 9 enc_Report (copyAt s5.2.2 ((s5.1).toNat) (s5.2.2.length - (s5.1).toNat) (fun _ => (⟨0, 0, 0, 0, 0, (⟨0, 0⟩ : Range), 0, 0⟩ : Report)))) (BSim.seg (Seg.cleared (a := (s5.1).toNat) (b := s5.2.2.length) (Seg.refl enc_Report _) (⟨0, 0, 0, 0, 0, (⟨0, 0⟩ : Range), 0, 0⟩ : Report) rfl (by have := hc15; omega))) .nil) ?_
     refine At.thenC ?_
     obtain ⟨hc16, H⟩ := of_must H
     refine W.sr env [] [] [4] [700] rfl rfl rfl (.cons (⟨by first | rfl | (simp [length_copyAt]; done) | (simp [length_copyAt]; omega), hc16⟩) .nil) .nil ?_
     refine W.ret ?_
     cases H
     refine At.shrink 4 700 850 (K := []) (ts := []) rfl rfl (by first | rfl | (simp; done) | omega | (simp; omega)) (by have := hc16; omega) rfl rfl rfl rfl ?_
     refine At.convM (.cons (y := bufL 65 9 enc_Report ((copyAt s5.2.2 ((s5.1).toNat) (s5.2.2.length - (s5.1).toNat) (fun _ => (⟨0, 0, 0, 0, 0, (⟨0, 0⟩ : Range), 0, 0⟩ : Report))).take ((s5.1).toNat))) (BSim.seg (Seg.first (Seg.refl enc_Report _) (by have := hc16; omega))) .nil) ?_
     exact At.retK env.ty [850] 50 rfl rfl rfl rfl (.cons (.refl _) .nil) (.of_eq (by refine bufEq ?_; first | (simp [copyAt]; done) | omega | (simp [copyAt]; omega) | rfl)) hval hdom rfl
theorem co_slices_Clone_Report (p0 : (List Report)) {r : (List Report)} (H : slices_Clone_Report p0 = some r) : CtrO Try.prog 65 [roL 9 enc_Report p0] [] (.buf 900 r.length) [(900, bufL 65 9 enc_Report r)] := by
 unfold slices_Clone_Report at H
 refine CtrO.of_body (N := 8) Try.func65 (by kernel_rfl) (c := _) rfl Try.ntmps65 rfl (fun w0 h0 ρb hval hdom => ?_)
 refine W.rg env [0] [] ?_
 refine W.seq ?_
 refine W.rg env [0, 4] [] ?_
 refine W.condNz rfl (fun hz => ?_) ?_
 · obtain rfl : p0 = [] := List.length_eq_zero_iff.1 hz
   obtain ⟨hc1, H⟩ := of_must H
   refine W.rg env [2] [] ?_
   refine W.ret ?_
   refine At.rthen ?_
   cases H
   refine At.nilOwn 2 800 65 9 (e := fun i => enc_Report (([] : List Report).getD i default)) rfl rfl ?_
   exact At.retK env.ty [800] 100 rfl rfl rfl rfl (.cons (.refl _) .nil) (.of_eq (by refine bufEq ?_; first | (simp [copyAt]; done) | omega | (simp [copyAt]; omega) | rfl)) hval hdom rfl
 · refine W.skip ?_
   refine At.thenC ?_
   refine W.seq ?_
   obtain ⟨hc1, H⟩ := of_must H
   refine W.region env [5] [] rfl rfl rfl (.cons (⟨by first | rfl | (simp; done) | omega | (simp; omega), by have := hc1; first | simpa using this | (unfold room at this ⊢; simp at this ⊢; omega)⟩) .nil) .nil (At.keep (ts := [2]) (ids := [5]) rfl rfl ?_)
   refine At.convM (.cons (y := bufL 65 9 enc_Report (([] : List Report) ++ p0)) (BSim.seg (Seg.push (Seg.lit (f := enc_Report) (sz := 9) ([] : List Report) rfl rfl (fun _ => rfl)) (Seg.refl enc_Report p0))) .nil) ?_
   refine At.thenC ?_
   refine W.ret ?_
   cases H
   exact At.retK env.ty [5] 895 rfl rfl rfl rfl (.cons (.refl _) .nil) (.of_eq (by refine bufEq ?_; first | (simp [copyAt]; done) | omega | (simp [copyAt]; omega) | rfl)) hval hdom rfl
theorem c_fog_counts (p0 : Report) (p1 : Int) : Ctr Try.prog 67 [.agg [.int .i64 (p0.Source), .int .i64 (p0.District), .int .i64 (p0.Night), .int .i64 (p0.From), .int .i64 (p0.To), .int .i64 (p0.Sight.Lo), .int .i64 (p0.Sight.Hi), .int .i64 (p0.Known), .int .i64 (p0.Until)], .int .i64 (p1)] (.bool ((fog_counts p0 p1))) := by
 obtain ⟨r, H⟩ : ∃ r, fog_counts p0 p1 = r := ⟨_, rfl⟩
 rw [H]
 unfold fog_counts at H
 refine Ctr.of_body (N := 20) Try.func67 (by kernel_rfl) (c := _) rfl Try.ntmps67 rfl (fun w0 h0 hval => ?_)
 refine W.rg env [1, 2] [2] ?_
 refine W.sr env [] [] [4] [] rfl rfl rfl (.cons (fun h => h) (.cons (fun h => h) (.cons (fun h => h) (.cons (fun h => h) (.cons (fun h => h) (.cons (fun h => h) (.cons (fun h => h) (.cons (fun hW h => by revert hW h; first | (simp +contextual; done) | grind) (.cons (fun h => h) .nil))))))))) .nil ?_
 refine W.ret ?_
 cases H
 exact At.ret env.ty rfl rfl (fun q hq => by cases hq) (.refl _) hval
theorem c_fog_see_1 (p0 : Report) (c0 : Int) (c1 : Int) (c2 : Int) : Ctr Try.prog 66 [.agg [.int .i64 (p0.Source), .int .i64 (p0.District), .int .i64 (p0.Night), .int .i64 (p0.From), .int .i64 (p0.To), .int .i64 (p0.Sight.Lo), .int .i64 (p0.Sight.Hi), .int .i64 (p0.Known), .int .i64 (p0.Until)], .rp [.int .i64 (c0)], .rp [.int .i64 (c1)], .rp [.int .i64 (c2)]] (.bool ((fog_see_1 p0 c0 c1 c2))) := by
 obtain ⟨r, H⟩ : ∃ r, fog_see_1 p0 c0 c1 c2 = r := ⟨_, rfl⟩
 rw [H]
 unfold fog_see_1 at H
 refine Ctr.of_body (N := 22) Try.func66 (by kernel_rfl) (c := _) rfl Try.ntmps66 rfl (fun w0 h0 hval => ?_)
 refine W.rg env [1, 2, 3, 4] [4] ?_
 refine W.sr env [] [⟨.bool ((fog_counts p0 c2)), [], 0, []⟩] [5] [] rfl rfl rfl (.cons (fun h => h) (.cons (fun h => h) (.cons (fun h => h) (.cons (fun h => by rw [h]; rfl) (.cons (fun h => h) (.cons (fun h => h) (.cons (fun h => h) (.cons (fun h => by rw [h]; rfl) .nil)))))))) (.on (fun hW => c_fog_counts p0 c2) .nil) ?_
 refine W.ret ?_
 cases H
 exact At.ret env.ty rfl rfl (fun q hq => by cases hq) (.refl _) hval
theorem c_fog_see (fuel : Nat) (p0 : (List Report)) (p1 : Int) (p2 : Int) (p3 : Int) {r : (List Report)} (H : fog_see fuel p0 p1 p2 p3 = some r) : Ctr Try.prog 57 [roL 9 enc_Report p0, .int .i64 (p1), .int .i64 (p2), .int .i64 (p3)] (roL 9 enc_Report r) := by
 unfold fog_see at H
 refine Ctr.of_body (N := 13) Try.func57 (by kernel_rfl) (c := _) rfl Try.ntmps57 rfl (fun w0 h0 hval => ?_)
 refine W.rg env [0, 5, 6, 7] [5, 6, 7] ?_
 refine W.seq ?_
 refine At.freezeC 5 (K := [6, 7]) (ts := [0, 5, 6, 7]) rfl rfl rfl rfl rfl (fun _ h => h) ?_
 refine At.freezeC 6 (K := [7]) (ts := [0, 5, 6, 7]) rfl rfl rfl rfl rfl (fun _ h => h) ?_
 refine At.freezeC 7 (K := []) (ts := [0, 5, 6, 7]) rfl rfl rfl rfl rfl (fun _ h => h) ?_
 obtain ⟨y1, hy2, H⟩ := of_bindO H
 obtain ⟨y3, hy4, H⟩ := of_bindO H
 refine W.region env [] [⟨.buf 900 y1.length, [(900, bufL 65 9 enc_Report y1)], 11000, []⟩, ⟨.buf 900 y3.length, [(11900, .dead), (900, bufL 65 9 enc_Report y3)], 13000, []⟩] rfl rfl (by kernel_rfl) .nil (.free ((Ctr.ofO (co_slices_Clone_Report p0 hy2))) (.free (CtrO.sim (CtrO.at (co_slices_DeleteFunc_Report fuel y1 (fun x0 => some (fog_see_1 x0 p1 p2 p3)) 66 [] ([.rp [.int .i64 (p1)], .rp [.int .i64 (p2)], .rp [.int .i64 (p3)]]) (fun x0 r h => by cases h; exact c_fog_see_1 x0 p1 p2 p3) hy4) rfl 11900) (.cons .qc (.cons (Sim.fnClo rfl) .nil)) (.cons (.refl _) .nil)) .nil)) (At.keep (ts := [8]) (ids := [13900]) rfl rfl ?_)
 refine At.thenC ?_
 refine W.ret ?_
 cases H
 exact At.ret env.ty rfl rfl (fun q hq => by cases hq; exact (by first | rfl | (simp; done) | omega | (simp; omega))) (.refl _) hval
theorem c_fog_query__view (fuel : Nat) (p0 : fog_query) (p1 : (List Report)) {r : ((List Report) × Int)} (H : fog_query__view fuel p0 p1 = some r) : Ctr Try.prog 33 [.agg [.int .i64 (p0.district), .int .i64 (p0.night), .int .i64 (p0.moment), .int .i64 (p0.minute), .int .i64 (p0.time.Lo), .int .i64 (p0.time.Hi), .int .i64 (p0.limit)], roL 9 enc_Report p1] (.tup [roL 9 enc_Report r.1, .int .i64 (r.2)]) := by
 unfold fog_query__view at H
 refine Ctr.of_body (N := 52) Try.func33 (by kernel_rfl) (c := _) rfl Try.ntmps33 rfl (fun w0 h0 hval => ?_)
 refine W.rg env [1, 2] [2] ?_
 refine W.seq ?_
 refine W.block ?_
 refine W.seq ?_
 obtain ⟨y1, hy2, H⟩ := of_bindO H
 refine W.region env [] [⟨.int .i64 (y1), [], 0, []⟩] rfl rfl rfl .nil (.free (c_fog_Check p1 hy2) .nil) (At.keep (ts := [1, 2, 6]) (ids := [2]) rfl rfl ?_)
 refine At.thenC ?_
 refine W.cond rfl (fun hb3 => ?_) (fun hb3 => ?_)
 · have H := of_true H hb3
   refine W.rg env [4, 5] [] ?_
   refine W.ret ?_
   refine At.rinb ?_
   refine At.rthen ?_
   cases H
   exact At.ret env.ty rfl rfl (fun q hq => by cases hq) (Sim.tupL (.cons (Sim.nil _ _) (.cons (.refl _) .nil))) hval
 · have H := of_false H hb3
   refine W.sr env [] [⟨.bool ((fog_isDistrict p0.district)), [], 0, []⟩, ⟨.bool ((fog_isMinute p0.minute)), [], 0, []⟩, ⟨.bool ((fog_isRange p0.time 1439)), [], 0, []⟩, ⟨.bool ((fog_within p0.limit 1 5000)), [], 0, []⟩] [1, 2, 10] [2] rfl rfl rfl (.cons (fun h => h) (.cons (fun h => h) (.cons (fun h => h) (.cons (fun h => by rw [h]; rfl) (.cons (fun h => h) (.cons (fun h => h) (.cons (fun h => h) (.cons (fun h => by rw [h]; rfl) (.cons (fun h => h) (.cons (fun h => h) (.cons (fun h => h) (.cons (fun h => by rw [h]; rfl) .nil)))))))))))) (.free (c_fog_isDistrict p0.district) (.on (fun hW => c_fog_isMinute p0.minute) (.on (fun hW => c_fog_isRange p0.time 1439) (.on (fun hW => c_fog_within p0.limit 1 5000) .nil)))) ?_
   refine W.cond rfl (fun hb4 => ?_) (fun hb4 => ?_)
   · have H := of_true H hb4
     refine W.rg env [4, 5] [] ?_
     refine W.ret ?_
     refine At.rinb ?_
     refine At.rthen ?_
     cases H
     exact At.ret env.ty rfl rfl (fun q hq => by cases hq) (Sim.tupL (.cons (Sim.nil _ _) (.cons (.refl _) .nil))) hval
   · have H := of_false H hb4
     refine W.sr env [] [⟨.bool ((fog_isNight p0.night)), [], 0, []⟩, ⟨.bool ((fog_isMoment p0.moment)), [], 0, []⟩] [1, 2, 33] [2] rfl rfl rfl (.cons (fun h => h) (.cons (fun h => h) (.cons (fun h => h) (.cons (fun h => by rw [h]; rfl) .nil)))) (.free (c_fog_isNight p0.night) (.on (fun hW => c_fog_isMoment p0.moment) .nil)) ?_
     refine W.cond rfl (fun hb5 => ?_) (fun hb5 => ?_)
     · have H := of_true H hb5
       refine W.rg env [4, 5] [] ?_
       refine W.ret ?_
       refine At.rinb ?_
       refine At.rthen ?_
       cases H
       exact At.ret env.ty rfl rfl (fun q hq => by cases hq) (Sim.tupL (.cons (Sim.nil _ _) (.cons (.refl _) .nil))) hval
     · have H := of_false H hb5
       refine W.skip ?_
       refine At.inb ?_
       refine At.thenC ?_
       refine W.seq ?_
       obtain ⟨y6, hy7, H⟩ := of_bindO H
       refine W.region env [] [⟨roL 9 enc_Report y6, [], 0, []⟩] rfl rfl rfl .nil (.free (c_fog_see fuel p1 p0.district p0.night p0.moment hy7) .nil) (At.keep (ts := [4, 5]) (ids := []) rfl rfl ?_)
       refine At.thenC ?_
       refine W.ret ?_
       cases H
       exact At.ret env.ty rfl rfl (fun q hq => by cases hq) (.refl _) hval
theorem c_fog_clash (p0 : Report) (p1 : Report) : Ctr Try.prog 58 [.agg [.int .i64 (p0.Source), .int .i64 (p0.District), .int .i64 (p0.Night), .int .i64 (p0.From), .int .i64 (p0.To), .int .i64 (p0.Sight.Lo), .int .i64 (p0.Sight.Hi), .int .i64 (p0.Known), .int .i64 (p0.Until)], .agg [.int .i64 (p1.Source), .int .i64 (p1.District), .int .i64 (p1.Night), .int .i64 (p1.From), .int .i64 (p1.To), .int .i64 (p1.Sight.Lo), .int .i64 (p1.Sight.Hi), .int .i64 (p1.Known), .int .i64 (p1.Until)]] (.bool ((fog_clash p0 p1))) := by
 obtain ⟨r, H⟩ : ∃ r, fog_clash p0 p1 = r := ⟨_, rfl⟩
 rw [H]
 unfold fog_clash at H
 refine Ctr.of_body (N := 37) Try.func58 (by kernel_rfl) (c := _) rfl Try.ntmps58 rfl (fun w0 h0 hval => ?_)
 refine W.rg env [2, 3] [2, 3] ?_
 refine W.sr env [] [] [2, 3, 5] [2, 3] rfl rfl rfl (.cons (fun h => h) (.cons (fun h => h) (.cons (fun h => h) (.cons (fun h => h) (.cons (fun h => h) .nil))))) .nil ?_
 refine W.sr env [] [] [4] [] rfl rfl rfl (.cons (fun h => h) (.cons (fun h => h) (.cons (fun h => h) (.cons (fun h => h) (.cons (fun h => h) (.cons (fun h => h) (.cons (fun h => h) (.cons (fun h => h) (.cons (fun h => h) (.cons (fun h => h) (.cons (fun h => h) (.cons (fun h => h) (.cons (fun h => h) (.cons (fun h => h) (.cons (fun hW h => by revert hW h; first | (simp +contextual; done) | grind) (.cons (fun h => h) .nil)))))))))))))))) .nil ?_
 refine W.ret ?_
 cases H
 exact At.ret env.ty rfl rfl (fun q hq => by cases hq) (.refl _) hval
theorem c_fog_view__pair (p0 : (List Report)) {r : ((List Int) × Bool)} (H : fog_view__pair p0 = some r) : Ctr Try.prog 34 [roL 9 enc_Report p0] (.tup [roL 1 enc_Int r.1, .bool (r.2)]) := by
 unfold fog_view__pair at H
 refine Ctr.of_body (N := 34) Try.func34 (by kernel_rfl) (c := _) rfl Try.ntmps34 rfl (fun w0 h0 hval => ?_)
 refine W.rg env [0] [] ?_
 refine W.seq ?_
 refine W.rg env [0, 8, 9, 10] [] ?_
 refine W.block ?_
 refine At.keep (ts := [0, 8, 9, 10]) (ids := []) rfl rfl ?_
 refine W.len (t := 8) rfl (fun (hn1 : p0.length ≤ maxLen) => ?_)
 refine W.rangeGo H (fun i1 (s1 : Unit) => [(0, roL 9 enc_Report p0), (8, roL 9 enc_Report p0), (9, .int .i64 (((p0.length : Nat) : Int))), (10, .int .i64 ((i1 : Int)))]) (fun i1 (s1 : Unit) => []) (.cons .q (.cons .q (.cons .qi (.cons .qi .nil)))) .nil (fun k1 i1 s1 hle1 H1 H2 K0 hK1 => ?_)
 refine W.rg env [0, 8, 9, 10, 11] [] ?_
 refine W.seq ?_
 refine W.cond rfl (fun hb2 => ?_) (fun hb2 => ?_)
 · have hi1 : i1 < p0.length := by have := of_decide_eq_true hb2; omega
   have H := H1 hi1
   refine W.skip ?_
   refine At.thenC ?_
   refine W.seq ?_
   refine W.block ?_
   refine W.sr env [] [] [0, 4, 5, 8, 9, 10] [5] rfl rfl rfl (.cons (⟨by omega, by omega⟩ : 0 ≤ (i1 : Int) ∧ (i1 : Int) < ((p0.length : Nat) : Int)) .nil) .nil ?_
   refine W.seq ?_
   obtain ⟨hc3, H⟩ := of_must H
   refine W.region env [] [] rfl rfl rfl (.cons (by unfold inI; have := hn1; (try unfold maxLen at this); omega) (.cons hc3 .nil)) .nil (At.keep (ts := [0, 5, 8, 9, 10, 18, 19, 20]) (ids := [5]) rfl rfl ?_)
   refine At.slot (t := 18) (v := roL 9 enc_Report (p0.drop (((i1 : Int) + 1)).toNat)) (Sim.seg (Seg.drop enc_Report p0 ((((i1 : Int) + 1)).toNat))) ?_
   refine At.thenC ?_
   refine W.block ?_
   refine At.keep (ts := [0, 5, 8, 9, 10, 18, 19, 20]) (ids := [5]) rfl rfl ?_
   refine W.len (t := 18) rfl (fun (hn4 : (p0.drop (((i1 : Int) + 1)).toNat).length ≤ maxLen) => ?_)
   refine W.rangeGo H (fun i4 (s4 : Unit) => [(0, roL 9 enc_Report p0), (5, .lp 5 0), (8, roL 9 enc_Report p0), (9, .int .i64 (((p0.length : Nat) : Int))), (10, .int .i64 ((i1 : Int))), (18, roL 9 enc_Report (p0.drop (((i1 : Int) + 1)).toNat)), (19, .int .i64 ((((p0.drop (((i1 : Int) + 1)).toNat).length : Nat) : Int))), (20, .int .i64 ((i4 : Int)))]) (fun i4 (s4 : Unit) => [(5, .cells [.int .i64 ((p0.getD i1 default).Source), .int .i64 ((p0.getD i1 default).District), .int .i64 ((p0.getD i1 default).Night), .int .i64 ((p0.getD i1 default).From), .int .i64 ((p0.getD i1 default).To), .int .i64 ((p0.getD i1 default).Sight.Lo), .int .i64 ((p0.getD i1 default).Sight.Hi), .int .i64 ((p0.getD i1 default).Known), .int .i64 ((p0.getD i1 default).Until)])]) (.cons .q (.cons .q (.cons .q (.cons .qi (.cons .qi (.cons .q (.cons .qi (.cons .qi .nil)))))))) (.cons .q .nil) (fun k4 i4 s4 hle4 H1 H2 K0 hK4 => ?_)
   refine W.rg env [0, 5, 8, 9, 10, 18, 19, 20, 21] [5] ?_
   refine W.seq ?_
   refine W.cond rfl (fun hb5 => ?_) (fun hb5 => ?_)
   · have hi4 : i4 < (p0.drop (((i1 : Int) + 1)).toNat).length := by have := of_decide_eq_true hb5; omega
     have H := H1 hi4
     refine W.skip ?_
     refine At.thenC ?_
     refine W.seq ?_
     refine W.block ?_
     refine W.sr env [] [] [0, 5, 7, 8, 9, 10, 18, 19, 20] [5, 7] rfl rfl rfl (.cons (⟨by omega, by omega⟩ : 0 ≤ (i4 : Int) ∧ (i4 : Int) < (((p0.drop (((i1 : Int) + 1)).toNat).length : Nat) : Int)) .nil) .nil ?_
     refine W.sr env [] [⟨.bool ((fog_clash (p0.getD i1 default) ((p0.drop (((i1 : Int) + 1)).toNat).getD i4 default))), [], 0, []⟩] [0, 5, 7, 8, 9, 10, 18, 19, 20, 26] [5, 7] rfl rfl rfl .nil (.free (c_fog_clash (p0.getD i1 default) ((p0.drop (((i1 : Int) + 1)).toNat).getD i4 default)) .nil) ?_
     refine W.cond rfl (fun hb6 => ?_) (fun hb6 => ?_)
     · have H := of_true H hb6
       refine W.seq ?_
       refine W.region env [] [] rfl rfl rfl .nil .nil (At.keep (ts := [2, 3]) (ids := []) rfl rfl ?_)
       refine At.slot (t := 2) (v := roL 1 enc_Int ([(p0.getD i1 default).Source, ((p0.drop (((i1 : Int) + 1)).toNat).getD i4 default).Source] : List Int)) (Sim.lit (f := enc_Int) ([(p0.getD i1 default).Source, ((p0.drop (((i1 : Int) + 1)).toNat).getD i4 default).Source] : List Int) rfl rfl (fun _ => rfl)) ?_
       refine At.thenC ?_
       refine W.ret ?_
       refine At.rinb ?_
       refine At.rthen ?_
       refine At.rthen ?_
       refine At.rinb ?_
       refine At.rinb ?_
       refine At.rthen ?_
       refine At.rthen ?_
       refine At.rinb ?_
       refine At.rthen ?_
       cases H
       exact At.ret env.ty rfl rfl (fun q hq => by cases hq) (.refl _) hval
     · have H := of_false H hb6
       refine W.skip ?_
       refine At.inb ?_
       refine At.thenC ?_
       refine W.region env [] [] rfl rfl rfl (.cons (by unfold inI; have := hn4; (try unfold maxLen at this); omega) .nil) .nil (At.keep (ts := [0, 5, 8, 9, 10, 18, 19, 20]) (ids := [5]) rfl rfl ?_)
       refine At.thenK (At.keep (ts := [0, 5, 8, 9, 10, 18, 19, 20]) (ids := [5]) rfl rfl ?_)
       exact At.conv (.cons .q (.cons .q (.cons .q (.cons .qi (.cons .qi (.cons .q (.cons .qi (.cons .qi .nil)))))))) (.cons .q .nil) (hK4 hi4 () H)
   · have H := H2 (by have := of_decide_eq_false hb5; omega)
     refine W.exit ?_
     refine At.xthen ?_
     refine At.xthen ?_
     refine At.xhere ?_
     refine At.inb ?_
     refine At.thenC ?_
     refine W.region env [] [] rfl rfl rfl (.cons (by unfold inI; have := hn1; (try unfold maxLen at this); omega) .nil) .nil (At.keep (ts := [0, 8, 9, 10]) (ids := []) rfl rfl ?_)
     refine At.thenK (At.keep (ts := [0, 8, 9, 10]) (ids := []) rfl rfl ?_)
     exact At.conv (.cons .q (.cons .q (.cons .qi (.cons .qi .nil)))) .nil (hK1 hi1 () H)
 · have H := H2 (by have := of_decide_eq_false hb2; omega)
   refine W.exit ?_
   refine At.xthen ?_
   refine At.xthen ?_
   refine At.xhere ?_
   refine At.thenC ?_
   refine W.rg env [2, 3] [] ?_
   refine W.ret ?_
   cases H
   exact At.ret env.ty rfl rfl (fun q hq => by cases hq) (Sim.tupL (.cons (Sim.nil _ _) (.cons (.refl _) .nil))) hval
theorem c_fog_query__clear (fuel : Nat) (p0 : fog_query) (p1 : (List Report)) {r : ((List Report) × Int)} (H : fog_query__clear fuel p0 p1 = some r) : Ctr Try.prog 16 [.agg [.int .i64 (p0.district), .int .i64 (p0.night), .int .i64 (p0.moment), .int .i64 (p0.minute), .int .i64 (p0.time.Lo), .int .i64 (p0.time.Hi), .int .i64 (p0.limit)], roL 9 enc_Report p1] (.tup [roL 9 enc_Report r.1, .int .i64 (r.2)]) := by
 unfold fog_query__clear at H
 refine Ctr.of_body (N := 26) Try.func16 (by kernel_rfl) (c := _) rfl Try.ntmps16 rfl (fun w0 h0 hval => ?_)
 refine W.rg env [1, 2] [2] ?_
 refine W.seq ?_
 obtain ⟨y1, hy2, H⟩ := of_bindO H
 refine W.region env [] [⟨.tup [roL 9 enc_Report y1.1, .int .i64 (y1.2)], [], 0, []⟩] rfl rfl rfl .nil (.free (c_fog_query__view fuel p0 p1 hy2) .nil) (At.keep (ts := [6, 7]) (ids := []) rfl rfl ?_)
 refine At.thenC ?_
 refine W.seq ?_
 refine W.rg env [6, 7, 17] [] ?_
 refine W.cond rfl (fun hb3 => ?_) (fun hb3 => ?_)
 · have H := of_true H hb3
   refine W.rg env [4, 5] [] ?_
   refine W.ret ?_
   refine At.rthen ?_
   cases H
   exact At.ret env.ty rfl rfl (fun q hq => by cases hq) (Sim.tupL (.cons (Sim.nil _ _) (.cons (.refl _) .nil))) hval
 · have H := of_false H hb3
   refine W.skip ?_
   refine At.thenC ?_
   refine W.seq ?_
   refine W.seq ?_
   obtain ⟨y4, hy5, H⟩ := of_bindO H
   refine W.region env [] [⟨.tup [roL 1 enc_Int y4.1, .bool (y4.2)], [], 0, []⟩] rfl rfl rfl .nil (.free (c_fog_view__pair y1.1 hy5) .nil) (At.keep (ts := [6, 9]) (ids := []) rfl rfl ?_)
   refine At.thenC ?_
   refine W.rg env [6, 24] [] ?_
   refine W.cond rfl (fun hb6 => ?_) (fun hb6 => ?_)
   · have H := of_true H hb6
     refine W.rg env [4, 5] [] ?_
     refine W.ret ?_
     refine At.rthen ?_
     cases H
     exact At.ret env.ty rfl rfl (fun q hq => by cases hq) (Sim.tupL (.cons (Sim.nil _ _) (.cons (.refl _) .nil))) hval
   · have H := of_false H hb6
     refine W.skip ?_
     refine At.thenC ?_
     refine W.rg env [4, 5] [] ?_
     refine W.ret ?_
     cases H
     exact At.ret env.ty rfl rfl (fun q hq => by cases hq) (.refl _) hval
theorem c_fog_view__of (p0 : (List Report)) (p1 : Int) : Ctr Try.prog 35 [roL 9 enc_Report p0, .int .i64 (p1)] (.clo (.func 59) [] [.rp [roL 9 enc_Report p0], .rp [.int .i64 (p1)]]) := by
 refine Ctr.of_body (N := 6) Try.func35 (by kernel_rfl) (c := _) rfl Try.ntmps35 rfl (fun w0 h0 hval => ?_)
 refine W.rg env [2, 3] [2, 3] ?_
 refine W.rg env [4] [2, 3] ?_
 refine W.ret ?_
 exact At.ret env.ty rfl rfl (fun q hq => by cases hq) (.refl _) hval
theorem c_fog_view__of_1 (c0 : (List Report)) (c1 : Int) {r : List (Report)} (H : fog_view__of_1 c0 c1 = some r) : Iter Try.prog 59 [.rp [roL 9 enc_Report c0], .rp [.int .i64 (c1)]] (r.map (fun (x : Report) => [.agg [.int .i64 (x.Source), .int .i64 (x.District), .int .i64 (x.Night), .int .i64 (x.From), .int .i64 (x.To), .int .i64 (x.Sight.Lo), .int .i64 (x.Sight.Hi), .int .i64 (x.Known), .int .i64 (x.Until)]])) := by
 unfold fog_view__of_1 at H
 have hYl := Yl.start r
 skip
 refine Iter.of_body (N := 25) Try.func59 (by kernel_rfl) (c := _) rfl Try.ntmps59 rfl (fun w0 h0 lp J hJ hval hY => ?_)
 refine W.rg env [0, 2, 6, 7, 8] [] ?_
 refine W.block ?_
 refine At.keep (ts := [0, 2, 6, 7, 8]) (ids := []) rfl rfl ?_
 refine W.len (t := 6) rfl (fun (hn1 : c0.length ≤ maxLen) => ?_)
 refine W.rangeGoI H hYl (fun i1 (s1 : Unit) => [(0, .fn (.yield lp) [] []), (2, .rp [.int .i64 (c1)]), (6, roL 9 enc_Report c0), (7, .int .i64 (((c0.length : Nat) : Int))), (8, .int .i64 ((i1 : Int)))]) (fun i1 (s1 : Unit) => []) (.cons .q (.cons .q (.cons .q (.cons .qi (.cons .qi .nil))))) .nil (fun k1 i1 s1 g r hle1 hYl H1 H2 K0 hK1 => ?_)
 refine W.rg env [0, 2, 6, 7, 8, 9] [] ?_
 refine W.seq ?_
 refine W.cond rfl (fun hb2 => ?_) (fun hb2 => ?_)
 · have hi1 : i1 < c0.length := by have := of_decide_eq_true hb2; omega
   have H := H1 hi1
   refine W.skip ?_
   refine At.thenC ?_
   refine W.seq ?_
   refine W.block ?_
   refine W.sr env [] [] [0, 2, 5, 6, 7, 8] [5] rfl rfl rfl (.cons (⟨by omega, by omega⟩ : 0 ≤ (i1 : Int) ∧ (i1 : Int) < ((c0.length : Nat) : Int)) .nil) .nil ?_
   refine W.seq ?_
   refine W.regionY env hY [] 9 [⟨.bool ((fog_within c1 ((c0.getD i1 default).From) ((c0.getD i1 default).To))), [], 0, []⟩] [] rfl rfl rfl rfl rfl rfl rfl rfl (fun b => rfl) rfl .nil (.free (c_fog_within c1 ((c0.getD i1 default).From) ((c0.getD i1 default).To)) .nil) (.cons (fun h => h) (.cons (fun h => h) .nil)) (fun b => (.cons (fun h => h) (.cons (fun h => h) .nil))) (fun b => .nil) (fun hW => Yl.item (fun (x : Report) => [.agg [.int .i64 (x.Source), .int .i64 (x.District), .int .i64 (x.Night), .int .i64 (x.From), .int .i64 (x.To), .int .i64 (x.Sight.Lo), .int .i64 (x.Sight.Hi), .int .i64 (x.Known), .int .i64 (x.Until)]]) H hYl hW) (fun b g1 hg1 hg2 => ?_)
   refine At.keep (ts := [0, 2, 6, 7, 8, 23]) (ids := []) rfl rfl ?_
   refine At.thenC ?_
   rcases Yl.split hg1 hg2 with ⟨hw1, hw2, rfl⟩ | ⟨hw1, hw2, hw3⟩
   · refine W.cond rfl (fun hb => ?_) (fun hb => ?_)
     · refine W.ret ?_
       refine At.rinb ?_
       refine At.rthen ?_
       refine At.rthen ?_
       refine At.rinb ?_
       exact At.iret rfl (.inl rfl) hval
     · exact absurd hb (by rw [hw1, hw2]; simp)
   · refine W.cond rfl (fun hb => ?_) (fun hb => ?_)
     · exact absurd hb (by intro hb; simp only [Bool.and_eq_true, Bool.not_eq_true'] at hb; have := hw1 (by first | exact hb.1 | (simp only [Bool.and_eq_true]; exact hb.1)); rw [this] at hb; simp at hb)
     · obtain ⟨r, H, hYl⟩ := Yl.next H hYl hw2 hw3
       refine W.skip ?_
       refine At.inb ?_
       refine At.thenC ?_
       refine W.region env [] [] rfl rfl rfl (.cons (by unfold inI; have := hn1; (try unfold maxLen at this); omega) .nil) .nil (At.keep (ts := [0, 2, 6, 7, 8]) (ids := []) rfl rfl ?_)
       refine At.thenK (At.keep (ts := [0, 2, 6, 7, 8]) (ids := []) rfl rfl ?_)
       exact At.conv (.cons .q (.cons .q (.cons .q (.cons .qi (.cons .qi .nil))))) .nil (hK1 hi1 () _ _ hYl H)
 · have H := H2 (by have := of_decide_eq_false hb2; omega)
   refine W.exit ?_
   refine At.xthen ?_
   refine At.xthen ?_
   refine At.xhere ?_
   refine At.iofNormal ?_
   exact At.iret rfl (.inr (Yl.fin (fun (x : Report) => [.agg [.int .i64 (x.Source), .int .i64 (x.District), .int .i64 (x.Night), .int .i64 (x.From), .int .i64 (x.To), .int .i64 (x.Sight.Lo), .int .i64 (x.Sight.Hi), .int .i64 (x.Known), .int .i64 (x.Until)]]) H hYl)) hval
theorem c_fog_view__sight (p0 : (List Report)) (p1 : Int) {r : Range} (H : fog_view__sight p0 p1 = some r) : Ctr Try.prog 18 [roL 9 enc_Report p0, .int .i64 (p1)] (.agg [.int .i64 (r.Lo), .int .i64 (r.Hi)]) := by
 unfold fog_view__sight at H
 refine Ctr.of_body (N := 26) Try.func18 (by kernel_rfl) (c := _) rfl Try.ntmps18 rfl (fun w0 h0 hval => ?_)
 refine W.rg env [0, 1, 4] [4] ?_
 refine W.rg env [0, 1, 4, 5] [4, 5] ?_
 refine W.seq ?_
 refine W.sr env [] [⟨.clo (.func 59) [] [.rp [roL 9 enc_Report p0], .rp [.int .i64 (p1)]], [], 0, []⟩] [4, 5, 10] [4, 5] rfl rfl rfl .nil (.free (c_fog_view__of p0 p1) .nil) ?_
 refine W.block ?_
 obtain ⟨it1, hit1, H⟩ := of_bindO H
 refine At.keep (ts := [4, 5, 10]) (ids := [4, 5]) rfl rfl ?_
 refine W.listGo H (fun (x : Report) => [.agg [.int .i64 (x.Source), .int .i64 (x.District), .int .i64 (x.Night), .int .i64 (x.From), .int .i64 (x.To), .int .i64 (x.Sight.Lo), .int .i64 (x.Sight.Hi), .int .i64 (x.Known), .int .i64 (x.Until)]]) (c_fog_view__of_1 p0 p1 hit1) rfl (fun _ => ⟨rfl, rfl⟩) rfl rfl rfl (fun (s2 : Range) => [(4, .cells [.int .i64 (0), .int .i64 (0)]), (5, .cells [.int .i64 (s2.Lo), .int .i64 (s2.Hi)])]) (.cons .q (.cons .q .nil)) (fun (x1 : Report) => [(4, .lp 4 0), (5, .lp 5 0), (6, .lp 6 0)]) (fun (x1 : Report) (s2 : Range) => [(4, .cells [.int .i64 (0), .int .i64 (0)]), (5, .cells [.int .i64 (s2.Lo), .int .i64 (s2.Hi)]), (6, .cells [.int .i64 (x1.Source), .int .i64 (x1.District), .int .i64 (x1.Night), .int .i64 (x1.From), .int .i64 (x1.To), .int .i64 (x1.Sight.Lo), .int .i64 (x1.Sight.Hi), .int .i64 (x1.Known), .int .i64 (x1.Until)])]) (fun _ (_ : Unit) => False) (fun _ _ => []) (fun _ _ h => h.elim) hval (fun h1 vs gh st lp x1 s2 K hK => ?_) (fun k2 h1 vs gh st lp x1 s2 H Qr hQ2 hX2 => ?_) (fun s2 H => ?_) (fun _ _ h => h.elim)
 · refine W.region env [] [] rfl rfl rfl .nil .nil (At.keep (ts := [4, 5, 6]) (ids := [4, 5, 6]) rfl rfl ?_)
   refine At.thenK (At.keep (ts := [4, 5, 6]) (ids := [4, 5, 6]) rfl rfl ?_)
   exact hK
 · refine W.block ?_
   refine W.region env [] [] rfl rfl rfl .nil .nil (At.keep (ts := [4]) (ids := [4, 5]) rfl rfl ?_)
   refine At.inb ?_
   refine At.keep (ts := []) (ids := [4, 5]) rfl rfl ?_
   exact At.conv .nil (.cons .q (.cons .q .nil)) (hQ2 (⟨(max s2.Lo x1.Sight.Lo), (min s2.Hi x1.Sight.Hi)⟩ : Range) H)
 · refine At.inb ?_
   refine At.thenC ?_
   refine W.rg env [4] [4] ?_
   refine W.ret ?_
   cases H
   exact At.ret env.ty rfl rfl (fun q hq => by cases hq) (.refl _) hval
theorem c_fog_below (p0 : Range) (p1 : Int) : Ctr Try.prog 17 [.agg [.int .i64 (p0.Lo), .int .i64 (p0.Hi)], .int .i64 (p1)] (.int .i64 ((fog_below p0 p1))) := by
 obtain ⟨r, H⟩ : ∃ r, fog_below p0 p1 = r := ⟨_, rfl⟩
 rw [H]
 unfold fog_below at H
 refine Ctr.of_body (N := 15) Try.func17 (by kernel_rfl) (c := _) rfl Try.ntmps17 rfl (fun w0 h0 hval => ?_)
 refine W.rg env [1, 2] [2] ?_
 refine W.seq ?_
 refine W.block ?_
 refine W.rg env [1, 2, 5] [2] ?_
 refine W.cond rfl (fun hb1 => ?_) (fun hb1 => ?_)
 · have H := of_true H hb1
   refine W.rg env [4] [] ?_
   refine W.ret ?_
   refine At.rinb ?_
   refine At.rthen ?_
   cases H
   exact At.ret env.ty rfl rfl (fun q hq => by cases hq) (.refl _) hval
 · have H := of_false H hb1
   refine W.rg env [10] [] ?_
   refine W.cond rfl (fun hb2 => ?_) (fun hb2 => ?_)
   · have H := of_true H hb2
     refine W.rg env [4] [] ?_
     refine W.ret ?_
     refine At.rinb ?_
     refine At.rthen ?_
     cases H
     exact At.ret env.ty rfl rfl (fun q hq => by cases hq) (.refl _) hval
   · have H := of_false H hb2
     refine W.skip ?_
     refine At.inb ?_
     refine At.thenC ?_
     refine W.rg env [4] [] ?_
     refine W.ret ?_
     cases H
     exact At.ret env.ty rfl rfl (fun q hq => by cases hq) (.refl _) hval
theorem c_fog_Foggy (fuel : Nat) (p0 : (List Report)) (p1 : Int) (p2 : Int) (p3 : Range) (p4 : Int) (p5 : Int) {r : (Int × Int)} (H : fog_Foggy fuel p0 p1 p2 p3 p4 p5 = some r) : Ctr Try.prog 7 [roL 9 enc_Report p0, .int .i64 (p1), .int .i64 (p2), .agg [.int .i64 (p3.Lo), .int .i64 (p3.Hi)], .int .i64 (p4), .int .i64 (p5)] (.tup [.int .i64 (r.1), .int .i64 (r.2)]) := by
 unfold fog_Foggy at H
 refine Ctr.of_body (N := 50) Try.func7 (by kernel_rfl) (c := _) rfl Try.ntmps7 rfl (fun w0 h0 hval => ?_)
 refine W.rg env [0, 1, 2, 4, 5, 9] [9] ?_
 refine W.scope ?_
 refine W.seq ?_
 obtain ⟨y1, hy2, H⟩ := of_bindO H
 refine W.region env [] [⟨.tup [roL 9 enc_Report y1.1, .int .i64 (y1.2)], [], 0, []⟩] rfl rfl rfl .nil (.free (c_fog_query__clear fuel (⟨p1, p2, p5, 0, p3, p4⟩ : fog_query) p0 hy2) .nil) (At.keep (ts := [4, 9, 14, 15]) (ids := [9]) rfl rfl ?_)
 refine At.thenC ?_
 refine W.seq ?_
 refine W.rg env [4, 9, 14, 15, 30] [9] ?_
 refine W.cond rfl (fun hb3 => ?_) (fun hb3 => ?_)
 · have H := of_true H hb3
   refine W.rg env [12, 13] [] ?_
   refine W.ret ?_
   refine At.rthen ?_
   refine At.rins ?_
   cases H
   exact At.ret env.ty rfl rfl (fun q hq => by cases hq) (.refl _) hval
 · have H := of_false H hb3
   refine W.skip ?_
   refine At.thenC ?_
   refine W.rg env [4, 9, 14, 16] [9] ?_
   refine W.seq ?_
   refine W.label ?_
   refine At.thenC ?_
   refine W.seq ?_
   refine W.rg env [4, 9, 14, 16, 17] [9] ?_
   refine W.joinC H (fun (s4 : Int) => [(16, .int .i64 (s4))]) (fun (s4 : Int) => []) (fun s4 H => ?_) (fun k4 H hK4 => ?_)
   · refine W.rg env [12, 13] [] ?_
     refine W.ret ?_
     refine At.rins ?_
     cases H
     exact At.ret env.ty rfl rfl (fun q hq => by cases hq) (.refl _) hval
   · refine W.block ?_
     refine At.keep (ts := [4, 9, 14, 16, 17]) (ids := [9]) rfl rfl ?_
     refine W.loopGo H (fun (s5 : Int × Int) => [(4, .int .i64 (p4)), (9, .lp 9 0), (14, roL 9 enc_Report y1.1), (16, .int .i64 (s5.1)), (17, .int .i64 (s5.2))]) (fun (s5 : Int × Int) => [(9, .cells [.int .i64 (p3.Lo), .int .i64 (p3.Hi)])]) (.cons .qi (.cons .q (.cons .q (.cons .qi (.cons .qi .nil))))) (.cons .q .nil) (fun k5 s5 H K0 hK5 => ?_)
     refine W.seq ?_
     refine W.rg env [4, 9, 14, 16, 17, 37] [9] ?_
     refine W.cond rfl (fun hb6 => ?_) (fun hb6 => ?_)
     · have H := of_true H hb6
       refine W.skip ?_
       refine At.thenC ?_
       refine W.seq ?_
       refine W.block ?_
       refine W.seq ?_
       obtain ⟨y7, hy8, H⟩ := of_bindO H
       refine W.region env [] [⟨.agg [.int .i64 (y7.Lo), .int .i64 (y7.Hi)], [], 0, []⟩, ⟨.int .i64 ((fog_below y7 p4)), [], 0, []⟩] rfl rfl rfl .nil (.free (c_fog_view__sight y1.1 s5.2 hy8) (.free (c_fog_below y7 p4) .nil)) (At.keep (ts := [4, 9, 14, 16, 17, 44]) (ids := [9]) rfl rfl ?_)
       refine At.thenC ?_
       refine W.block ?_
       refine W.rg env [4, 9, 14, 16, 17, 44, 45] [9] ?_
       refine W.cond rfl (fun hb9 => ?_) (fun hb9 => ?_)
       · have H := of_true H hb9
         refine W.rg env [16] [] ?_
         refine W.exit ?_
         refine At.xpast rfl ?_
         refine At.xpast rfl ?_
         refine At.xthen ?_
         refine At.xthen ?_
         refine At.xhere ?_
         refine At.thenK (At.keep (ts := [16]) (ids := []) rfl rfl ?_)
         exact At.conv (.cons .qi .nil) .nil (hK4 1 H)
       · have H := of_false H hb9
         refine W.rg env [4, 9, 14, 16, 17, 47] [9] ?_
         refine W.cond rfl (fun hb10 => ?_) (fun hb10 => ?_)
         · have H := of_true H hb10
           refine W.region env [] [] rfl rfl rfl .nil .nil (At.keep (ts := [4, 9, 14, 16, 17]) (ids := [9]) rfl rfl ?_)
           refine At.inb ?_
           refine At.inb ?_
           refine At.thenC ?_
           obtain ⟨hc11, H⟩ := of_must H
           refine W.region env [] [] rfl rfl rfl (.cons hc11 .nil) .nil (At.keep (ts := [4, 9, 14, 16, 17]) (ids := [9]) rfl rfl ?_)
           refine At.thenK (At.keep (ts := [4, 9, 14, 16, 17]) (ids := [9]) rfl rfl ?_)
           exact At.conv (.cons .qi (.cons .q (.cons .q (.cons .qi (.cons .qi .nil))))) (.cons .q .nil) (hK5 (2, (s5.2 + 1)) H)
         · have H := of_false H hb10
           refine W.skip ?_
           refine At.inb ?_
           refine At.inb ?_
           refine At.thenC ?_
           obtain ⟨hc12, H⟩ := of_must H
           refine W.region env [] [] rfl rfl rfl (.cons hc12 .nil) .nil (At.keep (ts := [4, 9, 14, 16, 17]) (ids := [9]) rfl rfl ?_)
           refine At.thenK (At.keep (ts := [4, 9, 14, 16, 17]) (ids := [9]) rfl rfl ?_)
           exact At.conv (.cons .qi (.cons .q (.cons .q (.cons .qi (.cons .qi .nil))))) (.cons .q .nil) (hK5 (s5.1, (s5.2 + 1)) H)
     · have H := of_false H hb6
       refine W.exit ?_
       refine At.xthen ?_
       refine At.xthen ?_
       refine At.xhere ?_
       refine At.thenK (At.keep (ts := [16]) (ids := []) rfl rfl ?_)
       exact At.conv (.cons .qi .nil) .nil (hK4 s5.1 H)
theorem c_fog_Sight (fuel : Nat) (p0 : (List Report)) (p1 : Int) (p2 : Int) (p3 : Int) (p4 : Int) {r : (Range × Int)} (H : fog_Sight fuel p0 p1 p2 p3 p4 = some r) : Ctr Try.prog 11 [roL 9 enc_Report p0, .int .i64 (p1), .int .i64 (p2), .int .i64 (p3), .int .i64 (p4)] (.tup [.agg [.int .i64 (r.1.Lo), .int .i64 (r.1.Hi)], .int .i64 (r.2)]) := by
 unfold fog_Sight at H
 refine Ctr.of_body (N := 31) Try.func11 (by kernel_rfl) (c := _) rfl Try.ntmps11 rfl (fun w0 h0 hval => ?_)
 refine W.rg env [0, 1, 2, 3, 4, 10] [10] ?_
 refine W.seq ?_
 obtain ⟨y1, hy2, H⟩ := of_bindO H
 refine W.region env [] [⟨.tup [roL 9 enc_Report y1.1, .int .i64 (y1.2)], [], 0, []⟩] rfl rfl rfl .nil (.free (c_fog_query__clear fuel (⟨p1, p2, p4, p3, (⟨0, 0⟩ : Range), 1⟩ : fog_query) p0 hy2) .nil) (At.keep (ts := [3, 10, 12, 13]) (ids := [10]) rfl rfl ?_)
 refine At.thenC ?_
 refine W.seq ?_
 refine W.rg env [3, 10, 12, 13, 25] [10] ?_
 refine W.cond rfl (fun hb3 => ?_) (fun hb3 => ?_)
 · have H := of_true H hb3
   refine W.rg env [10, 11] [10] ?_
   refine W.ret ?_
   refine At.rthen ?_
   cases H
   exact At.ret env.ty rfl rfl (fun q hq => by cases hq) (.refl _) hval
 · have H := of_false H hb3
   refine W.skip ?_
   refine At.thenC ?_
   refine W.seq ?_
   obtain ⟨y4, hy5, H⟩ := of_bindO H
   refine W.region env [] [⟨.agg [.int .i64 (y4.Lo), .int .i64 (y4.Hi)], [], 0, []⟩] rfl rfl rfl .nil (.free (c_fog_view__sight y1.1 p3 hy5) .nil) (At.keep (ts := [10, 11]) (ids := [10]) rfl rfl ?_)
   refine At.thenC ?_
   refine W.ret ?_
   cases H
   exact At.ret env.ty rfl rfl (fun q hq => by cases hq) (.refl _) hval
theorem c_gasoliertop_dims (fuel : Nat) {r : Bool} (H : gasoliertop_dims fuel = some r) : Ctr Try.prog 4 [] (.bool (r)) := by
 unfold gasoliertop_dims at H
 refine Ctr.of_body (N := 53) Try.func4 (by kernel_rfl) (c := _) rfl Try.ntmps4 rfl (fun w0 h0 hval => ?_)
 refine W.rg env [] [] ?_
 refine W.seq ?_
 refine W.region env [] [] rfl rfl rfl .nil .nil (At.keep (ts := [1]) (ids := []) rfl rfl ?_)
 refine At.slot (t := 1) (v := roL 9 enc_Report ([(⟨1, 1, 7, 300, 400, (⟨0, 150⟩ : Range), 0, 0⟩ : Report), (⟨2, 1, 7, 350, 500, (⟨100, 900⟩ : Range), 0, 0⟩ : Report)] : List Report)) (Sim.lit (f := enc_Report) ([(⟨1, 1, 7, 300, 400, (⟨0, 150⟩ : Range), 0, 0⟩ : Report), (⟨2, 1, 7, 350, 500, (⟨100, 900⟩ : Range), 0, 0⟩ : Report)] : List Report) rfl rfl (fun _ => rfl)) ?_
 refine At.thenC ?_
 refine W.seq ?_
 obtain ⟨y1, hy2, H⟩ := of_bindO H
 refine W.region env [] [⟨.tup [.int .i64 (y1.1), .int .i64 (y1.2)], [], 0, []⟩] rfl rfl rfl .nil (.free (c_fog_Foggy fuel ([(⟨1, 1, 7, 300, 400, (⟨0, 150⟩ : Range), 0, 0⟩ : Report), (⟨2, 1, 7, 350, 500, (⟨100, 900⟩ : Range), 0, 0⟩ : Report)] : List Report) 1 7 (⟨300, 500⟩ : Range) 200 9 hy2) .nil) (At.keep (ts := [1, 2, 3]) (ids := []) rfl rfl ?_)
 refine At.thenC ?_
 refine W.seq ?_
 obtain ⟨y3, hy4, H⟩ := of_bindO H
 refine W.region env [] [⟨.tup [.agg [.int .i64 (y3.1.Lo), .int .i64 (y3.1.Hi)], .int .i64 (y3.2)], [], 0, []⟩] rfl rfl rfl .nil (.free (c_fog_Sight fuel ([(⟨1, 1, 7, 300, 400, (⟨0, 150⟩ : Range), 0, 0⟩ : Report), (⟨2, 1, 7, 350, 500, (⟨100, 900⟩ : Range), 0, 0⟩ : Report)] : List Report) 1 7 360 9 hy4) .nil) (At.keep (ts := [1, 2, 3, 4, 5]) (ids := [4]) rfl rfl ?_)
 refine At.thenC ?_
 refine W.seq ?_
 obtain ⟨y5, hy6, H⟩ := of_bindO H
 refine W.region env [] [⟨.tup [.int .i64 (y5.1), .int .i64 (y5.2)], [], 0, []⟩] rfl rfl rfl .nil (.free (c_fog_Foggy fuel ([(⟨1, 1, 7, 300, 400, (⟨0, 150⟩ : Range), 0, 0⟩ : Report), (⟨2, 1, 7, 350, 500, (⟨100, 900⟩ : Range), 0, 0⟩ : Report)] : List Report) 1 7 (⟨401, 500⟩ : Range) 200 9 hy6) .nil) (At.keep (ts := [2, 3, 4, 5, 6, 7]) (ids := [4]) rfl rfl ?_)
 refine At.thenC ?_
 refine W.sr env [] [] [0] [] rfl rfl rfl (.cons (fun h => h) (.cons (fun h => h) (.cons (fun h => h) (.cons (fun h => h) (.cons (fun h => h) (.cons (fun h => h) (.cons (fun h => h) (.cons (fun h => h) (.cons (fun h => h) (.cons (fun h => h) (.cons (fun h => h) .nil))))))))))) .nil ?_
 refine W.ret ?_
 cases H
 exact At.ret env.ty rfl rfl (fun q hq => by cases hq) (.refl _) hval
theorem c_gasolierref01_Mod (p0 : Int) (p1 : Int) {r : Int} (H : gasolierref01_Mod p0 p1 = some r) : Ctr Try.prog 6 [.int .i64 (p0), .int .i64 (p1)] (.int .i64 (r)) := by
 unfold gasolierref01_Mod at H
 refine Ctr.of_body (N := 12) Try.func6 (by kernel_rfl) (c := _) rfl Try.ntmps6 rfl (fun w0 h0 hval => ?_)
 refine W.rg env [0, 1] [] ?_
 obtain ⟨hc1, H⟩ := of_must H
 obtain ⟨hc2, H⟩ := of_must H
 obtain ⟨hc3, H⟩ := of_must H
 refine W.sr env [] [] [4] [] rfl rfl rfl (.cons hc1 (.cons hc2 (.cons hc3 .nil))) .nil ?_
 refine W.ret ?_
 cases H
 exact At.ret env.ty rfl rfl (fun q hq => by cases hq) (.refl _) hval
theorem c_gasolierref01_Pick (p0 : (List Int)) (p1 : Int) {r : Int} (H : gasolierref01_Pick p0 p1 = some r) : Ctr Try.prog 21 [roL 1 enc_Int p0, .int .i64 (p1)] (.int .i64 (r)) := by
 unfold gasolierref01_Pick at H
 refine Ctr.of_body (N := 15) Try.func21 (by kernel_rfl) (c := _) rfl Try.ntmps21 rfl (fun w0 h0 hval => ?_)
 refine W.rg env [0, 1] [] ?_
 refine W.seq ?_
 refine W.rg env [0, 1, 7] [] ?_
 refine W.cond rfl (fun hb1 => ?_) (fun hb1 => ?_)
 · have H := of_true H hb1
   refine W.rg env [4] [] ?_
   refine W.ret ?_
   refine At.rthen ?_
   cases H
   exact At.ret env.ty rfl rfl (fun q hq => by cases hq) (.refl _) hval
 · have H := of_false H hb1
   refine W.skip ?_
   refine At.thenC ?_
   refine W.seq ?_
   obtain ⟨y2, hy3, H⟩ := of_bindO H
   obtain ⟨hc4, H⟩ := of_must H
   refine W.region env [] [⟨.int .i64 (y2), [], 0, []⟩] rfl rfl rfl (.cons hc4 .nil) (.free (c_gasolierref01_Mod p1 ((p0.length : Nat) : Int) hy3) .nil) (At.keep (ts := [4]) (ids := []) rfl rfl ?_)
   refine At.thenC ?_
   refine W.ret ?_
   cases H
   exact At.ret env.ty rfl rfl (fun q hq => by cases hq) (.refl _) hval
theorem c_gasoliertop_sightOf (p0 : gasoliertop_Mist) (p1 : Int) {r : Int} (H : gasoliertop_sightOf p0 p1 = some r) : Ctr Try.prog 10 [.agg [roL 1 enc_Int p0.Sights, roL 4 enc_Arr4Int p0.Reports, .int .i64 (p0.Law.x0), .int .i64 (p0.Law.x1), .int .i64 (p0.Law.x2), .int .i64 (p0.Limit)], .int .i64 (p1)] (.int .i64 (r)) := by
 unfold gasoliertop_sightOf at H
 refine Ctr.of_body (N := 11) Try.func10 (by kernel_rfl) (c := _) rfl Try.ntmps10 rfl (fun w0 h0 hval => ?_)
 refine W.rg env [1, 2] [2] ?_
 refine W.seq ?_
 obtain ⟨hc1, H⟩ := of_must H
 obtain ⟨y2, hy3, H⟩ := of_bindO H
 obtain ⟨y4, hy5, H⟩ := of_bindO H
 refine W.region env [] [⟨.int .i64 (y2), [], 0, []⟩, ⟨.int .i64 (y4), [], 0, []⟩] rfl rfl rfl (.cons hc1 .nil) (.free (c_gasolierref01_Pick p0.Sights (Int.tdiv p1 10) hy3) (.free (c_gasolierref01_Mod y2 400 hy5) .nil)) (At.keep (ts := [4]) (ids := []) rfl rfl ?_)
 refine At.thenC ?_
 refine W.ret ?_
 cases H
 exact At.ret env.ty rfl rfl (fun q hq => by cases hq) (.refl _) hval
theorem c_gasoliertop_reportsOf (fuel : Nat) (p0 : gasoliertop_Mist) {r : (List Report)} (H : gasoliertop_reportsOf fuel p0 = some r) : Ctr Try.prog 5 [.agg [roL 1 enc_Int p0.Sights, roL 4 enc_Arr4Int p0.Reports, .int .i64 (p0.Law.x0), .int .i64 (p0.Law.x1), .int .i64 (p0.Law.x2), .int .i64 (p0.Limit)]] (roL 9 enc_Report r) := by
 unfold gasoliertop_reportsOf at H
 refine Ctr.of_body (N := 88) Try.func5 (by kernel_rfl) (c := _) rfl Try.ntmps5 rfl (fun w0 h0 hval => ?_)
 refine W.rg env [1] [1] ?_
 refine W.rg env [1, 3] [1] ?_
 refine W.seq ?_
 refine W.rg env [1, 3, 4] [1] ?_
 refine W.block ?_
 refine At.nilOwn 3 503 65 9 (e := fun i => enc_Report (([] : List Report).getD i default)) rfl rfl ?_
 refine At.keep (ts := [1, 3, 4]) (ids := [1, 503]) rfl rfl ?_
 refine W.loopGo H (fun (s1 : Int × (List Report)) => [(1, .lp 1 0), (3, .buf 503 (s1.2).length), (4, .int .i64 (s1.1))]) (fun (s1 : Int × (List Report)) => [(1, .cells [roL 1 enc_Int p0.Sights, roL 4 enc_Arr4Int p0.Reports, .int .i64 (p0.Law.x0), .int .i64 (p0.Law.x1), .int .i64 (p0.Law.x2), .int .i64 (p0.Limit)]), (503, bufL 65 9 enc_Report s1.2)]) (.cons .q (.cons .qb (.cons .qi .nil))) (.cons .q (.cons .q .nil)) (fun k1 s1 H K0 hK1 => ?_)
 refine W.seq ?_
 refine W.sr env [] [] [1, 3, 4, 17] [1, 503] rfl rfl rfl (.cons (fun h => h) (.cons (fun h => h) .nil)) .nil ?_
 refine W.cond rfl (fun hb2 => ?_) (fun hb2 => ?_)
 · have H := of_true H hb2
   refine W.skip ?_
   refine At.thenC ?_
   refine W.seq ?_
   refine W.block ?_
   obtain ⟨hc3, H⟩ := of_must H
   refine W.sr env [] [] [1, 3, 4, 5] [1, 5, 503] rfl rfl rfl (.cons hc3 .nil) .nil ?_
   refine W.seq ?_
   obtain ⟨hc4, H⟩ := of_must H
   obtain ⟨y5, hy6, H⟩ := of_bindO H
   obtain ⟨hc7, H⟩ := of_must H
   refine W.region env [] [⟨.int .i64 (y5), [], 0, []⟩] rfl rfl rfl (.cons hc4 (.cons (by decide) (.cons hc7 .nil))) (.free (c_gasolierref01_Mod ((p0.Reports.getD (s1.1).toNat default).x0) 800 hy6) .nil) (At.keep (ts := [1, 3, 4, 5, 6]) (ids := [1, 5, 6, 503]) rfl rfl ?_)
   refine At.thenC ?_
   refine W.seq ?_
   obtain ⟨y8, hy9, H⟩ := of_bindO H
   obtain ⟨hc10, H⟩ := of_must H
   refine W.region env [] [⟨.int .i64 (y8), [], 0, []⟩] rfl rfl (by kernel_rfl) (.cons (by decide) (.cons hc10 .nil)) (.free (c_gasolierref01_Mod ((p0.Reports.getD (s1.1).toNat default).x1) 60 hy9) .nil) (At.keep (ts := [1, 3, 4, 5, 6]) (ids := [1, 5, 6, 503]) rfl rfl ?_)
   refine At.thenC ?_
   refine W.rg env [1, 3, 4, 5, 6] [1, 5, 6, 503] ?_
   refine W.seq ?_
   refine W.rg env [1, 3, 4, 5, 6, 7] [1, 5, 6, 503] ?_
   refine W.block ?_
   refine At.keep (ts := [1, 3, 4, 5, 6, 7]) (ids := [1, 5, 6, 503]) rfl rfl ?_
   refine W.loopGo H (fun (s11 : Int × Report) => [(1, .lp 1 0), (3, .buf 503 (s1.2).length), (4, .int .i64 (s1.1)), (5, .lp 5 0), (6, .lp 6 0), (7, .int .i64 (s11.1))]) (fun (s11 : Int × Report) => [(1, .cells [roL 1 enc_Int p0.Sights, roL 4 enc_Arr4Int p0.Reports, .int .i64 (p0.Law.x0), .int .i64 (p0.Law.x1), .int .i64 (p0.Law.x2), .int .i64 (p0.Limit)]), (5, .cells [.int .i64 ((p0.Reports.getD (s1.1).toNat default).x0), .int .i64 ((p0.Reports.getD (s1.1).toNat default).x1), .int .i64 ((p0.Reports.getD (s1.1).toNat default).x2), .int .i64 ((p0.Reports.getD (s1.1).toNat default).x3)]), (6, .cells [.int .i64 (s11.2.Source), .int .i64 (s11.2.District), .int .i64 (s11.2.Night), .int .i64 (s11.2.From), .int .i64 (s11.2.To), .int .i64 (s11.2.Sight.Lo), .int .i64 (s11.2.Sight.Hi), .int .i64 (s11.2.Known), .int .i64 (s11.2.Until)]), (503, bufL 65 9 enc_Report s1.2)]) (.cons .q (.cons .qb (.cons .qi (.cons .q (.cons .q (.cons .qi .nil)))))) (.cons .q (.cons .q (.cons .q (.cons .q .nil)))) (fun k11 s11 H K0 hK11 => ?_)
   refine W.seq ?_
   refine W.rg env [1, 3, 4, 5, 6, 7, 46] [1, 5, 6, 503] ?_
   refine W.cond rfl (fun hb12 => ?_) (fun hb12 => ?_)
   · have H := of_true H hb12
     refine W.skip ?_
     refine At.thenC ?_
     refine W.seq ?_
     refine W.block ?_
     refine W.seq ?_
     obtain ⟨y13, hy14, H⟩ := of_bindO H
     refine W.region env [] [⟨.int .i64 (y13), [], 0, []⟩] rfl rfl rfl .nil (.free (c_gasoliertop_sightOf p0 s11.1 hy14) .nil) (At.keep (ts := [1, 3, 4, 5, 6, 7, 8]) (ids := [1, 5, 6, 503]) rfl rfl ?_)
     refine At.thenC ?_
     refine W.region env [] [] rfl rfl rfl .nil .nil (At.keep (ts := [1, 3, 4, 5, 6, 7]) (ids := [1, 5, 6, 503]) rfl rfl ?_)
     refine At.inb ?_
     refine At.thenC ?_
     obtain ⟨hc15, H⟩ := of_must H
     refine W.region env [] [] rfl rfl rfl (.cons hc15 .nil) .nil (At.keep (ts := [1, 3, 4, 5, 6, 7]) (ids := [1, 5, 6, 503]) rfl rfl ?_)
     refine At.thenK (At.keep (ts := [1, 3, 4, 5, 6, 7]) (ids := [1, 5, 6, 503]) rfl rfl ?_)
     exact At.conv (.cons .q (.cons .qb (.cons .qi (.cons .q (.cons .q (.cons .qi .nil)))))) (.cons .q (.cons .q (.cons .q (.cons .q .nil)))) (hK11 ((s11.1 + 1), (⟨s11.2.Source, s11.2.District, s11.2.Night, s11.2.From, s11.2.To, (⟨(min s11.2.Sight.Lo y13), (max s11.2.Sight.Hi y13)⟩ : Range), s11.2.Known, s11.2.Until⟩ : Report)) H)
   · have H := of_false H hb12
     refine W.exit ?_
     refine At.xthen ?_
     refine At.xthen ?_
     refine At.xhere ?_
     refine At.thenC ?_
     refine W.seq ?_
     obtain ⟨y16, hy17, H⟩ := of_bindO H
     obtain ⟨hc18, H⟩ := of_must H
     refine W.region env [] [⟨.int .i64 (y16), [], 0, []⟩] rfl rfl (by kernel_rfl) (.cons (by decide) (.cons hc18 .nil)) (.free (c_gasolierref01_Mod ((p0.Reports.getD (s1.1).toNat default).x2) 90 hy17) .nil) (At.keep (ts := [1, 3, 4, 5, 6]) (ids := [1, 5, 6, 503]) rfl rfl ?_)
     refine At.thenC ?_
     refine W.seq ?_
     obtain ⟨y19, hy20, H⟩ := of_bindO H
     obtain ⟨hc21, H⟩ := of_must H
     refine W.region env [] [⟨.int .i64 (y19), [], 0, []⟩] rfl rfl (by kernel_rfl) (.cons (by decide) (.cons hc21 .nil)) (.free (c_gasolierref01_Mod ((p0.Reports.getD (s1.1).toNat default).x3) 90 hy20) .nil) (At.keep (ts := [1, 3, 4, 6]) (ids := [1, 6, 503]) rfl rfl ?_)
     refine At.thenC ?_
     obtain ⟨hc22, H⟩ := of_must H
     refine W.region env [] [] rfl rfl rfl (.cons (⟨by first | rfl | (simp; done) | omega | (simp; omega), by have := hc22; first | simpa using this | (unfold room at this ⊢; simp at this ⊢; omega)⟩) .nil) .nil (At.keep (ts := [1, 3, 4]) (ids := [1, 503]) rfl rfl ?_)
     refine At.convM (.cons (.refl _) (.cons (y := bufL 65 9 enc_Report (s1.2 ++ ([(⟨s11.2.Source, s11.2.District, s11.2.Night, s11.2.From, s11.2.To, (⟨(max 0 (s11.2.Sight.Lo - y16)), (s11.2.Sight.Hi + y19)⟩ : Range), s11.2.Known, s11.2.Until⟩ : Report)] : List Report))) (BSim.seg (Seg.push (Seg.refl enc_Report _) (Seg.lit (f := enc_Report) (sz := 9) ([(⟨s11.2.Source, s11.2.District, s11.2.Night, s11.2.From, s11.2.To, (⟨(max 0 (s11.2.Sight.Lo - y16)), (s11.2.Sight.Hi + y19)⟩ : Range), s11.2.Known, s11.2.Until⟩ : Report)] : List Report) rfl rfl (fun _ => rfl)))) .nil)) ?_
     refine At.inb ?_
     refine At.thenC ?_
     obtain ⟨hc23, H⟩ := of_must H
     refine W.region env [] [] rfl rfl rfl (.cons hc23 .nil) .nil (At.keep (ts := [1, 3, 4]) (ids := [1, 503]) rfl rfl ?_)
     refine At.thenK (At.keep (ts := [1, 3, 4]) (ids := [1, 503]) rfl rfl ?_)
     exact At.conv (.cons .q (.cons .qb (.cons .qi .nil))) (.cons .q (.cons .q .nil)) (hK1 ((s1.1 + 1), (s1.2 ++ ([(⟨s11.2.Source, s11.2.District, s11.2.Night, s11.2.From, s11.2.To, (⟨(max 0 (s11.2.Sight.Lo - y16)), (s11.2.Sight.Hi + y19)⟩ : Range), s11.2.Known, s11.2.Until⟩ : Report)] : List Report))) H)
 · have H := of_false H hb2
   refine W.exit ?_
   refine At.xthen ?_
   refine At.xthen ?_
   refine At.xhere ?_
   refine At.thenC ?_
   refine W.rg env [2] [503] ?_
   refine W.ret ?_
   cases H
   exact At.ret env.ty rfl rfl (fun q hq => by cases hq; exact (by first | rfl | (simp; done) | omega | (simp; omega))) (.refl _) hval
theorem c_fog_Worst (fuel : Nat) (p0 : (List Report)) (p1 : Int) (p2 : Int) (p3 : Range) (p4 : Int) {r : (Range × Int)} (H : fog_Worst fuel p0 p1 p2 p3 p4 = some r) : Ctr Try.prog 8 [roL 9 enc_Report p0, .int .i64 (p1), .int .i64 (p2), .agg [.int .i64 (p3.Lo), .int .i64 (p3.Hi)], .int .i64 (p4)] (.tup [.agg [.int .i64 (r.1.Lo), .int .i64 (r.1.Hi)], .int .i64 (r.2)]) := by
 unfold fog_Worst at H
 refine Ctr.of_body (N := 59) Try.func8 (by kernel_rfl) (c := _) rfl Try.ntmps8 rfl (fun w0 h0 hval => ?_)
 refine W.rg env [0, 1, 2, 4, 8, 10] [8, 10] ?_
 refine W.seq ?_
 obtain ⟨y1, hy2, H⟩ := of_bindO H
 refine W.region env [] [⟨.tup [roL 9 enc_Report y1.1, .int .i64 (y1.2)], [], 0, []⟩] rfl rfl rfl .nil (.free (c_fog_query__clear fuel (⟨p1, p2, p4, 0, p3, 1⟩ : fog_query) p0 hy2) .nil) (At.keep (ts := [8, 10, 12, 13]) (ids := [8, 10]) rfl rfl ?_)
 refine At.thenC ?_
 refine W.seq ?_
 refine W.rg env [8, 10, 12, 13, 28] [8, 10] ?_
 refine W.cond rfl (fun hb3 => ?_) (fun hb3 => ?_)
 · have H := of_true H hb3
   refine W.rg env [10, 11] [10] ?_
   refine W.ret ?_
   refine At.rthen ?_
   cases H
   exact At.ret env.ty rfl rfl (fun q hq => by cases hq) (.refl _) hval
 · have H := of_false H hb3
   refine W.skip ?_
   refine At.thenC ?_
   refine W.seq ?_
   obtain ⟨y4, hy5, H⟩ := of_bindO H
   refine W.region env [] [⟨.agg [.int .i64 (y4.Lo), .int .i64 (y4.Hi)], [], 0, []⟩] rfl rfl rfl .nil (.free (c_fog_view__sight y1.1 p3.Lo hy5) .nil) (At.keep (ts := [8, 10, 12, 14]) (ids := [8, 10, 14]) rfl rfl ?_)
   refine At.thenC ?_
   refine W.seq ?_
   obtain ⟨hc6, H⟩ := of_must H
   refine W.sr env [] [] [8, 10, 12, 14, 15] [8, 10, 14] rfl rfl rfl (.cons hc6 .nil) .nil ?_
   refine W.block ?_
   refine At.keep (ts := [8, 10, 12, 14, 15]) (ids := [8, 10, 14]) rfl rfl ?_
   refine W.loopGo H (fun (s7 : Int × Range) => [(8, .lp 8 0), (10, .lp 10 0), (12, roL 9 enc_Report y1.1), (14, .lp 14 0), (15, .int .i64 (s7.1))]) (fun (s7 : Int × Range) => [(8, .cells [.int .i64 (p3.Lo), .int .i64 (p3.Hi)]), (10, .cells [.int .i64 (0), .int .i64 (0)]), (14, .cells [.int .i64 (s7.2.Lo), .int .i64 (s7.2.Hi)])]) (.cons .q (.cons .q (.cons .q (.cons .q (.cons .qi .nil))))) (.cons .q (.cons .q (.cons .q .nil))) (fun k7 s7 H K0 hK7 => ?_)
   refine W.seq ?_
   refine W.rg env [8, 10, 12, 14, 15, 41] [8, 10, 14] ?_
   refine W.cond rfl (fun hb8 => ?_) (fun hb8 => ?_)
   · have H := of_true H hb8
     refine W.skip ?_
     refine At.thenC ?_
     refine W.seq ?_
     refine W.block ?_
     refine W.seq ?_
     obtain ⟨y9, hy10, H⟩ := of_bindO H
     refine W.region env [] [⟨.agg [.int .i64 (y9.Lo), .int .i64 (y9.Hi)], [], 0, []⟩] rfl rfl rfl .nil (.free (c_fog_view__sight y1.1 s7.1 hy10) .nil) (At.keep (ts := [8, 10, 12, 14, 15, 16]) (ids := [8, 10, 14, 16]) rfl rfl ?_)
     refine At.thenC ?_
     refine W.region env [] [] rfl rfl rfl .nil .nil (At.keep (ts := [8, 10, 12, 14, 15]) (ids := [8, 10, 14]) rfl rfl ?_)
     refine At.inb ?_
     refine At.thenC ?_
     obtain ⟨hc11, H⟩ := of_must H
     refine W.region env [] [] rfl rfl rfl (.cons hc11 .nil) .nil (At.keep (ts := [8, 10, 12, 14, 15]) (ids := [8, 10, 14]) rfl rfl ?_)
     refine At.thenK (At.keep (ts := [8, 10, 12, 14, 15]) (ids := [8, 10, 14]) rfl rfl ?_)
     exact At.conv (.cons .q (.cons .q (.cons .q (.cons .q (.cons .qi .nil))))) (.cons .q (.cons .q (.cons .q .nil))) (hK7 ((s7.1 + 1), (⟨(min s7.2.Lo y9.Lo), (min s7.2.Hi y9.Hi)⟩ : Range)) H)
   · have H := of_false H hb8
     refine W.exit ?_
     refine At.xthen ?_
     refine At.xthen ?_
     refine At.xhere ?_
     refine At.thenC ?_
     refine W.rg env [10, 11] [10] ?_
     refine W.ret ?_
     cases H
     exact At.ret env.ty rfl rfl (fun q hq => by cases hq) (.refl _) hval
theorem c_bylaw_areAll_Version (p0 : (List Version)) (p1 : Int) (p2 : Version → Option Int) (p2_g : Nat) (p2_a p2_b : List AV) (p2_h : ∀ x0 r, p2 x0 = some r → Ctr Try.prog p2_g (p2_a ++ ([.agg [.int .i64 (x0.Source), .int .i64 (x0.Class), .int .i64 (x0.From), .int .i64 (x0.On.Lo), .int .i64 (x0.On.Hi), .int .i64 (x0.Off.Lo), .int .i64 (x0.Off.Hi), .int .i64 (x0.Moon), .int .i64 (x0.Fog), .int .i64 (x0.Known), .int .i64 (x0.Until)]] ++ p2_b)) (.int .i64 (r))) (p3 : Version → Option Int) (p3_g : Nat) (p3_a p3_b : List AV) (p3_h : ∀ x0 r, p3 x0 = some r → Ctr Try.prog p3_g (p3_a ++ ([.agg [.int .i64 (x0.Source), .int .i64 (x0.Class), .int .i64 (x0.From), .int .i64 (x0.On.Lo), .int .i64 (x0.On.Hi), .int .i64 (x0.Off.Lo), .int .i64 (x0.Off.Hi), .int .i64 (x0.Moon), .int .i64 (x0.Fog), .int .i64 (x0.Known), .int .i64 (x0.Until)]] ++ p3_b)) (.int .i64 (r))) {r : Bool} (H : bylaw_areAll_Version p0 p1 p2 p3 = some r) : Ctr Try.prog 42 [roL 11 enc_Version p0, .int .i64 (p1), .clo (.func p2_g) p2_a p2_b, .clo (.func p3_g) p3_a p3_b] (.bool (r)) := by
 unfold bylaw_areAll_Version at H
 refine Ctr.of_body (N := 44) Try.func42 (by kernel_rfl) (c := _) rfl Try.ntmps42 rfl (fun w0 h0 hval => ?_)
 refine W.rg env [0, 1, 2, 3] [] ?_
 refine W.seq ?_
 refine W.rg env [0, 1, 2, 3, 11, 12, 13] [] ?_
 refine W.block ?_
 refine At.keep (ts := [0, 1, 2, 3, 11, 12, 13]) (ids := []) rfl rfl ?_
 refine W.len (t := 11) rfl (fun (hn1 : p0.length ≤ maxLen) => ?_)
 refine W.rangeGo H (fun i1 (s1 : Unit) => [(0, roL 11 enc_Version p0), (1, .int .i64 (p1)), (2, .clo (.func p2_g) p2_a p2_b), (3, .clo (.func p3_g) p3_a p3_b), (11, roL 11 enc_Version p0), (12, .int .i64 (((p0.length : Nat) : Int))), (13, .int .i64 ((i1 : Int)))]) (fun i1 (s1 : Unit) => []) (.cons .q (.cons .qi (.cons .q (.cons .q (.cons .q (.cons .qi (.cons .qi .nil))))))) .nil (fun k1 i1 s1 hle1 H1 H2 K0 hK1 => ?_)
 refine W.rg env [0, 1, 2, 3, 11, 12, 13, 14] [] ?_
 refine W.seq ?_
 refine W.cond rfl (fun hb2 => ?_) (fun hb2 => ?_)
 · have hi1 : i1 < p0.length := by have := of_decide_eq_true hb2; omega
   have H := H1 hi1
   refine W.skip ?_
   refine At.thenC ?_
   refine W.seq ?_
   refine W.block ?_
   refine W.sr env [] [] [0, 1, 2, 3, 9, 10, 11, 12, 13] [10] rfl rfl rfl (.cons (⟨by omega, by omega⟩ : 0 ≤ (i1 : Int) ∧ (i1 : Int) < ((p0.length : Nat) : Int)) .nil) .nil ?_
   refine W.seq ?_
   obtain ⟨y3, hy4, H⟩ := of_bindO H
   obtain ⟨hc5, H⟩ := of_must H
   obtain ⟨hc6, H⟩ := of_must H
   obtain ⟨y7, hy8, H⟩ := of_bindO H
   obtain ⟨y9, hy10, H⟩ := of_bindO H
   refine W.region env [] [⟨.int .i64 (y3), [], 0, []⟩, ⟨.int .i64 (y7), [], 0, []⟩, ⟨.int .i64 (y9), [], 0, []⟩] rfl rfl (by kernel_rfl) (.cons (fun h => h) (.cons (fun h => h) (.cons hc5 (.cons (fun h => h) (.cons hc6 (.cons (fun h => h) (.cons (fun h => h) (.cons (fun h => h) (.cons (fun h => h) (.cons (fun h => h) (.cons (fun h => h) (.cons (fun h => h) (.cons (fun h => h) (.cons (fun h => h) (.cons (fun h => h) (.cons (fun hW h => by revert hW h; first | (simp +contextual; done) | grind) (.cons (fun h => by rw [h]; rfl) .nil))))))))))))))))) (.free (p2_h (p0.getD i1 default) _ hy4) (.on (fun hW => p3_h (p0.getD (((i1 : Int) - 1)).toNat default) _ (of_true hy8 hW)) (.on (fun hW => p3_h (p0.getD i1 default) _ (of_true hy10 hW)) .nil))) (At.keep (ts := [0, 1, 2, 3, 11, 12, 13, 38]) (ids := []) rfl rfl ?_)
   refine At.thenC ?_
   refine W.cond rfl (fun hb11 => ?_) (fun hb11 => ?_)
   · have H := of_true H hb11
     refine W.rg env [8] [] ?_
     refine W.ret ?_
     refine At.rinb ?_
     refine At.rthen ?_
     refine At.rthen ?_
     refine At.rinb ?_
     refine At.rthen ?_
     cases H
     exact At.ret env.ty rfl rfl (fun q hq => by cases hq) (.refl _) hval
   · have H := of_false H hb11
     refine W.skip ?_
     refine At.inb ?_
     refine At.thenC ?_
     refine W.region env [] [] rfl rfl rfl (.cons (by unfold inI; have := hn1; (try unfold maxLen at this); omega) .nil) .nil (At.keep (ts := [0, 1, 2, 3, 11, 12, 13]) (ids := []) rfl rfl ?_)
     refine At.thenK (At.keep (ts := [0, 1, 2, 3, 11, 12, 13]) (ids := []) rfl rfl ?_)
     exact At.conv (.cons .q (.cons .qi (.cons .q (.cons .q (.cons .q (.cons .qi (.cons .qi .nil))))))) .nil (hK1 hi1 () H)
 · have H := H2 (by have := of_decide_eq_false hb2; omega)
   refine W.exit ?_
   refine At.xthen ?_
   refine At.xthen ?_
   refine At.xhere ?_
   refine At.thenC ?_
   refine W.rg env [8] [] ?_
   refine W.ret ?_
   cases H
   exact At.ret env.ty rfl rfl (fun q hq => by cases hq) (.refl _) hval
theorem c_bylaw_in (p0 : Int) (p1 : Int) (p2 : Int) : Ctr Try.prog 49 [.int .i64 (p0), .int .i64 (p1), .int .i64 (p2)] (.bool ((bylaw_in p0 p1 p2))) := by
 obtain ⟨r, H⟩ : ∃ r, bylaw_in p0 p1 p2 = r := ⟨_, rfl⟩
 rw [H]
 unfold bylaw_in at H
 refine Ctr.of_body (N := 15) Try.func49 (by kernel_rfl) (c := _) rfl Try.ntmps49 rfl (fun w0 h0 hval => ?_)
 refine W.rg env [0, 1, 2] [] ?_
 refine W.sr env [] [] [6] [] rfl rfl rfl (.cons (fun h => h) (.cons (fun h => h) (.cons (fun h => h) .nil))) .nil ?_
 refine W.ret ?_
 cases H
 exact At.ret env.ty rfl rfl (fun q hq => by cases hq) (.refl _) hval
theorem c_bylaw_isNight (p0 : Int) : Ctr Try.prog 25 [.int .i64 (p0)] (.bool ((bylaw_isNight p0))) := by
 obtain ⟨r, H⟩ : ∃ r, bylaw_isNight p0 = r := ⟨_, rfl⟩
 rw [H]
 unfold bylaw_isNight at H
 refine Ctr.of_body (N := 5) Try.func25 (by kernel_rfl) (c := _) rfl Try.ntmps25 rfl (fun w0 h0 hval => ?_)
 refine W.rg env [0] [] ?_
 refine W.sr env [] [⟨.bool ((bylaw_in p0 0 100000)), [], 0, []⟩] [2] [] rfl rfl rfl .nil (.free (c_bylaw_in p0 0 100000) .nil) ?_
 refine W.ret ?_
 cases H
 exact At.ret env.ty rfl rfl (fun q hq => by cases hq) (.refl _) hval
theorem c_bylaw_isRange (p0 : Range) (p1 : Int) : Ctr Try.prog 61 [.agg [.int .i64 (p0.Lo), .int .i64 (p0.Hi)], .int .i64 (p1)] (.bool ((bylaw_isRange p0 p1))) := by
 obtain ⟨r, H⟩ : ∃ r, bylaw_isRange p0 p1 = r := ⟨_, rfl⟩
 rw [H]
 unfold bylaw_isRange at H
 refine Ctr.of_body (N := 21) Try.func61 (by kernel_rfl) (c := _) rfl Try.ntmps61 rfl (fun w0 h0 hval => ?_)
 refine W.rg env [1, 2] [2] ?_
 refine W.sr env [] [] [4] [] rfl rfl rfl (.cons (fun h => h) (.cons (fun h => h) (.cons (fun h => h) (.cons (fun h => h) (.cons (fun h => h) (.cons (fun h => h) (.cons (fun h => h) (.cons (fun h => h) (.cons (fun h => h) .nil))))))))) .nil ?_
 refine W.ret ?_
 cases H
 exact At.ret env.ty rfl rfl (fun q hq => by cases hq) (.refl _) hval
theorem c_bylaw_CheckVersion (p0 : Version) {r : Int} (H : bylaw_CheckVersion p0 = some r) : Ctr Try.prog 43 [.agg [.int .i64 (p0.Source), .int .i64 (p0.Class), .int .i64 (p0.From), .int .i64 (p0.On.Lo), .int .i64 (p0.On.Hi), .int .i64 (p0.Off.Lo), .int .i64 (p0.Off.Hi), .int .i64 (p0.Moon), .int .i64 (p0.Fog), .int .i64 (p0.Known), .int .i64 (p0.Until)]] (.int .i64 (r)) := by
 unfold bylaw_CheckVersion at H
 refine Ctr.of_body (N := 63) Try.func43 (by kernel_rfl) (c := _) rfl Try.ntmps43 rfl (fun w0 h0 hval => ?_)
 refine W.rg env [1] [1] ?_
 refine W.seq ?_
 obtain ⟨hc1, H⟩ := of_must H
 refine W.sr env [] [⟨.bool ((bylaw_in p0.Source 1 99999)), [], 0, []⟩, ⟨.bool ((bylaw_in p0.Class 1 9)), [], 0, []⟩, ⟨.bool ((bylaw_isNight p0.From)), [], 0, []⟩, ⟨.bool ((bylaw_isRange p0.On 600)), [], 0, []⟩, ⟨.bool ((bylaw_isRange p0.Off 600)), [], 0, []⟩, ⟨.bool ((bylaw_in p0.Moon 0 1001)), [], 0, []⟩, ⟨.bool ((bylaw_in p0.Fog 0 600)), [], 0, []⟩, ⟨.bool ((bylaw_isNight p0.Known)), [], 0, []⟩, ⟨.bool ((bylaw_in p0.Until (p0.Known + 1) 100000)), [], 0, []⟩] [62] [] rfl rfl rfl (.cons (fun h => h) (.cons (fun h => h) (.cons (fun h => h) (.cons (fun h => by rw [h]; rfl) (.cons (fun h => h) (.cons (fun h => h) (.cons (fun h => h) (.cons (fun h => by rw [h]; rfl) (.cons (fun h => h) (.cons (fun h => h) (.cons (fun h => h) (.cons (fun h => by rw [h]; rfl) (.cons (fun h => h) (.cons (fun h => h) (.cons (fun h => h) (.cons (fun h => by rw [h]; rfl) (.cons (fun h => h) (.cons (fun h => h) (.cons (fun h => h) (.cons (fun h => by rw [h]; rfl) (.cons (fun h => h) (.cons (fun h => h) (.cons (fun h => h) (.cons (fun h => by rw [h]; rfl) (.cons (fun h => h) (.cons (fun h => h) (.cons (fun h => h) (.cons (fun h => by rw [h]; rfl) (.cons (fun h => h) (.cons (fun h => h) (.cons (fun h => h) (.cons (fun h => h) (.cons (fun h => h) (.cons hc1 (.cons (fun h => h) (.cons (fun h => h) (.cons (fun h => h) (.cons (fun h => h) (.cons (fun h => h) (.cons (fun hW h => by revert hW h; first | (simp +contextual; done) | grind) (.cons (fun h => by rw [h]; rfl) .nil))))))))))))))))))))))))))))))))))))))))) (.free (c_bylaw_in p0.Source 1 99999) (.on (fun hW => c_bylaw_in p0.Class 1 9) (.on (fun hW => c_bylaw_isNight p0.From) (.on (fun hW => c_bylaw_isRange p0.On 600) (.on (fun hW => c_bylaw_isRange p0.Off 600) (.on (fun hW => c_bylaw_in p0.Moon 0 1001) (.on (fun hW => c_bylaw_in p0.Fog 0 600) (.on (fun hW => c_bylaw_isNight p0.Known) (.on (fun hW => c_bylaw_in p0.Until (p0.Known + 1) 100000) .nil))))))))) ?_
 refine W.cond rfl (fun hb2 => ?_) (fun hb2 => ?_)
 · have H := of_true H hb2
   refine W.rg env [2] [] ?_
   refine W.ret ?_
   refine At.rthen ?_
   cases H
   exact At.ret env.ty rfl rfl (fun q hq => by cases hq) (.refl _) hval
 · have H := of_false H hb2
   refine W.skip ?_
   refine At.thenC ?_
   refine W.rg env [2] [] ?_
   refine W.ret ?_
   cases H
   exact At.ret env.ty rfl rfl (fun q hq => by cases hq) (.refl _) hval
theorem c_bylaw_sourceOf (p0 : Version) : Ctr Try.prog 44 [.agg [.int .i64 (p0.Source), .int .i64 (p0.Class), .int .i64 (p0.From), .int .i64 (p0.On.Lo), .int .i64 (p0.On.Hi), .int .i64 (p0.Off.Lo), .int .i64 (p0.Off.Hi), .int .i64 (p0.Moon), .int .i64 (p0.Fog), .int .i64 (p0.Known), .int .i64 (p0.Until)]] (.int .i64 ((bylaw_sourceOf p0))) := by
 obtain ⟨r, H⟩ : ∃ r, bylaw_sourceOf p0 = r := ⟨_, rfl⟩
 rw [H]
 unfold bylaw_sourceOf at H
 refine Ctr.of_body (N := 5) Try.func44 (by kernel_rfl) (c := _) rfl Try.ntmps44 rfl (fun w0 h0 hval => ?_)
 refine W.rg env [1] [1] ?_
 refine W.rg env [2] [] ?_
 refine W.ret ?_
 cases H
 exact At.ret env.ty rfl rfl (fun q hq => by cases hq) (.refl _) hval
theorem c_bylaw_areAll_Street (p0 : (List Street)) (p1 : Int) (p2 : Street → Option Int) (p2_g : Nat) (p2_a p2_b : List AV) (p2_h : ∀ x0 r, p2 x0 = some r → Ctr Try.prog p2_g (p2_a ++ ([.agg [.int .i64 (x0.Id), .int .i64 (x0.Class), .int .i64 (x0.District), .int .i64 (x0.First), .int .i64 (x0.Many)]] ++ p2_b)) (.int .i64 (r))) (p3 : Street → Option Int) (p3_g : Nat) (p3_a p3_b : List AV) (p3_h : ∀ x0 r, p3 x0 = some r → Ctr Try.prog p3_g (p3_a ++ ([.agg [.int .i64 (x0.Id), .int .i64 (x0.Class), .int .i64 (x0.District), .int .i64 (x0.First), .int .i64 (x0.Many)]] ++ p3_b)) (.int .i64 (r))) {r : Bool} (H : bylaw_areAll_Street p0 p1 p2 p3 = some r) : Ctr Try.prog 45 [roL 5 enc_Street p0, .int .i64 (p1), .clo (.func p2_g) p2_a p2_b, .clo (.func p3_g) p3_a p3_b] (.bool (r)) := by
 unfold bylaw_areAll_Street at H
 refine Ctr.of_body (N := 44) Try.func45 (by kernel_rfl) (c := _) rfl Try.ntmps45 rfl (fun w0 h0 hval => ?_)
 refine W.rg env [0, 1, 2, 3] [] ?_
 refine W.seq ?_
 refine W.rg env [0, 1, 2, 3, 11, 12, 13] [] ?_
 refine W.block ?_
 refine At.keep (ts := [0, 1, 2, 3, 11, 12, 13]) (ids := []) rfl rfl ?_
 refine W.len (t := 11) rfl (fun (hn1 : p0.length ≤ maxLen) => ?_)
 refine W.rangeGo H (fun i1 (s1 : Unit) => [(0, roL 5 enc_Street p0), (1, .int .i64 (p1)), (2, .clo (.func p2_g) p2_a p2_b), (3, .clo (.func p3_g) p3_a p3_b), (11, roL 5 enc_Street p0), (12, .int .i64 (((p0.length : Nat) : Int))), (13, .int .i64 ((i1 : Int)))]) (fun i1 (s1 : Unit) => []) (.cons .q (.cons .qi (.cons .q (.cons .q (.cons .q (.cons .qi (.cons .qi .nil))))))) .nil (fun k1 i1 s1 hle1 H1 H2 K0 hK1 => ?_)
 refine W.rg env [0, 1, 2, 3, 11, 12, 13, 14] [] ?_
 refine W.seq ?_
 refine W.cond rfl (fun hb2 => ?_) (fun hb2 => ?_)
 · have hi1 : i1 < p0.length := by have := of_decide_eq_true hb2; omega
   have H := H1 hi1
   refine W.skip ?_
   refine At.thenC ?_
   refine W.seq ?_
   refine W.block ?_
   refine W.sr env [] [] [0, 1, 2, 3, 9, 10, 11, 12, 13] [10] rfl rfl rfl (.cons (⟨by omega, by omega⟩ : 0 ≤ (i1 : Int) ∧ (i1 : Int) < ((p0.length : Nat) : Int)) .nil) .nil ?_
   refine W.seq ?_
   obtain ⟨y3, hy4, H⟩ := of_bindO H
   obtain ⟨hc5, H⟩ := of_must H
   obtain ⟨hc6, H⟩ := of_must H
   obtain ⟨y7, hy8, H⟩ := of_bindO H
   obtain ⟨y9, hy10, H⟩ := of_bindO H
   refine W.region env [] [⟨.int .i64 (y3), [], 0, []⟩, ⟨.int .i64 (y7), [], 0, []⟩, ⟨.int .i64 (y9), [], 0, []⟩] rfl rfl (by kernel_rfl) (.cons (fun h => h) (.cons (fun h => h) (.cons hc5 (.cons (fun h => h) (.cons hc6 (.cons (fun h => h) (.cons (fun h => h) (.cons (fun h => h) (.cons (fun h => h) (.cons (fun h => h) (.cons (fun h => h) (.cons (fun h => h) (.cons (fun h => h) (.cons (fun h => h) (.cons (fun h => h) (.cons (fun hW h => by revert hW h; first | (simp +contextual; done) | grind) (.cons (fun h => by rw [h]; rfl) .nil))))))))))))))))) (.free (p2_h (p0.getD i1 default) _ hy4) (.on (fun hW => p3_h (p0.getD (((i1 : Int) - 1)).toNat default) _ (of_true hy8 hW)) (.on (fun hW => p3_h (p0.getD i1 default) _ (of_true hy10 hW)) .nil))) (At.keep (ts := [0, 1, 2, 3, 11, 12, 13, 38]) (ids := []) rfl rfl ?_)
   refine At.thenC ?_
   refine W.cond rfl (fun hb11 => ?_) (fun hb11 => ?_)
   · have H := of_true H hb11
     refine W.rg env [8] [] ?_
     refine W.ret ?_
     refine At.rinb ?_
     refine At.rthen ?_
     refine At.rthen ?_
     refine At.rinb ?_
     refine At.rthen ?_
     cases H
     exact At.ret env.ty rfl rfl (fun q hq => by cases hq) (.refl _) hval
   · have H := of_false H hb11
     refine W.skip ?_
     refine At.inb ?_
     refine At.thenC ?_
     refine W.region env [] [] rfl rfl rfl (.cons (by unfold inI; have := hn1; (try unfold maxLen at this); omega) .nil) .nil (At.keep (ts := [0, 1, 2, 3, 11, 12, 13]) (ids := []) rfl rfl ?_)
     refine At.thenK (At.keep (ts := [0, 1, 2, 3, 11, 12, 13]) (ids := []) rfl rfl ?_)
     exact At.conv (.cons .q (.cons .qi (.cons .q (.cons .q (.cons .q (.cons .qi (.cons .qi .nil))))))) .nil (hK1 hi1 () H)
 · have H := H2 (by have := of_decide_eq_false hb2; omega)
   refine W.exit ?_
   refine At.xthen ?_
   refine At.xthen ?_
   refine At.xhere ?_
   refine At.thenC ?_
   refine W.rg env [8] [] ?_
   refine W.ret ?_
   cases H
   exact At.ret env.ty rfl rfl (fun q hq => by cases hq) (.refl _) hval
theorem c_bylaw_CheckStreet (p0 : Street) {r : Int} (H : bylaw_CheckStreet p0 = some r) : Ctr Try.prog 46 [.agg [.int .i64 (p0.Id), .int .i64 (p0.Class), .int .i64 (p0.District), .int .i64 (p0.First), .int .i64 (p0.Many)]] (.int .i64 (r)) := by
 unfold bylaw_CheckStreet at H
 refine Ctr.of_body (N := 40) Try.func46 (by kernel_rfl) (c := _) rfl Try.ntmps46 rfl (fun w0 h0 hval => ?_)
 refine W.rg env [1] [1] ?_
 refine W.seq ?_
 obtain ⟨hc1, H⟩ := of_must H
 obtain ⟨hc2, H⟩ := of_must H
 refine W.sr env [] [⟨.bool ((bylaw_in p0.Id 1 99)), [], 0, []⟩, ⟨.bool ((bylaw_in p0.Class 1 9)), [], 0, []⟩, ⟨.bool ((bylaw_in p0.District 1 9)), [], 0, []⟩, ⟨.bool ((bylaw_in p0.First 1 999)), [], 0, []⟩, ⟨.bool ((bylaw_in p0.Many 1 200)), [], 0, []⟩] [39] [] rfl rfl rfl (.cons (fun h => h) (.cons (fun h => h) (.cons (fun h => h) (.cons (fun h => by rw [h]; rfl) (.cons (fun h => h) (.cons (fun h => h) (.cons (fun h => h) (.cons (fun h => by rw [h]; rfl) (.cons (fun h => h) (.cons (fun h => h) (.cons (fun h => h) (.cons (fun h => by rw [h]; rfl) (.cons (fun h => h) (.cons (fun h => h) (.cons (fun h => h) (.cons (fun h => by rw [h]; rfl) (.cons (fun h => h) (.cons (fun h => h) (.cons hc1 (.cons (fun h => h) (.cons (fun h => h) (.cons hc2 (.cons (fun h => h) (.cons (fun h => h) (.cons (fun h => by rw [h]; rfl) .nil))))))))))))))))))))))))) (.free (c_bylaw_in p0.Id 1 99) (.on (fun hW => c_bylaw_in p0.Class 1 9) (.on (fun hW => c_bylaw_in p0.District 1 9) (.on (fun hW => c_bylaw_in p0.First 1 999) (.on (fun hW => c_bylaw_in p0.Many 1 200) .nil))))) ?_
 refine W.cond rfl (fun hb3 => ?_) (fun hb3 => ?_)
 · have H := of_true H hb3
   refine W.rg env [2] [] ?_
   refine W.ret ?_
   refine At.rthen ?_
   cases H
   exact At.ret env.ty rfl rfl (fun q hq => by cases hq) (.refl _) hval
 · have H := of_false H hb3
   refine W.skip ?_
   refine At.thenC ?_
   refine W.rg env [2] [] ?_
   refine W.ret ?_
   cases H
   exact At.ret env.ty rfl rfl (fun q hq => by cases hq) (.refl _) hval
theorem c_bylaw_idOf (p0 : Street) : Ctr Try.prog 47 [.agg [.int .i64 (p0.Id), .int .i64 (p0.Class), .int .i64 (p0.District), .int .i64 (p0.First), .int .i64 (p0.Many)]] (.int .i64 ((bylaw_idOf p0))) := by
 obtain ⟨r, H⟩ : ∃ r, bylaw_idOf p0 = r := ⟨_, rfl⟩
 rw [H]
 unfold bylaw_idOf at H
 refine Ctr.of_body (N := 5) Try.func47 (by kernel_rfl) (c := _) rfl Try.ntmps47 rfl (fun w0 h0 hval => ?_)
 refine W.rg env [1] [1] ?_
 refine W.rg env [2] [] ?_
 refine W.ret ?_
 cases H
 exact At.ret env.ty rfl rfl (fun q hq => by cases hq) (.refl _) hval
theorem c_bylaw_has (p0 : Street) (p1 : Int) {r : Bool} (H : bylaw_has p0 p1 = some r) : Ctr Try.prog 48 [.agg [.int .i64 (p0.Id), .int .i64 (p0.Class), .int .i64 (p0.District), .int .i64 (p0.First), .int .i64 (p0.Many)], .int .i64 (p1)] (.bool (r)) := by
 unfold bylaw_has at H
 refine Ctr.of_body (N := 15) Try.func48 (by kernel_rfl) (c := _) rfl Try.ntmps48 rfl (fun w0 h0 hval => ?_)
 refine W.rg env [1, 2] [2] ?_
 obtain ⟨hc1, H⟩ := of_must H
 obtain ⟨hc2, H⟩ := of_must H
 refine W.sr env [] [⟨.bool ((bylaw_in p1 p0.First ((p0.First + p0.Many) - 1))), [], 0, []⟩] [4] [] rfl rfl rfl (.cons hc1 (.cons hc2 .nil)) (.free (c_bylaw_in p1 p0.First ((p0.First + p0.Many) - 1)) .nil) ?_
 refine W.ret ?_
 cases H
 exact At.ret env.ty rfl rfl (fun q hq => by cases hq) (.refl _) hval
theorem c_bylaw_Check (p0 : Bylaw) {r : Int} (H : bylaw_Check p0 = some r) : Ctr Try.prog 22 [.agg [roL 11 enc_Version p0.Versions, roL 5 enc_Street p0.Streets]] (.int .i64 (r)) := by
 unfold bylaw_Check at H
 refine Ctr.of_body (N := 46) Try.func22 (by kernel_rfl) (c := _) rfl Try.ntmps22 rfl (fun w0 h0 hval => ?_)
 refine W.rg env [1] [1] ?_
 refine W.seq ?_
 refine W.seq ?_
 obtain ⟨y1, hy2, H⟩ := of_bindO H
 obtain ⟨y3, hy4, H⟩ := of_bindO H
 refine W.region env [] [⟨.bool (y1), [], 0, []⟩, ⟨.bool (y3), [], 0, []⟩] rfl rfl rfl (.cons (fun h => h) (.cons (fun h => h) (.cons (fun h => h) (.cons (fun h => by rw [h]; rfl) .nil)))) (.free (c_bylaw_areAll_Version p0.Versions 60 (fun x0 => bylaw_CheckVersion x0) 43 [] [] (fun x0 r h => c_bylaw_CheckVersion x0 h) (fun x0 => some (bylaw_sourceOf x0)) 44 [] [] (fun x0 r h => by cases h; exact c_bylaw_sourceOf x0) hy2) (.on (fun hW => c_bylaw_areAll_Street p0.Streets 20 (fun x0 => bylaw_CheckStreet x0) 46 [] [] (fun x0 r h => c_bylaw_CheckStreet x0 h) (fun x0 => some (bylaw_idOf x0)) 47 [] [] (fun x0 r h => by cases h; exact c_bylaw_idOf x0) (of_true hy4 hW)) .nil)) (At.keep (ts := [1, 16]) (ids := [1]) rfl rfl ?_)
 refine At.thenC ?_
 refine W.cond rfl (fun hb5 => ?_) (fun hb5 => ?_)
 · have H := of_true H hb5
   refine W.rg env [2] [] ?_
   refine W.ret ?_
   refine At.rthen ?_
   cases H
   exact At.ret env.ty rfl rfl (fun q hq => by cases hq) (.refl _) hval
 · have H := of_false H hb5
   refine W.skip ?_
   refine At.thenC ?_
   refine W.seq ?_
   refine W.rg env [1, 18, 19, 20] [1] ?_
   refine W.block ?_
   refine At.keep (ts := [1, 18, 19, 20]) (ids := [1]) rfl rfl ?_
   refine W.len (t := 18) rfl (fun (hn6 : p0.Streets.length ≤ maxLen) => ?_)
   refine W.rangeGo H (fun i6 (s6 : Unit) => [(1, .lp 1 0), (18, roL 5 enc_Street p0.Streets), (19, .int .i64 (((p0.Streets.length : Nat) : Int))), (20, .int .i64 ((i6 : Int)))]) (fun i6 (s6 : Unit) => [(1, .cells [roL 11 enc_Version p0.Versions, roL 5 enc_Street p0.Streets])]) (.cons .q (.cons .q (.cons .qi (.cons .qi .nil)))) (.cons .q .nil) (fun k6 i6 s6 hle6 H1 H2 K0 hK6 => ?_)
   refine W.rg env [1, 18, 19, 20, 21] [1] ?_
   refine W.seq ?_
   refine W.cond rfl (fun hb7 => ?_) (fun hb7 => ?_)
   · have hi6 : i6 < p0.Streets.length := by have := of_decide_eq_true hb7; omega
     have H := H1 hi6
     refine W.skip ?_
     refine At.thenC ?_
     refine W.seq ?_
     refine W.block ?_
     refine W.sr env [] [] [1, 3, 4, 18, 19, 20] [1, 4] rfl rfl rfl (.cons (⟨by omega, by omega⟩ : 0 ≤ (i6 : Int) ∧ (i6 : Int) < ((p0.Streets.length : Nat) : Int)) .nil) .nil ?_
     refine W.seq ?_
     obtain ⟨hc8, H⟩ := of_must H
     refine W.region env [] [] rfl rfl rfl (.cons hc8 .nil) .nil (At.keep (ts := [1, 4, 18, 19, 20, 28, 29, 30]) (ids := [1, 4]) rfl rfl ?_)
     refine At.slot (t := 28) (v := roL 5 enc_Street (p0.Streets.take i6)) (Sim.seg (Seg.take enc_Street p0.Streets i6 (by omega))) ?_
     refine At.thenC ?_
     refine W.block ?_
     refine At.keep (ts := [1, 4, 18, 19, 20, 28, 29, 30]) (ids := [1, 4]) rfl rfl ?_
     refine W.len (t := 28) rfl (fun (hn9 : (p0.Streets.take i6).length ≤ maxLen) => ?_)
     refine W.rangeGo H (fun i9 (s9 : Unit) => [(1, .lp 1 0), (4, .lp 4 0), (18, roL 5 enc_Street p0.Streets), (19, .int .i64 (((p0.Streets.length : Nat) : Int))), (20, .int .i64 ((i6 : Int))), (28, roL 5 enc_Street (p0.Streets.take i6)), (29, .int .i64 ((((p0.Streets.take i6).length : Nat) : Int))), (30, .int .i64 ((i9 : Int)))]) (fun i9 (s9 : Unit) => [(1, .cells [roL 11 enc_Version p0.Versions, roL 5 enc_Street p0.Streets]), (4, .cells [.int .i64 ((p0.Streets.getD i6 default).Id), .int .i64 ((p0.Streets.getD i6 default).Class), .int .i64 ((p0.Streets.getD i6 default).District), .int .i64 ((p0.Streets.getD i6 default).First), .int .i64 ((p0.Streets.getD i6 default).Many)])]) (.cons .q (.cons .q (.cons .q (.cons .qi (.cons .qi (.cons .q (.cons .qi (.cons .qi .nil)))))))) (.cons .q (.cons .q .nil)) (fun k9 i9 s9 hle9 H1 H2 K0 hK9 => ?_)
     refine W.rg env [1, 4, 18, 19, 20, 28, 29, 30, 31] [1, 4] ?_
     refine W.seq ?_
     refine W.cond rfl (fun hb10 => ?_) (fun hb10 => ?_)
     · have hi9 : i9 < (p0.Streets.take i6).length := by have := of_decide_eq_true hb10; omega
       have H := H1 hi9
       refine W.skip ?_
       refine At.thenC ?_
       refine W.seq ?_
       refine W.block ?_
       refine W.sr env [] [] [1, 4, 6, 18, 19, 20, 28, 29, 30] [1, 4, 6] rfl rfl rfl (.cons (⟨by omega, by omega⟩ : 0 ≤ (i9 : Int) ∧ (i9 : Int) < (((p0.Streets.take i6).length : Nat) : Int)) .nil) .nil ?_
       refine W.seq ?_
       obtain ⟨y11, hy12, H⟩ := of_bindO H
       obtain ⟨y13, hy14, H⟩ := of_bindO H
       refine W.region env [] [⟨.bool (y11), [], 0, []⟩, ⟨.bool (y13), [], 0, []⟩] rfl rfl rfl (.cons (fun h => h) (.cons (fun h => h) (.cons (fun h => h) (.cons (fun h => by rw [h]; rfl) .nil)))) (.free (c_bylaw_has (p0.Streets.getD i6 default) (((p0.Streets.take i6).getD i9 default).First) hy12) (.on (fun hW => c_bylaw_has ((p0.Streets.take i6).getD i9 default) ((p0.Streets.getD i6 default).First) (of_true hy14 hW)) .nil)) (At.keep (ts := [1, 4, 18, 19, 20, 28, 29, 30, 43]) (ids := [1, 4]) rfl rfl ?_)
       refine At.thenC ?_
       refine W.cond rfl (fun hb15 => ?_) (fun hb15 => ?_)
       · have H := of_true H hb15
         refine W.rg env [2] [] ?_
         refine W.ret ?_
         refine At.rinb ?_
         refine At.rthen ?_
         refine At.rthen ?_
         refine At.rinb ?_
         refine At.rinb ?_
         refine At.rthen ?_
         refine At.rthen ?_
         refine At.rinb ?_
         refine At.rthen ?_
         cases H
         exact At.ret env.ty rfl rfl (fun q hq => by cases hq) (.refl _) hval
       · have H := of_false H hb15
         refine W.skip ?_
         refine At.inb ?_
         refine At.thenC ?_
         refine W.region env [] [] rfl rfl rfl (.cons (by unfold inI; have := hn9; (try unfold maxLen at this); omega) .nil) .nil (At.keep (ts := [1, 4, 18, 19, 20, 28, 29, 30]) (ids := [1, 4]) rfl rfl ?_)
         refine At.thenK (At.keep (ts := [1, 4, 18, 19, 20, 28, 29, 30]) (ids := [1, 4]) rfl rfl ?_)
         exact At.conv (.cons .q (.cons .q (.cons .q (.cons .qi (.cons .qi (.cons .q (.cons .qi (.cons .qi .nil)))))))) (.cons .q (.cons .q .nil)) (hK9 hi9 () H)
     · have H := H2 (by have := of_decide_eq_false hb10; omega)
       refine W.exit ?_
       refine At.xthen ?_
       refine At.xthen ?_
       refine At.xhere ?_
       refine At.inb ?_
       refine At.thenC ?_
       refine W.region env [] [] rfl rfl rfl (.cons (by unfold inI; have := hn6; (try unfold maxLen at this); omega) .nil) .nil (At.keep (ts := [1, 18, 19, 20]) (ids := [1]) rfl rfl ?_)
       refine At.thenK (At.keep (ts := [1, 18, 19, 20]) (ids := [1]) rfl rfl ?_)
       exact At.conv (.cons .q (.cons .q (.cons .qi (.cons .qi .nil)))) (.cons .q .nil) (hK6 hi6 () H)
   · have H := H2 (by have := of_decide_eq_false hb7; omega)
     refine W.exit ?_
     refine At.xthen ?_
     refine At.xthen ?_
     refine At.xhere ?_
     refine At.thenC ?_
     refine W.rg env [2] [] ?_
     refine W.ret ?_
     cases H
     exact At.ret env.ty rfl rfl (fun q hq => by cases hq) (.refl _) hval
theorem c_bylaw_isTruth (p0 : Truth) : Ctr Try.prog 23 [.agg [.int .i64 (p0.Set), .int .i64 (p0.Rise), .int .i64 (p0.Light), .bool (p0.Fog)]] (.bool ((bylaw_isTruth p0))) := by
 obtain ⟨r, H⟩ : ∃ r, bylaw_isTruth p0 = r := ⟨_, rfl⟩
 rw [H]
 unfold bylaw_isTruth at H
 refine Ctr.of_body (N := 23) Try.func23 (by kernel_rfl) (c := _) rfl Try.ntmps23 rfl (fun w0 h0 hval => ?_)
 refine W.rg env [1] [1] ?_
 refine W.sr env [] [⟨.bool ((bylaw_in p0.Light 0 1000)), [], 0, []⟩] [2] [] rfl rfl rfl (.cons (fun h => h) (.cons (fun h => h) (.cons (fun h => h) (.cons (fun h => h) (.cons (fun h => h) (.cons (fun h => h) (.cons (fun h => h) (.cons (fun h => h) (.cons (fun h => h) (.cons (fun h => h) (.cons (fun h => h) .nil))))))))))) (.on (fun hW => c_bylaw_in p0.Light 0 1000) .nil) ?_
 refine W.ret ?_
 cases H
 exact At.ret env.ty rfl rfl (fun q hq => by cases hq) (.refl _) hval
theorem c_bylaw_areTimes (p0 : Times) : Ctr Try.prog 24 [.agg [.int .i64 (p0.On), .int .i64 (p0.Off)]] (.bool ((bylaw_areTimes p0))) := by
 obtain ⟨r, H⟩ : ∃ r, bylaw_areTimes p0 = r := ⟨_, rfl⟩
 rw [H]
 unfold bylaw_areTimes at H
 refine Ctr.of_body (N := 23) Try.func24 (by kernel_rfl) (c := _) rfl Try.ntmps24 rfl (fun w0 h0 hval => ?_)
 refine W.rg env [1] [1] ?_
 refine W.sr env [] [] [2] [] rfl rfl rfl (.cons (fun h => h) (.cons (fun h => h) (.cons (fun h => h) (.cons (fun h => h) (.cons (fun h => h) (.cons (fun h => h) (.cons (fun h => h) (.cons (fun h => h) (.cons (fun hW h => by revert hW h; first | (simp +contextual; done) | grind) (.cons (fun h => h) (.cons (fun h => h) (.cons (fun h => h) (.cons (fun h => h) (.cons (fun hW h => by revert hW h; first | (simp +contextual; done) | grind) (.cons (fun h => by rw [h]; rfl) .nil))))))))))))))) .nil ?_
 refine W.ret ?_
 cases H
 exact At.ret env.ty rfl rfl (fun q hq => by cases hq) (.refl _) hval
theorem c_slices_IndexFunc_Street (p0 : (List Street)) (p1 : Street → Option Bool) (p1_g : Nat) (p1_a p1_b : List AV) (p1_h : ∀ x0 r, p1 x0 = some r → Ctr Try.prog p1_g (p1_a ++ ([.agg [.int .i64 (x0.Id), .int .i64 (x0.Class), .int .i64 (x0.District), .int .i64 (x0.First), .int .i64 (x0.Many)]] ++ p1_b)) (.bool (r))) {r : Int} (H : slices_IndexFunc_Street p0 p1 = some r) : Ctr Try.prog 62 [roL 5 enc_Street p0, .clo (.func p1_g) p1_a p1_b] (.int .i64 (r)) := by
 unfold slices_IndexFunc_Street at H
 refine Ctr.of_body (N := 19) Try.func62 (by kernel_rfl) (c := _) rfl Try.ntmps62 rfl (fun w0 h0 hval => ?_)
 refine W.rg env [0, 1] [] ?_
 refine W.seq ?_
 refine W.rg env [0, 1, 7, 8] [] ?_
 refine W.block ?_
 refine At.keep (ts := [0, 1, 7, 8]) (ids := []) rfl rfl ?_
 refine W.len (t := 0) rfl (fun (hn1 : p0.length ≤ maxLen) => ?_)
 refine W.rangeGo H (fun i1 (s1 : Unit) => [(0, roL 5 enc_Street p0), (1, .clo (.func p1_g) p1_a p1_b), (7, .int .i64 (((p0.length : Nat) : Int))), (8, .int .i64 ((i1 : Int)))]) (fun i1 (s1 : Unit) => []) (.cons .q (.cons .q (.cons .qi (.cons .qi .nil)))) .nil (fun k1 i1 s1 hle1 H1 H2 K0 hK1 => ?_)
 refine W.rg env [0, 1, 7, 8, 9] [] ?_
 refine W.seq ?_
 refine W.cond rfl (fun hb2 => ?_) (fun hb2 => ?_)
 · have hi1 : i1 < p0.length := by have := of_decide_eq_true hb2; omega
   have H := H1 hi1
   refine W.skip ?_
   refine At.thenC ?_
   refine W.seq ?_
   refine W.block ?_
   refine W.rg env [0, 1, 5, 7, 8] [] ?_
   refine W.seq ?_
   obtain ⟨y3, hy4, H⟩ := of_bindO H
   refine W.region env [] [⟨.bool (y3), [], 0, []⟩] rfl rfl rfl (.cons (⟨by omega, by omega⟩ : 0 ≤ (i1 : Int) ∧ (i1 : Int) < ((p0.length : Nat) : Int)) .nil) (.free (p1_h (p0.getD i1 default) _ hy4) .nil) (At.keep (ts := [0, 1, 5, 7, 8, 16]) (ids := []) rfl rfl ?_)
   refine At.thenC ?_
   refine W.cond rfl (fun hb5 => ?_) (fun hb5 => ?_)
   · have H := of_true H hb5
     refine W.rg env [4] [] ?_
     refine W.ret ?_
     refine At.rinb ?_
     refine At.rthen ?_
     refine At.rthen ?_
     refine At.rinb ?_
     refine At.rthen ?_
     cases H
     exact At.ret env.ty rfl rfl (fun q hq => by cases hq) (.refl _) hval
   · have H := of_false H hb5
     refine W.skip ?_
     refine At.inb ?_
     refine At.thenC ?_
     refine W.region env [] [] rfl rfl rfl (.cons (by unfold inI; have := hn1; (try unfold maxLen at this); omega) .nil) .nil (At.keep (ts := [0, 1, 7, 8]) (ids := []) rfl rfl ?_)
     refine At.thenK (At.keep (ts := [0, 1, 7, 8]) (ids := []) rfl rfl ?_)
     exact At.conv (.cons .q (.cons .q (.cons .qi (.cons .qi .nil)))) .nil (hK1 hi1 () H)
 · have H := H2 (by have := of_decide_eq_false hb2; omega)
   refine W.exit ?_
   refine At.xthen ?_
   refine At.xthen ?_
   refine At.xhere ?_
   refine At.thenC ?_
   refine W.rg env [4] [] ?_
   refine W.ret ?_
   cases H
   exact At.ret env.ty rfl rfl (fun q hq => by cases hq) (.refl _) hval
theorem c_bylaw_streetOf_1 (p0 : Street) (c0 : Int) {r : Bool} (H : bylaw_streetOf_1 p0 c0 = some r) : Ctr Try.prog 63 [.agg [.int .i64 (p0.Id), .int .i64 (p0.Class), .int .i64 (p0.District), .int .i64 (p0.First), .int .i64 (p0.Many)], .rp [.int .i64 (c0)]] (.bool (r)) := by
 unfold bylaw_streetOf_1 at H
 refine Ctr.of_body (N := 7) Try.func63 (by kernel_rfl) (c := _) rfl Try.ntmps63 rfl (fun w0 h0 hval => ?_)
 refine W.rg env [1, 2] [2] ?_
 refine W.seq ?_
 obtain ⟨y1, hy2, H⟩ := of_bindO H
 refine W.region env [] [⟨.bool (y1), [], 0, []⟩] rfl rfl rfl .nil (.free (c_bylaw_has p0 c0 hy2) .nil) (At.keep (ts := [3]) (ids := []) rfl rfl ?_)
 refine At.thenC ?_
 refine W.ret ?_
 cases H
 exact At.ret env.ty rfl rfl (fun q hq => by cases hq) (.refl _) hval
theorem c_bylaw_streetOf (p0 : Bylaw) (p1 : Int) {r : (Street × Int)} (H : bylaw_streetOf p0 p1 = some r) : Ctr Try.prog 50 [.agg [roL 11 enc_Version p0.Versions, roL 5 enc_Street p0.Streets], .int .i64 (p1)] (.tup [.agg [.int .i64 (r.1.Id), .int .i64 (r.1.Class), .int .i64 (r.1.District), .int .i64 (r.1.First), .int .i64 (r.1.Many)], .int .i64 (r.2)]) := by
 unfold bylaw_streetOf at H
 refine Ctr.of_body (N := 19) Try.func50 (by kernel_rfl) (c := _) rfl Try.ntmps50 rfl (fun w0 h0 hval => ?_)
 refine W.rg env [2, 3, 4] [2, 3, 4] ?_
 refine W.seq ?_
 obtain ⟨y1, hy2, H⟩ := of_bindO H
 refine W.region env [] [⟨.int .i64 (y1), [], 0, []⟩] rfl rfl rfl .nil (.free (c_slices_IndexFunc_Street p0.Streets (fun x0 => bylaw_streetOf_1 x0 p1) 63 [] ([.rp [.int .i64 (p1)]]) (fun x0 r h => c_bylaw_streetOf_1 x0 p1 h) hy2) .nil) (At.keep (ts := [2, 4, 6]) (ids := [2, 4]) rfl rfl ?_)
 refine At.thenC ?_
 refine W.seq ?_
 refine W.rg env [2, 4, 6, 12] [2, 4] ?_
 refine W.cond rfl (fun hb3 => ?_) (fun hb3 => ?_)
 · have H := of_true H hb3
   refine W.rg env [4, 5] [4] ?_
   refine W.ret ?_
   refine At.rthen ?_
   cases H
   exact At.ret env.ty rfl rfl (fun q hq => by cases hq) (.refl _) hval
 · have H := of_false H hb3
   refine W.skip ?_
   refine At.thenC ?_
   obtain ⟨hc4, H⟩ := of_must H
   refine W.sr env [] [] [4, 5] [4] rfl rfl rfl (.cons hc4 .nil) .nil ?_
   refine W.ret ?_
   cases H
   exact At.ret env.ty rfl rfl (fun q hq => by cases hq) (.refl _) hval
theorem c_bylaw_inForce (p0 : Bylaw) (p1 : Int) (p2 : Int) (p3 : Int) {r : (Version × Int)} (H : bylaw_inForce p0 p1 p2 p3 = some r) : Ctr Try.prog 51 [.agg [roL 11 enc_Version p0.Versions, roL 5 enc_Street p0.Streets], .int .i64 (p1), .int .i64 (p2), .int .i64 (p3)] (.tup [.agg [.int .i64 (r.1.Source), .int .i64 (r.1.Class), .int .i64 (r.1.From), .int .i64 (r.1.On.Lo), .int .i64 (r.1.On.Hi), .int .i64 (r.1.Off.Lo), .int .i64 (r.1.Off.Hi), .int .i64 (r.1.Moon), .int .i64 (r.1.Fog), .int .i64 (r.1.Known), .int .i64 (r.1.Until)], .int .i64 (r.2)]) := by
 unfold bylaw_inForce at H
 refine Ctr.of_body (N := 61) Try.func51 (by kernel_rfl) (c := _) rfl Try.ntmps51 rfl (fun w0 h0 hval => ?_)
 refine W.rg env [1, 2, 3, 4, 8] [4, 8] ?_
 refine W.rg env [1, 2, 3, 4, 8, 10] [4, 8, 10] ?_
 refine W.seq ?_
 refine W.rg env [1, 2, 3, 8, 10, 14, 15, 16] [8, 10] ?_
 refine W.block ?_
 refine At.keep (ts := [1, 2, 3, 8, 10, 14, 15, 16]) (ids := [8, 10]) rfl rfl ?_
 refine W.len (t := 14) rfl (fun (hn1 : p0.Versions.length ≤ maxLen) => ?_)
 refine W.rangeGo H (fun i1 (s1 : Version) => [(1, .int .i64 (p1)), (2, .int .i64 (p2)), (3, .int .i64 (p3)), (8, .lp 8 0), (10, .lp 10 0), (14, roL 11 enc_Version p0.Versions), (15, .int .i64 (((p0.Versions.length : Nat) : Int))), (16, .int .i64 ((i1 : Int)))]) (fun i1 (s1 : Version) => [(8, .cells [.int .i64 (0), .int .i64 (0), .int .i64 (0), .int .i64 (0), .int .i64 (0), .int .i64 (0), .int .i64 (0), .int .i64 (0), .int .i64 (0), .int .i64 (0), .int .i64 (0)]), (10, .cells [.int .i64 (s1.Source), .int .i64 (s1.Class), .int .i64 (s1.From), .int .i64 (s1.On.Lo), .int .i64 (s1.On.Hi), .int .i64 (s1.Off.Lo), .int .i64 (s1.Off.Hi), .int .i64 (s1.Moon), .int .i64 (s1.Fog), .int .i64 (s1.Known), .int .i64 (s1.Until)])]) (.cons .qi (.cons .qi (.cons .qi (.cons .q (.cons .q (.cons .q (.cons .qi (.cons .qi .nil)))))))) (.cons .q (.cons .q .nil)) (fun k1 i1 s1 hle1 H1 H2 K0 hK1 => ?_)
 refine W.rg env [1, 2, 3, 8, 10, 14, 15, 16, 17] [8, 10] ?_
 refine W.seq ?_
 refine W.cond rfl (fun hb2 => ?_) (fun hb2 => ?_)
 · have hi1 : i1 < p0.Versions.length := by have := of_decide_eq_true hb2; omega
   have H := H1 hi1
   refine W.skip ?_
   refine At.thenC ?_
   refine W.seq ?_
   refine W.block ?_
   refine W.sr env [] [] [1, 2, 3, 8, 10, 12, 14, 15, 16] [8, 10, 12] rfl rfl rfl (.cons (⟨by omega, by omega⟩ : 0 ≤ (i1 : Int) ∧ (i1 : Int) < ((p0.Versions.length : Nat) : Int)) .nil) .nil ?_
   refine W.sr env [] [] [1, 2, 3, 8, 10, 12, 14, 15, 16, 53] [8, 10, 12] rfl rfl rfl (.cons (fun h => h) (.cons (fun h => h) (.cons (fun h => h) (.cons (fun h => h) (.cons (fun h => h) (.cons (fun h => h) (.cons (fun h => h) (.cons (fun h => h) (.cons (fun h => h) (.cons (fun h => h) (.cons (fun h => h) (.cons (fun h => h) (.cons (fun h => h) (.cons (fun h => h) (.cons (fun h => h) (.cons (fun hW h => by revert hW h; first | (simp +contextual; done) | grind) (.cons (fun h => h) (.cons (fun h => h) (.cons (fun h => h) (.cons (fun h => h) (.cons (fun h => h) (.cons (fun h => h) .nil)))))))))))))))))))))) .nil ?_
   refine W.cond rfl (fun hb3 => ?_) (fun hb3 => ?_)
   · have H := of_true H hb3
     refine W.region env [] [] rfl rfl rfl .nil .nil (At.keep (ts := [1, 2, 3, 8, 10, 14, 15, 16]) (ids := [8, 10]) rfl rfl ?_)
     refine At.inb ?_
     refine At.thenC ?_
     refine W.region env [] [] rfl rfl rfl (.cons (by unfold inI; have := hn1; (try unfold maxLen at this); omega) .nil) .nil (At.keep (ts := [1, 2, 3, 8, 10, 14, 15, 16]) (ids := [8, 10]) rfl rfl ?_)
     refine At.thenK (At.keep (ts := [1, 2, 3, 8, 10, 14, 15, 16]) (ids := [8, 10]) rfl rfl ?_)
     exact At.conv (.cons .qi (.cons .qi (.cons .qi (.cons .q (.cons .q (.cons .q (.cons .qi (.cons .qi .nil)))))))) (.cons .q (.cons .q .nil)) (hK1 hi1 (p0.Versions.getD i1 default) H)
   · have H := of_false H hb3
     refine W.skip ?_
     refine At.inb ?_
     refine At.thenC ?_
     refine W.region env [] [] rfl rfl rfl (.cons (by unfold inI; have := hn1; (try unfold maxLen at this); omega) .nil) .nil (At.keep (ts := [1, 2, 3, 8, 10, 14, 15, 16]) (ids := [8, 10]) rfl rfl ?_)
     refine At.thenK (At.keep (ts := [1, 2, 3, 8, 10, 14, 15, 16]) (ids := [8, 10]) rfl rfl ?_)
     exact At.conv (.cons .qi (.cons .qi (.cons .qi (.cons .q (.cons .q (.cons .q (.cons .qi (.cons .qi .nil)))))))) (.cons .q (.cons .q .nil)) (hK1 hi1 s1 H)
 · have H := H2 (by have := of_decide_eq_false hb2; omega)
   refine W.exit ?_
   refine At.xthen ?_
   refine At.xthen ?_
   refine At.xhere ?_
   refine At.thenC ?_
   refine W.seq ?_
   refine W.rg env [8, 10, 58] [8, 10] ?_
   refine W.cond rfl (fun hb4 => ?_) (fun hb4 => ?_)
   · have H := of_true H hb4
     refine W.rg env [8, 9] [8] ?_
     refine W.ret ?_
     refine At.rthen ?_
     cases H
     exact At.ret env.ty rfl rfl (fun q hq => by cases hq) (.refl _) hval
   · have H := of_false H hb4
     refine W.skip ?_
     refine At.thenC ?_
     refine W.rg env [8, 9] [8] ?_
     refine W.ret ?_
     cases H
     exact At.ret env.ty rfl rfl (fun q hq => by cases hq) (.refl _) hval
theorem c_bylaw_known (p0 : Bylaw) (p1 : Int) (p2 : Night) (p3 : Int) {r : (bylaw_window × Int)} (H : bylaw_known p0 p1 p2 p3 = some r) : Ctr Try.prog 26 [.agg [roL 11 enc_Version p0.Versions, roL 5 enc_Street p0.Streets], .int .i64 (p1), .agg [.int .i64 (p2.No), .int .i64 (p2.Set.Lo), .int .i64 (p2.Set.Hi), .int .i64 (p2.Rise.Lo), .int .i64 (p2.Rise.Hi), .int .i64 (p2.Light.Lo), .int .i64 (p2.Light.Hi), .int .i64 (p2.Fog)], .int .i64 (p3)] (.tup [.agg [.int .i64 (r.1.v.Source), .int .i64 (r.1.v.Class), .int .i64 (r.1.v.From), .int .i64 (r.1.v.On.Lo), .int .i64 (r.1.v.On.Hi), .int .i64 (r.1.v.Off.Lo), .int .i64 (r.1.v.Off.Hi), .int .i64 (r.1.v.Moon), .int .i64 (r.1.v.Fog), .int .i64 (r.1.v.Known), .int .i64 (r.1.v.Until), .int .i64 (r.1.n.No), .int .i64 (r.1.n.Set.Lo), .int .i64 (r.1.n.Set.Hi), .int .i64 (r.1.n.Rise.Lo), .int .i64 (r.1.n.Rise.Hi), .int .i64 (r.1.n.Light.Lo), .int .i64 (r.1.n.Light.Hi), .int .i64 (r.1.n.Fog)], .int .i64 (r.2)]) := by
 unfold bylaw_known at H
 refine Ctr.of_body (N := 37) Try.func26 (by kernel_rfl) (c := _) rfl Try.ntmps26 rfl (fun w0 h0 hval => ?_)
 refine W.rg env [1, 3, 4, 6, 8] [4, 6, 8] ?_
 refine W.seq ?_
 obtain ⟨y1, hy2, H⟩ := of_bindO H
 refine W.region env [] [⟨.tup [.agg [.int .i64 (y1.1.Id), .int .i64 (y1.1.Class), .int .i64 (y1.1.District), .int .i64 (y1.1.First), .int .i64 (y1.1.Many)], .int .i64 (y1.2)], [], 0, []⟩] rfl rfl rfl .nil (.free (c_bylaw_streetOf p0 p1 hy2) .nil) (At.keep (ts := [3, 4, 6, 8, 10, 11]) (ids := [4, 6, 8, 10]) rfl rfl ?_)
 refine At.thenC ?_
 refine W.seq ?_
 refine W.rg env [3, 4, 6, 8, 10, 11, 20] [4, 6, 8, 10] ?_
 refine W.cond rfl (fun hb3 => ?_) (fun hb3 => ?_)
 · have H := of_true H hb3
   refine W.rg env [8, 9] [8] ?_
   refine W.ret ?_
   refine At.rthen ?_
   cases H
   exact At.ret env.ty rfl rfl (fun q hq => by cases hq) (.refl _) hval
 · have H := of_false H hb3
   refine W.skip ?_
   refine At.thenC ?_
   refine W.seq ?_
   obtain ⟨y4, hy5, H⟩ := of_bindO H
   refine W.region env [] [⟨.tup [.agg [.int .i64 (y4.1.Source), .int .i64 (y4.1.Class), .int .i64 (y4.1.From), .int .i64 (y4.1.On.Lo), .int .i64 (y4.1.On.Hi), .int .i64 (y4.1.Off.Lo), .int .i64 (y4.1.Off.Hi), .int .i64 (y4.1.Moon), .int .i64 (y4.1.Fog), .int .i64 (y4.1.Known), .int .i64 (y4.1.Until)], .int .i64 (y4.2)], [], 0, []⟩] rfl rfl rfl .nil (.free (c_bylaw_inForce p0 y1.1.Class p2.No p3 hy5) .nil) (At.keep (ts := [6, 8, 11, 12]) (ids := [6, 8, 12]) rfl rfl ?_)
   refine At.thenC ?_
   refine W.rg env [8, 9] [8] ?_
   refine W.ret ?_
   cases H
   exact At.ret env.ty rfl rfl (fun q hq => by cases hq) (.refl _) hval
theorem c_bylaw_lawful (p0 : Version) (p1 : Truth) (p2 : Times) {r : Bool} (H : bylaw_lawful p0 p1 p2 = some r) : Ctr Try.prog 27 [.agg [.int .i64 (p0.Source), .int .i64 (p0.Class), .int .i64 (p0.From), .int .i64 (p0.On.Lo), .int .i64 (p0.On.Hi), .int .i64 (p0.Off.Lo), .int .i64 (p0.Off.Hi), .int .i64 (p0.Moon), .int .i64 (p0.Fog), .int .i64 (p0.Known), .int .i64 (p0.Until)], .agg [.int .i64 (p1.Set), .int .i64 (p1.Rise), .int .i64 (p1.Light), .bool (p1.Fog)], .agg [.int .i64 (p2.On), .int .i64 (p2.Off)]] (.bool (r)) := by
 unfold bylaw_lawful at H
 refine Ctr.of_body (N := 63) Try.func27 (by kernel_rfl) (c := _) rfl Try.ntmps27 rfl (fun w0 h0 hval => ?_)
 refine W.rg env [3, 4, 5] [3, 4, 5] ?_
 refine W.seq ?_
 refine W.sr env [] [] [3, 4, 5, 17] [3, 4, 5] rfl rfl rfl (.cons (fun h => h) (.cons (fun h => h) (.cons (fun h => h) (.cons (fun h => h) (.cons (fun h => h) .nil))))) .nil ?_
 refine W.cond rfl (fun hb1 => ?_) (fun hb1 => ?_)
 · have H := of_true H hb1
   refine W.rg env [6] [] ?_
   refine W.ret ?_
   refine At.rthen ?_
   cases H
   exact At.ret env.ty rfl rfl (fun q hq => by cases hq) (.refl _) hval
 · have H := of_false H hb1
   refine W.skip ?_
   refine At.thenC ?_
   refine W.rg env [3, 4, 5, 7] [3, 4, 5] ?_
   refine W.seq ?_
   refine W.rg env [3, 4, 5, 7, 19] [3, 4, 5] ?_
   refine W.joinC H (fun (s2 : Int) => [(3, .lp 3 0), (4, .lp 4 0), (5, .lp 5 0), (7, .int .i64 (s2))]) (fun (s2 : Int) => [(3, .cells [.int .i64 (p0.Source), .int .i64 (p0.Class), .int .i64 (p0.From), .int .i64 (p0.On.Lo), .int .i64 (p0.On.Hi), .int .i64 (p0.Off.Lo), .int .i64 (p0.Off.Hi), .int .i64 (p0.Moon), .int .i64 (p0.Fog), .int .i64 (p0.Known), .int .i64 (p0.Until)]), (4, .cells [.int .i64 (p1.Set), .int .i64 (p1.Rise), .int .i64 (p1.Light), .bool (p1.Fog)]), (5, .cells [.int .i64 (p2.On), .int .i64 (p2.Off)])]) (fun s2 H => ?_) (fun k2 H hK2 => ?_)
   · obtain ⟨hc3, H⟩ := of_must H
     obtain ⟨hc4, H⟩ := of_must H
     obtain ⟨hc5, H⟩ := of_must H
     obtain ⟨hc6, H⟩ := of_must H
     obtain ⟨hc7, H⟩ := of_must H
     obtain ⟨hc8, H⟩ := of_must H
     refine W.sr env [] [⟨.bool ((bylaw_in p2.On ((p1.Set + p0.On.Lo) - s2) ((p1.Set + p0.On.Hi) - s2))), [], 0, []⟩, ⟨.bool ((bylaw_in p2.Off (p1.Rise - p0.Off.Hi) (p1.Rise - p0.Off.Lo))), [], 0, []⟩] [6] [] rfl rfl rfl (.cons (fun h => h) (.cons (fun h => h) (.cons (fun h => h) (.cons (fun h => h) (.cons hc3 (.cons (fun h => h) (.cons (fun h => h) (.cons hc4 (.cons (fun h => h) (.cons (fun h => h) (.cons (fun h => h) (.cons (fun h => h) (.cons (fun h => h) (.cons hc5 (.cons (fun h => h) (.cons (fun h => h) (.cons hc6 (.cons (fun h => h) (.cons (fun h => h) (.cons (fun h => h) (.cons (fun h => h) (.cons (fun h => h) (.cons (fun h => h) (.cons (fun h => h) (.cons (fun h => h) (.cons (fun h => h) (.cons (fun h => h) (.cons hc7 (.cons (fun h => h) (.cons (fun h => h) (.cons (fun h => h) (.cons (fun h => h) (.cons (fun h => h) (.cons hc8 (.cons (fun h => h) (.cons (fun h => h) (.cons (fun h => h) (.cons (fun h => h) (.cons (fun h => h) (.cons (fun h => h) .nil)))))))))))))))))))))))))))))))))))))))) (.on (fun hW => c_bylaw_in p2.On ((p1.Set + p0.On.Lo) - s2) ((p1.Set + p0.On.Hi) - s2)) (.on (fun hW => c_bylaw_in p2.Off (p1.Rise - p0.Off.Hi) (p1.Rise - p0.Off.Lo)) .nil)) ?_
     refine W.ret ?_
     cases H
     exact At.ret env.ty rfl rfl (fun q hq => by cases hq) (.refl _) hval
   · refine W.cond rfl (fun hb9 => ?_) (fun hb9 => ?_)
     · have H := of_true H hb9
       refine W.region env [] [] rfl rfl rfl .nil .nil (At.keep (ts := [3, 4, 5, 7]) (ids := [3, 4, 5]) rfl rfl ?_)
       refine At.thenK (At.keep (ts := [3, 4, 5, 7]) (ids := [3, 4, 5]) rfl rfl ?_)
       exact At.conv (.cons .q (.cons .q (.cons .q (.cons .qi .nil)))) (.cons .q (.cons .q (.cons .q .nil))) (hK2 p0.Fog H)
     · have H := of_false H hb9
       refine W.skip ?_
       refine At.thenK (At.keep (ts := [3, 4, 5, 7]) (ids := [3, 4, 5]) rfl rfl ?_)
       exact At.conv (.cons .q (.cons .q (.cons .q (.cons .qi .nil)))) (.cons .q (.cons .q (.cons .q .nil))) (hK2 0 H)
theorem c_bylaw_True (p0 : Bylaw) (p1 : Int) (p2 : Int) (p3 : Truth) (p4 : Times) (p5 : Int) {r : (Bool × Int)} (H : bylaw_True p0 p1 p2 p3 p4 p5 = some r) : Ctr Try.prog 12 [.agg [roL 11 enc_Version p0.Versions, roL 5 enc_Street p0.Streets], .int .i64 (p1), .int .i64 (p2), .agg [.int .i64 (p3.Set), .int .i64 (p3.Rise), .int .i64 (p3.Light), .bool (p3.Fog)], .agg [.int .i64 (p4.On), .int .i64 (p4.Off)], .int .i64 (p5)] (.tup [.bool (r.1), .int .i64 (r.2)]) := by
 unfold bylaw_True at H
 refine Ctr.of_body (N := 56) Try.func12 (by kernel_rfl) (c := _) rfl Try.ntmps12 rfl (fun w0 h0 hval => ?_)
 refine W.rg env [1, 2, 5, 6, 9, 10] [6, 9, 10] ?_
 refine W.seq ?_
 obtain ⟨y1, hy2, H⟩ := of_bindO H
 refine W.region env [] [⟨.int .i64 (y1), [], 0, []⟩] rfl rfl rfl .nil (.free (c_bylaw_Check p0 hy2) .nil) (At.keep (ts := [1, 2, 5, 6, 9, 10, 14]) (ids := [6, 9, 10]) rfl rfl ?_)
 refine At.thenC ?_
 refine W.seq ?_
 refine W.block ?_
 refine W.rg env [1, 2, 5, 6, 9, 10, 14, 18] [6, 9, 10] ?_
 refine W.cond rfl (fun hb3 => ?_) (fun hb3 => ?_)
 · have H := of_true H hb3
   refine W.rg env [12, 13] [] ?_
   refine W.ret ?_
   refine At.rinb ?_
   refine At.rthen ?_
   cases H
   exact At.ret env.ty rfl rfl (fun q hq => by cases hq) (.refl _) hval
 · have H := of_false H hb3
   refine W.sr env [] [⟨.bool ((bylaw_isTruth p3)), [], 0, []⟩] [1, 2, 5, 6, 9, 10, 22] [6, 9, 10] rfl rfl rfl .nil (.free (c_bylaw_isTruth p3) .nil) ?_
   refine W.cond rfl (fun hb4 => ?_) (fun hb4 => ?_)
   · have H := of_true H hb4
     refine W.rg env [12, 13] [] ?_
     refine W.ret ?_
     refine At.rinb ?_
     refine At.rthen ?_
     cases H
     exact At.ret env.ty rfl rfl (fun q hq => by cases hq) (.refl _) hval
   · have H := of_false H hb4
     refine W.sr env [] [⟨.bool ((bylaw_areTimes p4)), [], 0, []⟩] [1, 2, 5, 6, 9, 10, 26] [6, 9, 10] rfl rfl rfl .nil (.free (c_bylaw_areTimes p4) .nil) ?_
     refine W.cond rfl (fun hb5 => ?_) (fun hb5 => ?_)
     · have H := of_true H hb5
       refine W.rg env [12, 13] [] ?_
       refine W.ret ?_
       refine At.rinb ?_
       refine At.rthen ?_
       cases H
       exact At.ret env.ty rfl rfl (fun q hq => by cases hq) (.refl _) hval
     · have H := of_false H hb5
       refine W.sr env [] [⟨.bool ((bylaw_isNight p2)), [], 0, []⟩, ⟨.bool ((bylaw_isNight p5)), [], 0, []⟩] [1, 2, 5, 6, 9, 10, 30] [6, 9, 10] rfl rfl rfl (.cons (fun h => h) (.cons (fun h => h) (.cons (fun h => by rw [h]; rfl) .nil))) (.free (c_bylaw_isNight p2) (.on (fun hW => c_bylaw_isNight p5) .nil)) ?_
       refine W.cond rfl (fun hb6 => ?_) (fun hb6 => ?_)
       · have H := of_true H hb6
         refine W.rg env [12, 13] [] ?_
         refine W.ret ?_
         refine At.rinb ?_
         refine At.rthen ?_
         cases H
         exact At.ret env.ty rfl rfl (fun q hq => by cases hq) (.refl _) hval
       · have H := of_false H hb6
         refine W.skip ?_
         refine At.inb ?_
         refine At.thenC ?_
         refine W.seq ?_
         obtain ⟨y7, hy8, H⟩ := of_bindO H
         refine W.region env [] [⟨.tup [.agg [.int .i64 (y7.1.v.Source), .int .i64 (y7.1.v.Class), .int .i64 (y7.1.v.From), .int .i64 (y7.1.v.On.Lo), .int .i64 (y7.1.v.On.Hi), .int .i64 (y7.1.v.Off.Lo), .int .i64 (y7.1.v.Off.Hi), .int .i64 (y7.1.v.Moon), .int .i64 (y7.1.v.Fog), .int .i64 (y7.1.v.Known), .int .i64 (y7.1.v.Until), .int .i64 (y7.1.n.No), .int .i64 (y7.1.n.Set.Lo), .int .i64 (y7.1.n.Set.Hi), .int .i64 (y7.1.n.Rise.Lo), .int .i64 (y7.1.n.Rise.Hi), .int .i64 (y7.1.n.Light.Lo), .int .i64 (y7.1.n.Light.Hi), .int .i64 (y7.1.n.Fog)], .int .i64 (y7.2)], [], 0, []⟩] rfl rfl rfl .nil (.free (c_bylaw_known p0 p1 (⟨p2, (⟨0, 0⟩ : Range), (⟨0, 0⟩ : Range), (⟨0, 0⟩ : Range), 0⟩ : Night) p5 hy8) .nil) (At.keep (ts := [9, 10, 14, 15]) (ids := [9, 10, 15]) rfl rfl ?_)
         refine At.thenC ?_
         refine W.seq ?_
         refine W.rg env [9, 10, 14, 15, 49] [9, 10, 15] ?_
         refine W.cond rfl (fun hb9 => ?_) (fun hb9 => ?_)
         · have H := of_true H hb9
           refine W.rg env [12, 13] [] ?_
           refine W.ret ?_
           refine At.rthen ?_
           cases H
           exact At.ret env.ty rfl rfl (fun q hq => by cases hq) (.refl _) hval
         · have H := of_false H hb9
           refine W.skip ?_
           refine At.thenC ?_
           refine W.seq ?_
           obtain ⟨y10, hy11, H⟩ := of_bindO H
           refine W.region env [] [⟨.bool (y10), [], 0, []⟩] rfl rfl rfl .nil (.free (c_bylaw_lawful y7.1.v p3 p4 hy11) .nil) (At.keep (ts := [12, 13]) (ids := []) rfl rfl ?_)
           refine At.thenC ?_
           refine W.ret ?_
           cases H
           exact At.ret env.ty rfl rfl (fun q hq => by cases hq) (.refl _) hval
theorem c_bylaw_CheckNight (p0 : Night) : Ctr Try.prog 52 [.agg [.int .i64 (p0.No), .int .i64 (p0.Set.Lo), .int .i64 (p0.Set.Hi), .int .i64 (p0.Rise.Lo), .int .i64 (p0.Rise.Hi), .int .i64 (p0.Light.Lo), .int .i64 (p0.Light.Hi), .int .i64 (p0.Fog)]] (.int .i64 ((bylaw_CheckNight p0))) := by
 obtain ⟨r, H⟩ : ∃ r, bylaw_CheckNight p0 = r := ⟨_, rfl⟩
 rw [H]
 unfold bylaw_CheckNight at H
 refine Ctr.of_body (N := 40) Try.func52 (by kernel_rfl) (c := _) rfl Try.ntmps52 rfl (fun w0 h0 hval => ?_)
 refine W.rg env [1] [1] ?_
 refine W.seq ?_
 refine W.sr env [] [⟨.bool ((bylaw_isNight p0.No)), [], 0, []⟩, ⟨.bool ((bylaw_isRange p0.Set 1439)), [], 0, []⟩, ⟨.bool ((bylaw_isRange p0.Rise 1439)), [], 0, []⟩, ⟨.bool ((bylaw_isRange p0.Light 1000)), [], 0, []⟩, ⟨.bool ((bylaw_in p0.Fog 0 2)), [], 0, []⟩] [39] [] rfl rfl rfl (.cons (fun h => h) (.cons (fun h => h) (.cons (fun h => h) (.cons (fun h => by rw [h]; rfl) (.cons (fun h => h) (.cons (fun h => h) (.cons (fun h => h) (.cons (fun h => by rw [h]; rfl) (.cons (fun h => h) (.cons (fun h => h) (.cons (fun h => h) (.cons (fun h => h) (.cons (fun h => h) (.cons (fun h => h) (.cons (fun h => by rw [h]; rfl) (.cons (fun h => h) (.cons (fun h => h) (.cons (fun h => h) (.cons (fun h => by rw [h]; rfl) (.cons (fun h => h) (.cons (fun h => h) (.cons (fun h => h) (.cons (fun h => by rw [h]; rfl) .nil))))))))))))))))))))))) (.free (c_bylaw_isNight p0.No) (.on (fun hW => c_bylaw_isRange p0.Set 1439) (.on (fun hW => c_bylaw_isRange p0.Rise 1439) (.on (fun hW => c_bylaw_isRange p0.Light 1000) (.on (fun hW => c_bylaw_in p0.Fog 0 2) .nil))))) ?_
 refine W.cond rfl (fun hb1 => ?_) (fun hb1 => ?_)
 · have H := of_true H hb1
   refine W.rg env [2] [] ?_
   refine W.ret ?_
   refine At.rthen ?_
   cases H
   exact At.ret env.ty rfl rfl (fun q hq => by cases hq) (.refl _) hval
 · have H := of_false H hb1
   refine W.skip ?_
   refine At.thenC ?_
   refine W.rg env [2] [] ?_
   refine W.ret ?_
   cases H
   exact At.ret env.ty rfl rfl (fun q hq => by cases hq) (.refl _) hval
theorem c_bylaw_look (p0 : Bylaw) (p1 : Int) (p2 : Night) (p3 : Int) {r : (bylaw_window × Int)} (H : bylaw_look p0 p1 p2 p3 = some r) : Ctr Try.prog 28 [.agg [roL 11 enc_Version p0.Versions, roL 5 enc_Street p0.Streets], .int .i64 (p1), .agg [.int .i64 (p2.No), .int .i64 (p2.Set.Lo), .int .i64 (p2.Set.Hi), .int .i64 (p2.Rise.Lo), .int .i64 (p2.Rise.Hi), .int .i64 (p2.Light.Lo), .int .i64 (p2.Light.Hi), .int .i64 (p2.Fog)], .int .i64 (p3)] (.tup [.agg [.int .i64 (r.1.v.Source), .int .i64 (r.1.v.Class), .int .i64 (r.1.v.From), .int .i64 (r.1.v.On.Lo), .int .i64 (r.1.v.On.Hi), .int .i64 (r.1.v.Off.Lo), .int .i64 (r.1.v.Off.Hi), .int .i64 (r.1.v.Moon), .int .i64 (r.1.v.Fog), .int .i64 (r.1.v.Known), .int .i64 (r.1.v.Until), .int .i64 (r.1.n.No), .int .i64 (r.1.n.Set.Lo), .int .i64 (r.1.n.Set.Hi), .int .i64 (r.1.n.Rise.Lo), .int .i64 (r.1.n.Rise.Hi), .int .i64 (r.1.n.Light.Lo), .int .i64 (r.1.n.Light.Hi), .int .i64 (r.1.n.Fog)], .int .i64 (r.2)]) := by
 unfold bylaw_look at H
 refine Ctr.of_body (N := 35) Try.func28 (by kernel_rfl) (c := _) rfl Try.ntmps28 rfl (fun w0 h0 hval => ?_)
 refine W.rg env [1, 3, 4, 6, 8] [4, 6, 8] ?_
 refine W.seq ?_
 refine W.seq ?_
 obtain ⟨y1, hy2, H⟩ := of_bindO H
 refine W.region env [] [⟨.int .i64 (y1), [], 0, []⟩] rfl rfl rfl .nil (.free (c_bylaw_Check p0 hy2) .nil) (At.keep (ts := [1, 3, 4, 6, 8, 10]) (ids := [4, 6, 8]) rfl rfl ?_)
 refine At.thenC ?_
 refine W.rg env [1, 3, 4, 6, 8, 10, 15] [4, 6, 8] ?_
 refine W.cond rfl (fun hb3 => ?_) (fun hb3 => ?_)
 · have H := of_true H hb3
   refine W.rg env [8, 9] [8] ?_
   refine W.ret ?_
   refine At.rthen ?_
   cases H
   exact At.ret env.ty rfl rfl (fun q hq => by cases hq) (.refl _) hval
 · have H := of_false H hb3
   refine W.skip ?_
   refine At.thenC ?_
   refine W.seq ?_
   refine W.sr env [] [⟨.int .i64 ((bylaw_CheckNight p2)), [], 0, []⟩] [1, 3, 4, 6, 8, 11] [4, 6, 8] rfl rfl rfl .nil (.free (c_bylaw_CheckNight p2) .nil) ?_
   refine W.rg env [1, 3, 4, 6, 8, 11, 21] [4, 6, 8] ?_
   refine W.cond rfl (fun hb4 => ?_) (fun hb4 => ?_)
   · have H := of_true H hb4
     refine W.rg env [8, 9] [8] ?_
     refine W.ret ?_
     refine At.rthen ?_
     cases H
     exact At.ret env.ty rfl rfl (fun q hq => by cases hq) (.refl _) hval
   · have H := of_false H hb4
     refine W.skip ?_
     refine At.thenC ?_
     refine W.seq ?_
     refine W.sr env [] [⟨.bool ((bylaw_isNight p3)), [], 0, []⟩] [1, 3, 4, 6, 8, 26] [4, 6, 8] rfl rfl rfl .nil (.free (c_bylaw_isNight p3) .nil) ?_
     refine W.cond rfl (fun hb5 => ?_) (fun hb5 => ?_)
     · have H := of_true H hb5
       refine W.rg env [8, 9] [8] ?_
       refine W.ret ?_
       refine At.rthen ?_
       cases H
       exact At.ret env.ty rfl rfl (fun q hq => by cases hq) (.refl _) hval
     · have H := of_false H hb5
       refine W.skip ?_
       refine At.thenC ?_
       refine W.seq ?_
       obtain ⟨y6, hy7, H⟩ := of_bindO H
       refine W.region env [] [⟨.tup [.agg [.int .i64 (y6.1.v.Source), .int .i64 (y6.1.v.Class), .int .i64 (y6.1.v.From), .int .i64 (y6.1.v.On.Lo), .int .i64 (y6.1.v.On.Hi), .int .i64 (y6.1.v.Off.Lo), .int .i64 (y6.1.v.Off.Hi), .int .i64 (y6.1.v.Moon), .int .i64 (y6.1.v.Fog), .int .i64 (y6.1.v.Known), .int .i64 (y6.1.v.Until), .int .i64 (y6.1.n.No), .int .i64 (y6.1.n.Set.Lo), .int .i64 (y6.1.n.Set.Hi), .int .i64 (y6.1.n.Rise.Lo), .int .i64 (y6.1.n.Rise.Hi), .int .i64 (y6.1.n.Light.Lo), .int .i64 (y6.1.n.Light.Hi), .int .i64 (y6.1.n.Fog)], .int .i64 (y6.2)], [], 0, []⟩] rfl rfl rfl .nil (.free (c_bylaw_known p0 p1 p2 p3 hy7) .nil) (At.keep (ts := [8, 9]) (ids := [8]) rfl rfl ?_)
       refine At.thenC ?_
       refine W.ret ?_
       cases H
       exact At.ret env.ty rfl rfl (fun q hq => by cases hq) (.refl _) hval
theorem c_bylaw_window__lit (p0 : bylaw_window) : Ctr Try.prog 29 [.agg [.int .i64 (p0.v.Source), .int .i64 (p0.v.Class), .int .i64 (p0.v.From), .int .i64 (p0.v.On.Lo), .int .i64 (p0.v.On.Hi), .int .i64 (p0.v.Off.Lo), .int .i64 (p0.v.Off.Hi), .int .i64 (p0.v.Moon), .int .i64 (p0.v.Fog), .int .i64 (p0.v.Known), .int .i64 (p0.v.Until), .int .i64 (p0.n.No), .int .i64 (p0.n.Set.Lo), .int .i64 (p0.n.Set.Hi), .int .i64 (p0.n.Rise.Lo), .int .i64 (p0.n.Rise.Hi), .int .i64 (p0.n.Light.Lo), .int .i64 (p0.n.Light.Hi), .int .i64 (p0.n.Fog)]] (.int .i64 ((bylaw_window__lit p0))) := by
 obtain ⟨r, H⟩ : ∃ r, bylaw_window__lit p0 = r := ⟨_, rfl⟩
 rw [H]
 unfold bylaw_window__lit at H
 refine Ctr.of_body (N := 35) Try.func29 (by kernel_rfl) (c := _) rfl Try.ntmps29 rfl (fun w0 h0 hval => ?_)
 refine W.rg env [1] [1] ?_
 refine W.rg env [1, 3] [1] ?_
 refine W.seq ?_
 refine W.block ?_
 refine W.sr env [] [] [1, 12] [1] rfl rfl rfl (.cons (fun h => by rw [h]; rfl) .nil) .nil ?_
 refine W.cond rfl (fun hb1 => ?_) (fun hb1 => ?_)
 · have H := of_true H hb1
   refine W.rg env [2] [] ?_
   refine W.ret ?_
   refine At.rinb ?_
   refine At.rthen ?_
   cases H
   exact At.ret env.ty rfl rfl (fun q hq => by cases hq) (.refl _) hval
 · have H := of_false H hb1
   refine W.sr env [] [] [20] [] rfl rfl rfl (.cons (fun h => h) (.cons (fun h => h) (.cons (fun h => h) (.cons (fun h => h) (.cons (fun h => h) (.cons (fun h => h) (.cons (fun h => h) (.cons (fun h => h) .nil)))))))) .nil ?_
   refine W.cond rfl (fun hb2 => ?_) (fun hb2 => ?_)
   · have H := of_true H hb2
     refine W.rg env [2] [] ?_
     refine W.ret ?_
     refine At.rinb ?_
     refine At.rthen ?_
     cases H
     exact At.ret env.ty rfl rfl (fun q hq => by cases hq) (.refl _) hval
   · have H := of_false H hb2
     refine W.skip ?_
     refine At.inb ?_
     refine At.thenC ?_
     refine W.rg env [2] [] ?_
     refine W.ret ?_
     cases H
     exact At.ret env.ty rfl rfl (fun q hq => by cases hq) (.refl _) hval
theorem c_bylaw_Lit (p0 : Bylaw) (p1 : Int) (p2 : Night) (p3 : Int) {r : (Int × Int)} (H : bylaw_Lit p0 p1 p2 p3 = some r) : Ctr Try.prog 13 [.agg [roL 11 enc_Version p0.Versions, roL 5 enc_Street p0.Streets], .int .i64 (p1), .agg [.int .i64 (p2.No), .int .i64 (p2.Set.Lo), .int .i64 (p2.Set.Hi), .int .i64 (p2.Rise.Lo), .int .i64 (p2.Rise.Hi), .int .i64 (p2.Light.Lo), .int .i64 (p2.Light.Hi), .int .i64 (p2.Fog)], .int .i64 (p3)] (.tup [.int .i64 (r.1), .int .i64 (r.2)]) := by
 unfold bylaw_Lit at H
 refine Ctr.of_body (N := 25) Try.func13 (by kernel_rfl) (c := _) rfl Try.ntmps13 rfl (fun w0 h0 hval => ?_)
 refine W.rg env [1, 3, 4, 6] [4, 6] ?_
 refine W.seq ?_
 obtain ⟨y1, hy2, H⟩ := of_bindO H
 refine W.region env [] [⟨.tup [.agg [.int .i64 (y1.1.v.Source), .int .i64 (y1.1.v.Class), .int .i64 (y1.1.v.From), .int .i64 (y1.1.v.On.Lo), .int .i64 (y1.1.v.On.Hi), .int .i64 (y1.1.v.Off.Lo), .int .i64 (y1.1.v.Off.Hi), .int .i64 (y1.1.v.Moon), .int .i64 (y1.1.v.Fog), .int .i64 (y1.1.v.Known), .int .i64 (y1.1.v.Until), .int .i64 (y1.1.n.No), .int .i64 (y1.1.n.Set.Lo), .int .i64 (y1.1.n.Set.Hi), .int .i64 (y1.1.n.Rise.Lo), .int .i64 (y1.1.n.Rise.Hi), .int .i64 (y1.1.n.Light.Lo), .int .i64 (y1.1.n.Light.Hi), .int .i64 (y1.1.n.Fog)], .int .i64 (y1.2)], [], 0, []⟩] rfl rfl rfl .nil (.free (c_bylaw_look p0 p1 p2 p3 hy2) .nil) (At.keep (ts := [10, 11]) (ids := [10]) rfl rfl ?_)
 refine At.thenC ?_
 refine W.seq ?_
 refine W.rg env [10, 11, 21] [10] ?_
 refine W.cond rfl (fun hb3 => ?_) (fun hb3 => ?_)
 · have H := of_true H hb3
   refine W.rg env [8, 9] [] ?_
   refine W.ret ?_
   refine At.rthen ?_
   cases H
   exact At.ret env.ty rfl rfl (fun q hq => by cases hq) (.refl _) hval
 · have H := of_false H hb3
   refine W.skip ?_
   refine At.thenC ?_
   refine W.sr env [] [⟨.int .i64 ((bylaw_window__lit y1.1)), [], 0, []⟩] [8, 9] [] rfl rfl rfl .nil (.free (c_bylaw_window__lit y1.1) .nil) ?_
   refine W.ret ?_
   cases H
   exact At.ret env.ty rfl rfl (fun q hq => by cases hq) (.refl _) hval
theorem c_bylaw_window__minutes (p0 : bylaw_window) (p1 : Option Range) (p1_g : Nat) (p1_a p1_b : List AV) (p1_h : ∀  r, p1  = some r → Ctr Try.prog p1_g (p1_a ++ ([] ++ p1_b)) (.agg [.int .i64 (r.Lo), .int .i64 (r.Hi)])) {r : (Range × Int)} (H : bylaw_window__minutes p0 p1 = some r) : Ctr Try.prog 31 [.agg [.int .i64 (p0.v.Source), .int .i64 (p0.v.Class), .int .i64 (p0.v.From), .int .i64 (p0.v.On.Lo), .int .i64 (p0.v.On.Hi), .int .i64 (p0.v.Off.Lo), .int .i64 (p0.v.Off.Hi), .int .i64 (p0.v.Moon), .int .i64 (p0.v.Fog), .int .i64 (p0.v.Known), .int .i64 (p0.v.Until), .int .i64 (p0.n.No), .int .i64 (p0.n.Set.Lo), .int .i64 (p0.n.Set.Hi), .int .i64 (p0.n.Rise.Lo), .int .i64 (p0.n.Rise.Hi), .int .i64 (p0.n.Light.Lo), .int .i64 (p0.n.Light.Hi), .int .i64 (p0.n.Fog)], .clo (.func p1_g) p1_a p1_b] (.tup [.agg [.int .i64 (r.1.Lo), .int .i64 (r.1.Hi)], .int .i64 (r.2)]) := by
 unfold bylaw_window__minutes at H
 refine Ctr.of_body (N := 20) Try.func31 (by kernel_rfl) (c := _) rfl Try.ntmps31 rfl (fun w0 h0 hval => ?_)
 refine W.rg env [1, 2, 4] [2, 4] ?_
 refine W.seq ?_
 refine W.sr env [] [⟨.int .i64 ((bylaw_window__lit p0)), [], 0, []⟩] [1, 4, 9] [4] rfl rfl rfl .nil (.free (c_bylaw_window__lit p0) .nil) ?_
 refine W.cond rfl (fun hb1 => ?_) (fun hb1 => ?_)
 · have H := of_true H hb1
   refine W.rg env [4, 5] [4] ?_
   refine W.ret ?_
   refine At.rthen ?_
   cases H
   exact At.ret env.ty rfl rfl (fun q hq => by cases hq) (.refl _) hval
 · have H := of_false H hb1
   refine W.skip ?_
   refine At.thenC ?_
   refine W.seq ?_
   obtain ⟨y2, hy3, H⟩ := of_bindO H
   refine W.region env [] [⟨.agg [.int .i64 (y2.Lo), .int .i64 (y2.Hi)], [], 0, []⟩] rfl rfl rfl .nil (.free (p1_h  _ hy3) .nil) (At.keep (ts := [4, 6]) (ids := [4, 6]) rfl rfl ?_)
   refine At.thenC ?_
   refine W.seq ?_
   refine W.rg env [4, 6, 17] [4, 6] ?_
   refine W.cond rfl (fun hb4 => ?_) (fun hb4 => ?_)
   · have H := of_true H hb4
     refine W.rg env [4, 5] [4] ?_
     refine W.ret ?_
     refine At.rthen ?_
     cases H
     exact At.ret env.ty rfl rfl (fun q hq => by cases hq) (.refl _) hval
   · have H := of_false H hb4
     refine W.skip ?_
     refine At.thenC ?_
     refine W.rg env [4, 5] [4] ?_
     refine W.ret ?_
     cases H
     exact At.ret env.ty rfl rfl (fun q hq => by cases hq) (.refl _) hval
theorem c_bylaw_window__fog (p0 : bylaw_window) (p1 : (List Int)) {r : Int} (H : bylaw_window__fog p0 p1 = some r) : Ctr Try.prog 55 [.agg [.int .i64 (p0.v.Source), .int .i64 (p0.v.Class), .int .i64 (p0.v.From), .int .i64 (p0.v.On.Lo), .int .i64 (p0.v.On.Hi), .int .i64 (p0.v.Off.Lo), .int .i64 (p0.v.Off.Hi), .int .i64 (p0.v.Moon), .int .i64 (p0.v.Fog), .int .i64 (p0.v.Known), .int .i64 (p0.v.Until), .int .i64 (p0.n.No), .int .i64 (p0.n.Set.Lo), .int .i64 (p0.n.Set.Hi), .int .i64 (p0.n.Rise.Lo), .int .i64 (p0.n.Rise.Hi), .int .i64 (p0.n.Light.Lo), .int .i64 (p0.n.Light.Hi), .int .i64 (p0.n.Fog)], roL 1 enc_Int p1] (.int .i64 (r)) := by
 unfold bylaw_window__fog at H
 refine Ctr.of_body (N := 22) Try.func55 (by kernel_rfl) (c := _) rfl Try.ntmps55 rfl (fun w0 h0 hval => ?_)
 refine W.rg env [1, 2] [2] ?_
 refine W.seq ?_
 refine W.rg env [2, 7, 8, 9] [2] ?_
 refine W.block ?_
 refine At.keep (ts := [2, 7, 8, 9]) (ids := [2]) rfl rfl ?_
 refine W.len (t := 7) rfl (fun (hn1 : p1.length ≤ maxLen) => ?_)
 refine W.rangeGo H (fun i1 (s1 : Unit) => [(2, .lp 2 0), (7, roL 1 enc_Int p1), (8, .int .i64 (((p1.length : Nat) : Int))), (9, .int .i64 ((i1 : Int)))]) (fun i1 (s1 : Unit) => [(2, .cells [.int .i64 (p0.v.Source), .int .i64 (p0.v.Class), .int .i64 (p0.v.From), .int .i64 (p0.v.On.Lo), .int .i64 (p0.v.On.Hi), .int .i64 (p0.v.Off.Lo), .int .i64 (p0.v.Off.Hi), .int .i64 (p0.v.Moon), .int .i64 (p0.v.Fog), .int .i64 (p0.v.Known), .int .i64 (p0.v.Until), .int .i64 (p0.n.No), .int .i64 (p0.n.Set.Lo), .int .i64 (p0.n.Set.Hi), .int .i64 (p0.n.Rise.Lo), .int .i64 (p0.n.Rise.Hi), .int .i64 (p0.n.Light.Lo), .int .i64 (p0.n.Light.Hi), .int .i64 (p0.n.Fog)])]) (.cons .q (.cons .q (.cons .qi (.cons .qi .nil)))) (.cons .q .nil) (fun k1 i1 s1 hle1 H1 H2 K0 hK1 => ?_)
 refine W.rg env [2, 7, 8, 9, 10] [2] ?_
 refine W.seq ?_
 refine W.cond rfl (fun hb2 => ?_) (fun hb2 => ?_)
 · have hi1 : i1 < p1.length := by have := of_decide_eq_true hb2; omega
   have H := H1 hi1
   refine W.skip ?_
   refine At.thenC ?_
   refine W.seq ?_
   refine W.block ?_
   refine W.sr env [] [] [2, 6, 7, 8, 9] [2] rfl rfl rfl (.cons (⟨by omega, by omega⟩ : 0 ≤ (i1 : Int) ∧ (i1 : Int) < ((p1.length : Nat) : Int)) .nil) .nil ?_
   refine W.rg env [2, 7, 8, 9, 17] [2] ?_
   refine W.cond rfl (fun hb3 => ?_) (fun hb3 => ?_)
   · have H := of_true H hb3
     refine W.rg env [4] [] ?_
     refine W.ret ?_
     refine At.rinb ?_
     refine At.rthen ?_
     refine At.rthen ?_
     refine At.rinb ?_
     refine At.rthen ?_
     cases H
     exact At.ret env.ty rfl rfl (fun q hq => by cases hq) (.refl _) hval
   · have H := of_false H hb3
     refine W.skip ?_
     refine At.inb ?_
     refine At.thenC ?_
     refine W.region env [] [] rfl rfl rfl (.cons (by unfold inI; have := hn1; (try unfold maxLen at this); omega) .nil) .nil (At.keep (ts := [2, 7, 8, 9]) (ids := [2]) rfl rfl ?_)
     refine At.thenK (At.keep (ts := [2, 7, 8, 9]) (ids := [2]) rfl rfl ?_)
     exact At.conv (.cons .q (.cons .q (.cons .qi (.cons .qi .nil)))) (.cons .q .nil) (hK1 hi1 () H)
 · have H := H2 (by have := of_decide_eq_false hb2; omega)
   refine W.exit ?_
   refine At.xthen ?_
   refine At.xthen ?_
   refine At.xhere ?_
   refine At.thenC ?_
   refine W.rg env [4] [] ?_
   refine W.ret ?_
   cases H
   exact At.ret env.ty rfl rfl (fun q hq => by cases hq) (.refl _) hval
theorem c_bylaw_clip (p0 : Int) (p1 : Int) : Ctr Try.prog 54 [.int .i64 (p0), .int .i64 (p1)] (.agg [.int .i64 ((bylaw_clip p0 p1).Lo), .int .i64 ((bylaw_clip p0 p1).Hi)]) := by
 obtain ⟨r, H⟩ : ∃ r, bylaw_clip p0 p1 = r := ⟨_, rfl⟩
 rw [H]
 unfold bylaw_clip at H
 refine Ctr.of_body (N := 10) Try.func54 (by kernel_rfl) (c := _) rfl Try.ntmps54 rfl (fun w0 h0 hval => ?_)
 refine W.rg env [0, 1, 4] [4] ?_
 refine W.rg env [4] [4] ?_
 refine W.ret ?_
 cases H
 exact At.ret env.ty rfl rfl (fun q hq => by cases hq) (.refl _) hval
theorem c_bylaw_window__on (p0 : bylaw_window) {r : Range} (H : bylaw_window__on p0 = some r) : Ctr Try.prog 32 [.agg [.int .i64 (p0.v.Source), .int .i64 (p0.v.Class), .int .i64 (p0.v.From), .int .i64 (p0.v.On.Lo), .int .i64 (p0.v.On.Hi), .int .i64 (p0.v.Off.Lo), .int .i64 (p0.v.Off.Hi), .int .i64 (p0.v.Moon), .int .i64 (p0.v.Fog), .int .i64 (p0.v.Known), .int .i64 (p0.v.Until), .int .i64 (p0.n.No), .int .i64 (p0.n.Set.Lo), .int .i64 (p0.n.Set.Hi), .int .i64 (p0.n.Rise.Lo), .int .i64 (p0.n.Rise.Hi), .int .i64 (p0.n.Light.Lo), .int .i64 (p0.n.Light.Hi), .int .i64 (p0.n.Fog)]] (.agg [.int .i64 (r.Lo), .int .i64 (r.Hi)]) := by
 unfold bylaw_window__on at H
 refine Ctr.of_body (N := 30) Try.func32 (by kernel_rfl) (c := _) rfl Try.ntmps32 rfl (fun w0 h0 hval => ?_)
 refine W.rg env [1, 2] [1, 2] ?_
 refine W.seq ?_
 obtain ⟨hc1, H⟩ := of_must H
 obtain ⟨y2, hy3, H⟩ := of_bindO H
 obtain ⟨hc4, H⟩ := of_must H
 obtain ⟨hc5, H⟩ := of_must H
 obtain ⟨y6, hy7, H⟩ := of_bindO H
 obtain ⟨hc8, H⟩ := of_must H
 refine W.region env [] [⟨.int .i64 (y2), [], 0, []⟩, ⟨.int .i64 (y6), [], 0, []⟩, ⟨.agg [.int .i64 ((bylaw_clip ((p0.n.Set.Hi + p0.v.On.Lo) - y2) ((p0.n.Set.Lo + p0.v.On.Hi) - y6)).Lo), .int .i64 ((bylaw_clip ((p0.n.Set.Hi + p0.v.On.Lo) - y2) ((p0.n.Set.Lo + p0.v.On.Hi) - y6)).Hi)], [], 0, []⟩] rfl rfl (by kernel_rfl) (.cons hc1 (.cons hc4 (.cons hc5 (.cons hc8 .nil)))) (.free (Ctr.sim (.cons (.refl _) (.cons (Sim.lit (f := enc_Int) ([1] : List Int) rfl rfl (fun _ => rfl)) .nil)) (c_bylaw_window__fog p0 ([1] : List Int) hy3)) (.free (Ctr.sim (.cons (.refl _) (.cons (Sim.lit (f := enc_Int) ([1, 2] : List Int) rfl rfl (fun _ => rfl)) .nil)) (c_bylaw_window__fog p0 ([1, 2] : List Int) hy7)) (.free (c_bylaw_clip ((p0.n.Set.Hi + p0.v.On.Lo) - y2) ((p0.n.Set.Lo + p0.v.On.Hi) - y6)) .nil))) (At.keep (ts := [2]) (ids := [2]) rfl rfl ?_)
 refine At.thenC ?_
 refine W.ret ?_
 cases H
 exact At.ret env.ty rfl rfl (fun q hq => by cases hq) (.refl _) hval
theorem c_bylaw_window__off (p0 : bylaw_window) {r : Range} (H : bylaw_window__off p0 = some r) : Ctr Try.prog 53 [.agg [.int .i64 (p0.v.Source), .int .i64 (p0.v.Class), .int .i64 (p0.v.From), .int .i64 (p0.v.On.Lo), .int .i64 (p0.v.On.Hi), .int .i64 (p0.v.Off.Lo), .int .i64 (p0.v.Off.Hi), .int .i64 (p0.v.Moon), .int .i64 (p0.v.Fog), .int .i64 (p0.v.Known), .int .i64 (p0.v.Until), .int .i64 (p0.n.No), .int .i64 (p0.n.Set.Lo), .int .i64 (p0.n.Set.Hi), .int .i64 (p0.n.Rise.Lo), .int .i64 (p0.n.Rise.Hi), .int .i64 (p0.n.Light.Lo), .int .i64 (p0.n.Light.Hi), .int .i64 (p0.n.Fog)]] (.agg [.int .i64 (r.Lo), .int .i64 (r.Hi)]) := by
 unfold bylaw_window__off at H
 refine Ctr.of_body (N := 22) Try.func53 (by kernel_rfl) (c := _) rfl Try.ntmps53 rfl (fun w0 h0 hval => ?_)
 refine W.rg env [1, 2] [1, 2] ?_
 obtain ⟨hc1, H⟩ := of_must H
 obtain ⟨hc2, H⟩ := of_must H
 refine W.sr env [] [⟨.agg [.int .i64 ((bylaw_clip (p0.n.Rise.Hi - p0.v.Off.Hi) (p0.n.Rise.Lo - p0.v.Off.Lo)).Lo), .int .i64 ((bylaw_clip (p0.n.Rise.Hi - p0.v.Off.Hi) (p0.n.Rise.Lo - p0.v.Off.Lo)).Hi)], [], 0, []⟩] [2] [2] rfl rfl rfl (.cons hc1 (.cons hc2 .nil)) (.free (c_bylaw_clip (p0.n.Rise.Hi - p0.v.Off.Hi) (p0.n.Rise.Lo - p0.v.Off.Lo)) .nil) ?_
 refine W.ret ?_
 cases H
 exact At.ret env.ty rfl rfl (fun q hq => by cases hq) (.refl _) hval
theorem c_bylaw_window__duty (p0 : bylaw_window) {r : (Duty × Int)} (H : bylaw_window__duty p0 = some r) : Ctr Try.prog 30 [.agg [.int .i64 (p0.v.Source), .int .i64 (p0.v.Class), .int .i64 (p0.v.From), .int .i64 (p0.v.On.Lo), .int .i64 (p0.v.On.Hi), .int .i64 (p0.v.Off.Lo), .int .i64 (p0.v.Off.Hi), .int .i64 (p0.v.Moon), .int .i64 (p0.v.Fog), .int .i64 (p0.v.Known), .int .i64 (p0.v.Until), .int .i64 (p0.n.No), .int .i64 (p0.n.Set.Lo), .int .i64 (p0.n.Set.Hi), .int .i64 (p0.n.Rise.Lo), .int .i64 (p0.n.Rise.Hi), .int .i64 (p0.n.Light.Lo), .int .i64 (p0.n.Light.Hi), .int .i64 (p0.n.Fog)]] (.tup [.agg [.int .i64 (r.1.Lit), .int .i64 (r.1.On.Lo), .int .i64 (r.1.On.Hi), .int .i64 (r.1.Off.Lo), .int .i64 (r.1.Off.Hi)], .int .i64 (r.2)]) := by
 unfold bylaw_window__duty at H
 refine Ctr.of_body (N := 39) Try.func30 (by kernel_rfl) (c := _) rfl Try.ntmps30 rfl (fun w0 h0 hval => ?_)
 refine W.rg env [1, 2] [1, 2] ?_
 refine W.sr env [] [⟨.int .i64 ((bylaw_window__lit p0)), [], 0, []⟩] [1, 2, 4] [1, 2] rfl rfl rfl .nil (.free (c_bylaw_window__lit p0) .nil) ?_
 refine W.seq ?_
 refine W.rg env [1, 2, 4, 11] [1, 2] ?_
 refine W.cond rfl (fun hb1 => ?_) (fun hb1 => ?_)
 · have H := of_true H hb1
   refine W.rg env [2, 3] [2] ?_
   refine W.ret ?_
   refine At.rthen ?_
   cases H
   exact At.ret env.ty rfl rfl (fun q hq => by cases hq) (.refl _) hval
 · have H := of_false H hb1
   refine W.skip ?_
   refine At.thenC ?_
   refine W.seq ?_
   obtain ⟨y2, hy3, H⟩ := of_bindO H
   refine W.region env [] [⟨.tup [.agg [.int .i64 (y2.1.Lo), .int .i64 (y2.1.Hi)], .int .i64 (y2.2)], [], 0, []⟩] rfl rfl rfl .nil (.free (c_bylaw_window__minutes p0 (bylaw_window__on p0) 32 ([.agg [.int .i64 (p0.v.Source), .int .i64 (p0.v.Class), .int .i64 (p0.v.From), .int .i64 (p0.v.On.Lo), .int .i64 (p0.v.On.Hi), .int .i64 (p0.v.Off.Lo), .int .i64 (p0.v.Off.Hi), .int .i64 (p0.v.Moon), .int .i64 (p0.v.Fog), .int .i64 (p0.v.Known), .int .i64 (p0.v.Until), .int .i64 (p0.n.No), .int .i64 (p0.n.Set.Lo), .int .i64 (p0.n.Set.Hi), .int .i64 (p0.n.Rise.Lo), .int .i64 (p0.n.Rise.Hi), .int .i64 (p0.n.Light.Lo), .int .i64 (p0.n.Light.Hi), .int .i64 (p0.n.Fog)]]) [] (fun  r h => c_bylaw_window__on p0 h) hy3) .nil) (At.keep (ts := [1, 2, 4, 5, 6]) (ids := [1, 2, 5]) rfl rfl ?_)
   refine At.thenC ?_
   refine W.seq ?_
   refine W.rg env [1, 2, 4, 5, 6, 21] [1, 2, 5] ?_
   refine W.cond rfl (fun hb4 => ?_) (fun hb4 => ?_)
   · have H := of_true H hb4
     refine W.rg env [2, 3] [2] ?_
     refine W.ret ?_
     refine At.rthen ?_
     cases H
     exact At.ret env.ty rfl rfl (fun q hq => by cases hq) (.refl _) hval
   · have H := of_false H hb4
     refine W.skip ?_
     refine At.thenC ?_
     refine W.seq ?_
     obtain ⟨y5, hy6, H⟩ := of_bindO H
     refine W.region env [] [⟨.tup [.agg [.int .i64 (y5.1.Lo), .int .i64 (y5.1.Hi)], .int .i64 (y5.2)], [], 0, []⟩] rfl rfl rfl .nil (.free (c_bylaw_window__minutes p0 (bylaw_window__off p0) 53 ([.agg [.int .i64 (p0.v.Source), .int .i64 (p0.v.Class), .int .i64 (p0.v.From), .int .i64 (p0.v.On.Lo), .int .i64 (p0.v.On.Hi), .int .i64 (p0.v.Off.Lo), .int .i64 (p0.v.Off.Hi), .int .i64 (p0.v.Moon), .int .i64 (p0.v.Fog), .int .i64 (p0.v.Known), .int .i64 (p0.v.Until), .int .i64 (p0.n.No), .int .i64 (p0.n.Set.Lo), .int .i64 (p0.n.Set.Hi), .int .i64 (p0.n.Rise.Lo), .int .i64 (p0.n.Rise.Hi), .int .i64 (p0.n.Light.Lo), .int .i64 (p0.n.Light.Hi), .int .i64 (p0.n.Fog)]]) [] (fun  r h => c_bylaw_window__off p0 h) hy6) .nil) (At.keep (ts := [2, 4, 5, 6, 7]) (ids := [2, 5, 7]) rfl rfl ?_)
     refine At.thenC ?_
     refine W.seq ?_
     refine W.rg env [2, 4, 5, 6, 7, 32] [2, 5, 7] ?_
     refine W.cond rfl (fun hb7 => ?_) (fun hb7 => ?_)
     · have H := of_true H hb7
       refine W.rg env [2, 3] [2] ?_
       refine W.ret ?_
       refine At.rthen ?_
       cases H
       exact At.ret env.ty rfl rfl (fun q hq => by cases hq) (.refl _) hval
     · have H := of_false H hb7
       refine W.skip ?_
       refine At.thenC ?_
       refine W.rg env [2, 3] [2] ?_
       refine W.ret ?_
       cases H
       exact At.ret env.ty rfl rfl (fun q hq => by cases hq) (.refl _) hval
theorem c_bylaw_Duty (p0 : Bylaw) (p1 : Int) (p2 : Night) (p3 : Int) {r : (Duty × Int)} (H : bylaw_Duty p0 p1 p2 p3 = some r) : Ctr Try.prog 14 [.agg [roL 11 enc_Version p0.Versions, roL 5 enc_Street p0.Streets], .int .i64 (p1), .agg [.int .i64 (p2.No), .int .i64 (p2.Set.Lo), .int .i64 (p2.Set.Hi), .int .i64 (p2.Rise.Lo), .int .i64 (p2.Rise.Hi), .int .i64 (p2.Light.Lo), .int .i64 (p2.Light.Hi), .int .i64 (p2.Fog)], .int .i64 (p3)] (.tup [.agg [.int .i64 (r.1.Lit), .int .i64 (r.1.On.Lo), .int .i64 (r.1.On.Hi), .int .i64 (r.1.Off.Lo), .int .i64 (r.1.Off.Hi)], .int .i64 (r.2)]) := by
 unfold bylaw_Duty at H
 refine Ctr.of_body (N := 28) Try.func14 (by kernel_rfl) (c := _) rfl Try.ntmps14 rfl (fun w0 h0 hval => ?_)
 refine W.rg env [1, 3, 4, 6, 8] [4, 6, 8] ?_
 refine W.seq ?_
 obtain ⟨y1, hy2, H⟩ := of_bindO H
 refine W.region env [] [⟨.tup [.agg [.int .i64 (y1.1.v.Source), .int .i64 (y1.1.v.Class), .int .i64 (y1.1.v.From), .int .i64 (y1.1.v.On.Lo), .int .i64 (y1.1.v.On.Hi), .int .i64 (y1.1.v.Off.Lo), .int .i64 (y1.1.v.Off.Hi), .int .i64 (y1.1.v.Moon), .int .i64 (y1.1.v.Fog), .int .i64 (y1.1.v.Known), .int .i64 (y1.1.v.Until), .int .i64 (y1.1.n.No), .int .i64 (y1.1.n.Set.Lo), .int .i64 (y1.1.n.Set.Hi), .int .i64 (y1.1.n.Rise.Lo), .int .i64 (y1.1.n.Rise.Hi), .int .i64 (y1.1.n.Light.Lo), .int .i64 (y1.1.n.Light.Hi), .int .i64 (y1.1.n.Fog)], .int .i64 (y1.2)], [], 0, []⟩] rfl rfl rfl .nil (.free (c_bylaw_look p0 p1 p2 p3 hy2) .nil) (At.keep (ts := [8, 10, 11]) (ids := [8, 10]) rfl rfl ?_)
 refine At.thenC ?_
 refine W.seq ?_
 refine W.rg env [8, 10, 11, 21] [8, 10] ?_
 refine W.cond rfl (fun hb3 => ?_) (fun hb3 => ?_)
 · have H := of_true H hb3
   refine W.rg env [8, 9] [8] ?_
   refine W.ret ?_
   refine At.rthen ?_
   cases H
   exact At.ret env.ty rfl rfl (fun q hq => by cases hq) (.refl _) hval
 · have H := of_false H hb3
   refine W.skip ?_
   refine At.thenC ?_
   refine W.seq ?_
   obtain ⟨y4, hy5, H⟩ := of_bindO H
   refine W.region env [] [⟨.tup [.agg [.int .i64 (y4.1.Lit), .int .i64 (y4.1.On.Lo), .int .i64 (y4.1.On.Hi), .int .i64 (y4.1.Off.Lo), .int .i64 (y4.1.Off.Hi)], .int .i64 (y4.2)], [], 0, []⟩] rfl rfl rfl .nil (.free (c_bylaw_window__duty y1.1 hy5) .nil) (At.keep (ts := [8, 9]) (ids := [8]) rfl rfl ?_)
   refine At.thenC ?_
   refine W.ret ?_
   cases H
   exact At.ret env.ty rfl rfl (fun q hq => by cases hq) (.refl _) hval
theorem c_bylaw_On (p0 : Bylaw) (p1 : Int) (p2 : Night) (p3 : Int) {r : (Range × Int)} (H : bylaw_On p0 p1 p2 p3 = some r) : Ctr Try.prog 15 [.agg [roL 11 enc_Version p0.Versions, roL 5 enc_Street p0.Streets], .int .i64 (p1), .agg [.int .i64 (p2.No), .int .i64 (p2.Set.Lo), .int .i64 (p2.Set.Hi), .int .i64 (p2.Rise.Lo), .int .i64 (p2.Rise.Hi), .int .i64 (p2.Light.Lo), .int .i64 (p2.Light.Hi), .int .i64 (p2.Fog)], .int .i64 (p3)] (.tup [.agg [.int .i64 (r.1.Lo), .int .i64 (r.1.Hi)], .int .i64 (r.2)]) := by
 unfold bylaw_On at H
 refine Ctr.of_body (N := 30) Try.func15 (by kernel_rfl) (c := _) rfl Try.ntmps15 rfl (fun w0 h0 hval => ?_)
 refine W.rg env [1, 3, 4, 6, 8] [4, 6, 8] ?_
 refine W.seq ?_
 obtain ⟨y1, hy2, H⟩ := of_bindO H
 refine W.region env [] [⟨.tup [.agg [.int .i64 (y1.1.v.Source), .int .i64 (y1.1.v.Class), .int .i64 (y1.1.v.From), .int .i64 (y1.1.v.On.Lo), .int .i64 (y1.1.v.On.Hi), .int .i64 (y1.1.v.Off.Lo), .int .i64 (y1.1.v.Off.Hi), .int .i64 (y1.1.v.Moon), .int .i64 (y1.1.v.Fog), .int .i64 (y1.1.v.Known), .int .i64 (y1.1.v.Until), .int .i64 (y1.1.n.No), .int .i64 (y1.1.n.Set.Lo), .int .i64 (y1.1.n.Set.Hi), .int .i64 (y1.1.n.Rise.Lo), .int .i64 (y1.1.n.Rise.Hi), .int .i64 (y1.1.n.Light.Lo), .int .i64 (y1.1.n.Light.Hi), .int .i64 (y1.1.n.Fog)], .int .i64 (y1.2)], [], 0, []⟩] rfl rfl rfl .nil (.free (c_bylaw_look p0 p1 p2 p3 hy2) .nil) (At.keep (ts := [8, 10, 11]) (ids := [8, 10]) rfl rfl ?_)
 refine At.thenC ?_
 refine W.seq ?_
 refine W.rg env [8, 10, 11, 21] [8, 10] ?_
 refine W.cond rfl (fun hb3 => ?_) (fun hb3 => ?_)
 · have H := of_true H hb3
   refine W.rg env [8, 9] [8] ?_
   refine W.ret ?_
   refine At.rthen ?_
   cases H
   exact At.ret env.ty rfl rfl (fun q hq => by cases hq) (.refl _) hval
 · have H := of_false H hb3
   refine W.skip ?_
   refine At.thenC ?_
   refine W.seq ?_
   obtain ⟨y4, hy5, H⟩ := of_bindO H
   refine W.region env [] [⟨.tup [.agg [.int .i64 (y4.1.Lo), .int .i64 (y4.1.Hi)], .int .i64 (y4.2)], [], 0, []⟩] rfl rfl rfl .nil (.free (c_bylaw_window__minutes y1.1 (bylaw_window__on y1.1) 32 ([.agg [.int .i64 (y1.1.v.Source), .int .i64 (y1.1.v.Class), .int .i64 (y1.1.v.From), .int .i64 (y1.1.v.On.Lo), .int .i64 (y1.1.v.On.Hi), .int .i64 (y1.1.v.Off.Lo), .int .i64 (y1.1.v.Off.Hi), .int .i64 (y1.1.v.Moon), .int .i64 (y1.1.v.Fog), .int .i64 (y1.1.v.Known), .int .i64 (y1.1.v.Until), .int .i64 (y1.1.n.No), .int .i64 (y1.1.n.Set.Lo), .int .i64 (y1.1.n.Set.Hi), .int .i64 (y1.1.n.Rise.Lo), .int .i64 (y1.1.n.Rise.Hi), .int .i64 (y1.1.n.Light.Lo), .int .i64 (y1.1.n.Light.Hi), .int .i64 (y1.1.n.Fog)]]) [] (fun  r h => c_bylaw_window__on y1.1 h) hy5) .nil) (At.keep (ts := [8, 9]) (ids := [8]) rfl rfl ?_)
   refine At.thenC ?_
   refine W.ret ?_
   cases H
   exact At.ret env.ty rfl rfl (fun q hq => by cases hq) (.refl _) hval
theorem c_gasoliertop_TopFog (fuel : Nat) (p0 : gasoliertop_Mist) {r : Bool} (H : gasoliertop_TopFog fuel p0 = some r) : Ctr Try.prog 3 [.agg [roL 1 enc_Int p0.Sights, roL 4 enc_Arr4Int p0.Reports, .int .i64 (p0.Law.x0), .int .i64 (p0.Law.x1), .int .i64 (p0.Law.x2), .int .i64 (p0.Limit)]] (.bool (r)) := by
 unfold gasoliertop_TopFog at H
 refine Ctr.of_body (N := 302) Try.func3 (by kernel_rfl) (c := _) rfl Try.ntmps3 rfl (fun w0 h0 hval => ?_)
 refine W.rg env [1] [1] ?_
 refine W.seq ?_
 obtain ⟨y1, hy2, H⟩ := of_bindO H
 refine W.region env [] [⟨.bool (y1), [], 0, []⟩] rfl rfl rfl .nil (.free (c_gasoliertop_dims fuel hy2) .nil) (At.keep (ts := [1, 3]) (ids := [1]) rfl rfl ?_)
 refine At.thenC ?_
 refine W.seq ?_
 obtain ⟨y3, hy4, H⟩ := of_bindO H
 refine W.region env [] [⟨roL 9 enc_Report y3, [], 0, []⟩] rfl rfl rfl .nil (.free (c_gasoliertop_reportsOf fuel p0 hy4) .nil) (At.keep (ts := [1, 3, 4]) (ids := [1]) rfl rfl ?_)
 refine At.thenC ?_
 refine W.seq ?_
 obtain ⟨y5, hy6, H⟩ := of_bindO H
 obtain ⟨hc7, H⟩ := of_must H
 refine W.region env [] [⟨.int .i64 (y5), [], 0, []⟩] rfl rfl rfl (.cons hc7 .nil) (.free (c_gasolierref01_Mod p0.Limit 399 hy6) .nil) (At.keep (ts := [1, 3, 4, 5]) (ids := [1]) rfl rfl ?_)
 refine At.thenC ?_
 refine W.rg env [1, 3, 4, 5, 6] [1, 6] ?_
 refine W.rg env [1, 3, 4, 5, 6, 7] [1, 6, 7] ?_
 refine W.seq ?_
 obtain ⟨y8, hy9, H⟩ := of_bindO H
 refine W.region env [] [⟨.tup [.int .i64 (y8.1), .int .i64 (y8.2)], [], 0, []⟩] rfl rfl rfl .nil (.free (c_fog_Foggy fuel y3 1 7 (⟨300, 705⟩ : Range) (1 + y5) 99 hy9) .nil) (At.keep (ts := [1, 3, 4, 5, 6, 7, 8, 9]) (ids := [1, 6, 7]) rfl rfl ?_)
 refine At.thenC ?_
 refine W.seq ?_
 obtain ⟨y10, hy11, H⟩ := of_bindO H
 refine W.region env [] [⟨.tup [.agg [.int .i64 (y10.1.Lo), .int .i64 (y10.1.Hi)], .int .i64 (y10.2)], [], 0, []⟩] rfl rfl rfl .nil (.free (c_fog_Worst fuel y3 1 7 (⟨300, 705⟩ : Range) 99 hy11) .nil) (At.keep (ts := [1, 3, 4, 5, 6, 7, 8, 9, 10, 11]) (ids := [1, 6, 7, 10]) rfl rfl ?_)
 refine At.thenC ?_
 refine W.seq ?_
 refine W.seq ?_
 obtain ⟨y12, hy13, H⟩ := of_bindO H
 refine W.region env [] [⟨.int .i64 (y12), [], 0, []⟩] rfl rfl rfl (.cons (fun h => h) (.cons (fun h => h) (.cons (fun h => by rw [h]; rfl) (.cons (fun h => h) (.cons (fun h => by rw [h]; rfl) (.cons (fun h => h) (.cons (fun h => by rw [h]; rfl) .nil))))))) (.on (fun hW => c_fog_Check y3 (of_true hy13 hW)) .nil) (At.keep (ts := [1, 4, 5, 6, 7, 8, 10, 78]) (ids := [1, 6, 7, 10]) rfl rfl ?_)
 refine At.thenC ?_
 refine W.cond rfl (fun hb14 => ?_) (fun hb14 => ?_)
 · have H := of_true H hb14
   refine W.rg env [2] [] ?_
   refine W.ret ?_
   refine At.rthen ?_
   cases H
   exact At.ret env.ty rfl rfl (fun q hq => by cases hq) (.refl _) hval
 · have H := of_false H hb14
   refine W.skip ?_
   refine At.thenC ?_
   refine W.rg env [1, 4, 5, 6, 7, 8, 10, 12] [1, 6, 7, 10] ?_
   refine W.seq ?_
   refine W.rg env [1, 4, 5, 6, 7, 8, 10, 12, 13] [1, 6, 7, 10] ?_
   refine W.block ?_
   refine At.keep (ts := [1, 4, 5, 6, 7, 8, 10, 12, 13]) (ids := [1, 6, 7, 10]) rfl rfl ?_
   refine W.loopGo H (fun (s15 : Int × Int) => [(1, .lp 1 0), (4, roL 9 enc_Report y3), (5, .int .i64 ((1 + y5))), (6, .lp 6 0), (7, .lp 7 0), (8, .int .i64 (y8.1)), (10, .lp 10 0), (12, .int .i64 (s15.1)), (13, .int .i64 (s15.2))]) (fun (s15 : Int × Int) => [(1, .cells [roL 1 enc_Int p0.Sights, roL 4 enc_Arr4Int p0.Reports, .int .i64 (p0.Law.x0), .int .i64 (p0.Law.x1), .int .i64 (p0.Law.x2), .int .i64 (p0.Limit)]), (6, .cells [.int .i64 (7), .int .i64 (300), .int .i64 (304), .int .i64 (700), .int .i64 (705), .int .i64 (0), .int .i64 (0), .int .i64 (0)]), (7, .cells [.int .i64 (300), .int .i64 (705)]), (10, .cells [.int .i64 (y10.1.Lo), .int .i64 (y10.1.Hi)])]) (.cons .q (.cons .q (.cons .qi (.cons .q (.cons .q (.cons .qi (.cons .q (.cons .qi (.cons .qi .nil))))))))) (.cons .q (.cons .q (.cons .q (.cons .q .nil)))) (fun k15 s15 H K0 hK15 => ?_)
   refine W.seq ?_
   refine W.rg env [1, 4, 5, 6, 7, 8, 10, 12, 13, 84] [1, 6, 7, 10] ?_
   refine W.cond rfl (fun hb16 => ?_) (fun hb16 => ?_)
   · have H := of_true H hb16
     refine W.skip ?_
     refine At.thenC ?_
     refine W.seq ?_
     refine W.block ?_
     refine W.seq ?_
     obtain ⟨y17, hy18, H⟩ := of_bindO H
     refine W.region env [] [⟨.int .i64 (y17), [], 0, []⟩] rfl rfl rfl .nil (.free (c_gasoliertop_sightOf p0 s15.2 hy18) .nil) (At.keep (ts := [1, 4, 5, 6, 7, 8, 10, 12, 13, 14]) (ids := [1, 6, 7, 10]) rfl rfl ?_)
     refine At.thenC ?_
     refine W.rg env [1, 4, 5, 6, 7, 8, 10, 12, 13, 14] [1, 6, 7, 10] ?_
     refine W.seq ?_
     obtain ⟨y19, hy20, H⟩ := of_bindO H
     refine W.region env [] [⟨.tup [.agg [.int .i64 (y19.1.Lo), .int .i64 (y19.1.Hi)], .int .i64 (y19.2)], [], 0, []⟩] rfl rfl rfl .nil (.free (c_fog_Sight fuel y3 1 7 s15.2 99 hy20) .nil) (At.keep (ts := [1, 4, 5, 6, 7, 8, 10, 12, 13, 14, 15, 16]) (ids := [1, 6, 7, 10, 15]) rfl rfl ?_)
     refine At.thenC ?_
     refine W.sr env [] [] [1, 4, 5, 6, 7, 8, 10, 12, 13, 112] [1, 6, 7, 10] rfl rfl rfl (.cons (fun h => h) (.cons (fun h => h) (.cons (fun h => h) (.cons (fun h => by rw [h]; rfl) (.cons (fun h => h) (.cons (fun h => h) (.cons (fun h => h) (.cons (fun h => by rw [h]; rfl) .nil)))))))) .nil ?_
     refine W.cond rfl (fun hb21 => ?_) (fun hb21 => ?_)
     · have H := of_true H hb21
       refine W.rg env [2] [] ?_
       refine W.ret ?_
       refine At.rinb ?_
       refine At.rthen ?_
       refine At.rthen ?_
       refine At.rinb ?_
       refine At.rthen ?_
       cases H
       exact At.ret env.ty rfl rfl (fun q hq => by cases hq) (.refl _) hval
     · have H := of_false H hb21
       refine W.skip ?_
       refine At.inb ?_
       refine At.thenC ?_
       obtain ⟨hc22, H⟩ := of_must H
       refine W.region env [] [] rfl rfl rfl (.cons hc22 .nil) .nil (At.keep (ts := [1, 4, 5, 6, 7, 8, 10, 12, 13]) (ids := [1, 6, 7, 10]) rfl rfl ?_)
       refine At.thenK (At.keep (ts := [1, 4, 5, 6, 7, 8, 10, 12, 13]) (ids := [1, 6, 7, 10]) rfl rfl ?_)
       exact At.conv (.cons .q (.cons .q (.cons .qi (.cons .q (.cons .q (.cons .qi (.cons .q (.cons .qi (.cons .qi .nil))))))))) (.cons .q (.cons .q (.cons .q (.cons .q .nil)))) (hK15 ((min s15.1 y17), (s15.2 + 1)) H)
   · have H := of_false H hb16
     refine W.exit ?_
     refine At.xthen ?_
     refine At.xthen ?_
     refine At.xhere ?_
     refine At.thenC ?_
     refine W.rg env [1, 4, 5, 6, 7, 8, 10, 12, 17] [1, 6, 7, 10] ?_
     refine W.seq ?_
     refine W.sr env [] [] [1, 4, 5, 6, 7, 8, 17, 140] [1, 6, 7] rfl rfl rfl (.cons (fun h => h) (.cons (fun h => h) (.cons (fun h => h) (.cons (fun h => h) (.cons (fun h => h) (.cons (fun hW h => by revert hW h; first | (simp +contextual; done) | grind) (.cons (fun h => by rw [h]; rfl) (.cons (fun h => h) (.cons (fun h => h) (.cons (fun h => h) (.cons (fun h => by rw [h]; rfl) (.cons (fun h => h) (.cons (fun h => h) (.cons (fun h => h) (.cons (fun h => by rw [h]; rfl) .nil))))))))))))))) .nil ?_
     refine W.cond rfl (fun hb23 => ?_) (fun hb23 => ?_)
     · have H := of_true H hb23
       refine W.rg env [2] [] ?_
       refine W.ret ?_
       refine At.rthen ?_
       cases H
       exact At.ret env.ty rfl rfl (fun q hq => by cases hq) (.refl _) hval
     · have H := of_false H hb23
       refine W.skip ?_
       refine At.thenC ?_
       refine W.rg env [1, 4, 5, 6, 7, 8, 17] [1, 6, 7] ?_
       refine W.seq ?_
       obtain ⟨y24, hy25, H⟩ := of_bindO H
       obtain ⟨hc26, H⟩ := of_must H
       obtain ⟨y27, hy28, H⟩ := of_bindO H
       obtain ⟨hc29, H⟩ := of_must H
       obtain ⟨y30, hy31, H⟩ := of_bindO H
       refine W.region env [] [⟨.int .i64 (y24), [], 0, []⟩, ⟨.int .i64 (y27), [], 0, []⟩, ⟨.int .i64 (y30), [], 0, []⟩] rfl rfl (by kernel_rfl) (.cons (by decide) (.cons hc26 (.cons (by decide) (.cons hc29 (.cons (by decide) .nil))))) (.free (c_gasolierref01_Mod p0.Law.x0 60 hy25) (.free (c_gasolierref01_Mod p0.Law.x1 2 hy28) (.free (c_gasolierref01_Mod p0.Law.x2 40 hy31) .nil))) (At.keep (ts := [1, 4, 5, 6, 7, 8, 17, 18]) (ids := [1, 6, 7, 18]) rfl rfl ?_)
       refine At.thenC ?_
       refine W.rg env [1, 4, 5, 6, 7, 8, 17, 19] [1, 6, 7, 19] ?_
       refine W.seq ?_
       obtain ⟨y32, hy33, H⟩ := of_bindO H
       obtain ⟨hc34, H⟩ := of_must H
       obtain ⟨y35, hy36, H⟩ := of_bindO H
       obtain ⟨hc37, H⟩ := of_must H
       refine W.region env [] [⟨.int .i64 (y32), [], 0, []⟩, ⟨.int .i64 (y35), [], 0, []⟩] rfl rfl (by kernel_rfl) (.cons (by decide) (.cons hc34 (.cons (by decide) (.cons hc37 .nil)))) (.free (c_gasolierref01_Mod p0.Law.x0 5 hy33) (.free (c_gasolierref01_Mod p0.Law.x2 6 hy36) .nil)) (At.keep (ts := [4, 5, 6, 7, 8, 19, 20]) (ids := [6, 7, 19, 20]) rfl rfl ?_)
       refine At.thenC ?_
       refine W.seq ?_
       obtain ⟨y38, hy39, H⟩ := of_bindO H
       refine W.region env [] [⟨.tup [.bool (y38.1), .int .i64 (y38.2)], [], 0, []⟩] rfl rfl rfl .nil (.free (Ctr.sim (.cons (Sim.aggL (.cons (Sim.lit (f := enc_Version) ([(⟨1, 1, 0, (⟨5, (10 + y24)⟩ : Range), (⟨5, 50⟩ : Range), (y27 * 1001), y30, 0, 0⟩ : Version)] : List Version) rfl rfl (fun _ => rfl)) (.cons (Sim.lit (f := enc_Street) ([(⟨1, 1, 1, 1, 1⟩ : Street)] : List Street) rfl rfl (fun _ => rfl)) .nil))) (.cons (.refl _) (.cons (.refl _) (.cons (.refl _) (.cons (.refl _) (.cons (.refl _) .nil)))))) (c_bylaw_True (⟨([(⟨1, 1, 0, (⟨5, (10 + y24)⟩ : Range), (⟨5, 50⟩ : Range), (y27 * 1001), y30, 0, 0⟩ : Version)] : List Version), ([(⟨1, 1, 1, 1, 1⟩ : Street)] : List Street)⟩ : Bylaw) 1 7 (⟨(300 + y32), (700 + y35), 0, (decide (s15.1 < (1 + y5)))⟩ : Truth) (⟨(-1), (-1)⟩ : Times) 9 hy39)) .nil) (At.keep (ts := [4, 5, 6, 7, 8, 19, 20, 21, 22]) (ids := [6, 7, 19, 20]) rfl rfl ?_)
       refine At.thenC ?_
       refine W.seq ?_
       obtain ⟨y40, hy41, H⟩ := of_bindO H
       refine W.region env [] [⟨.tup [.int .i64 (y40.1), .int .i64 (y40.2)], [], 0, []⟩] rfl rfl rfl .nil (.free (Ctr.sim (.cons (Sim.aggL (.cons (Sim.lit (f := enc_Version) ([(⟨1, 1, 0, (⟨5, (10 + y24)⟩ : Range), (⟨5, 50⟩ : Range), (y27 * 1001), y30, 0, 0⟩ : Version)] : List Version) rfl rfl (fun _ => rfl)) (.cons (Sim.lit (f := enc_Street) ([(⟨1, 1, 1, 1, 1⟩ : Street)] : List Street) rfl rfl (fun _ => rfl)) .nil))) (.cons (.refl _) (.cons (.refl _) (.cons (.refl _) .nil)))) (c_bylaw_Lit (⟨([(⟨1, 1, 0, (⟨5, (10 + y24)⟩ : Range), (⟨5, 50⟩ : Range), (y27 * 1001), y30, 0, 0⟩ : Version)] : List Version), ([(⟨1, 1, 1, 1, 1⟩ : Street)] : List Street)⟩ : Bylaw) 1 (⟨7, (⟨300, 304⟩ : Range), (⟨700, 705⟩ : Range), (⟨0, 0⟩ : Range), y8.1⟩ : Night) 9 hy41)) .nil) (At.keep (ts := [4, 5, 6, 7, 8, 19, 20, 21, 22, 23, 24]) (ids := [6, 7, 19, 20]) rfl rfl ?_)
       refine At.thenC ?_
       refine W.seq ?_
       refine W.sr env [] [] [4, 5, 6, 7, 8, 19, 20, 210] [6, 7, 19, 20] rfl rfl rfl (.cons (fun h => h) (.cons (fun h => by rw [h]; rfl) (.cons (fun h => h) (.cons (fun h => h) (.cons (fun h => h) (.cons (fun hW h => by revert hW h; first | (simp +contextual; done) | grind) (.cons (fun h => by rw [h]; rfl) (.cons (fun h => h) (.cons (fun h => h) (.cons (fun h => h) (.cons (fun h => h) (.cons (fun hW h => by revert hW h; first | (simp +contextual; done) | grind) (.cons (fun h => by rw [h]; rfl) .nil))))))))))))) .nil ?_
       refine W.cond rfl (fun hb42 => ?_) (fun hb42 => ?_)
       · have H := of_true H hb42
         refine W.rg env [2] [] ?_
         refine W.ret ?_
         refine At.rthen ?_
         cases H
         exact At.ret env.ty rfl rfl (fun q hq => by cases hq) (.refl _) hval
       · have H := of_false H hb42
         refine W.skip ?_
         refine At.thenC ?_
         refine W.seq ?_
         obtain ⟨y43, hy44, H⟩ := of_bindO H
         refine W.region env [] [⟨.tup [.agg [.int .i64 (y43.1.Lit), .int .i64 (y43.1.On.Lo), .int .i64 (y43.1.On.Hi), .int .i64 (y43.1.Off.Lo), .int .i64 (y43.1.Off.Hi)], .int .i64 (y43.2)], [], 0, []⟩] rfl rfl rfl .nil (.free (Ctr.sim (.cons (Sim.aggL (.cons (Sim.lit (f := enc_Version) ([(⟨1, 1, 0, (⟨5, (10 + y24)⟩ : Range), (⟨5, 50⟩ : Range), (y27 * 1001), y30, 0, 0⟩ : Version)] : List Version) rfl rfl (fun _ => rfl)) (.cons (Sim.lit (f := enc_Street) ([(⟨1, 1, 1, 1, 1⟩ : Street)] : List Street) rfl rfl (fun _ => rfl)) .nil))) (.cons (.refl _) (.cons (.refl _) (.cons (.refl _) .nil)))) (c_bylaw_Duty (⟨([(⟨1, 1, 0, (⟨5, (10 + y24)⟩ : Range), (⟨5, 50⟩ : Range), (y27 * 1001), y30, 0, 0⟩ : Version)] : List Version), ([(⟨1, 1, 1, 1, 1⟩ : Street)] : List Street)⟩ : Bylaw) 1 (⟨7, (⟨300, 304⟩ : Range), (⟨700, 705⟩ : Range), (⟨0, 0⟩ : Range), y8.1⟩ : Night) 9 hy44)) .nil) (At.keep (ts := [4, 5, 6, 7, 8, 19, 20, 25, 26]) (ids := [6, 7, 19, 20, 25]) rfl rfl ?_)
         refine At.thenC ?_
         refine W.seq ?_
         refine W.sr env [] [] [4, 5, 6, 7, 8, 19, 20, 25, 26, 223] [6, 7, 19, 20, 25] rfl rfl rfl (.cons (fun h => h) (.cons (fun h => h) (.cons (fun h => by rw [h]; rfl) .nil))) .nil ?_
         refine W.cond rfl (fun hb45 => ?_) (fun hb45 => ?_)
         · have H := of_true H hb45
           refine W.sr env [] [] [2] [] rfl rfl rfl (.cons (fun h => h) (.cons (fun h => by rw [h]; rfl) .nil)) .nil ?_
           refine W.ret ?_
           refine At.rthen ?_
           cases H
           exact At.ret env.ty rfl rfl (fun q hq => by cases hq) (.refl _) hval
         · have H := of_false H hb45
           refine W.skip ?_
           refine At.thenC ?_
           refine W.seq ?_
           obtain ⟨y46, hy47, H⟩ := of_bindO H
           refine W.region env [] [⟨.tup [.bool (y46.1), .int .i64 (y46.2)], [], 0, []⟩] rfl rfl rfl .nil (.free (Ctr.sim (.cons (Sim.aggL (.cons (Sim.lit (f := enc_Version) ([(⟨1, 1, 0, (⟨5, (10 + y24)⟩ : Range), (⟨5, 50⟩ : Range), (y27 * 1001), y30, 0, 0⟩ : Version)] : List Version) rfl rfl (fun _ => rfl)) (.cons (Sim.lit (f := enc_Street) ([(⟨1, 1, 1, 1, 1⟩ : Street)] : List Street) rfl rfl (fun _ => rfl)) .nil))) (.cons (.refl _) (.cons (.refl _) (.cons (.refl _) (.cons (.refl _) (.cons (.refl _) .nil)))))) (c_bylaw_True (⟨([(⟨1, 1, 0, (⟨5, (10 + y24)⟩ : Range), (⟨5, 50⟩ : Range), (y27 * 1001), y30, 0, 0⟩ : Version)] : List Version), ([(⟨1, 1, 1, 1, 1⟩ : Street)] : List Street)⟩ : Bylaw) 1 7 (⟨(300 + y32), (700 + y35), 0, (decide (s15.1 < (1 + y5)))⟩ : Truth) (⟨y43.1.On.Hi, y43.1.Off.Lo⟩ : Times) 9 hy47)) .nil) (At.keep (ts := [4, 5, 6, 7, 8, 19, 25, 27, 28]) (ids := [6, 7, 19, 25]) rfl rfl ?_)
           refine At.thenC ?_
           refine W.seq ?_
           refine W.sr env [] [] [4, 5, 6, 7, 8, 19, 25, 248] [6, 7, 19, 25] rfl rfl rfl (.cons (fun h => h) (.cons (fun h => by rw [h]; rfl) .nil)) .nil ?_
           refine W.cond rfl (fun hb48 => ?_) (fun hb48 => ?_)
           · have H := of_true H hb48
             refine W.rg env [2] [] ?_
             refine W.ret ?_
             refine At.rthen ?_
             cases H
             exact At.ret env.ty rfl rfl (fun q hq => by cases hq) (.refl _) hval
           · have H := of_false H hb48
             refine W.skip ?_
             refine At.thenC ?_
             refine W.seq ?_
             refine W.rg env [4, 5, 6, 7, 8, 19, 25, 251] [6, 7, 19, 25] ?_
             refine W.cond rfl (fun hb49 => ?_) (fun hb49 => ?_)
             · have H := of_true H hb49
               refine W.rg env [2] [] ?_
               refine W.ret ?_
               refine At.rthen ?_
               cases H
               exact At.ret env.ty rfl rfl (fun q hq => by cases hq) (.refl _) hval
             · have H := of_false H hb49
               refine W.skip ?_
               refine At.thenC ?_
               refine W.seq ?_
               obtain ⟨hc50, H⟩ := of_must H
               obtain ⟨y51, hy52, H⟩ := of_bindO H
               refine W.region env [] [⟨.tup [.int .i64 (y51.1), .int .i64 (y51.2)], [], 0, []⟩] rfl rfl (by kernel_rfl) (.cons hc50 .nil) (.free (Ctr.sim (.cons (Sim.seg (Seg.drop enc_Report y3 1)) (.cons (.refl _) (.cons (.refl _) (.cons (.refl _) (.cons (.refl _) (.cons (.refl _) .nil)))))) (c_fog_Foggy fuel (y3.drop 1) 1 7 (⟨300, 705⟩ : Range) (1 + y5) 99 hy52)) .nil) (At.keep (ts := [6, 8, 19, 25, 29, 30]) (ids := [6, 19, 25]) rfl rfl ?_)
               refine At.thenC ?_
               refine W.rg env [8, 19, 25, 29, 30, 31] [19, 25, 31] ?_
               refine W.rg env [8, 19, 25, 29, 30, 31] [19, 25, 31] ?_
               refine W.seq ?_
               obtain ⟨y53, hy54, H⟩ := of_bindO H
               refine W.region env [] [⟨.tup [.agg [.int .i64 (y53.1.Lo), .int .i64 (y53.1.Hi)], .int .i64 (y53.2)], [], 0, []⟩] rfl rfl rfl .nil (.free (Ctr.sim (.cons (Sim.aggL (.cons (Sim.lit (f := enc_Version) ([(⟨1, 1, 0, (⟨5, (10 + y24)⟩ : Range), (⟨5, 50⟩ : Range), (y27 * 1001), y30, 0, 0⟩ : Version)] : List Version) rfl rfl (fun _ => rfl)) (.cons (Sim.lit (f := enc_Street) ([(⟨1, 1, 1, 1, 1⟩ : Street)] : List Street) rfl rfl (fun _ => rfl)) .nil))) (.cons (.refl _) (.cons (.refl _) (.cons (.refl _) .nil)))) (c_bylaw_On (⟨([(⟨1, 1, 0, (⟨5, (10 + y24)⟩ : Range), (⟨5, 50⟩ : Range), (y27 * 1001), y30, 0, 0⟩ : Version)] : List Version), ([(⟨1, 1, 1, 1, 1⟩ : Street)] : List Street)⟩ : Bylaw) 1 (⟨7, (⟨300, 304⟩ : Range), (⟨700, 705⟩ : Range), (⟨0, 0⟩ : Range), y51.1⟩ : Night) 9 hy54)) .nil) (At.keep (ts := [8, 25, 29, 30, 32, 33]) (ids := [25, 32]) rfl rfl ?_)
               refine At.thenC ?_
               refine W.seq ?_
               refine W.sr env [] [] [25, 32, 33, 279] [25, 32] rfl rfl rfl (.cons (fun h => h) (.cons (fun h => h) (.cons (fun h => h) (.cons (fun h => h) (.cons (fun h => h) (.cons (fun hW h => by revert hW h; first | (simp +contextual; done) | grind) (.cons (fun h => by rw [h]; rfl) .nil))))))) .nil ?_
               refine W.cond rfl (fun hb55 => ?_) (fun hb55 => ?_)
               · have H := of_true H hb55
                 refine W.rg env [2] [] ?_
                 refine W.ret ?_
                 refine At.rthen ?_
                 cases H
                 exact At.ret env.ty rfl rfl (fun q hq => by cases hq) (.refl _) hval
               · have H := of_false H hb55
                 refine W.skip ?_
                 refine At.thenC ?_
                 refine W.sr env [] [] [2] [] rfl rfl rfl (.cons (fun h => h) (.cons (fun h => h) (.cons (fun h => h) (.cons (fun h => h) (.cons (fun h => h) (.cons (fun h => h) (.cons (fun h => h) (.cons (fun h => h) (.cons (fun h => h) (.cons (fun h => h) (.cons (fun h => h) (.cons (fun h => h) (.cons (fun h => h) (.cons (fun h => by rw [h]; rfl) .nil)))))))))))))) .nil ?_
                 refine W.ret ?_
                 cases H
                 exact At.ret env.ty rfl rfl (fun q hq => by cases hq) (.refl _) hval
end Go.Sp
