/- Printed by gen.py. -/
import Derived.Test.YtoekhnngdocddaaFr4
import Derived.Test.YtoekhnngdocddaaFr3
import Derived.Test.YtoekhnngdocddaaProg
import Derived.KernelRfl
set_option linter.all false
set_option maxRecDepth 100000
set_option maxHeartbeats 1000000
set_option linter.unusedVariables false
namespace Go.Sp
open Go Go.Av Go.Proofs
def enc_Int (x : Int) : List AV := [.int .i64 (x)]
def enc_Bool (x : Bool) : List AV := [.bool (x)]
def enc_Send (x : Send) : List AV := [.int .i64 (x.District), .int .i64 (x.Many)]
def enc_Node (x : Node) : List AV := [.bool (x.Test), .int .i64 (x.District), .int .i64 (x.Minute), .int .i64 (x.Limit), .int .i64 (x.Yes), .int .i64 (x.No), .int .i64 (x.Maybe), roL 2 enc_Send x.Sends]
def enc_Report (x : Report) : List AV := [.int .i64 (x.Source), .int .i64 (x.District), .int .i64 (x.Night), .int .i64 (x.From), .int .i64 (x.To), .int .i64 (x.Sight.Lo), .int .i64 (x.Sight.Hi), .int .i64 (x.Known), .int .i64 (x.Until)]
def enc_Arr4Int (x : (Arr4 Int)) : List AV := [.int .i64 (x.x0), .int .i64 (x.x1), .int .i64 (x.x2), .int .i64 (x.x3)]
def enc_Runner (x : Runner) : List AV := [.int .i64 (x.Id), roL 1 enc_Int x.Districts]
def tids : List Nat := [3, 4, 23, 25, 27, 28, 30, 35, 37, 40, 42, 53, 76, 79, 93, 95, 98, 104, 108, 124, 130, 132, 134, 135, 145, 148, 149, 151, 158]
def Γ : Tys := [(3, ⟨.int .i64, [.int .i64 0], 1, 8⟩),
 (4, ⟨.bool, [.bool false], 1, 1⟩),
 (23, ⟨.slice 76, [.slice none 0 0], 1, 24⟩),
 (25, ⟨.slice 42, [.slice none 0 0], 1, 24⟩),
 (27, ⟨.slice 3, [.slice none 0 0], 1, 24⟩),
 (28, ⟨.slice 37, [.slice none 0 0], 1, 24⟩),
 (30, ⟨.int .i64, [.int .i64 0], 1, 8⟩),
 (35, ⟨.slice 124, [.slice none 0 0], 1, 24⟩),
 (37, ⟨.struct [(0, 4), (1, 3), (2, 3), (3, 3), (4, 3), (5, 3), (6, 3), (7, 35)], [.bool false, .int .i64 0, .int .i64 0, .int .i64 0, .int .i64 0, .int .i64 0, .int .i64 0, .slice none 0 0], 8, 80⟩),
 (40, ⟨.struct [(0, 3), (1, 3)], [.int .i64 0, .int .i64 0], 2, 16⟩),
 (42, ⟨.struct [(0, 3), (1, 3), (2, 3), (3, 3), (4, 3), (5, 40), (7, 3), (8, 3)], [.int .i64 0, .int .i64 0, .int .i64 0, .int .i64 0, .int .i64 0, .int .i64 0, .int .i64 0, .int .i64 0, .int .i64 0], 9, 72⟩),
 (53, ⟨.slice 93, [.slice none 0 0], 1, 24⟩),
 (76, ⟨.array 4 3, [.int .i64 0, .int .i64 0, .int .i64 0, .int .i64 0], 4, 32⟩),
 (79, ⟨.struct [(0, 3), (1, 27), (2, 27)], [.int .i64 0, .slice none 0 0, .slice none 0 0], 3, 56⟩),
 (93, ⟨.struct [(0, 3), (1, 27)], [.int .i64 0, .slice none 0 0], 2, 32⟩),
 (95, ⟨.func, [.nilFunc], 1, 8⟩),
 (98, ⟨.slice 42, [.slice none 0 0], 1, 24⟩),
 (104, ⟨.func, [.nilFunc], 1, 8⟩),
 (108, ⟨.struct [(0, 3), (1, 3), (2, 3), (3, 3), (4, 40), (6, 3)], [.int .i64 0, .int .i64 0, .int .i64 0, .int .i64 0, .int .i64 0, .int .i64 0, .int .i64 0], 7, 56⟩),
 (124, ⟨.struct [(0, 3), (1, 3)], [.int .i64 0, .int .i64 0], 2, 16⟩),
 (130, ⟨.map 3 4, [.map none], 1, 8⟩),
 (132, ⟨.func, [.nilFunc], 1, 8⟩),
 (134, ⟨.func, [.nilFunc], 1, 8⟩),
 (135, ⟨.map 3 3, [.map none], 1, 8⟩),
 (145, ⟨.func, [.nilFunc], 1, 8⟩),
 (148, ⟨.ptr 151, [.pointer none], 1, 8⟩),
 (149, ⟨.slice 4, [.slice none 0 0], 1, 24⟩),
 (151, ⟨.struct [(0, 53), (1, 27), (2, 27), (3, 149)], [.slice none 0 0, .slice none 0 0, .slice none 0 0, .slice none 0 0], 4, 96⟩),
 (158, ⟨.int .u64, [.int .u64 0], 1, 8⟩)]
theorem Γ_ok : mkTys Try.prog tids = some Γ := by kernel_rfl
theorem env : Env Try.prog Γ := ⟨mkTys_sound Γ_ok, by decide +kernel, by kernel_rfl⟩
def sort_ren : Go.Shelf.Ren where
 f := fun x => match x with
   | 189 => 93
   | 125 => 109
   | 257 => 108
   | 128 => 124
   | 129 => 125
   | 294 => 115
   | 295 => 116
   | 296 => 117
   | 297 => 118
   | 298 => 119
   | 299 => 120
   | 216 => 121
   | 300 => 122
   | 301 => 123
   | 328 => 126
   | 329 => 127
   | 330 => 128
   | 331 => 129
   | 332 => 130
   | 215 => 114
   | 343 => 131
   | n => n
 t := fun x => match x with
   | 28 => 27
   | 3 => 3
   | 46 => 158
   | 0 => 0
   | 51 => 171
   | 53 => 173
   | 4 => 4
   | 183 => 164
   | 182 => 163
   | 131 => 168
   | 5 => 5
   | 9 => 9
   | 218 => 174
   | 222 => 178
   | 228 => 180
   | 229 => 181
   | n => n
 g := fun x => x
theorem sort_lays : Go.Proofs.Lays.n189 Try.prog sort_ren :=
 {
   mixed := by kernel_rfl,
   f125 := Try.func109.trans (congrArg some (by kernel_rfl)),
   f128 := Try.func124.trans (congrArg some (by kernel_rfl)),
   f129 := Try.func125.trans (congrArg some (by kernel_rfl)),
   f189 := Try.func93.trans (congrArg some (by kernel_rfl)),
   f215 := Try.func114.trans (congrArg some (by kernel_rfl)),
   f216 := Try.func121.trans (congrArg some (by kernel_rfl)),
   f257 := Try.func108.trans (congrArg some (by kernel_rfl)),
   f294 := Try.func115.trans (congrArg some (by kernel_rfl)),
   f295 := Try.func116.trans (congrArg some (by kernel_rfl)),
   f296 := Try.func117.trans (congrArg some (by kernel_rfl)),
   f297 := Try.func118.trans (congrArg some (by kernel_rfl)),
   f298 := Try.func119.trans (congrArg some (by kernel_rfl)),
   f299 := Try.func120.trans (congrArg some (by kernel_rfl)),
   f300 := Try.func122.trans (congrArg some (by kernel_rfl)),
   f301 := Try.func123.trans (congrArg some (by kernel_rfl)),
   f328 := Try.func126.trans (congrArg some (by kernel_rfl)),
   f329 := Try.func127.trans (congrArg some (by kernel_rfl)),
   f330 := Try.func128.trans (congrArg some (by kernel_rfl)),
   f331 := Try.func129.trans (congrArg some (by kernel_rfl)),
   f332 := Try.func130.trans (congrArg some (by kernel_rfl)),
   f343 := Try.func131.trans (congrArg some (by kernel_rfl)),
   t0 := Try.underlying0,
   a0 := Try.isAgg0,
   z0 := Try.sizeOf0,
   v0 := Try.zeroValue0,
   t3 := Try.underlying3,
   a3 := Try.isAgg3,
   z3 := Try.sizeOf3,
   v3 := Try.zeroValue3,
   t4 := Try.underlying4,
   a4 := Try.isAgg4,
   z4 := Try.sizeOf4,
   v4 := Try.zeroValue4,
   t5 := Try.underlying5,
   a5 := Try.isAgg5,
   z5 := Try.sizeOf5,
   v5 := Try.zeroValue5,
   t9 := Try.underlying9,
   a9 := Try.isAgg9,
   z9 := Try.sizeOf9,
   v9 := Try.zeroValue9,
   t28 := Try.underlying27,
   a28 := Try.isAgg27,
   z28 := Try.sizeOf27,
   v28 := Try.zeroValue27,
   t46 := Try.underlying158,
   a46 := Try.isAgg158,
   z46 := Try.sizeOf158,
   v46 := Try.zeroValue158,
   t51 := Try.underlying171,
   a51 := Try.isAgg171,
   z51 := Try.sizeOf171,
   v51 := Try.zeroValue171,
   t53 := Try.underlying173,
   a53 := Try.isAgg173,
   z53 := Try.sizeOf173,
   v53 := Try.zeroValue173,
   t131 := Try.underlying168,
   a131 := Try.isAgg168,
   z131 := Try.sizeOf168,
   v131 := Try.zeroValue168,
   t182 := Try.underlying163,
   a182 := Try.isAgg163,
   z182 := Try.sizeOf163,
   v182 := Try.zeroValue163,
   t183 := Try.underlying164,
   a183 := Try.isAgg164,
   z183 := Try.sizeOf164,
   v183 := Try.zeroValue164,
   t218 := Try.underlying174,
   a218 := Try.isAgg174,
   z218 := Try.sizeOf174,
   v218 := Try.zeroValue174,
   t222 := Try.underlying178,
   a222 := Try.isAgg178,
   z222 := Try.sizeOf178,
   v222 := Try.zeroValue178,
   t228 := Try.underlying180,
   a228 := Try.isAgg180,
   z228 := Try.sizeOf180,
   v228 := Try.zeroValue180,
   t229 := Try.underlying181,
   a229 := Try.isAgg181,
   z229 := Try.sizeOf181,
   v229 := Try.zeroValue181 }
theorem c_gasolierref05_Mod (p0 : Int) (p1 : Int) {r : Int} (H : gasolierref05_Mod p0 p1 = some r) : Ctr Try.prog 14 [.int .i64 (p0), .int .i64 (p1)] (.int .i64 (r)) := by
 unfold gasolierref05_Mod at H
 refine Ctr.of_body (N := 12) Try.func14 (by kernel_rfl) (c := _) rfl Try.ntmps14 rfl (fun w0 h0 hval => ?_)
 refine W.rg env [0, 1] [] ?_
 obtain ⟨hc1, H⟩ := of_must H
 obtain ⟨hc2, H⟩ := of_must H
 obtain ⟨hc3, H⟩ := of_must H
 refine W.sr env [] [] [4] [] rfl rfl rfl (.cons hc1 (.cons hc2 (.cons hc3 .nil))) .nil ?_
 refine W.ret ?_
 cases H
 exact At.ret env.ty rfl rfl (fun q hq => by cases hq) (.refl _) hval
theorem c_gasolierref05_leaf (p0 : (Arr4 Int)) {r : Node} (H : gasolierref05_leaf p0 = some r) : Ctr Try.prog 40 [.agg [.int .i64 (p0.x0), .int .i64 (p0.x1), .int .i64 (p0.x2), .int .i64 (p0.x3)]] (.agg [.bool (r.Test), .int .i64 (r.District), .int .i64 (r.Minute), .int .i64 (r.Limit), .int .i64 (r.Yes), .int .i64 (r.No), .int .i64 (r.Maybe), roL 2 enc_Send r.Sends]) := by
 unfold gasolierref05_leaf at H
 refine Ctr.of_body (N := 41) Try.func40 (by kernel_rfl) (c := _) rfl Try.ntmps40 rfl (fun w0 h0 hval => ?_)
 refine W.rg env [1, 2] [1, 2] ?_
 refine W.rg env [1, 2, 3] [1, 2, 3] ?_
 refine W.seq ?_
 refine W.sr env [] [] [1, 2, 3, 7] [1, 2, 3] rfl rfl rfl (.cons (by decide) (.cons (by decide) .nil)) .nil ?_
 refine At.nilOwnCell 3 7 757 124 2 (e := fun i => enc_Send (([] : List Send).getD i default)) rfl rfl rfl ?_
 refine W.joinC H (fun (s1 : (List Send)) => [(1, .lp 1 0), (2, .lp 2 0), (3, .lp 3 0)]) (fun (s1 : (List Send)) => [(1, .cells [.int .i64 (p0.x0), .int .i64 (p0.x1), .int .i64 (p0.x2), .int .i64 (p0.x3)]), (2, .cells [.bool (false), .int .i64 (0), .int .i64 (0), .int .i64 (0), .int .i64 (0), .int .i64 (0), .int .i64 (0), .nilS]), (3, .cells [.bool (false), .int .i64 (0), .int .i64 (0), .int .i64 (0), .int .i64 (0), .int .i64 (0), .int .i64 (0), .buf 757 (s1).length]), (757, bufL 124 2 enc_Send s1)]) (fun s1 H => ?_) (fun k1 H hK1 => ?_)
 · refine W.seq ?_
   refine W.sr env [] [] [1, 2, 3, 25] [1, 2, 3, 757] rfl rfl rfl (.cons (by decide) (.cons (by decide) .nil)) .nil ?_
   refine W.joinC H (fun (s2 : (List Send)) => [(2, .lp 2 0), (3, .lp 3 0)]) (fun (s2 : (List Send)) => [(2, .cells [.bool (false), .int .i64 (0), .int .i64 (0), .int .i64 (0), .int .i64 (0), .int .i64 (0), .int .i64 (0), .nilS]), (3, .cells [.bool (false), .int .i64 (0), .int .i64 (0), .int .i64 (0), .int .i64 (0), .int .i64 (0), .int .i64 (0), .buf 757 (s2).length]), (757, bufL 124 2 enc_Send s2)]) (fun s2 H => ?_) (fun k2 H hK2 => ?_)
   · refine W.rg env [2] [2, 757] ?_
     refine W.ret ?_
     cases H
     exact At.ret env.ty rfl rfl (fun q hq => by cases hq; exact (by first | rfl | (simp; done) | omega | (simp; omega))) (.refl _) hval
   · refine W.cond rfl (fun hb3 => ?_) (fun hb3 => ?_)
     · have H := of_true H hb3
       obtain ⟨y4, hy5, H⟩ := of_bindO H
       obtain ⟨hc6, H⟩ := of_must H
       obtain ⟨y7, hy8, H⟩ := of_bindO H
       obtain ⟨hc9, H⟩ := of_must H
       obtain ⟨hc10, H⟩ := of_must H
       refine W.region env [] [⟨.int .i64 (y4), [], 0, []⟩, ⟨.int .i64 (y7), [], 0, []⟩] rfl rfl (by kernel_rfl) (.cons (by decide) (.cons hc6 (.cons (by decide) (.cons hc9 (.cons (⟨by first | rfl | (simp; done) | omega | (simp; omega), by have := hc10; first | simpa using this | (unfold room at this ⊢; simp at this ⊢; omega)⟩) .nil))))) (.free (c_gasolierref05_Mod p0.x1 2 hy5) (.free (c_gasolierref05_Mod p0.x3 3 hy8) .nil)) (At.keep (ts := [2, 3]) (ids := [2, 3, 757]) rfl rfl ?_)
       refine At.convM (.cons (.refl _) (.cons (.refl _) (.cons (y := bufL 124 2 enc_Send (s1 ++ ([(⟨(3 + y4), (1 + y7)⟩ : Send)] : List Send))) (BSim.seg (Seg.push (Seg.refl enc_Send _) (Seg.lit (f := enc_Send) (sz := 2) ([(⟨(3 + y4), (1 + y7)⟩ : Send)] : List Send) rfl rfl (fun _ => rfl)))) .nil))) ?_
       refine At.thenK (At.keep (ts := [2, 3]) (ids := [2, 3, 757]) rfl rfl ?_)
       exact At.conv (.cons .q (.cons .q .nil)) (.cons .q (.cons (BSim.cells (.cons .q (.cons .q (.cons .q (.cons .q (.cons .q (.cons .q (.cons .q (.cons .qc .nil))))))))) (.cons .q .nil))) (hK2 (s1 ++ ([(⟨(3 + y4), (1 + y7)⟩ : Send)] : List Send)) H)
     · have H := of_false H hb3
       refine W.skip ?_
       refine At.thenK (At.keep (ts := [2, 3]) (ids := [2, 3, 757]) rfl rfl ?_)
       exact At.conv (.cons .q (.cons .q .nil)) (.cons .q (.cons (BSim.cells (.cons .q (.cons .q (.cons .q (.cons .q (.cons .q (.cons .q (.cons .q (.cons .qc .nil))))))))) (.cons .q .nil))) (hK2 s1 H)
 · refine W.cond rfl (fun hb11 => ?_) (fun hb11 => ?_)
   · have H := of_true H hb11
     obtain ⟨y12, hy13, H⟩ := of_bindO H
     obtain ⟨hc14, H⟩ := of_must H
     obtain ⟨y15, hy16, H⟩ := of_bindO H
     obtain ⟨hc17, H⟩ := of_must H
     obtain ⟨hc18, H⟩ := of_must H
     refine W.region env [] [⟨.int .i64 (y12), [], 0, []⟩, ⟨.int .i64 (y15), [], 0, []⟩] rfl rfl (by kernel_rfl) (.cons (by decide) (.cons hc14 (.cons (by decide) (.cons hc17 (.cons (⟨by first | rfl | (simp; done) | omega | (simp; omega), by have := hc18; first | simpa using this | (unfold room at this ⊢; simp at this ⊢; omega)⟩) .nil))))) (.free (c_gasolierref05_Mod p0.x1 2 hy13) (.free (c_gasolierref05_Mod p0.x2 3 hy16) .nil)) (At.keep (ts := [1, 2, 3]) (ids := [1, 2, 3, 757]) rfl rfl ?_)
     refine At.convM (.cons (.refl _) (.cons (.refl _) (.cons (.refl _) (.cons (y := bufL 124 2 enc_Send (([] : List Send) ++ ([(⟨(1 + y12), (1 + y15)⟩ : Send)] : List Send))) (BSim.seg (Seg.push (Seg.refl enc_Send ([] : List Send)) (Seg.lit (f := enc_Send) (sz := 2) ([(⟨(1 + y12), (1 + y15)⟩ : Send)] : List Send) rfl rfl (fun _ => rfl)))) .nil)))) ?_
     refine At.thenK (At.keep (ts := [1, 2, 3]) (ids := [1, 2, 3, 757]) rfl rfl ?_)
     exact At.conv (.cons .q (.cons .q (.cons .q .nil))) (.cons .q (.cons .q (.cons (BSim.cells (.cons .q (.cons .q (.cons .q (.cons .q (.cons .q (.cons .q (.cons .q (.cons .qc .nil))))))))) (.cons .q .nil)))) (hK1 (([] : List Send) ++ ([(⟨(1 + y12), (1 + y15)⟩ : Send)] : List Send)) H)
   · have H := of_false H hb11
     refine W.skip ?_
     refine At.thenK (At.keep (ts := [1, 2, 3]) (ids := [1, 2, 3, 757]) rfl rfl ?_)
     exact At.conv (.cons .q (.cons .q (.cons .q .nil))) (.cons .q (.cons .q (.cons (BSim.cells (.cons .q (.cons .q (.cons .q (.cons .q (.cons .q (.cons .q (.cons .q (.cons .qc .nil))))))))) (.cons .q .nil)))) (hK1 ([] : List Send) H)
theorem c_gasolierref05_Policy (fuel : Nat) (p0 : (List (Arr4 Int))) {r : (List Node)} (H : gasolierref05_Policy fuel p0 = some r) : Ctr Try.prog 11 [roL 4 enc_Arr4Int p0] (roL 8 enc_Node r) := by
 unfold gasolierref05_Policy at H
 refine Ctr.of_body (N := 94) Try.func11 (by kernel_rfl) (c := _) rfl Try.ntmps11 rfl (fun w0 h0 hval => ?_)
 refine W.rg env [0] [] ?_
 refine W.seq ?_
 refine W.rg env [0, 12] [] ?_
 refine W.cond rfl (fun hb1 => ?_) (fun hb1 => ?_)
 · have H := of_true H hb1
   refine W.seq ?_
   obtain ⟨y2, hy3, H⟩ := of_bindO H
   refine W.region env [] [⟨.agg [.bool (y2.Test), .int .i64 (y2.District), .int .i64 (y2.Minute), .int .i64 (y2.Limit), .int .i64 (y2.Yes), .int .i64 (y2.No), .int .i64 (y2.Maybe), roL 2 enc_Send y2.Sends], [], 0, []⟩] rfl rfl rfl .nil (.free (c_gasolierref05_leaf (⟨1, 0, 0, 0⟩ : (Arr4 Int)) hy3) .nil) (At.keep (ts := [2]) (ids := []) rfl rfl ?_)
   refine At.slot (t := 2) (v := roL 8 enc_Node ([y2] : List Node)) (Sim.lit (f := enc_Node) ([y2] : List Node) rfl rfl (fun _ => rfl)) ?_
   refine At.thenC ?_
   refine W.ret ?_
   refine At.rthen ?_
   cases H
   exact At.ret env.ty rfl rfl (fun q hq => by cases hq) (.refl _) hval
 · have H := of_false H hb1
   refine W.skip ?_
   refine At.thenC ?_
   refine W.seq ?_
   refine W.region env [17] [] rfl rfl rfl .nil .nil (At.keep (ts := [0, 3]) (ids := [17]) rfl rfl ?_)
   refine At.convM (.cons (y := bufL 37 8 enc_Node ([(⟨false, 0, 0, 0, 0, 0, 0, []⟩ : Node)] : List Node)) (BSim.litS (f := enc_Node) (sz := 8) ([(⟨false, 0, 0, 0, 0, 0, 0, []⟩ : Node)] : List Node) (.cons (.refl _) (.cons (.refl _) (.cons (.refl _) (.cons (.refl _) (.cons (.refl _) (.cons (.refl _) (.cons (.refl _) (.cons (Sim.nil _ _) .nil)))))))) rfl rfl (fun _ => rfl)) .nil) ?_
   refine At.thenC ?_
   refine W.rg env [0, 3, 4] [17] ?_
   refine W.seq ?_
   refine W.rg env [0, 3, 4, 5] [17] ?_
   refine W.block ?_
   refine At.keep (ts := [0, 3, 4, 5]) (ids := [17]) rfl rfl ?_
   refine W.loopGo H (fun (s4 : Int × Int × (List Node)) => [(0, roL 4 enc_Arr4Int p0), (3, .buf 17 (s4.2.2).length), (4, .int .i64 (s4.1)), (5, .int .i64 (s4.2.1))]) (fun (s4 : Int × Int × (List Node)) => [(17, bufL 37 8 enc_Node s4.2.2)]) (.cons .q (.cons .qb (.cons .qi (.cons .qi .nil)))) (.cons .q .nil) (fun k4 s4 H K0 hK4 => ?_)
   refine W.seq ?_
   refine W.sr env [] [] [0, 3, 4, 5, 21] [17] rfl rfl rfl (.cons (by first | rfl | (simp; done) | omega | (simp; omega)) .nil) .nil ?_
   refine W.cond rfl (fun hb5 => ?_) (fun hb5 => ?_)
   · have H := of_true H hb5
     refine W.skip ?_
     refine At.thenC ?_
     refine W.seq ?_
     refine W.block ?_
     refine W.seq ?_
     obtain ⟨y6, hy7, H⟩ := of_bindO H
     obtain ⟨hc8, H⟩ := of_must H
     refine W.region env [] [⟨.int .i64 (y6), [], 0, []⟩] rfl rfl rfl (.cons hc8 .nil) (.free (c_gasolierref05_Mod s4.2.1 ((p0.length : Nat) : Int) hy7) .nil) (At.keep (ts := [0, 3, 4, 5, 6]) (ids := [6, 17]) rfl rfl ?_)
     refine At.thenC ?_
     obtain ⟨hc9, H⟩ := of_must H
     refine W.sr env [] [] [0, 3, 4, 5, 6, 7] [6, 17] rfl rfl rfl (.cons (⟨by first | rfl | (simp; done) | omega | (simp; omega), hc9⟩) (.cons (⟨by first | rfl | (simp; done) | omega | (simp; omega), (by have := hc9; first | omega | (simp only [List.length_set]; omega) | (simp only [Int.toNat_natCast] at *; omega) | (simp at this ⊢; omega))⟩) .nil)) .nil ?_
     refine W.seq ?_
     refine W.sr env [] [] [0, 3, 4, 5, 6, 7, 47] [6, 17] rfl rfl rfl (.cons (fun h => h) (.cons (fun h => h) (.cons (fun _ => by decide) (.cons (fun h => h) (.cons (fun _ => (by decide)) (.cons (fun h => h) (.cons (fun h => h) (.cons (fun h => h) (.cons (fun hW h => by revert hW h; first | (simp +contextual; done) | grind) (.cons (fun h => h) .nil)))))))))) .nil ?_
     refine W.cond rfl (fun hb10 => ?_) (fun hb10 => ?_)
     · have H := of_true H hb10
       obtain ⟨hc11, H⟩ := of_must H
       refine W.sr env [] [] [0, 3, 4, 5, 6, 7] [6, 17] rfl rfl rfl (.cons hc11 .nil) .nil ?_
       refine W.sr env [] [] [0, 3, 4, 5, 6, 7, 8] [6, 17] rfl rfl rfl (.cons (by first | rfl | (simp; done) | omega | (simp; omega)) .nil) .nil ?_
       refine W.seq ?_
       obtain ⟨y12, hy13, H⟩ := of_bindO H
       obtain ⟨hc14, H⟩ := of_must H
       obtain ⟨y15, hy16, H⟩ := of_bindO H
       obtain ⟨hc17, H⟩ := of_must H
       obtain ⟨y18, hy19, H⟩ := of_bindO H
       obtain ⟨hc20, H⟩ := of_must H
       obtain ⟨hc21, H⟩ := of_must H
       obtain ⟨hc22, H⟩ := of_must H
       obtain ⟨hc23, H⟩ := of_must H
       refine W.region env [] [⟨.int .i64 (y12), [], 0, []⟩, ⟨.int .i64 (y15), [], 0, []⟩, ⟨.int .i64 (y18), [], 0, []⟩] rfl rfl (by kernel_rfl) (.cons (by decide) (.cons hc14 (.cons (by decide) (.cons hc17 (.cons (by decide) (.cons hc20 (.cons hc21 (.cons hc22 (.cons (⟨by first | rfl | (simp; done) | omega | (simp; omega), hc23⟩) (.cons (⟨by first | rfl | (simp; done) | omega | (simp; omega), (by have := hc23; first | omega | (simp only [List.length_set]; omega) | (simp only [Int.toNat_natCast] at *; omega) | (simp at this ⊢; omega))⟩) .nil)))))))))) (.free (c_gasolierref05_Mod ((p0.getD (y6).toNat default).x1) 3 hy13) (.free (c_gasolierref05_Mod ((p0.getD (y6).toNat default).x2) 300 hy16) (.free (c_gasolierref05_Mod ((p0.getD (y6).toNat default).x3) 900 hy19) .nil))) (At.keep (ts := [0, 3, 4, 5]) (ids := [17]) rfl rfl ?_)
       refine At.convM (.cons (y := bufL 37 8 enc_Node (s4.2.2.set (s4.2.1).toNat (⟨true, (1 + y12), (min 1439 ((s4.2.2.getD (s4.2.1).toNat default).Minute + y15)), (1 + y18), ((s4.2.2.length : Nat) : Int), (((s4.2.2.length : Nat) : Int) + 1), (((s4.2.2.length : Nat) : Int) + 2), []⟩ : Node))) (BSim.setS (Seg.refl enc_Node _) (⟨true, (1 + y12), (min 1439 ((s4.2.2.getD (s4.2.1).toNat default).Minute + y15)), (1 + y18), ((s4.2.2.length : Nat) : Int), (((s4.2.2.length : Nat) : Int) + 1), (((s4.2.2.length : Nat) : Int) + 2), []⟩ : Node) (.cons (.refl _) (.cons (.refl _) (.cons (.refl _) (.cons (.refl _) (.cons (.refl _) (.cons (.refl _) (.cons (.refl _) (.cons (Sim.nil _ _) .nil))))))))) .nil) ?_
       refine At.thenC ?_
       refine W.seq ?_
       refine W.rg env [0, 3, 4, 5, 9] [17] ?_
       refine W.block ?_
       refine At.keep (ts := [0, 3, 4, 5, 9]) (ids := [17]) rfl rfl ?_
       refine W.loopGo H (fun (s24 : Int × (List Node)) => [(0, roL 4 enc_Arr4Int p0), (3, .buf 17 (s24.2).length), (4, .int .i64 ((s4.1 + 1))), (5, .int .i64 (s4.2.1)), (9, .int .i64 (s24.1))]) (fun (s24 : Int × (List Node)) => [(17, bufL 37 8 enc_Node s24.2)]) (.cons .q (.cons .qb (.cons .qi (.cons .qi (.cons .qi .nil))))) (.cons .q .nil) (fun k24 s24 H K0 hK24 => ?_)
       refine W.seq ?_
       refine W.rg env [0, 3, 4, 5, 9, 76] [17] ?_
       refine W.cond rfl (fun hb25 => ?_) (fun hb25 => ?_)
       · have H := of_true H hb25
         refine W.skip ?_
         refine At.thenC ?_
         refine W.seq ?_
         refine W.block ?_
         obtain ⟨hc26, H⟩ := of_must H
         obtain ⟨hc27, H⟩ := of_must H
         refine W.region env [] [] rfl rfl rfl (.cons (⟨by first | rfl | (simp; done) | omega | (simp; omega), hc26⟩) (.cons (⟨by first | rfl | (simp; done) | omega | (simp; omega), (by have := hc26; first | omega | (simp only [List.length_set]; omega) | (simp only [Int.toNat_natCast] at *; omega) | (simp at this ⊢; omega))⟩) (.cons (⟨by first | rfl | (simp; done) | omega | (simp; omega), by have := hc27; first | simpa using this | (unfold room at this ⊢; simp at this ⊢; omega)⟩) .nil))) .nil (At.keep (ts := [0, 3, 4, 5, 9]) (ids := [17]) rfl rfl ?_)
         refine At.convM (.cons (y := bufL 37 8 enc_Node (s24.2 ++ ([(⟨false, 0, (s24.2.getD (s4.2.1).toNat default).Minute, 0, 0, 0, 0, []⟩ : Node)] : List Node))) (BSim.pushS (f := enc_Node) (sz := 8) (Seg.refl enc_Node _) ([(⟨false, 0, (s24.2.getD (s4.2.1).toNat default).Minute, 0, 0, 0, 0, []⟩ : Node)] : List Node) (.cons (.refl _) (.cons (.refl _) (.cons (.refl _) (.cons (.refl _) (.cons (.refl _) (.cons (.refl _) (.cons (.refl _) (.cons (Sim.nil _ _) .nil)))))))) rfl rfl (fun _ => rfl)) .nil) ?_
         refine At.inb ?_
         refine At.thenC ?_
         obtain ⟨hc28, H⟩ := of_must H
         refine W.region env [] [] rfl rfl rfl (.cons hc28 .nil) .nil (At.keep (ts := [0, 3, 4, 5, 9]) (ids := [17]) rfl rfl ?_)
         refine At.thenK (At.keep (ts := [0, 3, 4, 5, 9]) (ids := [17]) rfl rfl ?_)
         exact At.conv (.cons .q (.cons .qb (.cons .qi (.cons .qi (.cons .qi .nil))))) (.cons .q .nil) (hK24 ((s24.1 + 1), (s24.2 ++ ([(⟨false, 0, (s24.2.getD (s4.2.1).toNat default).Minute, 0, 0, 0, 0, []⟩ : Node)] : List Node))) H)
       · have H := of_false H hb25
         refine W.exit ?_
         refine At.xthen ?_
         refine At.xthen ?_
         refine At.xhere ?_
         refine At.thenC ?_
         refine W.exit ?_
         refine At.xthen ?_
         refine At.xhere ?_
         refine At.thenC ?_
         obtain ⟨hc29, H⟩ := of_must H
         refine W.region env [] [] rfl rfl rfl (.cons hc29 .nil) .nil (At.keep (ts := [0, 3, 4, 5]) (ids := [17]) rfl rfl ?_)
         refine At.thenK (At.keep (ts := [0, 3, 4, 5]) (ids := [17]) rfl rfl ?_)
         exact At.conv (.cons .q (.cons .qb (.cons .qi (.cons .qi .nil)))) (.cons .q .nil) (hK4 ((s4.1 + 1), (s4.2.1 + 1), s24.2) H)
     · have H := of_false H hb10
       refine W.skip ?_
       refine At.thenC ?_
       obtain ⟨y30, hy31, H⟩ := of_bindO H
       obtain ⟨hc32, H⟩ := of_must H
       refine W.region env [] [⟨.agg [.bool (y30.Test), .int .i64 (y30.District), .int .i64 (y30.Minute), .int .i64 (y30.Limit), .int .i64 (y30.Yes), .int .i64 (y30.No), .int .i64 (y30.Maybe), roL 2 enc_Send y30.Sends], [], 0, []⟩] rfl rfl rfl (.cons (⟨by first | rfl | (simp; done) | omega | (simp; omega), hc32⟩) (.cons (⟨by first | rfl | (simp; done) | omega | (simp; omega), (by have := hc32; first | omega | (simp only [List.length_set]; omega) | (simp only [Int.toNat_natCast] at *; omega) | (simp at this ⊢; omega))⟩) .nil)) (.free (c_gasolierref05_leaf (p0.getD (y6).toNat default) hy31) .nil) (At.keep (ts := [0, 3, 4, 5]) (ids := [17]) rfl rfl ?_)
       refine At.convM (.cons (y := bufL 37 8 enc_Node (s4.2.2.set (s4.2.1).toNat y30)) (BSim.seg (Seg.set (Seg.refl enc_Node _) y30 rfl)) .nil) ?_
       refine At.inb ?_
       refine At.thenC ?_
       obtain ⟨hc33, H⟩ := of_must H
       refine W.region env [] [] rfl rfl rfl (.cons hc33 .nil) .nil (At.keep (ts := [0, 3, 4, 5]) (ids := [17]) rfl rfl ?_)
       refine At.thenK (At.keep (ts := [0, 3, 4, 5]) (ids := [17]) rfl rfl ?_)
       exact At.conv (.cons .q (.cons .qb (.cons .qi (.cons .qi .nil)))) (.cons .q .nil) (hK4 (s4.1, (s4.2.1 + 1), (s4.2.2.set (s4.2.1).toNat y30)) H)
   · have H := of_false H hb5
     refine W.exit ?_
     refine At.xthen ?_
     refine At.xthen ?_
     refine At.xhere ?_
     refine At.thenC ?_
     refine W.rg env [2] [17] ?_
     refine W.ret ?_
     cases H
     exact At.ret env.ty rfl rfl (fun q hq => by cases hq; exact (by first | rfl | (simp; done) | omega | (simp; omega))) (.refl _) hval
theorem c_gasolierref05_Runners (fuel : Nat) (p0 : (List Int)) {r : (List Runner)} (H : gasolierref05_Runners fuel p0 = some r) : Ctr Try.prog 21 [roL 1 enc_Int p0] (roL 2 enc_Runner r) := by
 unfold gasolierref05_Runners at H
 refine Ctr.of_body (N := 56) Try.func21 (by kernel_rfl) (c := _) rfl Try.ntmps21 rfl (fun w0 h0 hval => ?_)
 refine W.rg env [0] [] ?_
 refine W.rg env [0, 3] [] ?_
 refine W.seq ?_
 refine W.rg env [0, 3, 4] [] ?_
 refine W.block ?_
 refine At.nilOwn 3 503 93 2 (e := fun i => enc_Runner (([] : List Runner).getD i default)) rfl rfl ?_
 refine At.keep (ts := [0, 3, 4]) (ids := [503]) rfl rfl ?_
 refine W.loopGo H (fun (s1 : Int × (List Runner)) => [(0, roL 1 enc_Int p0), (3, .buf 503 (s1.2).length), (4, .int .i64 (s1.1))]) (fun (s1 : Int × (List Runner)) => [(503, bufL 93 2 enc_Runner s1.2)]) (.cons .q (.cons .qb (.cons .qi .nil))) (.cons .q .nil) (fun k1 s1 H K0 hK1 => ?_)
 refine W.seq ?_
 refine W.sr env [] [] [0, 3, 4, 14] [503] rfl rfl rfl (.cons (fun h => h) (.cons (fun h => h) .nil)) .nil ?_
 refine W.cond rfl (fun hb2 => ?_) (fun hb2 => ?_)
 · have H := of_true H hb2
   refine W.skip ?_
   refine At.thenC ?_
   refine W.seq ?_
   refine W.block ?_
   obtain ⟨hc3, H⟩ := of_must H
   obtain ⟨hc4, H⟩ := of_must H
   refine W.sr env [] [] [0, 3, 4, 5] [5, 503] rfl rfl rfl (.cons hc3 (.cons hc4 .nil)) .nil ?_
   refine W.seq ?_
   refine W.rg env [0, 3, 4, 5, 6] [5, 503] ?_
   refine W.block ?_
   refine At.nilOwnCell 5 1 851 3 1 (e := fun i => enc_Int (([] : List Int).getD i default)) rfl rfl rfl ?_
   refine At.keep (ts := [0, 3, 4, 5, 6]) (ids := [5, 503, 851]) rfl rfl ?_
   refine W.loopGo H (fun (s5 : Int × (List Int)) => [(0, roL 1 enc_Int p0), (3, .buf 503 (s1.2).length), (4, .int .i64 (s1.1)), (5, .lp 5 0), (6, .int .i64 (s5.1))]) (fun (s5 : Int × (List Int)) => [(5, .cells [.int .i64 (((2 * s1.1) + 1)), .buf 851 (s5.2).length]), (503, bufL 93 2 enc_Runner s1.2), (851, bufL 3 1 enc_Int s5.2)]) (.cons .q (.cons .qb (.cons .qi (.cons .q (.cons .qi .nil))))) (.cons (BSim.cells (.cons .q (.cons .qc .nil))) (.cons .q (.cons .q .nil))) (fun k5 s5 H K0 hK5 => ?_)
   refine W.seq ?_
   refine W.rg env [0, 3, 4, 5, 6, 22] [5, 503, 851] ?_
   refine W.cond rfl (fun hb6 => ?_) (fun hb6 => ?_)
   · have H := of_true H hb6
     refine W.skip ?_
     refine At.thenC ?_
     refine W.seq ?_
     refine W.block ?_
     obtain ⟨hc7, H⟩ := of_must H
     obtain ⟨hc8, H⟩ := of_must H
     refine W.sr env [50331679] [] [0, 3, 4, 5, 6, 32] [5, 503, 851] rfl rfl (by first | rfl | kernel_rfl) (.cons hc7 (.cons hc8 .nil)) .nil ?_
     refine W.cond rfl (fun hb9 => ?_) (fun hb9 => ?_)
     · have H := of_true H hb9
       obtain ⟨hc10, H⟩ := of_must H
       refine W.region env [] [] rfl rfl rfl (.cons (⟨by first | rfl | (simp; done) | omega | (simp; omega), by have := hc10; first | simpa using this | (unfold room at this ⊢; simp at this ⊢; omega)⟩) .nil) .nil (At.keep (ts := [0, 3, 4, 5, 6]) (ids := [5, 503, 851]) rfl rfl ?_)
       refine At.convM (.cons (.refl _) (.cons (.refl _) (.cons (y := bufL 3 1 enc_Int (s5.2 ++ ([s5.1] : List Int))) (BSim.seg (Seg.push (Seg.refl enc_Int _) (Seg.lit (f := enc_Int) (sz := 1) ([s5.1] : List Int) rfl rfl (fun _ => rfl)))) .nil))) ?_
       refine At.inb ?_
       refine At.thenC ?_
       obtain ⟨hc11, H⟩ := of_must H
       refine W.region env [] [] rfl rfl rfl (.cons hc11 .nil) .nil (At.keep (ts := [0, 3, 4, 5, 6]) (ids := [5, 503, 851]) rfl rfl ?_)
       refine At.thenK (At.keep (ts := [0, 3, 4, 5, 6]) (ids := [5, 503, 851]) rfl rfl ?_)
       exact At.conv (.cons .q (.cons .qb (.cons .qi (.cons .q (.cons .qi .nil))))) (.cons (BSim.cells (.cons .q (.cons .qc .nil))) (.cons .q (.cons .q .nil))) (hK5 ((s5.1 + 1), (s5.2 ++ ([s5.1] : List Int))) H)
     · have H := of_false H hb9
       refine W.skip ?_
       refine At.inb ?_
       refine At.thenC ?_
       obtain ⟨hc12, H⟩ := of_must H
       refine W.region env [] [] rfl rfl rfl (.cons hc12 .nil) .nil (At.keep (ts := [0, 3, 4, 5, 6]) (ids := [5, 503, 851]) rfl rfl ?_)
       refine At.thenK (At.keep (ts := [0, 3, 4, 5, 6]) (ids := [5, 503, 851]) rfl rfl ?_)
       exact At.conv (.cons .q (.cons .qb (.cons .qi (.cons .q (.cons .qi .nil))))) (.cons (BSim.cells (.cons .q (.cons .qc .nil))) (.cons .q (.cons .q .nil))) (hK5 ((s5.1 + 1), s5.2) H)
   · have H := of_false H hb6
     refine W.exit ?_
     refine At.xthen ?_
     refine At.xthen ?_
     refine At.xhere ?_
     refine At.thenC ?_
     refine W.seq ?_
     refine W.sr env [] [] [0, 3, 4, 5, 42] [5, 503, 851] rfl rfl rfl (.cons (by first | rfl | (simp; done) | omega | (simp; omega)) .nil) .nil ?_
     refine W.cond rfl (fun hb13 => ?_) (fun hb13 => ?_)
     · have H := of_true H hb13
       obtain ⟨hc14, H⟩ := of_must H
       obtain ⟨y15, hy16, H⟩ := of_bindO H
       obtain ⟨hc17, H⟩ := of_must H
       refine W.region env [] [⟨.int .i64 (y15), [], 0, []⟩] rfl rfl rfl (.cons hc14 (.cons hc17 .nil)) (.free (c_gasolierref05_Mod (p0.getD (s1.1).toNat default) 4 hy16) .nil) (At.keep (ts := [0, 3, 4, 5]) (ids := [5, 503]) rfl rfl ?_)
       refine At.thenC ?_
       obtain ⟨hc18, H⟩ := of_must H
       refine W.region env [] [] rfl rfl rfl (.cons (⟨by first | rfl | (simp; done) | omega | (simp; omega), by have := hc18; first | simpa using this | (unfold room at this ⊢; simp at this ⊢; omega)⟩) .nil) .nil (At.keep (ts := [0, 3, 4]) (ids := [503]) rfl rfl ?_)
       refine At.convM (.cons (y := bufL 93 2 enc_Runner (s1.2 ++ ([(⟨((2 * s1.1) + 1), ([(1 + y15)] : List Int)⟩ : Runner)] : List Runner))) (BSim.pushS (f := enc_Runner) (sz := 2) (Seg.refl enc_Runner _) ([(⟨((2 * s1.1) + 1), ([(1 + y15)] : List Int)⟩ : Runner)] : List Runner) (.cons (.refl _) (.cons (Sim.lit (f := enc_Int) ([(1 + y15)] : List Int) rfl rfl (fun _ => rfl)) .nil)) rfl rfl (fun _ => rfl)) .nil) ?_
       refine At.inb ?_
       refine At.thenC ?_
       obtain ⟨hc19, H⟩ := of_must H
       refine W.region env [] [] rfl rfl rfl (.cons hc19 .nil) .nil (At.keep (ts := [0, 3, 4]) (ids := [503]) rfl rfl ?_)
       refine At.thenK (At.keep (ts := [0, 3, 4]) (ids := [503]) rfl rfl ?_)
       exact At.conv (.cons .q (.cons .qb (.cons .qi .nil))) (.cons .q .nil) (hK1 ((s1.1 + 1), (s1.2 ++ ([(⟨((2 * s1.1) + 1), ([(1 + y15)] : List Int)⟩ : Runner)] : List Runner))) H)
     · have H := of_false H hb13
       refine W.skip ?_
       refine At.thenC ?_
       refine At.freezeA 851 (K := [5, 503]) (ts := [0, 3, 4, 5]) rfl rfl rfl rfl .nil (.cons (by first | rfl | (simp; done) | omega | (simp; omega)) .nil) (fun _ h => h) ?_
       obtain ⟨hc20, H⟩ := of_must H
       refine W.region env [] [] rfl rfl rfl (.cons (⟨by first | rfl | (simp; done) | omega | (simp; omega), by have := hc20; first | simpa using this | (unfold room at this ⊢; simp at this ⊢; omega)⟩) .nil) .nil (At.keep (ts := [0, 3, 4]) (ids := [503]) rfl rfl ?_)
       refine At.convM (.cons (y := bufL 93 2 enc_Runner (s1.2 ++ ([(⟨((2 * s1.1) + 1), s5.2⟩ : Runner)] : List Runner))) (BSim.seg (Seg.push (Seg.refl enc_Runner _) (Seg.lit (f := enc_Runner) (sz := 2) ([(⟨((2 * s1.1) + 1), s5.2⟩ : Runner)] : List Runner) rfl rfl (fun _ => rfl)))) .nil) ?_
       refine At.inb ?_
       refine At.thenC ?_
       obtain ⟨hc21, H⟩ := of_must H
       refine W.region env [] [] rfl rfl rfl (.cons hc21 .nil) .nil (At.keep (ts := [0, 3, 4]) (ids := [503]) rfl rfl ?_)
       refine At.thenK (At.keep (ts := [0, 3, 4]) (ids := [503]) rfl rfl ?_)
       exact At.conv (.cons .q (.cons .qb (.cons .qi .nil))) (.cons .q .nil) (hK1 ((s1.1 + 1), (s1.2 ++ ([(⟨((2 * s1.1) + 1), s5.2⟩ : Runner)] : List Runner))) H)
 · have H := of_false H hb2
   refine W.exit ?_
   refine At.xthen ?_
   refine At.xthen ?_
   refine At.xhere ?_
   refine At.thenC ?_
   refine W.rg env [2] [503] ?_
   refine W.ret ?_
   cases H
   exact At.ret env.ty rfl rfl (fun q hq => by cases hq; exact (by first | rfl | (simp; done) | omega | (simp; omega))) (.refl _) hval
theorem c_fog_within (p0 : Int) (p1 : Int) (p2 : Int) : Ctr Try.prog 88 [.int .i64 (p0), .int .i64 (p1), .int .i64 (p2)] (.bool ((fog_within p0 p1 p2))) := by
 obtain ⟨r, H⟩ : ∃ r, fog_within p0 p1 p2 = r := ⟨_, rfl⟩
 rw [H]
 unfold fog_within at H
 refine Ctr.of_body (N := 15) Try.func88 (by kernel_rfl) (c := _) rfl Try.ntmps88 rfl (fun w0 h0 hval => ?_)
 refine W.rg env [0, 1, 2] [] ?_
 refine W.sr env [] [] [6] [] rfl rfl rfl (.cons (fun h => h) (.cons (fun h => h) (.cons (fun h => h) .nil))) .nil ?_
 refine W.ret ?_
 cases H
 exact At.ret env.ty rfl rfl (fun q hq => by cases hq) (.refl _) hval
theorem c_fog_isDistrict (p0 : Int) : Ctr Try.prog 89 [.int .i64 (p0)] (.bool ((fog_isDistrict p0))) := by
 obtain ⟨r, H⟩ : ∃ r, fog_isDistrict p0 = r := ⟨_, rfl⟩
 rw [H]
 unfold fog_isDistrict at H
 refine Ctr.of_body (N := 5) Try.func89 (by kernel_rfl) (c := _) rfl Try.ntmps89 rfl (fun w0 h0 hval => ?_)
 refine W.rg env [0] [] ?_
 refine W.sr env [] [⟨.bool ((fog_within p0 1 9)), [], 0, []⟩] [2] [] rfl rfl rfl .nil (.free (c_fog_within p0 1 9) .nil) ?_
 refine W.ret ?_
 cases H
 exact At.ret env.ty rfl rfl (fun q hq => by cases hq) (.refl _) hval
theorem c_fog_areSends (p0 : (List Send)) {r : Bool} (H : fog_areSends p0 = some r) : Ctr Try.prog 110 [roL 2 enc_Send p0] (.bool (r)) := by
 unfold fog_areSends at H
 refine Ctr.of_body (N := 41) Try.func110 (by kernel_rfl) (c := _) rfl Try.ntmps110 rfl (fun w0 h0 hval => ?_)
 refine W.rg env [0] [] ?_
 refine W.seq ?_
 refine W.rg env [0, 5, 6, 7] [] ?_
 refine W.block ?_
 refine At.keep (ts := [0, 5, 6, 7]) (ids := []) rfl rfl ?_
 refine W.len (t := 5) rfl (fun (hn1 : p0.length ≤ maxLen) => ?_)
 refine W.rangeGo H (fun i1 (s1 : Unit) => [(0, roL 2 enc_Send p0), (5, roL 2 enc_Send p0), (6, .int .i64 (((p0.length : Nat) : Int))), (7, .int .i64 ((i1 : Int)))]) (fun i1 (s1 : Unit) => []) (.cons .q (.cons .q (.cons .qi (.cons .qi .nil)))) .nil (fun k1 i1 s1 hle1 H1 H2 K0 hK1 => ?_)
 refine W.rg env [0, 5, 6, 7, 8] [] ?_
 refine W.seq ?_
 refine W.cond rfl (fun hb2 => ?_) (fun hb2 => ?_)
 · have hi1 : i1 < p0.length := by have := of_decide_eq_true hb2; omega
   have H := H1 hi1
   refine W.skip ?_
   refine At.thenC ?_
   refine W.seq ?_
   refine W.block ?_
   refine W.sr env [] [] [0, 3, 4, 5, 6, 7] [4] rfl rfl rfl (.cons (⟨by omega, by omega⟩ : 0 ≤ (i1 : Int) ∧ (i1 : Int) < ((p0.length : Nat) : Int)) .nil) .nil ?_
   obtain ⟨hc3, H⟩ := of_must H
   obtain ⟨hc4, H⟩ := of_must H
   refine W.sr env [] [⟨.bool ((fog_isDistrict ((p0.getD i1 default).District))), [], 0, []⟩, ⟨.bool ((fog_within ((p0.getD i1 default).Many) 1 20)), [], 0, []⟩] [0, 5, 6, 7, 36] [] rfl rfl (by kernel_rfl) (.cons (fun h => h) (.cons (fun h => h) (.cons (fun h => h) (.cons (fun h => by rw [h]; rfl) (.cons (fun h => h) (.cons (fun h => h) (.cons hc3 (.cons (fun h => h) (.cons hc4 (.cons (fun h => h) (.cons (fun h => h) (.cons (fun h => h) (.cons (fun h => h) (.cons (fun h => h) (.cons (fun h => h) (.cons (fun h => h) (.cons (fun h => h) (.cons (fun hW h => by revert hW h; first | (simp +contextual; done) | grind) (.cons (fun h => by rw [h]; rfl) .nil))))))))))))))))))) (.free (c_fog_isDistrict ((p0.getD i1 default).District)) (.on (fun hW => c_fog_within ((p0.getD i1 default).Many) 1 20) .nil)) ?_
   refine W.cond rfl (fun hb5 => ?_) (fun hb5 => ?_)
   · have H := of_true H hb5
     refine W.rg env [2] [] ?_
     refine W.ret ?_
     refine At.rinb ?_
     refine At.rthen ?_
     refine At.rthen ?_
     refine At.rinb ?_
     refine At.rthen ?_
     cases H
     exact At.ret env.ty rfl rfl (fun q hq => by cases hq) (.refl _) hval
   · have H := of_false H hb5
     refine W.skip ?_
     refine At.inb ?_
     refine At.thenC ?_
     refine W.region env [] [] rfl rfl rfl (.cons (by unfold inI; have := hn1; (try unfold maxLen at this); omega) .nil) .nil (At.keep (ts := [0, 5, 6, 7]) (ids := []) rfl rfl ?_)
     refine At.thenK (At.keep (ts := [0, 5, 6, 7]) (ids := []) rfl rfl ?_)
     exact At.conv (.cons .q (.cons .q (.cons .qi (.cons .qi .nil)))) .nil (hK1 hi1 () H)
 · have H := H2 (by have := of_decide_eq_false hb2; omega)
   refine W.exit ?_
   refine At.xthen ?_
   refine At.xthen ?_
   refine At.xhere ?_
   refine At.thenC ?_
   refine W.rg env [2] [] ?_
   refine W.ret ?_
   cases H
   exact At.ret env.ty rfl rfl (fun q hq => by cases hq) (.refl _) hval
theorem c_fog_isMinute (p0 : Int) : Ctr Try.prog 90 [.int .i64 (p0)] (.bool ((fog_isMinute p0))) := by
 obtain ⟨r, H⟩ : ∃ r, fog_isMinute p0 = r := ⟨_, rfl⟩
 rw [H]
 unfold fog_isMinute at H
 refine Ctr.of_body (N := 5) Try.func90 (by kernel_rfl) (c := _) rfl Try.ntmps90 rfl (fun w0 h0 hval => ?_)
 refine W.rg env [0] [] ?_
 refine W.sr env [] [⟨.bool ((fog_within p0 0 1439)), [], 0, []⟩] [2] [] rfl rfl rfl .nil (.free (c_fog_within p0 0 1439) .nil) ?_
 refine W.ret ?_
 cases H
 exact At.ret env.ty rfl rfl (fun q hq => by cases hq) (.refl _) hval
theorem c_fog_next (p0 : Node) : Ctr Try.prog 80 [.agg [.bool (p0.Test), .int .i64 (p0.District), .int .i64 (p0.Minute), .int .i64 (p0.Limit), .int .i64 (p0.Yes), .int .i64 (p0.No), .int .i64 (p0.Maybe), roL 2 enc_Send p0.Sends]] (romL (.int .i64 0) (fun (x : Int) => .int .i64 (x)) (fog_next p0)) := by
 obtain ⟨r, H⟩ : ∃ r, fog_next p0 = r := ⟨_, rfl⟩
 rw [H]
 unfold fog_next at H
 refine Ctr.of_body (N := 11) Try.func80 (by kernel_rfl) (c := _) rfl Try.ntmps80 rfl (fun w0 h0 hval => ?_)
 refine W.rg env [1] [1] ?_
 refine W.seq ?_
 refine W.region env [] [] rfl rfl rfl .nil .nil (At.keep (ts := [2]) (ids := [3]) rfl rfl ?_)
 refine At.convM (.cons (y := mapL (.int .i64 0) (fun (x : Int) => .int .i64 (x)) ((((Mp.empty : Mp Int).set 1 p0.Yes).set 0 p0.No).set 2 p0.Maybe)) (BSim.mseg (f := (fun (x : Int) => .int .i64 (x))) (MSeg.set (MSeg.set (MSeg.set (MSeg.empty rfl) p0.Yes rfl) p0.No rfl) p0.Maybe rfl)) .nil) ?_
 refine At.thenC ?_
 refine W.ret ?_
 cases H
 exact At.ret env.ty rfl rfl (fun q hq => by cases hq) (.refl _) hval
theorem c_fog_isNode (p0 : (List Node)) (p1 : Int) {r : Bool} (H : fog_isNode p0 p1 = some r) : Ctr Try.prog 94 [roL 8 enc_Node p0, .int .i64 (p1)] (.bool (r)) := by
 unfold fog_isNode at H
 refine Ctr.of_body (N := 102) Try.func94 (by kernel_rfl) (c := _) rfl Try.ntmps94 rfl (fun w0 h0 hval => ?_)
 refine W.rg env [0, 1] [] ?_
 obtain ⟨hc1, H⟩ := of_must H
 refine W.sr env [] [] [0, 1, 5] [5] rfl rfl rfl (.cons hc1 .nil) .nil ?_
 refine W.seq ?_
 refine W.rg env [0, 1, 5, 14] [5] ?_
 refine W.cond rfl (fun hb2 => ?_) (fun hb2 => ?_)
 · have H := of_true H hb2
   refine W.seq ?_
   obtain ⟨y3, hy4, H⟩ := of_bindO H
   refine W.region env [] [⟨.bool (y3), [], 0, []⟩] rfl rfl rfl (.cons (fun h => h) (.cons (fun h => h) (.cons (fun h => h) (.cons (fun h => h) (.cons (fun h => h) (.cons (fun h => h) (.cons (fun h => h) (.cons (fun h => h) (.cons (fun h => h) (.cons (fun h => h) (.cons (fun h => h) (.cons (fun h => h) (.cons (fun h => h) (.cons (fun h => h) (.cons (fun h => h) (.cons (fun h => h) (.cons (fun h => h) (.cons (fun h => h) .nil)))))))))))))))))) (.on (fun hW => c_fog_areSends ((p0.getD (p1).toNat default).Sends) (of_true hy4 hW)) .nil) (At.keep (ts := [4]) (ids := []) rfl rfl ?_)
   refine At.thenC ?_
   refine W.ret ?_
   refine At.rthen ?_
   cases H
   exact At.ret env.ty rfl rfl (fun q hq => by cases hq) (.refl _) hval
 · have H := of_false H hb2
   refine W.skip ?_
   refine At.thenC ?_
   refine W.seq ?_
   refine W.sr env [] [⟨.bool ((fog_isDistrict ((p0.getD (p1).toNat default).District))), [], 0, []⟩, ⟨.bool ((fog_isMinute ((p0.getD (p1).toNat default).Minute))), [], 0, []⟩, ⟨.bool ((fog_within ((p0.getD (p1).toNat default).Limit) 1 5000)), [], 0, []⟩] [0, 1, 5, 69] [5] rfl rfl rfl (.cons (fun h => h) (.cons (fun h => h) (.cons (fun h => h) (.cons (fun h => by rw [h]; rfl) (.cons (fun h => h) (.cons (fun h => h) (.cons (fun h => h) (.cons (fun h => by rw [h]; rfl) (.cons (fun h => h) (.cons (fun h => h) (.cons (fun h => h) (.cons (fun h => by rw [h]; rfl) .nil)))))))))))) (.free (c_fog_isDistrict ((p0.getD (p1).toNat default).District)) (.on (fun hW => c_fog_isMinute ((p0.getD (p1).toNat default).Minute)) (.on (fun hW => c_fog_within ((p0.getD (p1).toNat default).Limit) 1 5000) .nil))) ?_
   refine W.cond rfl (fun hb5 => ?_) (fun hb5 => ?_)
   · have H := of_true H hb5
     refine W.rg env [4] [] ?_
     refine W.ret ?_
     refine At.rthen ?_
     cases H
     exact At.ret env.ty rfl rfl (fun q hq => by cases hq) (.refl _) hval
   · have H := of_false H hb5
     refine W.skip ?_
     refine At.thenC ?_
     refine W.seq ?_
     refine W.sr env [] [⟨romL (.int .i64 0) (fun (x : Int) => .int .i64 (x)) (fog_next (p0.getD (p1).toNat default)), [], 0, []⟩] [0, 1, 5, 72] [5, 72] rfl rfl rfl .nil (.free (c_fog_next (p0.getD (p1).toNat default)) .nil) ?_
     refine W.block ?_
     obtain ⟨hok6, H⟩ := of_must H
     obtain ⟨y6, hy6, H⟩ := of_bindO H
     refine At.keep (ts := [0, 1, 5, 72]) (ids := [72, 5]) rfl rfl ?_
     refine At.iterOpen 72 rfl (fun left hleft => ?_)
     refine At.keep (ts := [0, 1, 5, 72]) (ids := [72, 5]) rfl rfl ?_
     refine W.iterLoop (S := Unit) 72 (fun k => (fun (x : Int) => .int .i64 (x)) (((fog_next (p0.getD (p1).toNat default)).get k).getD default)) (fun left _ => ∃ c, mapAny (fun (q6 : Int) => must (inI (p1 + 1)) <| must (inI (((p0.length : Nat) : Int) - 1)) <| must (((!(!(fog_within (((fog_next (p0.getD (p1).toNat default)).get q6).getD default) (p1 + 1) (((p0.length : Nat) : Int) - 1)))) = true → (0 ≤ ((((fog_next (p0.getD (p1).toNat default)).get q6).getD default) : Int) ∧ ((((fog_next (p0.getD (p1).toNat default)).get q6).getD default) : Int) < ((p0.length : Nat) : Int)))) <| must ((((!(!(fog_within (((fog_next (p0.getD (p1).toNat default)).get q6).getD default) (p1 + 1) (((p0.length : Nat) : Int) - 1)))) && ((p0.getD ((((fog_next (p0.getD (p1).toNat default)).get q6).getD default)).toNat default).Test)) = true → (0 ≤ ((((fog_next (p0.getD (p1).toNat default)).get q6).getD default) : Int) ∧ ((((fog_next (p0.getD (p1).toNat default)).get q6).getD default) : Int) < ((p0.length : Nat) : Int)))) <| (bif ((!(fog_within (((fog_next (p0.getD (p1).toNat default)).get q6).getD default) (p1 + 1) (((p0.length : Nat) : Int) - 1))) || (((p0.getD ((((fog_next (p0.getD (p1).toNat default)).get q6).getD default)).toNat default).Test) && (decide ((p0.getD ((((fog_next (p0.getD (p1).toNat default)).get q6).getD default)).toNat default).Minute < (p0.getD (p1).toNat default).Minute)))) then some true else some false)) left = some c ∧ (bif c then some false else some true) = some r) (fun _ => [(0, roL 8 enc_Node p0), (1, .int .i64 (p1)), (5, .lp 5 0), (72, .lp 72 0)]) (fun _ => [(5, .cells [.bool ((p0.getD (p1).toNat default).Test), .int .i64 ((p0.getD (p1).toNat default).District), .int .i64 ((p0.getD (p1).toNat default).Minute), .int .i64 ((p0.getD (p1).toNat default).Limit), .int .i64 ((p0.getD (p1).toNat default).Yes), .int .i64 ((p0.getD (p1).toNat default).No), .int .i64 ((p0.getD (p1).toNat default).Maybe), roL 2 enc_Send ((p0.getD (p1).toNat default).Sends)])]) (s0 := ()) ⟨y6, (mapAny_perm (Mp.perm hok6 hleft)).symm.trans hy6, H⟩ (.cons (.refl _) (.cons (.refl _) (.cons (.refl _) (.cons (.refl _) .nil)))) (.cons (.refl _) (.cons (.refl _) .nil)) (fun left _ HJ6 K hK6 => ?_)
     obtain ⟨c6, hc6, HJ6⟩ := HJ6
     refine W.seq ?_
     refine W.next rfl rfl rfl rfl rfl rfl rfl rfl rfl rfl rfl (fun hz => ?_) (fun q6 left2 hp6 => ?_)
     · subst hz
       cases hc6
       have H : some true = some r := HJ6
       refine At.thenC ?_
       refine W.seq ?_
       refine W.cond rfl (fun hb13 => by cases hb13) (fun hb13 => ?_)
       refine W.exit ?_
       refine At.xthen ?_
       refine At.xthen ?_
       refine At.xhere ?_
       refine At.thenC ?_
       refine W.rg env [4] [] ?_
       refine W.ret ?_
       cases H
       exact At.ret env.ty rfl rfl (fun q hq => by cases hq) (.refl _) hval
     · obtain ⟨b6, d6, H, hd6, rfl⟩ := mapAny_cons ((mapAny_perm hp6).symm.trans hc6)
       refine At.thenC ?_
       refine W.seq ?_
       refine W.cond rfl (fun hb7 => ?_) (fun hb7 => by cases hb7)
       refine W.skip ?_
       refine At.thenC ?_
       refine W.block ?_
       refine W.rg env [0, 1, 5, 7, 72] [5, 72] ?_
       obtain ⟨hc8, H⟩ := of_must H
       obtain ⟨hc9, H⟩ := of_must H
       obtain ⟨hc10, H⟩ := of_must H
       obtain ⟨hc11, H⟩ := of_must H
       refine W.sr env [] [⟨.bool ((fog_within (((fog_next (p0.getD (p1).toNat default)).get q6).getD default) (p1 + 1) (((p0.length : Nat) : Int) - 1))), [], 0, []⟩] [0, 1, 5, 72, 101] [5, 72] rfl rfl (by kernel_rfl) (.cons hc8 (.cons hc9 (.cons hc10 (.cons (fun h => h) (.cons (fun h => h) (.cons (fun h => h) (.cons (fun h => h) (.cons (fun h => h) (.cons hc11 (.cons (fun h => h) (.cons (fun h => h) (.cons (fun h => h) (.cons (fun h => h) (.cons (fun h => h) (.cons (fun h => h) (.cons (fun h => h) (.cons (fun h => h) (.cons (fun hW h => by revert hW h; first | (simp +contextual; done) | grind) (.cons (fun h => by rw [h]; rfl) .nil))))))))))))))))))) (.free (c_fog_within (((fog_next (p0.getD (p1).toNat default)).get q6).getD default) (p1 + 1) (((p0.length : Nat) : Int) - 1)) .nil) ?_
       refine W.cond rfl (fun hb12 => ?_) (fun hb12 => ?_)
       · have H := of_true H hb12
         refine W.rg env [4] [72] ?_
         cases H
         have H : some false = some r := HJ6
         refine W.ret ?_
         refine At.rinb ?_
         refine At.rthen ?_
         refine At.rinb ?_
         refine At.rthen ?_
         cases H
         exact At.ret env.ty rfl rfl (fun q hq => by cases hq) (.refl _) hval
       · have H := of_false H hb12
         refine W.skip ?_
         refine At.inb ?_
         cases H
         refine At.thenK (At.keep (ts := [0, 1, 5, 72]) (ids := [72, 5]) rfl rfl ?_)
         exact At.conv (.cons (.refl _) (.cons (.refl _) (.cons (.refl _) (.cons (.refl _) .nil)))) (.cons (.refl _) (.cons (.refl _) .nil)) (hK6 _ left2 () hp6 ⟨d6, hd6, HJ6⟩)
theorem c_fog_CheckPolicy (p0 : (List Node)) {r : Int} (H : fog_CheckPolicy p0 = some r) : Ctr Try.prog 59 [roL 8 enc_Node p0] (.int .i64 (r)) := by
 unfold fog_CheckPolicy at H
 refine Ctr.of_body (N := 52) Try.func59 (by kernel_rfl) (c := _) rfl Try.ntmps59 rfl (fun w0 h0 hval => ?_)
 refine W.rg env [0] [] ?_
 refine W.seq ?_
 refine W.sr env [] [⟨.bool ((fog_within ((p0.length : Nat) : Int) 1 31)), [], 0, []⟩] [0, 11] [] rfl rfl rfl .nil (.free (c_fog_within ((p0.length : Nat) : Int) 1 31) .nil) ?_
 refine W.cond rfl (fun hb1 => ?_) (fun hb1 => ?_)
 · have H := of_true H hb1
   refine W.rg env [2] [] ?_
   refine W.ret ?_
   refine At.rthen ?_
   cases H
   exact At.ret env.ty rfl rfl (fun q hq => by cases hq) (.refl _) hval
 · have H := of_false H hb1
   refine W.skip ?_
   refine At.thenC ?_
   refine W.seq ?_
   refine W.region env [] [] rfl rfl rfl .nil .nil (At.keep (ts := [0, 3]) (ids := [12]) rfl rfl ?_)
   refine At.convM (.cons (y := mapL (.bool false) (fun (x : Bool) => .bool (x)) (Mp.empty : Mp Bool)) (BSim.mseg (f := (fun (x : Bool) => .bool (x))) (MSeg.empty rfl)) .nil) ?_
   refine At.thenC ?_
   refine W.seq ?_
   refine W.rg env [0, 3, 13, 14, 15] [12] ?_
   refine W.block ?_
   refine At.keep (ts := [0, 3, 13, 14, 15]) (ids := [12]) rfl rfl ?_
   refine W.len (t := 13) rfl (fun (hn2 : p0.length ≤ maxLen) => ?_)
   refine W.rangeGo H (fun i2 (s2 : (Mp Bool)) => [(0, roL 8 enc_Node p0), (3, .mp 12), (13, roL 8 enc_Node p0), (14, .int .i64 (((p0.length : Nat) : Int))), (15, .int .i64 ((i2 : Int)))]) (fun i2 (s2 : (Mp Bool)) => [(12, mapL (.bool false) (fun (x : Bool) => .bool (x)) s2)]) (.cons .q (.cons .q (.cons .q (.cons .qi (.cons .qi .nil))))) (.cons .q .nil) (fun k2 i2 s2 hle2 H1 H2 K0 hK2 => ?_)
   refine W.rg env [0, 3, 13, 14, 15, 16] [12] ?_
   refine W.seq ?_
   refine W.cond rfl (fun hb3 => ?_) (fun hb3 => ?_)
   · have hi2 : i2 < p0.length := by have := of_decide_eq_true hb3; omega
     have H := H1 hi2
     refine W.skip ?_
     refine At.thenC ?_
     refine W.seq ?_
     refine W.joinC H (fun (s4 : (Mp Bool)) => [(0, roL 8 enc_Node p0), (3, .mp 12), (13, roL 8 enc_Node p0), (14, .int .i64 (((p0.length : Nat) : Int))), (15, .int .i64 ((i2 : Int)))]) (fun (s4 : (Mp Bool)) => [(12, mapL (.bool false) (fun (x : Bool) => .bool (x)) s4)]) (fun s4 H => ?_) (fun k4 H hK4 => ?_)
     · refine W.region env [] [] rfl rfl rfl (.cons (by unfold inI; have := hn2; (try unfold maxLen at this); omega) .nil) .nil (At.keep (ts := [0, 3, 13, 14, 15]) (ids := [12]) rfl rfl ?_)
       refine At.thenK (At.keep (ts := [0, 3, 13, 14, 15]) (ids := [12]) rfl rfl ?_)
       exact At.conv (.cons .q (.cons .q (.cons .q (.cons .qi (.cons .qi .nil))))) (.cons .q .nil) (hK2 hi2 s4 H)
     · refine W.block ?_
       refine W.sr env [] [] [0, 3, 4, 5, 13, 14, 15] [5, 12] rfl rfl rfl (.cons (⟨by omega, by omega⟩ : 0 ≤ (i2 : Int) ∧ (i2 : Int) < ((p0.length : Nat) : Int)) .nil) .nil ?_
       refine W.seq ?_
       refine W.seq ?_
       obtain ⟨y5, hy6, H⟩ := of_bindO H
       refine W.region env [] [⟨.bool (y5), [], 0, []⟩] rfl rfl rfl .nil (.free (c_fog_isNode p0 (i2 : Int) hy6) .nil) (At.keep (ts := [0, 3, 5, 13, 14, 15, 23]) (ids := [5, 12]) rfl rfl ?_)
       refine At.thenC ?_
       refine W.cond rfl (fun hb7 => ?_) (fun hb7 => ?_)
       · have H := of_true H hb7
         refine W.rg env [2] [] ?_
         refine W.ret ?_
         refine At.rthen ?_
         refine At.rinb ?_
         refine At.rthen ?_
         refine At.rthen ?_
         refine At.rinb ?_
         refine At.rthen ?_
         cases H
         exact At.ret env.ty rfl rfl (fun q hq => by cases hq) (.refl _) hval
       · have H := of_false H hb7
         refine W.skip ?_
         refine At.thenC ?_
         refine W.seq ?_
         refine W.rg env [0, 3, 5, 13, 14, 15, 26] [5, 12] ?_
         refine W.cond rfl (fun hb8 => ?_) (fun hb8 => ?_)
         · have H := of_true H hb8
           refine W.exit ?_
           refine At.xthen ?_
           refine At.xhere ?_
           refine At.thenK (At.keep (ts := [0, 3, 13, 14, 15]) (ids := [12]) rfl rfl ?_)
           exact At.conv (.cons .q (.cons .q (.cons .q (.cons .qi (.cons .qi .nil))))) (.cons .q .nil) (hK4 s2 H)
         · have H := of_false H hb8
           refine W.skip ?_
           refine At.thenC ?_
           refine W.seq ?_
           refine W.region env [] [] rfl rfl rfl .nil .nil (At.keep (ts := [0, 3, 13, 14, 15, 33, 34, 35]) (ids := [12]) rfl rfl ?_)
           refine At.slot (t := 33) (v := roL 1 enc_Int ([(p0.getD i2 default).Yes, (p0.getD i2 default).No, (p0.getD i2 default).Maybe] : List Int)) (Sim.lit (f := enc_Int) ([(p0.getD i2 default).Yes, (p0.getD i2 default).No, (p0.getD i2 default).Maybe] : List Int) rfl rfl (fun _ => rfl)) ?_
           refine At.thenC ?_
           refine W.block ?_
           refine At.keep (ts := [0, 3, 13, 14, 15, 33, 34, 35]) (ids := [12]) rfl rfl ?_
           refine W.len (t := 33) rfl (fun (hn9 : ([(p0.getD i2 default).Yes, (p0.getD i2 default).No, (p0.getD i2 default).Maybe] : List Int).length ≤ maxLen) => ?_)
           refine W.rangeGo H (fun i9 (s9 : (Mp Bool)) => [(0, roL 8 enc_Node p0), (3, .mp 12), (13, roL 8 enc_Node p0), (14, .int .i64 (((p0.length : Nat) : Int))), (15, .int .i64 ((i2 : Int))), (33, roL 1 enc_Int ([(p0.getD i2 default).Yes, (p0.getD i2 default).No, (p0.getD i2 default).Maybe] : List Int)), (34, .int .i64 (((([(p0.getD i2 default).Yes, (p0.getD i2 default).No, (p0.getD i2 default).Maybe] : List Int).length : Nat) : Int))), (35, .int .i64 ((i9 : Int)))]) (fun i9 (s9 : (Mp Bool)) => [(12, mapL (.bool false) (fun (x : Bool) => .bool (x)) s9)]) (.cons .q (.cons .q (.cons .q (.cons .qi (.cons .qi (.cons .q (.cons .qi (.cons .qi .nil)))))))) (.cons .q .nil) (fun k9 i9 s9 hle9 H1 H2 K0 hK9 => ?_)
           refine W.rg env [0, 3, 13, 14, 15, 33, 34, 35, 36] [12] ?_
           refine W.seq ?_
           refine W.cond rfl (fun hb10 => ?_) (fun hb10 => ?_)
           · have hi9 : i9 < ([(p0.getD i2 default).Yes, (p0.getD i2 default).No, (p0.getD i2 default).Maybe] : List Int).length := by have := of_decide_eq_true hb10; omega
             have H := H1 hi9
             refine W.skip ?_
             refine At.thenC ?_
             refine W.seq ?_
             refine W.block ?_
             refine W.sr env [] [] [0, 3, 7, 13, 14, 15, 33, 34, 35] [12] rfl rfl rfl (.cons (⟨by omega, by omega⟩ : 0 ≤ (i9 : Int) ∧ (i9 : Int) < ((([(p0.getD i2 default).Yes, (p0.getD i2 default).No, (p0.getD i2 default).Maybe] : List Int).length : Nat) : Int)) .nil) .nil ?_
             refine W.seq ?_
             refine W.sr env [] [] [0, 3, 7, 13, 14, 15, 33, 34, 35, 41] [12] rfl rfl rfl (.cons rfl .nil) .nil ?_
             refine W.cond rfl (fun hb11 => ?_) (fun hb11 => ?_)
             · have H := of_true H hb11
               refine W.rg env [2] [] ?_
               refine W.ret ?_
               refine At.rthen ?_
               refine At.rinb ?_
               refine At.rthen ?_
               refine At.rthen ?_
               refine At.rinb ?_
               refine At.rinb ?_
               refine At.rthen ?_
               refine At.rthen ?_
               refine At.rinb ?_
               refine At.rthen ?_
               cases H
               exact At.ret env.ty rfl rfl (fun q hq => by cases hq) (.refl _) hval
             · have H := of_false H hb11
               refine W.skip ?_
               refine At.thenC ?_
               refine W.region env [] [] rfl rfl rfl .nil .nil (At.keep (ts := [0, 3, 13, 14, 15, 33, 34, 35]) (ids := [12]) rfl rfl ?_)
               refine At.convM (.cons (y := mapL (.bool false) (fun (x : Bool) => .bool (x)) (s9.set (([(p0.getD i2 default).Yes, (p0.getD i2 default).No, (p0.getD i2 default).Maybe] : List Int).getD i9 default) true)) (BSim.mseg (f := (fun (x : Bool) => .bool (x))) (MSeg.set (MSeg.refl (fun (x : Bool) => .bool (x)) _) true rfl)) .nil) ?_
               refine At.inb ?_
               refine At.thenC ?_
               refine W.region env [] [] rfl rfl rfl (.cons (by unfold inI; have := hn9; (try unfold maxLen at this); omega) .nil) .nil (At.keep (ts := [0, 3, 13, 14, 15, 33, 34, 35]) (ids := [12]) rfl rfl ?_)
               refine At.thenK (At.keep (ts := [0, 3, 13, 14, 15, 33, 34, 35]) (ids := [12]) rfl rfl ?_)
               exact At.conv (.cons .q (.cons .q (.cons .q (.cons .qi (.cons .qi (.cons .q (.cons .qi (.cons .qi .nil)))))))) (.cons .q .nil) (hK9 hi9 (s9.set (([(p0.getD i2 default).Yes, (p0.getD i2 default).No, (p0.getD i2 default).Maybe] : List Int).getD i9 default) true) H)
           · have H := H2 (by have := of_decide_eq_false hb10; omega)
             refine W.exit ?_
             refine At.xthen ?_
             refine At.xthen ?_
             refine At.xhere ?_
             refine At.inb ?_
             refine At.thenK (At.keep (ts := [0, 3, 13, 14, 15]) (ids := [12]) rfl rfl ?_)
             exact At.conv (.cons .q (.cons .q (.cons .q (.cons .qi (.cons .qi .nil))))) (.cons .q .nil) (hK4 s9 H)
   · have H := H2 (by have := of_decide_eq_false hb3; omega)
     refine W.exit ?_
     refine At.xthen ?_
     refine At.xthen ?_
     refine At.xhere ?_
     refine At.thenC ?_
     refine W.seq ?_
     obtain ⟨hc12, H⟩ := of_must H
     refine W.sr env [] [] [51] [] rfl rfl rfl (.cons hc12 .nil) .nil ?_
     refine W.cond rfl (fun hb13 => ?_) (fun hb13 => ?_)
     · have H := of_true H hb13
       refine W.rg env [2] [] ?_
       refine W.ret ?_
       refine At.rthen ?_
       cases H
       exact At.ret env.ty rfl rfl (fun q hq => by cases hq) (.refl _) hval
     · have H := of_false H hb13
       refine W.skip ?_
       refine At.thenC ?_
       refine W.rg env [2] [] ?_
       refine W.ret ?_
       cases H
       exact At.ret env.ty rfl rfl (fun q hq => by cases hq) (.refl _) hval
theorem c_fog_Leaves (p0 : (List Node)) {r : ((List Int) × Int)} (H : fog_Leaves p0 = some r) : Ctr Try.prog 35 [roL 8 enc_Node p0] (.tup [roL 1 enc_Int r.1, .int .i64 (r.2)]) := by
 unfold fog_Leaves at H
 refine Ctr.of_body (N := 29) Try.func35 (by kernel_rfl) (c := _) rfl Try.ntmps35 rfl (fun w0 h0 hval => ?_)
 refine W.rg env [0] [] ?_
 refine W.seq ?_
 refine W.seq ?_
 obtain ⟨y1, hy2, H⟩ := of_bindO H
 refine W.region env [] [⟨.int .i64 (y1), [], 0, []⟩] rfl rfl rfl .nil (.free (c_fog_CheckPolicy p0 hy2) .nil) (At.keep (ts := [0, 4]) (ids := []) rfl rfl ?_)
 refine At.thenC ?_
 refine W.rg env [0, 4, 11] [] ?_
 refine W.cond rfl (fun hb3 => ?_) (fun hb3 => ?_)
 · have H := of_true H hb3
   refine W.rg env [2, 3] [] ?_
   refine W.ret ?_
   refine At.rthen ?_
   cases H
   exact At.ret env.ty rfl rfl (fun q hq => by cases hq) (Sim.tupL (.cons (Sim.nil _ _) (.cons (.refl _) .nil))) hval
 · have H := of_false H hb3
   refine W.skip ?_
   refine At.thenC ?_
   refine W.rg env [0, 5] [] ?_
   refine W.seq ?_
   refine W.rg env [5, 13, 14, 15] [] ?_
   refine W.block ?_
   refine At.nilOwn 5 505 3 1 (e := fun i => enc_Int (([] : List Int).getD i default)) rfl rfl ?_
   refine At.keep (ts := [5, 13, 14, 15]) (ids := [505]) rfl rfl ?_
   refine W.len (t := 13) rfl (fun (hn4 : p0.length ≤ maxLen) => ?_)
   refine W.rangeGo H (fun i4 (s4 : (List Int)) => [(5, .buf 505 (s4).length), (13, roL 8 enc_Node p0), (14, .int .i64 (((p0.length : Nat) : Int))), (15, .int .i64 ((i4 : Int)))]) (fun i4 (s4 : (List Int)) => [(505, bufL 3 1 enc_Int s4)]) (.cons .qb (.cons .q (.cons .qi (.cons .qi .nil)))) (.cons .q .nil) (fun k4 i4 s4 hle4 H1 H2 K0 hK4 => ?_)
   refine W.rg env [5, 13, 14, 15, 16] [505] ?_
   refine W.seq ?_
   refine W.cond rfl (fun hb5 => ?_) (fun hb5 => ?_)
   · have hi4 : i4 < p0.length := by have := of_decide_eq_true hb5; omega
     have H := H1 hi4
     refine W.skip ?_
     refine At.thenC ?_
     refine W.seq ?_
     refine W.block ?_
     refine W.sr env [] [] [5, 6, 7, 13, 14, 15] [7, 505] rfl rfl rfl (.cons (⟨by omega, by omega⟩ : 0 ≤ (i4 : Int) ∧ (i4 : Int) < ((p0.length : Nat) : Int)) .nil) .nil ?_
     refine W.rg env [5, 6, 13, 14, 15, 22] [505] ?_
     refine W.cond rfl (fun hb6 => ?_) (fun hb6 => ?_)
     · have H := of_true H hb6
       obtain ⟨hc7, H⟩ := of_must H
       refine W.region env [] [] rfl rfl rfl (.cons (⟨by first | rfl | (simp; done) | omega | (simp; omega), by have := hc7; first | simpa using this | (unfold room at this ⊢; simp at this ⊢; omega)⟩) .nil) .nil (At.keep (ts := [5, 13, 14, 15]) (ids := [505]) rfl rfl ?_)
       refine At.convM (.cons (y := bufL 3 1 enc_Int (s4 ++ ([(i4 : Int)] : List Int))) (BSim.seg (Seg.push (Seg.refl enc_Int _) (Seg.lit (f := enc_Int) (sz := 1) ([(i4 : Int)] : List Int) rfl rfl (fun _ => rfl)))) .nil) ?_
       refine At.inb ?_
       refine At.thenC ?_
       refine W.region env [] [] rfl rfl rfl (.cons (by unfold inI; have := hn4; (try unfold maxLen at this); omega) .nil) .nil (At.keep (ts := [5, 13, 14, 15]) (ids := [505]) rfl rfl ?_)
       refine At.thenK (At.keep (ts := [5, 13, 14, 15]) (ids := [505]) rfl rfl ?_)
       exact At.conv (.cons .qb (.cons .q (.cons .qi (.cons .qi .nil)))) (.cons .q .nil) (hK4 hi4 (s4 ++ ([(i4 : Int)] : List Int)) H)
     · have H := of_false H hb6
       refine W.skip ?_
       refine At.inb ?_
       refine At.thenC ?_
       refine W.region env [] [] rfl rfl rfl (.cons (by unfold inI; have := hn4; (try unfold maxLen at this); omega) .nil) .nil (At.keep (ts := [5, 13, 14, 15]) (ids := [505]) rfl rfl ?_)
       refine At.thenK (At.keep (ts := [5, 13, 14, 15]) (ids := [505]) rfl rfl ?_)
       exact At.conv (.cons .qb (.cons .q (.cons .qi (.cons .qi .nil)))) (.cons .q .nil) (hK4 hi4 s4 H)
   · have H := H2 (by have := of_decide_eq_false hb5; omega)
     refine W.exit ?_
     refine At.xthen ?_
     refine At.xthen ?_
     refine At.xhere ?_
     refine At.thenC ?_
     refine W.rg env [2, 3] [505] ?_
     refine W.ret ?_
     cases H
     exact At.ret env.ty rfl rfl (fun q hq => by cases hq; exact (by first | rfl | (simp; done) | omega | (simp; omega))) (.refl _) hval
theorem c_fog_CheckRunners (p0 : (List Runner)) {r : Int} (H : fog_CheckRunners p0 = some r) : Ctr Try.prog 60 [roL 2 enc_Runner p0] (.int .i64 (r)) := by
 unfold fog_CheckRunners at H
 refine Ctr.of_body (N := 70) Try.func60 (by kernel_rfl) (c := _) rfl Try.ntmps60 rfl (fun w0 h0 hval => ?_)
 refine W.rg env [0] [] ?_
 refine W.seq ?_
 refine W.rg env [0, 9] [] ?_
 refine W.cond rfl (fun hb1 => ?_) (fun hb1 => ?_)
 · have H := of_true H hb1
   refine W.rg env [2] [] ?_
   refine W.ret ?_
   refine At.rthen ?_
   cases H
   exact At.ret env.ty rfl rfl (fun q hq => by cases hq) (.refl _) hval
 · have H := of_false H hb1
   refine W.skip ?_
   refine At.thenC ?_
   refine W.seq ?_
   refine W.rg env [0, 10, 11, 12] [] ?_
   refine W.block ?_
   refine At.keep (ts := [0, 10, 11, 12]) (ids := []) rfl rfl ?_
   refine W.len (t := 10) rfl (fun (hn2 : p0.length ≤ maxLen) => ?_)
   refine W.rangeGo H (fun i2 (s2 : Unit) => [(0, roL 2 enc_Runner p0), (10, roL 2 enc_Runner p0), (11, .int .i64 (((p0.length : Nat) : Int))), (12, .int .i64 ((i2 : Int)))]) (fun i2 (s2 : Unit) => []) (.cons .q (.cons .q (.cons .qi (.cons .qi .nil)))) .nil (fun k2 i2 s2 hle2 H1 H2 K0 hK2 => ?_)
   refine W.rg env [0, 10, 11, 12, 13] [] ?_
   refine W.seq ?_
   refine W.cond rfl (fun hb3 => ?_) (fun hb3 => ?_)
   · have hi2 : i2 < p0.length := by have := of_decide_eq_true hb3; omega
     have H := H1 hi2
     refine W.skip ?_
     refine At.thenC ?_
     refine W.seq ?_
     refine W.block ?_
     refine W.sr env [] [] [0, 3, 4, 10, 11, 12] [4] rfl rfl rfl (.cons (⟨by omega, by omega⟩ : 0 ≤ (i2 : Int) ∧ (i2 : Int) < ((p0.length : Nat) : Int)) .nil) .nil ?_
     refine W.seq ?_
     obtain ⟨hc4, H⟩ := of_must H
     obtain ⟨hc5, H⟩ := of_must H
     refine W.sr env [] [⟨.bool ((fog_within ((p0.getD i2 default).Id) 1 99)), [], 0, []⟩, ⟨.bool ((fog_within ((((p0.getD i2 default).Districts).length : Nat) : Int) 1 9)), [], 0, []⟩] [0, 4, 10, 11, 12, 42] [4] rfl rfl (by kernel_rfl) (.cons (fun h => h) (.cons (fun h => h) (.cons hc4 (.cons (fun h => h) (.cons hc5 (.cons (fun h => h) (.cons (fun h => h) (.cons (fun h => h) (.cons (fun h => h) (.cons (fun h => h) (.cons (fun h => h) (.cons (fun h => h) (.cons (fun h => h) (.cons (fun hW h => by revert hW h; first | (simp +contextual; done) | grind) (.cons (fun h => by rw [h]; rfl) (.cons (fun h => h) (.cons (fun h => h) (.cons (fun h => h) (.cons (fun h => h) (.cons (fun h => by rw [h]; rfl) .nil)))))))))))))))))))) (.free (c_fog_within ((p0.getD i2 default).Id) 1 99) (.on (fun hW => c_fog_within ((((p0.getD i2 default).Districts).length : Nat) : Int) 1 9) .nil)) ?_
     refine W.cond rfl (fun hb6 => ?_) (fun hb6 => ?_)
     · have H := of_true H hb6
       refine W.rg env [2] [] ?_
       refine W.ret ?_
       refine At.rthen ?_
       refine At.rinb ?_
       refine At.rthen ?_
       refine At.rthen ?_
       refine At.rinb ?_
       refine At.rthen ?_
       cases H
       exact At.ret env.ty rfl rfl (fun q hq => by cases hq) (.refl _) hval
     · have H := of_false H hb6
       refine W.skip ?_
       refine At.thenC ?_
       refine W.rg env [0, 4, 10, 11, 12, 44, 45, 46] [4] ?_
       refine W.block ?_
       refine At.keep (ts := [0, 4, 10, 11, 12, 44, 45, 46]) (ids := [4]) rfl rfl ?_
       refine W.len (t := 44) rfl (fun (hn7 : ((p0.getD i2 default).Districts).length ≤ maxLen) => ?_)
       refine W.rangeGo H (fun i7 (s7 : Unit) => [(0, roL 2 enc_Runner p0), (4, .lp 4 0), (10, roL 2 enc_Runner p0), (11, .int .i64 (((p0.length : Nat) : Int))), (12, .int .i64 ((i2 : Int))), (44, roL 1 enc_Int ((p0.getD i2 default).Districts)), (45, .int .i64 (((((p0.getD i2 default).Districts).length : Nat) : Int))), (46, .int .i64 ((i7 : Int)))]) (fun i7 (s7 : Unit) => [(4, .cells [.int .i64 ((p0.getD i2 default).Id), roL 1 enc_Int ((p0.getD i2 default).Districts)])]) (.cons .q (.cons .q (.cons .q (.cons .qi (.cons .qi (.cons .q (.cons .qi (.cons .qi .nil)))))))) (.cons .q .nil) (fun k7 i7 s7 hle7 H1 H2 K0 hK7 => ?_)
       refine W.rg env [0, 4, 10, 11, 12, 44, 45, 46, 47] [4] ?_
       refine W.seq ?_
       refine W.cond rfl (fun hb8 => ?_) (fun hb8 => ?_)
       · have hi7 : i7 < ((p0.getD i2 default).Districts).length := by have := of_decide_eq_true hb8; omega
         have H := H1 hi7
         refine W.skip ?_
         refine At.thenC ?_
         refine W.seq ?_
         refine W.block ?_
         refine W.sr env [] [] [0, 4, 5, 6, 10, 11, 12, 44, 45, 46] [4] rfl rfl rfl (.cons (⟨by omega, by omega⟩ : 0 ≤ (i7 : Int) ∧ (i7 : Int) < ((((p0.getD i2 default).Districts).length : Nat) : Int)) .nil) .nil ?_
         obtain ⟨hc9, H⟩ := of_must H
         obtain ⟨hc10, H⟩ := of_must H
         refine W.sr env [] [⟨.bool ((fog_isDistrict (((p0.getD i2 default).Districts).getD i7 default))), [], 0, []⟩] [0, 4, 10, 11, 12, 44, 45, 46, 67] [4] rfl rfl rfl (.cons (fun h => h) (.cons (fun h => h) (.cons (fun h => h) (.cons hc9 (.cons (fun h => h) (.cons hc10 (.cons (fun h => h) (.cons (fun h => h) (.cons (fun h => h) (.cons (fun h => h) (.cons (fun h => h) (.cons (fun h => h) (.cons (fun hW h => by revert hW h; first | (simp +contextual; done) | grind) (.cons (fun h => by rw [h]; rfl) .nil)))))))))))))) (.free (c_fog_isDistrict (((p0.getD i2 default).Districts).getD i7 default)) .nil) ?_
         refine W.cond rfl (fun hb11 => ?_) (fun hb11 => ?_)
         · have H := of_true H hb11
           refine W.rg env [2] [] ?_
           refine W.ret ?_
           refine At.rinb ?_
           refine At.rthen ?_
           refine At.rthen ?_
           refine At.rinb ?_
           refine At.rinb ?_
           refine At.rthen ?_
           refine At.rthen ?_
           refine At.rinb ?_
           refine At.rthen ?_
           cases H
           exact At.ret env.ty rfl rfl (fun q hq => by cases hq) (.refl _) hval
         · have H := of_false H hb11
           refine W.skip ?_
           refine At.inb ?_
           refine At.thenC ?_
           refine W.region env [] [] rfl rfl rfl (.cons (by unfold inI; have := hn7; (try unfold maxLen at this); omega) .nil) .nil (At.keep (ts := [0, 4, 10, 11, 12, 44, 45, 46]) (ids := [4]) rfl rfl ?_)
           refine At.thenK (At.keep (ts := [0, 4, 10, 11, 12, 44, 45, 46]) (ids := [4]) rfl rfl ?_)
           exact At.conv (.cons .q (.cons .q (.cons .q (.cons .qi (.cons .qi (.cons .q (.cons .qi (.cons .qi .nil)))))))) (.cons .q .nil) (hK7 hi7 () H)
       · have H := H2 (by have := of_decide_eq_false hb8; omega)
         refine W.exit ?_
         refine At.xthen ?_
         refine At.xthen ?_
         refine At.xhere ?_
         refine At.inb ?_
         refine At.thenC ?_
         refine W.region env [] [] rfl rfl rfl (.cons (by unfold inI; have := hn2; (try unfold maxLen at this); omega) .nil) .nil (At.keep (ts := [0, 10, 11, 12]) (ids := []) rfl rfl ?_)
         refine At.thenK (At.keep (ts := [0, 10, 11, 12]) (ids := []) rfl rfl ?_)
         exact At.conv (.cons .q (.cons .q (.cons .qi (.cons .qi .nil)))) .nil (hK2 hi2 () H)
   · have H := H2 (by have := of_decide_eq_false hb3; omega)
     refine W.exit ?_
     refine At.xthen ?_
     refine At.xthen ?_
     refine At.xhere ?_
     refine At.thenC ?_
     refine W.rg env [2] [] ?_
     refine W.ret ?_
     cases H
     exact At.ret env.ty rfl rfl (fun q hq => by cases hq) (.refl _) hval
theorem c_fog_leaf (p0 : (List Node)) (p1 : (List Runner)) (p2 : Int) {r : (Node × Int)} (H : fog_leaf p0 p1 p2 = some r) : Ctr Try.prog 62 [roL 8 enc_Node p0, roL 2 enc_Runner p1, .int .i64 (p2)] (.tup [.agg [.bool (r.1.Test), .int .i64 (r.1.District), .int .i64 (r.1.Minute), .int .i64 (r.1.Limit), .int .i64 (r.1.Yes), .int .i64 (r.1.No), .int .i64 (r.1.Maybe), roL 2 enc_Send r.1.Sends], .int .i64 (r.2)]) := by
 unfold fog_leaf at H
 refine Ctr.of_body (N := 37) Try.func62 (by kernel_rfl) (c := _) rfl Try.ntmps62 rfl (fun w0 h0 hval => ?_)
 refine W.rg env [0, 1, 2, 6] [6] ?_
 refine W.seq ?_
 refine W.block ?_
 refine W.seq ?_
 obtain ⟨y1, hy2, H⟩ := of_bindO H
 refine W.region env [] [⟨.int .i64 (y1), [], 0, []⟩] rfl rfl rfl .nil (.free (c_fog_CheckPolicy p0 hy2) .nil) (At.keep (ts := [0, 1, 2, 6, 8]) (ids := [6]) rfl rfl ?_)
 refine At.thenC ?_
 refine W.cond rfl (fun hb3 => ?_) (fun hb3 => ?_)
 · have H := of_true H hb3
   refine W.rg env [6, 7] [6] ?_
   refine W.ret ?_
   refine At.rinb ?_
   refine At.rthen ?_
   cases H
   exact At.ret env.ty rfl rfl (fun q hq => by cases hq) (Sim.tupL (.cons (Sim.aggL (.cons (.refl _) (.cons (.refl _) (.cons (.refl _) (.cons (.refl _) (.cons (.refl _) (.cons (.refl _) (.cons (.refl _) (.cons (Sim.nil _ _) .nil))))))))) (.cons (.refl _) .nil))) hval
 · have H := of_false H hb3
   refine W.seq ?_
   obtain ⟨y4, hy5, H⟩ := of_bindO H
   refine W.region env [] [⟨.int .i64 (y4), [], 0, []⟩] rfl rfl rfl .nil (.free (c_fog_CheckRunners p1 hy5) .nil) (At.keep (ts := [0, 2, 6, 13]) (ids := [6]) rfl rfl ?_)
   refine At.thenC ?_
   refine W.cond rfl (fun hb6 => ?_) (fun hb6 => ?_)
   · have H := of_true H hb6
     refine W.rg env [6, 7] [6] ?_
     refine W.ret ?_
     refine At.rinb ?_
     refine At.rthen ?_
     cases H
     exact At.ret env.ty rfl rfl (fun q hq => by cases hq) (Sim.tupL (.cons (Sim.aggL (.cons (.refl _) (.cons (.refl _) (.cons (.refl _) (.cons (.refl _) (.cons (.refl _) (.cons (.refl _) (.cons (.refl _) (.cons (Sim.nil _ _) .nil))))))))) (.cons (.refl _) .nil))) hval
   · have H := of_false H hb6
     obtain ⟨hc7, H⟩ := of_must H
     obtain ⟨hc8, H⟩ := of_must H
     refine W.sr env [] [⟨.bool ((fog_within p2 0 (((p0.length : Nat) : Int) - 1))), [], 0, []⟩] [0, 2, 6, 18] [6] rfl rfl rfl (.cons hc7 (.cons hc8 (.cons (fun h => h) (.cons (fun h => h) (.cons (fun h => h) (.cons (fun h => h) (.cons (fun h => by rw [h]; rfl) .nil))))))) (.free (c_fog_within p2 0 (((p0.length : Nat) : Int) - 1)) .nil) ?_
     refine W.cond rfl (fun hb9 => ?_) (fun hb9 => ?_)
     · have H := of_true H hb9
       refine W.rg env [6, 7] [6] ?_
       refine W.ret ?_
       refine At.rinb ?_
       refine At.rthen ?_
       cases H
       exact At.ret env.ty rfl rfl (fun q hq => by cases hq) (Sim.tupL (.cons (Sim.aggL (.cons (.refl _) (.cons (.refl _) (.cons (.refl _) (.cons (.refl _) (.cons (.refl _) (.cons (.refl _) (.cons (.refl _) (.cons (Sim.nil _ _) .nil))))))))) (.cons (.refl _) .nil))) hval
     · have H := of_false H hb9
       refine W.skip ?_
       refine At.inb ?_
       refine At.thenC ?_
       obtain ⟨hc10, H⟩ := of_must H
       refine W.sr env [] [] [6, 7] [6] rfl rfl rfl (.cons hc10 .nil) .nil ?_
       refine W.ret ?_
       cases H
       exact At.ret env.ty rfl rfl (fun q hq => by cases hq) (.refl _) hval
theorem c_fog_places (p0 : Node) {r : (List Int)} (H : fog_places p0 = some r) : Ctr Try.prog 73 [.agg [.bool (p0.Test), .int .i64 (p0.District), .int .i64 (p0.Minute), .int .i64 (p0.Limit), .int .i64 (p0.Yes), .int .i64 (p0.No), .int .i64 (p0.Maybe), roL 2 enc_Send p0.Sends]] (roL 1 enc_Int r) := by
 unfold fog_places at H
 refine Ctr.of_body (N := 25) Try.func73 (by kernel_rfl) (c := _) rfl Try.ntmps73 rfl (fun w0 h0 hval => ?_)
 refine W.rg env [1] [1] ?_
 refine W.rg env [1, 3] [1] ?_
 refine W.seq ?_
 refine W.rg env [3, 7, 8, 9] [] ?_
 refine W.block ?_
 refine At.nilOwn 3 503 3 1 (e := fun i => enc_Int (([] : List Int).getD i default)) rfl rfl ?_
 refine At.keep (ts := [3, 7, 8, 9]) (ids := [503]) rfl rfl ?_
 refine W.len (t := 7) rfl (fun (hn1 : p0.Sends.length ≤ maxLen) => ?_)
 refine W.rangeGo H (fun i1 (s1 : (List Int)) => [(3, .buf 503 (s1).length), (7, roL 2 enc_Send p0.Sends), (8, .int .i64 (((p0.Sends.length : Nat) : Int))), (9, .int .i64 ((i1 : Int)))]) (fun i1 (s1 : (List Int)) => [(503, bufL 3 1 enc_Int s1)]) (.cons .qb (.cons .q (.cons .qi (.cons .qi .nil)))) (.cons .q .nil) (fun k1 i1 s1 hle1 H1 H2 K0 hK1 => ?_)
 refine W.rg env [3, 7, 8, 9, 10] [503] ?_
 refine W.seq ?_
 refine W.cond rfl (fun hb2 => ?_) (fun hb2 => ?_)
 · have hi1 : i1 < p0.Sends.length := by have := of_decide_eq_true hb2; omega
   have H := H1 hi1
   refine W.skip ?_
   refine At.thenC ?_
   refine W.seq ?_
   refine W.block ?_
   refine W.sr env [] [] [3, 5, 7, 8, 9] [5, 503] rfl rfl rfl (.cons (⟨by omega, by omega⟩ : 0 ≤ (i1 : Int) ∧ (i1 : Int) < ((p0.Sends.length : Nat) : Int)) .nil) .nil ?_
   refine W.rg env [3, 5, 7, 8, 9, 14, 15] [5, 503] ?_
   refine W.block ?_
   refine At.keep (ts := [3, 5, 7, 8, 9, 14, 15]) (ids := [5, 503]) rfl rfl ?_
   obtain ⟨hn3, H⟩ := of_must H
   refine W.rangeGo H (fun i3 (s3 : (List Int)) => [(3, .buf 503 (s3).length), (5, .lp 5 0), (7, roL 2 enc_Send p0.Sends), (8, .int .i64 (((p0.Sends.length : Nat) : Int))), (9, .int .i64 ((i1 : Int))), (14, .int .i64 ((p0.Sends.getD i1 default).Many)), (15, .int .i64 ((i3 : Int)))]) (fun i3 (s3 : (List Int)) => [(5, .cells [.int .i64 ((p0.Sends.getD i1 default).District), .int .i64 ((p0.Sends.getD i1 default).Many)]), (503, bufL 3 1 enc_Int s3)]) (.cons .qb (.cons .q (.cons .q (.cons .qi (.cons .qi (.cons .qi (.cons .qi .nil))))))) (.cons .q (.cons .q .nil)) (fun k3 i3 s3 hle3 H1 H2 K0 hK3 => ?_)
   refine W.rg env [3, 5, 7, 8, 9, 14, 15, 16] [5, 503] ?_
   refine W.seq ?_
   refine W.cond rfl (fun hb4 => ?_) (fun hb4 => ?_)
   · have hi3 : i3 < ((p0.Sends.getD i1 default).Many).toNat := by have := of_decide_eq_true hb4; omega
     have H := H1 hi3
     refine W.skip ?_
     refine At.thenC ?_
     refine W.seq ?_
     refine W.block ?_
     obtain ⟨hc5, H⟩ := of_must H
     refine W.region env [] [] rfl rfl rfl (.cons (⟨by first | rfl | (simp; done) | omega | (simp; omega), by have := hc5; first | simpa using this | (unfold room at this ⊢; simp at this ⊢; omega)⟩) .nil) .nil (At.keep (ts := [3, 5, 7, 8, 9, 14, 15]) (ids := [5, 503]) rfl rfl ?_)
     refine At.convM (.cons (.refl _) (.cons (y := bufL 3 1 enc_Int (s3 ++ ([(p0.Sends.getD i1 default).District] : List Int))) (BSim.seg (Seg.push (Seg.refl enc_Int _) (Seg.lit (f := enc_Int) (sz := 1) ([(p0.Sends.getD i1 default).District] : List Int) rfl rfl (fun _ => rfl)))) .nil)) ?_
     refine At.inb ?_
     refine At.thenC ?_
     refine W.region env [] [] rfl rfl rfl (.cons (by unfold inI; have := hn3; (try unfold maxLen at this); omega) .nil) .nil (At.keep (ts := [3, 5, 7, 8, 9, 14, 15]) (ids := [5, 503]) rfl rfl ?_)
     refine At.thenK (At.keep (ts := [3, 5, 7, 8, 9, 14, 15]) (ids := [5, 503]) rfl rfl ?_)
     exact At.conv (.cons .qb (.cons .q (.cons .q (.cons .qi (.cons .qi (.cons .qi (.cons .qi .nil))))))) (.cons .q (.cons .q .nil)) (hK3 hi3 (s3 ++ ([(p0.Sends.getD i1 default).District] : List Int)) H)
   · have H := H2 (by have := of_decide_eq_false hb4; omega)
     refine W.exit ?_
     refine At.xthen ?_
     refine At.xthen ?_
     refine At.xhere ?_
     refine At.inb ?_
     refine At.thenC ?_
     refine W.region env [] [] rfl rfl rfl (.cons (by unfold inI; have := hn1; (try unfold maxLen at this); omega) .nil) .nil (At.keep (ts := [3, 7, 8, 9]) (ids := [503]) rfl rfl ?_)
     refine At.thenK (At.keep (ts := [3, 7, 8, 9]) (ids := [503]) rfl rfl ?_)
     exact At.conv (.cons .qb (.cons .q (.cons .qi (.cons .qi .nil)))) (.cons .q .nil) (hK1 hi1 s3 H)
 · have H := H2 (by have := of_decide_eq_false hb2; omega)
   refine W.exit ?_
   refine At.xthen ?_
   refine At.xthen ?_
   refine At.xhere ?_
   refine At.thenC ?_
   refine W.rg env [2] [503] ?_
   refine W.ret ?_
   cases H
   exact At.ret env.ty rfl rfl (fun q hq => by cases hq; exact (by first | rfl | (simp; done) | omega | (simp; omega))) (.refl _) hval
theorem c_slices_Index_int (p0 : (List Int)) (p1 : Int) {r : Int} (H : slices_Index_int p0 p1 = some r) : Ctr Try.prog 101 [roL 1 enc_Int p0, .int .i64 (p1)] (.int .i64 (r)) := by
 unfold slices_Index_int at H
 refine Ctr.of_body (N := 19) Try.func101 (by kernel_rfl) (c := _) rfl Try.ntmps101 rfl (fun w0 h0 hval => ?_)
 refine W.rg env [0, 1] [] ?_
 refine W.seq ?_
 refine W.rg env [0, 1, 7, 8] [] ?_
 refine W.block ?_
 refine At.keep (ts := [0, 1, 7, 8]) (ids := []) rfl rfl ?_
 refine W.len (t := 0) rfl (fun (hn1 : p0.length ≤ maxLen) => ?_)
 refine W.rangeGo H (fun i1 (s1 : Unit) => [(0, roL 1 enc_Int p0), (1, .int .i64 (p1)), (7, .int .i64 (((p0.length : Nat) : Int))), (8, .int .i64 ((i1 : Int)))]) (fun i1 (s1 : Unit) => []) (.cons .q (.cons .qi (.cons .qi (.cons .qi .nil)))) .nil (fun k1 i1 s1 hle1 H1 H2 K0 hK1 => ?_)
 refine W.rg env [0, 1, 7, 8, 9] [] ?_
 refine W.seq ?_
 refine W.cond rfl (fun hb2 => ?_) (fun hb2 => ?_)
 · have hi1 : i1 < p0.length := by have := of_decide_eq_true hb2; omega
   have H := H1 hi1
   refine W.skip ?_
   refine At.thenC ?_
   refine W.seq ?_
   refine W.block ?_
   refine W.rg env [0, 1, 5, 7, 8] [] ?_
   refine W.sr env [] [] [0, 1, 5, 7, 8, 16] [] rfl rfl rfl (.cons (⟨by omega, by omega⟩ : 0 ≤ (i1 : Int) ∧ (i1 : Int) < ((p0.length : Nat) : Int)) .nil) .nil ?_
   refine W.cond rfl (fun hb3 => ?_) (fun hb3 => ?_)
   · have H := of_true H hb3
     refine W.rg env [4] [] ?_
     refine W.ret ?_
     refine At.rinb ?_
     refine At.rthen ?_
     refine At.rthen ?_
     refine At.rinb ?_
     refine At.rthen ?_
     cases H
     exact At.ret env.ty rfl rfl (fun q hq => by cases hq) (.refl _) hval
   · have H := of_false H hb3
     refine W.skip ?_
     refine At.inb ?_
     refine At.thenC ?_
     refine W.region env [] [] rfl rfl rfl (.cons (by unfold inI; have := hn1; (try unfold maxLen at this); omega) .nil) .nil (At.keep (ts := [0, 1, 7, 8]) (ids := []) rfl rfl ?_)
     refine At.thenK (At.keep (ts := [0, 1, 7, 8]) (ids := []) rfl rfl ?_)
     exact At.conv (.cons .q (.cons .qi (.cons .qi (.cons .qi .nil)))) .nil (hK1 hi1 () H)
 · have H := H2 (by have := of_decide_eq_false hb2; omega)
   refine W.exit ?_
   refine At.xthen ?_
   refine At.xthen ?_
   refine At.xhere ?_
   refine At.thenC ?_
   refine W.rg env [4] [] ?_
   refine W.ret ?_
   cases H
   exact At.ret env.ty rfl rfl (fun q hq => by cases hq) (.refl _) hval
theorem c_slices_Contains_int (p0 : (List Int)) (p1 : Int) {r : Bool} (H : slices_Contains_int p0 p1 = some r) : Ctr Try.prog 67 [roL 1 enc_Int p0, .int .i64 (p1)] (.bool (r)) := by
 unfold slices_Contains_int at H
 refine Ctr.of_body (N := 9) Try.func67 (by kernel_rfl) (c := _) rfl Try.ntmps67 rfl (fun w0 h0 hval => ?_)
 refine W.rg env [0, 1] [] ?_
 refine W.seq ?_
 obtain ⟨y1, hy2, H⟩ := of_bindO H
 refine W.region env [] [⟨.int .i64 (y1), [], 0, []⟩] rfl rfl rfl .nil (.free (c_slices_Index_int p0 p1 hy2) .nil) (At.keep (ts := [4]) (ids := []) rfl rfl ?_)
 refine At.thenC ?_
 refine W.ret ?_
 cases H
 exact At.ret env.ty rfl rfl (fun q hq => by cases hq) (.refl _) hval
theorem c_fog_giver__may (p0 : fog_giver) (p1 : Int) (p2 : Int) {r : Bool} (H : fog_giver__may p0 p1 p2 = some r) : Ctr Try.prog 96 [.rp [roL 2 enc_Runner p0.runners, roL 1 enc_Int p0.places, roL 1 enc_Int p0.of, roL 1 enc_Bool p0.barred], .int .i64 (p1), .int .i64 (p2)] (.bool (r)) := by
 unfold fog_giver__may at H
 refine Ctr.of_body (N := 33) Try.func96 (by kernel_rfl) (c := _) rfl Try.ntmps96 rfl (fun w0 h0 hval => ?_)
 refine W.rg env [0, 1, 2] [] ?_
 refine W.seq ?_
 obtain ⟨hc1, H⟩ := of_must H
 obtain ⟨hc2, H⟩ := of_must H
 obtain ⟨hc3, H⟩ := of_must H
 obtain ⟨y4, hy5, H⟩ := of_bindO H
 refine W.region env [] [⟨.bool (y4), [], 0, []⟩] rfl rfl (by kernel_rfl) (.cons hc1 (.cons (fun h => h) (.cons (fun h => h) (.cons (fun h => h) (.cons hc2 (.cons (fun h => h) (.cons (fun h => h) (.cons (fun h => h) (.cons (fun h => h) (.cons (fun h => h) (.cons (fun h => h) (.cons (fun h => h) (.cons hc3 (.cons (fun h => h) (.cons (fun h => h) (.cons (fun h => h) (.cons (fun h => h) (.cons (fun h => h) (.cons (fun h => h) .nil))))))))))))))))))) (.on (fun hW => c_slices_Contains_int ((p0.runners.getD (p1).toNat default).Districts) (p0.places.getD (p2).toNat default) (of_true hy5 hW)) .nil) (At.keep (ts := [6]) (ids := []) rfl rfl ?_)
 refine At.thenC ?_
 refine W.ret ?_
 cases H
 exact At.ret env.ty rfl rfl (fun q hq => by cases hq) (.refl _) hval
theorem cl_fog_giver__step_l (fuel : Nat) : ∀ (n : Nat) (p0 : fog_giver) (p1 : Int) (p2 : (List Bool)) {r : (Bool × fog_giver × (List Bool))} (H : fog_giver__step_l fuel n p0 p1 p2 = some r), CtrO Try.prog 111 [.lp 90000 0, .int .i64 (p1), .buf 90003 (p2).length] [(90000, .cells [roL 2 enc_Runner p0.runners, roL 1 enc_Int p0.places, .buf 90001 (p0.of).length, .buf 90002 (p0.barred).length]), (90001, bufL 3 1 enc_Int p0.of), (90002, bufL 4 1 enc_Bool p0.barred), (90003, bufL 4 1 enc_Bool p2)] (.bool (r.1)) [(90000, .cells [roL 2 enc_Runner r.2.1.runners, roL 1 enc_Int r.2.1.places, .buf 90001 (r.2.1.of).length, .buf 90002 (r.2.1.barred).length]), (90001, bufL 3 1 enc_Int r.2.1.of), (90002, bufL 4 1 enc_Bool r.2.1.barred), (90003, bufL 4 1 enc_Bool r.2.2)] := by
 intro n; induction n with
 | zero => intro p0 p1 p2 r H; cases H
 | succ n ih =>
   intro p0 p1 p2 r H
   have H : fog_giver__step_l_F fuel (fog_giver__step_l fuel n) p0 p1 p2 = some r := H
   unfold fog_giver__step_l_F at H
   refine CtrL.of_body (N := 58) Try.func111 (by kernel_rfl) (c := _) rfl Try.ntmps111 rfl rfl (fun w0 h0 ρb hval hdom hent => ?_)
   refine W.rg env [0, 1, 2] [90000, 90001, 90002, 90003] ?_
   refine W.seq ?_
   refine W.rg env [0, 1, 2, 12, 13] [90000, 90001, 90002, 90003] ?_
   refine W.block ?_
   refine At.keep (ts := [0, 1, 2, 12, 13]) (ids := [90000, 90001, 90002, 90003]) rfl rfl ?_
   obtain ⟨hn1, H⟩ := of_must H
   refine W.rangeGo H (fun i1 (s1 : (List Int) × (List Bool) × (List Bool) × (List Runner) × (List Int)) => [(0, .lp 90000 0), (1, .int .i64 (p1)), (2, .buf 90003 (s1.2.2.1).length), (12, .int .i64 (((p0.runners.length : Nat) : Int))), (13, .int .i64 ((i1 : Int)))]) (fun i1 (s1 : (List Int) × (List Bool) × (List Bool) × (List Runner) × (List Int)) => [(90000, .cells [roL 2 enc_Runner s1.2.2.2.1, roL 1 enc_Int s1.2.2.2.2, .buf 90001 (s1.1).length, .buf 90002 (s1.2.1).length]), (90001, bufL 3 1 enc_Int s1.1), (90002, bufL 4 1 enc_Bool s1.2.1), (90003, bufL 4 1 enc_Bool s1.2.2.1)]) (.cons .q (.cons .qi (.cons .qb (.cons .qi (.cons .qi .nil))))) (.cons (BSim.cells (.cons .q (.cons .q (.cons .qc (.cons .qc .nil))))) (.cons .q (.cons .q (.cons .q .nil)))) (fun k1 i1 s1 hle1 H1 H2 K0 hK1 => ?_)
   refine W.rg env [0, 1, 2, 12, 13, 14] [90000, 90001, 90002, 90003] ?_
   refine W.seq ?_
   refine W.cond rfl (fun hb2 => ?_) (fun hb2 => ?_)
   · have hi1 : i1 < p0.runners.length := by have := of_decide_eq_true hb2; omega
     have H := H1 hi1
     refine W.skip ?_
     refine At.thenC ?_
     refine W.seq ?_
     refine W.joinC H (fun (s3 : (List Runner) × (List Int) × (List Int) × (List Bool) × (List Bool)) => [(0, .lp 90000 0), (1, .int .i64 (p1)), (2, .buf 90003 (s3.2.2.2.2).length), (12, .int .i64 (((p0.runners.length : Nat) : Int))), (13, .int .i64 ((i1 : Int)))]) (fun (s3 : (List Runner) × (List Int) × (List Int) × (List Bool) × (List Bool)) => [(90000, .cells [roL 2 enc_Runner s3.1, roL 1 enc_Int s3.2.1, .buf 90001 (s3.2.2.1).length, .buf 90002 (s3.2.2.2.1).length]), (90001, bufL 3 1 enc_Int s3.2.2.1), (90002, bufL 4 1 enc_Bool s3.2.2.2.1), (90003, bufL 4 1 enc_Bool s3.2.2.2.2)]) (fun s3 H => ?_) (fun k3 H hK3 => ?_)
     · refine W.region env [] [] rfl rfl rfl (.cons (by unfold inI; have := hn1; (try unfold maxLen at this); omega) .nil) .nil (At.keep (ts := [0, 1, 2, 12, 13]) (ids := [90000, 90001, 90002, 90003]) rfl rfl ?_)
       refine At.thenK (At.keep (ts := [0, 1, 2, 12, 13]) (ids := [90000, 90001, 90002, 90003]) rfl rfl ?_)
       exact At.conv (.cons .q (.cons .qi (.cons .qb (.cons .qi (.cons .qi .nil))))) (.cons (BSim.cells (.cons .q (.cons .q (.cons .qc (.cons .qc .nil))))) (.cons .q (.cons .q (.cons .q .nil)))) (hK1 hi1 (s3.2.2.1, s3.2.2.2.1, s3.2.2.2.2, s3.1, s3.2.1) H)
     · refine W.block ?_
       refine W.rg env [0, 1, 2, 7, 12, 13] [90000, 90001, 90002, 90003] ?_
       refine W.seq ?_
       refine W.seq ?_
       obtain ⟨hc4, H⟩ := of_must H
       obtain ⟨y5, hy6, H⟩ := of_bindO H
       refine W.region env [] [⟨.bool (y5), [], 0, []⟩] rfl rfl rfl (.cons (⟨by first | rfl | (simp; done) | omega | (simp; omega), hc4⟩) (.cons (⟨by first | rfl | (simp; done) | omega | (simp; omega), (by have := hc4; first | omega | (simp only [List.length_set]; omega) | (simp only [Int.toNat_natCast] at *; omega) | (simp at this ⊢; omega))⟩) (.cons (fun hW => ⟨by first | rfl | (simp; done) | omega | (simp; omega), (by first | rfl | (simp; done) | omega | (simp; omega))⟩) (.cons (fun h => h) (.cons (fun h => h) (.cons (fun h => h) (.cons (fun h => h) (.cons (fun h => by rw [h]; rfl) .nil)))))))) (.on (fun hW => c_fog_giver__may (⟨s1.2.2.2.1, s1.2.2.2.2, s1.1, s1.2.1⟩ : fog_giver) (i1 : Int) p1 (of_true hy6 hW)) .nil) (At.keep (ts := [0, 1, 2, 7, 12, 13, 26]) (ids := [90000, 90001, 90002, 90003]) rfl rfl ?_)
       refine At.thenC ?_
       refine W.cond rfl (fun hb7 => ?_) (fun hb7 => ?_)
       · have H := of_true H hb7
         refine W.exit ?_
         refine At.xthen ?_
         refine At.xhere ?_
         refine At.thenK (At.keep (ts := [0, 1, 2, 12, 13]) (ids := [90000, 90001, 90002, 90003]) rfl rfl ?_)
         exact At.conv (.cons .q (.cons .qi (.cons .qb (.cons .qi (.cons .qi .nil))))) (.cons (BSim.cells (.cons .q (.cons .q (.cons .qc (.cons .qc .nil))))) (.cons .q (.cons .q (.cons .q .nil)))) (hK3 (s1.2.2.2.1, s1.2.2.2.2, s1.1, s1.2.1, s1.2.2.1) H)
       · have H := of_false H hb7
         refine W.skip ?_
         refine At.thenC ?_
         refine W.seq ?_
         obtain ⟨hc8, H⟩ := of_must H
         refine W.region env [] [] rfl rfl rfl (.cons (⟨by first | rfl | (simp; done) | omega | (simp; omega), hc8⟩) (.cons (⟨by first | rfl | (simp; done) | omega | (simp; omega), (by have := hc8; first | omega | (simp only [List.length_set]; omega) | (simp only [Int.toNat_natCast] at *; omega) | (simp at this ⊢; omega))⟩) .nil)) .nil (At.keep (ts := [0, 1, 2, 7, 12, 13]) (ids := [90000, 90001, 90002, 90003]) rfl rfl ?_)
         refine At.convM (.cons (.refl _) (.cons (.refl _) (.cons (.refl _) (.cons (y := bufL 4 1 enc_Bool (s1.2.2.1.set i1 true)) (BSim.seg (Seg.set (Seg.refl enc_Bool _) true rfl)) .nil)))) ?_
         refine At.thenC ?_
         refine W.seq ?_
         obtain ⟨hc9, H⟩ := of_must H
         obtain ⟨hc10, H⟩ := of_must H
         obtain ⟨y11, hy12, H⟩ := of_bindO H
         obtain ⟨hc13, H⟩ := of_must H
         obtain ⟨hc14, H⟩ := of_must H
         refine W.region env [] [⟨.bool (y11.1), [(90000, .cells [roL 2 enc_Runner y11.2.1.runners, roL 1 enc_Int y11.2.1.places, .buf 90001 (y11.2.1.of).length, .buf 90002 (y11.2.1.barred).length]), (90001, bufL 3 1 enc_Int y11.2.1.of), (90002, bufL 4 1 enc_Bool y11.2.1.barred), (90003, bufL 4 1 enc_Bool y11.2.2)], 0, [90000, 90001, 90002, 90003]⟩] rfl rfl (by kernel_rfl) (.cons (⟨by first | rfl | (simp; done) | omega | (simp; omega), hc9⟩) (.cons (⟨by first | rfl | (simp; done) | omega | (simp; omega), (by have := hc9; first | omega | (simp only [List.length_set]; omega) | (simp only [Int.toNat_natCast] at *; omega) | (simp at this ⊢; omega))⟩) (.cons (fun h => h) (.cons (fun h => h) (.cons (fun h => h) (.cons (fun hW => ⟨by first | rfl | (simp; done) | omega | (simp; omega), hc10 hW⟩) (.cons (fun h => h) (.cons (fun h => h) (.cons (fun hW => (⟨by first | rfl | (simp; done) | omega | (simp; omega), (by have := hc10 hW; first | omega | (simp only [List.length_set]; omega) | (simp only [Int.toNat_natCast] at *; omega) | (simp at this ⊢; omega))⟩)) (.cons (fun h => h) (.cons (fun hW => by obtain rfl := lend_off hy12 hW; first | exact .refl _ | exact .q) (.cons (fun hW => by obtain rfl := lend_off hy12 hW; first | exact .refl _ | exact .q) (.cons (fun hW => by obtain rfl := lend_off hy12 hW; first | exact .refl _ | exact .q) (.cons (fun hW => by obtain rfl := lend_off hy12 hW; first | exact .refl _ | exact .q) (.cons (fun h => h) (.cons (fun h => h) (.cons (fun h => h) (.cons (fun h => by rw [h]; rfl) .nil)))))))))))))))))) (.on (fun hW => (CtrO.sim (CtrO.ren (ih (⟨s1.2.2.2.1, s1.2.2.2.2, s1.1, s1.2.1⟩ : fog_giver) (s1.1.getD i1 default) (s1.2.2.1.set i1 true) (of_true hy12 hW)) [(90000, 90000), (90001, 90001), (90002, 90002), (90003, 90003)]) (.cons (.refl _) (.cons (.refl _) (.cons .qc .nil))) (.cons (BSim.cells (.cons (.refl _) (.cons (.refl _) (.cons .qc (.cons .qc .nil))))) (.cons (.refl _) (.cons (.refl _) (.cons (.refl _) .nil)))))) .nil) (At.keep (ts := [0, 1, 2, 7, 12, 13, 49]) (ids := [90000, 90001, 90002, 90003]) rfl rfl ?_)
         refine At.thenC ?_
         refine W.cond rfl (fun hb15 => ?_) (fun hb15 => ?_)
         · have H := of_true H hb15
           refine W.seq ?_
           obtain ⟨hc16, H⟩ := of_must H
           refine W.region env [] [] rfl rfl rfl (.cons (⟨by first | rfl | (simp; done) | omega | (simp; omega), hc16⟩) (.cons (⟨by first | rfl | (simp; done) | omega | (simp; omega), (by have := hc16; first | omega | (simp only [List.length_set]; omega) | (simp only [Int.toNat_natCast] at *; omega) | (simp at this ⊢; omega))⟩) .nil)) .nil (At.keep (ts := []) (ids := [90000, 90001, 90002, 90003]) rfl rfl ?_)
           refine At.convM (.cons (.refl _) (.cons (y := bufL 3 1 enc_Int (y11.2.1.of.set i1 p1)) (BSim.seg (Seg.set (Seg.refl enc_Int _) p1 rfl)) (.cons (.refl _) (.cons (.refl _) .nil)))) ?_
           refine At.thenC ?_
           refine W.rg env [6] [90000, 90001, 90002, 90003] ?_
           refine W.ret ?_
           refine At.rinb ?_
           refine At.rthen ?_
           refine At.rthen ?_
           refine At.rinb ?_
           refine At.rthen ?_
           cases H
           exact At.retL env.ty [90000, 90001, 90002, 90003] rfl rfl rfl rfl (.cons (BSim.cells (.cons (.refl _) (.cons (.refl _) (.cons .qc (.cons .qc .nil))))) (.cons (.refl _) (.cons (.refl _) (.cons (.refl _) .nil)))) (.refl _) hval hdom hent rfl rfl
         · have H := of_false H hb15
           refine W.skip ?_
           refine At.inb ?_
           refine At.thenK (At.keep (ts := [0, 1, 2, 12, 13]) (ids := [90000, 90001, 90002, 90003]) rfl rfl ?_)
           exact At.conv (.cons .q (.cons .qi (.cons .qb (.cons .qi (.cons .qi .nil))))) (.cons (BSim.cells (.cons .q (.cons .q (.cons .qc (.cons .qc .nil))))) (.cons .q (.cons .q (.cons .q .nil)))) (hK3 (y11.2.1.runners, y11.2.1.places, y11.2.1.of, y11.2.1.barred, y11.2.2) H)
   · have H := H2 (by have := of_decide_eq_false hb2; omega)
     refine W.exit ?_
     refine At.xthen ?_
     refine At.xthen ?_
     refine At.xhere ?_
     refine At.thenC ?_
     refine W.rg env [6] [90000, 90001, 90002, 90003] ?_
     refine W.ret ?_
     cases H
     exact At.retL env.ty [90000, 90001, 90002, 90003] rfl rfl rfl rfl (.cons (BSim.cells (.cons (.refl _) (.cons (.refl _) (.cons .qc (.cons .qc .nil))))) (.cons (.refl _) (.cons (.refl _) (.cons (.refl _) .nil)))) (.refl _) hval hdom hent rfl rfl
theorem cl_fog_giver__full_l (fuel : Nat) (p0 : fog_giver) (p1 : Int) {r : (Bool × fog_giver)} (H : fog_giver__full_l fuel p0 p1 = some r) : CtrO Try.prog 95 [.lp 90000 0, .int .i64 (p1)] [(90000, .cells [roL 2 enc_Runner p0.runners, roL 1 enc_Int p0.places, .buf 90001 (p0.of).length, .buf 90002 (p0.barred).length]), (90001, bufL 3 1 enc_Int p0.of), (90002, bufL 4 1 enc_Bool p0.barred)] (.bool (r.1)) [(90000, .cells [roL 2 enc_Runner r.2.runners, roL 1 enc_Int r.2.places, .buf 90001 (r.2.of).length, .buf 90002 (r.2.barred).length]), (90001, bufL 3 1 enc_Int r.2.of), (90002, bufL 4 1 enc_Bool r.2.barred)] := by
 unfold fog_giver__full_l at H
 refine CtrL.of_body (N := 45) Try.func95 (by kernel_rfl) (c := _) rfl Try.ntmps95 rfl rfl (fun w0 h0 ρb hval hdom hent => ?_)
 refine W.rg env [0, 1] [90000, 90001, 90002] ?_
 refine W.rg env [0, 1, 5] [90000, 90001, 90002] ?_
 refine W.seq ?_
 refine W.sr env [] [] [0, 1, 5, 14, 15] [90000, 90001, 90002] rfl rfl rfl (.cons (by first | rfl | (simp; done) | omega | (simp; omega)) .nil) .nil ?_
 refine W.block ?_
 refine At.keep (ts := [0, 1, 5, 14, 15]) (ids := [90000, 90001, 90002]) rfl rfl ?_
 obtain ⟨hn1, H⟩ := of_must H
 refine W.rangeGo H (fun i1 (s1 : (List Int)) => [(0, .lp 90000 0), (1, .int .i64 (p1)), (5, .fn (.func 111) [.lp 90000 0] []), (14, .int .i64 (((p0.of.length : Nat) : Int))), (15, .int .i64 ((i1 : Int)))]) (fun i1 (s1 : (List Int)) => [(90000, .cells [roL 2 enc_Runner p0.runners, roL 1 enc_Int p0.places, .buf 90001 (s1).length, .buf 90002 (p0.barred).length]), (90001, bufL 3 1 enc_Int s1), (90002, bufL 4 1 enc_Bool p0.barred)]) (.cons .q (.cons .qi (.cons .q (.cons .qi (.cons .qi .nil))))) (.cons (BSim.cells (.cons .q (.cons .q (.cons .qc (.cons .qc .nil))))) (.cons .q (.cons .q .nil))) (fun k1 i1 s1 hle1 H1 H2 K0 hK1 => ?_)
 refine W.rg env [0, 1, 5, 14, 15, 16] [90000, 90001, 90002] ?_
 refine W.seq ?_
 refine W.cond rfl (fun hb2 => ?_) (fun hb2 => ?_)
 · have hi1 : i1 < p0.of.length := by have := of_decide_eq_true hb2; omega
   have H := H1 hi1
   refine W.skip ?_
   refine At.thenC ?_
   refine W.seq ?_
   refine W.block ?_
   refine W.rg env [0, 1, 5, 6, 14, 15] [90000, 90001, 90002] ?_
   obtain ⟨hc3, H⟩ := of_must H
   refine W.region env [] [] rfl rfl rfl (.cons (⟨by first | rfl | (simp; done) | omega | (simp; omega), hc3⟩) (.cons (⟨by first | rfl | (simp; done) | omega | (simp; omega), (by have := hc3; first | omega | (simp only [List.length_set]; omega) | (simp only [Int.toNat_natCast] at *; omega) | (simp at this ⊢; omega))⟩) .nil)) .nil (At.keep (ts := [0, 1, 5, 14, 15]) (ids := [90000, 90001, 90002]) rfl rfl ?_)
   refine At.convM (.cons (.refl _) (.cons (y := bufL 3 1 enc_Int (s1.set i1 (-1))) (BSim.seg (Seg.set (Seg.refl enc_Int _) (-1) rfl)) (.cons (.refl _) .nil))) ?_
   refine At.inb ?_
   refine At.thenC ?_
   refine W.region env [] [] rfl rfl rfl (.cons (by unfold inI; have := hn1; (try unfold maxLen at this); omega) .nil) .nil (At.keep (ts := [0, 1, 5, 14, 15]) (ids := [90000, 90001, 90002]) rfl rfl ?_)
   refine At.thenK (At.keep (ts := [0, 1, 5, 14, 15]) (ids := [90000, 90001, 90002]) rfl rfl ?_)
   exact At.conv (.cons .q (.cons .qi (.cons .q (.cons .qi (.cons .qi .nil))))) (.cons (BSim.cells (.cons .q (.cons .q (.cons .qc (.cons .qc .nil))))) (.cons .q (.cons .q .nil))) (hK1 hi1 (s1.set i1 (-1)) H)
 · have H := H2 (by have := of_decide_eq_false hb2; omega)
   refine W.exit ?_
   refine At.xthen ?_
   refine At.xthen ?_
   refine At.xhere ?_
   refine At.thenC ?_
   refine W.seq ?_
   refine W.rg env [0, 5, 7] [90000, 90001, 90002] ?_
   refine W.block ?_
   refine At.keep (ts := [0, 5, 7]) (ids := [90000, 90001, 90002]) rfl rfl ?_
   refine W.loopGo H (fun (s4 : Int × (List Int) × (List Bool) × (List Runner) × (List Int)) => [(0, .lp 90000 0), (5, .fn (.func 111) [.lp 90000 0] []), (7, .int .i64 (s4.1))]) (fun (s4 : Int × (List Int) × (List Bool) × (List Runner) × (List Int)) => [(90000, .cells [roL 2 enc_Runner s4.2.2.2.1, roL 1 enc_Int s4.2.2.2.2, .buf 90001 (s4.2.1).length, .buf 90002 (s4.2.2.1).length]), (90001, bufL 3 1 enc_Int s4.2.1), (90002, bufL 4 1 enc_Bool s4.2.2.1)]) (.cons .q (.cons .q (.cons .qi .nil))) (.cons (BSim.cells (.cons .q (.cons .q (.cons .qc (.cons .qc .nil))))) (.cons .q (.cons .q .nil))) (fun k4 s4 H K0 hK4 => ?_)
   refine W.seq ?_
   refine W.rg env [0, 5, 7, 32] [90000, 90001, 90002] ?_
   refine W.cond rfl (fun hb5 => ?_) (fun hb5 => ?_)
   · have H := of_true H hb5
     refine W.skip ?_
     refine At.thenC ?_
     refine W.seq ?_
     refine W.block ?_
     refine W.seq ?_
     obtain ⟨hc6, H⟩ := of_must H
     obtain ⟨y7, hy8, H⟩ := of_bindO H
     refine W.region env [] [⟨.bool (y7.1), [(90000, .cells [roL 2 enc_Runner y7.2.1.runners, roL 1 enc_Int y7.2.1.places, .buf 90001 (y7.2.1.of).length, .buf 90002 (y7.2.1.barred).length]), (90001, bufL 3 1 enc_Int y7.2.1.of), (90002, bufL 4 1 enc_Bool y7.2.1.barred), (42, bufL 4 1 enc_Bool y7.2.2)], 0, [90000, 90001, 90002, 42]⟩] rfl rfl (by kernel_rfl) (.cons hc6 .nil) (.free (CtrO.sim (CtrO.ren (cl_fog_giver__step_l fuel fuel (⟨s4.2.2.2.1, s4.2.2.2.2, s4.2.1, s4.2.2.1⟩ : fog_giver) s4.1 (List.replicate (((s4.2.2.2.1.length : Nat) : Int)).toNat (false : Bool)) hy8) [(90000, 90000), (90001, 90001), (90002, 90002), (90003, 42)]) (.cons (.refl _) (.cons (.refl _) (.cons .qc .nil))) (.cons (BSim.cells (.cons (.refl _) (.cons (.refl _) (.cons .qc (.cons .qc .nil))))) (.cons (.refl _) (.cons (.refl _) (.cons (BSim.seg (Seg.made (f := enc_Bool) false rfl)) .nil))))) .nil) (At.keep (ts := [0, 5, 7, 44]) (ids := [90000, 90001, 90002]) rfl rfl ?_)
     refine At.thenC ?_
     refine W.cond rfl (fun hb9 => ?_) (fun hb9 => ?_)
     · have H := of_true H hb9
       refine W.rg env [4] [90000, 90001, 90002] ?_
       refine W.ret ?_
       refine At.rinb ?_
       refine At.rthen ?_
       refine At.rthen ?_
       refine At.rinb ?_
       refine At.rthen ?_
       cases H
       exact At.retL env.ty [90000, 90001, 90002] rfl rfl rfl rfl (.cons (BSim.cells (.cons (.refl _) (.cons (.refl _) (.cons .qc (.cons .qc .nil))))) (.cons (.refl _) (.cons (.refl _) .nil))) (.refl _) hval hdom hent rfl rfl
     · have H := of_false H hb9
       refine W.skip ?_
       refine At.inb ?_
       refine At.thenC ?_
       obtain ⟨hc10, H⟩ := of_must H
       refine W.region env [] [] rfl rfl rfl (.cons hc10 .nil) .nil (At.keep (ts := [0, 5, 7]) (ids := [90000, 90001, 90002]) rfl rfl ?_)
       refine At.thenK (At.keep (ts := [0, 5, 7]) (ids := [90000, 90001, 90002]) rfl rfl ?_)
       exact At.conv (.cons .q (.cons .q (.cons .qi .nil))) (.cons (BSim.cells (.cons .q (.cons .q (.cons .qc (.cons .qc .nil))))) (.cons .q (.cons .q .nil))) (hK4 ((s4.1 + 1), y7.2.1.of, y7.2.1.barred, y7.2.1.runners, y7.2.1.places) H)
   · have H := of_false H hb5
     refine W.exit ?_
     refine At.xthen ?_
     refine At.xthen ?_
     refine At.xhere ?_
     refine At.thenC ?_
     refine W.rg env [4] [90000, 90001, 90002] ?_
     refine W.ret ?_
     cases H
     exact At.retL env.ty [90000, 90001, 90002] rfl rfl rfl rfl (.cons (BSim.cells (.cons (.refl _) (.cons (.refl _) (.cons .qc (.cons .qc .nil))))) (.cons (.refl _) (.cons (.refl _) .nil))) (.refl _) hval hdom hent rfl rfl
theorem c_fog_give (fuel : Nat) (p0 : Node) (p1 : (List Runner)) {r : ((List Int) × Bool)} (H : fog_give fuel p0 p1 = some r) : Ctr Try.prog 61 [.agg [.bool (p0.Test), .int .i64 (p0.District), .int .i64 (p0.Minute), .int .i64 (p0.Limit), .int .i64 (p0.Yes), .int .i64 (p0.No), .int .i64 (p0.Maybe), roL 2 enc_Send p0.Sends], roL 2 enc_Runner p1] (.tup [roL 1 enc_Int r.1, .bool (r.2)]) := by
 unfold fog_give at H
 refine Ctr.of_body (N := 69) Try.func61 (by kernel_rfl) (c := _) rfl Try.ntmps61 rfl (fun w0 h0 hval => ?_)
 refine W.rg env [1, 2] [2] ?_
 refine W.scope ?_
 refine W.seq ?_
 obtain ⟨y1, hy2, H⟩ := of_bindO H
 obtain ⟨hc3, H⟩ := of_must H
 obtain ⟨hc4, H⟩ := of_must H
 refine W.region env [] [⟨roL 1 enc_Int y1, [], 0, []⟩] rfl rfl (by kernel_rfl) (.cons hc3 (.cons hc4 .nil)) (.free (c_fog_places p0 hy2) .nil) (At.keep (ts := [1, 6]) (ids := [16, 19, 21]) rfl rfl ?_)
 refine At.convM (.cons (y := bufL 3 1 enc_Int (List.replicate (((p1.length : Nat) : Int)).toNat (0 : Int))) (BSim.seg (Seg.made (f := enc_Int) 0 rfl)) (.cons (y := bufL 4 1 enc_Bool (List.replicate (((p1.length : Nat) : Int)).toNat (false : Bool))) (BSim.seg (Seg.made (f := enc_Bool) false rfl)) (.cons (.refl _) .nil))) ?_
 refine At.thenC ?_
 refine W.seq ?_
 refine W.seq ?_
 obtain ⟨y5, hy6, H⟩ := of_bindO H
 refine W.region env [] [⟨.bool (y5.1), [(21, .cells [roL 2 enc_Runner y5.2.runners, roL 1 enc_Int y5.2.places, .buf 16 (y5.2.of).length, .buf 19 (y5.2.barred).length]), (16, bufL 3 1 enc_Int y5.2.of), (19, bufL 4 1 enc_Bool y5.2.barred)], 0, [21, 16, 19]⟩] rfl rfl (by kernel_rfl) .nil (.free (CtrO.sim (CtrO.ren (cl_fog_giver__full_l fuel (⟨p1, y1, (List.replicate (((p1.length : Nat) : Int)).toNat (0 : Int)), (List.replicate (((p1.length : Nat) : Int)).toNat (false : Bool))⟩ : fog_giver) 0 hy6) [(90000, 21), (90001, 16), (90002, 19)]) (.cons (.refl _) (.cons (.refl _) .nil)) (.cons (BSim.cells (.cons (.refl _) (.cons (.refl _) (.cons .qc (.cons .qc .nil))))) (.cons (.refl _) (.cons (.refl _) .nil)))) .nil) (At.keep (ts := [1, 6, 24]) (ids := [16, 19, 21]) rfl rfl ?_)
 refine At.thenC ?_
 refine W.cond rfl (fun hb7 => ?_) (fun hb7 => ?_)
 · have H := of_true H hb7
   refine W.rg env [4, 5] [] ?_
   refine W.ret ?_
   refine At.rthen ?_
   refine At.rins ?_
   cases H
   exact At.ret env.ty rfl rfl (fun q hq => by cases hq) (Sim.tupL (.cons (Sim.nil _ _) (.cons (.refl _) .nil))) hval
 · have H := of_false H hb7
   refine W.skip ?_
   refine At.thenC ?_
   refine W.rg env [1, 6, 7] [16, 19, 21] ?_
   refine W.seq ?_
   refine W.label ?_
   refine At.thenC ?_
   refine W.seq ?_
   refine W.rg env [1, 6, 7, 29, 30] [16, 19, 21] ?_
   refine W.block ?_
   refine At.nilOwn 7 507 3 1 (e := fun i => enc_Int (([] : List Int).getD i default)) rfl rfl ?_
   refine At.keep (ts := [1, 6, 7, 29, 30]) (ids := [16, 19, 21, 507]) rfl rfl ?_
   obtain ⟨hn8, H⟩ := of_must H
   refine W.rangeGo H (fun i8 (s8 : (List Int) × (List Bool) × (List Int) × (List Runner) × (List Int)) => [(1, roL 2 enc_Runner p1), (6, .lp 21 0), (7, .buf 507 (s8.2.2.1).length), (29, .int .i64 (((y5.2.places.length : Nat) : Int))), (30, .int .i64 ((i8 : Int)))]) (fun i8 (s8 : (List Int) × (List Bool) × (List Int) × (List Runner) × (List Int)) => [(16, bufL 3 1 enc_Int s8.1), (19, bufL 4 1 enc_Bool s8.2.1), (21, .cells [roL 2 enc_Runner s8.2.2.2.1, roL 1 enc_Int s8.2.2.2.2, .buf 16 (s8.1).length, .buf 19 (s8.2.1).length]), (507, bufL 3 1 enc_Int s8.2.2.1)]) (.cons .q (.cons .q (.cons .qb (.cons .qi (.cons .qi .nil))))) (.cons .q (.cons .q (.cons (BSim.cells (.cons .q (.cons .q (.cons .qc (.cons .qc .nil))))) (.cons .q .nil)))) (fun k8 i8 s8 hle8 H1 H2 K0 hK8 => ?_)
   refine W.rg env [1, 6, 7, 29, 30, 31] [16, 19, 21, 507] ?_
   refine W.seq ?_
   refine W.cond rfl (fun hb9 => ?_) (fun hb9 => ?_)
   · have hi8 : i8 < y5.2.places.length := by have := of_decide_eq_true hb9; omega
     have H := H1 hi8
     refine W.skip ?_
     refine At.thenC ?_
     refine W.seq ?_
     refine W.joinC H (fun (s10 : (List Int) × (List Bool) × (List Runner) × (List Int) × (List Int)) => [(1, roL 2 enc_Runner p1), (6, .lp 21 0), (7, .buf 507 (s10.2.2.2.2).length), (29, .int .i64 (((y5.2.places.length : Nat) : Int))), (30, .int .i64 ((i8 : Int)))]) (fun (s10 : (List Int) × (List Bool) × (List Runner) × (List Int) × (List Int)) => [(16, bufL 3 1 enc_Int s10.1), (19, bufL 4 1 enc_Bool s10.2.1), (21, .cells [roL 2 enc_Runner s10.2.2.1, roL 1 enc_Int s10.2.2.2.1, .buf 16 (s10.1).length, .buf 19 (s10.2.1).length]), (507, bufL 3 1 enc_Int s10.2.2.2.2)]) (fun s10 H => ?_) (fun k10 H hK10 => ?_)
     · refine W.region env [] [] rfl rfl rfl (.cons (by unfold inI; have := hn8; (try unfold maxLen at this); omega) .nil) .nil (At.keep (ts := [1, 6, 7, 29, 30]) (ids := [16, 19, 21, 507]) rfl rfl ?_)
       refine At.thenK (At.keep (ts := [1, 6, 7, 29, 30]) (ids := [16, 19, 21, 507]) rfl rfl ?_)
       exact At.conv (.cons .q (.cons .q (.cons .qb (.cons .qi (.cons .qi .nil))))) (.cons .q (.cons .q (.cons (BSim.cells (.cons .q (.cons .q (.cons .qc (.cons .qc .nil))))) (.cons .q .nil)))) (hK8 hi8 (s10.1, s10.2.1, s10.2.2.2.2, s10.2.2.1, s10.2.2.2.1) H)
     · refine W.block ?_
       refine W.rg env [1, 6, 7, 8, 29, 30] [16, 19, 21, 507] ?_
       refine W.rg env [1, 6, 7, 8, 29, 30, 33, 34, 35] [16, 19, 21, 507] ?_
       refine W.block ?_
       refine At.keep (ts := [1, 6, 7, 8, 29, 30, 33, 34, 35]) (ids := [16, 19, 21, 507]) rfl rfl ?_
       refine W.len (t := 33) rfl (fun (hn11 : p1.length ≤ maxLen) => ?_)
       refine W.rangeGo H (fun i11 (s11 : (List Int) × (List Bool) × (List Runner) × (List Int)) => [(1, roL 2 enc_Runner p1), (6, .lp 21 0), (7, .buf 507 (s8.2.2.1).length), (8, .int .i64 ((i8 : Int))), (29, .int .i64 (((y5.2.places.length : Nat) : Int))), (30, .int .i64 ((i8 : Int))), (33, roL 2 enc_Runner p1), (34, .int .i64 (((p1.length : Nat) : Int))), (35, .int .i64 ((i11 : Int)))]) (fun i11 (s11 : (List Int) × (List Bool) × (List Runner) × (List Int)) => [(16, bufL 3 1 enc_Int s11.1), (19, bufL 4 1 enc_Bool s11.2.1), (21, .cells [roL 2 enc_Runner s11.2.2.1, roL 1 enc_Int s11.2.2.2, .buf 16 (s11.1).length, .buf 19 (s11.2.1).length]), (507, bufL 3 1 enc_Int s8.2.2.1)]) (.cons .q (.cons .q (.cons .qb (.cons .qi (.cons .qi (.cons .qi (.cons .q (.cons .qi (.cons .qi .nil))))))))) (.cons .q (.cons .q (.cons (BSim.cells (.cons .q (.cons .q (.cons .qc (.cons .qc .nil))))) (.cons .q .nil)))) (fun k11 i11 s11 hle11 H1 H2 K0 hK11 => ?_)
       refine W.rg env [1, 6, 7, 8, 29, 30, 33, 34, 35, 36] [16, 19, 21, 507] ?_
       refine W.seq ?_
       refine W.cond rfl (fun hb12 => ?_) (fun hb12 => ?_)
       · have hi11 : i11 < p1.length := by have := of_decide_eq_true hb12; omega
         have H := H1 hi11
         refine W.skip ?_
         refine At.thenC ?_
         refine W.seq ?_
         refine W.joinC H (fun (s13 : (List Int) × (List Bool) × (List Runner) × (List Int)) => [(1, roL 2 enc_Runner p1), (6, .lp 21 0), (7, .buf 507 (s8.2.2.1).length), (8, .int .i64 ((i8 : Int))), (29, .int .i64 (((y5.2.places.length : Nat) : Int))), (30, .int .i64 ((i8 : Int))), (33, roL 2 enc_Runner p1), (34, .int .i64 (((p1.length : Nat) : Int))), (35, .int .i64 ((i11 : Int)))]) (fun (s13 : (List Int) × (List Bool) × (List Runner) × (List Int)) => [(16, bufL 3 1 enc_Int s13.1), (19, bufL 4 1 enc_Bool s13.2.1), (21, .cells [roL 2 enc_Runner s13.2.2.1, roL 1 enc_Int s13.2.2.2, .buf 16 (s13.1).length, .buf 19 (s13.2.1).length]), (507, bufL 3 1 enc_Int s8.2.2.1)]) (fun s13 H => ?_) (fun k13 H hK13 => ?_)
         · refine W.region env [] [] rfl rfl rfl (.cons (by unfold inI; have := hn11; (try unfold maxLen at this); omega) .nil) .nil (At.keep (ts := [1, 6, 7, 8, 29, 30, 33, 34, 35]) (ids := [16, 19, 21, 507]) rfl rfl ?_)
           refine At.thenK (At.keep (ts := [1, 6, 7, 8, 29, 30, 33, 34, 35]) (ids := [16, 19, 21, 507]) rfl rfl ?_)
           exact At.conv (.cons .q (.cons .q (.cons .qb (.cons .qi (.cons .qi (.cons .qi (.cons .q (.cons .qi (.cons .qi .nil))))))))) (.cons .q (.cons .q (.cons (BSim.cells (.cons .q (.cons .q (.cons .qc (.cons .qc .nil))))) (.cons .q .nil)))) (hK11 hi11 (s13.1, s13.2.1, s13.2.2.1, s13.2.2.2) H)
         · refine W.block ?_
           refine W.sr env [] [] [1, 6, 7, 8, 9, 10, 29, 30, 33, 34, 35] [10, 16, 19, 21, 507] rfl rfl rfl (.cons (⟨by omega, by omega⟩ : 0 ≤ (i11 : Int) ∧ (i11 : Int) < ((p1.length : Nat) : Int)) .nil) .nil ?_
           refine W.seq ?_
           refine W.seq ?_
           obtain ⟨y14, hy15, H⟩ := of_bindO H
           refine W.region env [] [⟨.bool (y14), [], 0, []⟩] rfl rfl rfl (.cons ⟨by first | rfl | (simp; done) | omega | (simp; omega), (by first | rfl | (simp; done) | omega | (simp; omega))⟩ .nil) (.free (c_fog_giver__may (⟨s11.2.2.1, s11.2.2.2, s11.1, s11.2.1⟩ : fog_giver) (i11 : Int) (i8 : Int) hy15) .nil) (At.keep (ts := [1, 6, 7, 8, 9, 10, 29, 30, 33, 34, 35, 44]) (ids := [10, 16, 19, 21, 507]) rfl rfl ?_)
           refine At.thenC ?_
           refine W.cond rfl (fun hb16 => ?_) (fun hb16 => ?_)
           · have H := of_true H hb16
             refine W.exit ?_
             refine At.xthen ?_
             refine At.xhere ?_
             refine At.thenK (At.keep (ts := [1, 6, 7, 8, 29, 30, 33, 34, 35]) (ids := [16, 19, 21, 507]) rfl rfl ?_)
             exact At.conv (.cons .q (.cons .q (.cons .qb (.cons .qi (.cons .qi (.cons .qi (.cons .q (.cons .qi (.cons .qi .nil))))))))) (.cons .q (.cons .q (.cons (BSim.cells (.cons .q (.cons .q (.cons .qc (.cons .qc .nil))))) (.cons .q .nil)))) (hK13 (s11.1, s11.2.1, s11.2.2.1, s11.2.2.2) H)
           · have H := of_false H hb16
             refine W.skip ?_
             refine At.thenC ?_
             refine W.seq ?_
             obtain ⟨hc17, H⟩ := of_must H
             refine W.region env [] [] rfl rfl rfl (.cons (⟨by first | rfl | (simp; done) | omega | (simp; omega), hc17⟩) (.cons (⟨by first | rfl | (simp; done) | omega | (simp; omega), (by have := hc17; first | omega | (simp only [List.length_set]; omega) | (simp only [Int.toNat_natCast] at *; omega) | (simp at this ⊢; omega))⟩) .nil)) .nil (At.keep (ts := [1, 6, 7, 8, 9, 10, 29, 30, 33, 34, 35]) (ids := [10, 16, 19, 21, 507]) rfl rfl ?_)
             refine At.convM (.cons (.refl _) (.cons (.refl _) (.cons (y := bufL 4 1 enc_Bool (s11.2.1.set i11 true)) (BSim.seg (Seg.set (Seg.refl enc_Bool _) true rfl)) (.cons (.refl _) (.cons (.refl _) .nil))))) ?_
             refine At.thenC ?_
             refine W.seq ?_
             refine W.seq ?_
             obtain ⟨y18, hy19, H⟩ := of_bindO H
             refine W.region env [] [⟨.bool (y18.1), [(21, .cells [roL 2 enc_Runner y18.2.runners, roL 1 enc_Int y18.2.places, .buf 16 (y18.2.of).length, .buf 19 (y18.2.barred).length]), (16, bufL 3 1 enc_Int y18.2.of), (19, bufL 4 1 enc_Bool y18.2.barred)], 0, [21, 16, 19]⟩] rfl rfl (by kernel_rfl) (.cons (by unfold inI; have := hn8; (try unfold maxLen at this); omega) .nil) (.free (CtrO.sim (CtrO.ren (cl_fog_giver__full_l fuel (⟨s11.2.2.1, s11.2.2.2, s11.1, (s11.2.1.set i11 true)⟩ : fog_giver) ((i8 : Int) + 1) hy19) [(90000, 21), (90001, 16), (90002, 19)]) (.cons (.refl _) (.cons (.refl _) .nil)) (.cons (BSim.cells (.cons (.refl _) (.cons (.refl _) (.cons .qc (.cons .qc .nil))))) (.cons (.refl _) (.cons (.refl _) .nil)))) .nil) (At.keep (ts := [1, 6, 7, 8, 9, 10, 29, 30, 33, 34, 35, 54]) (ids := [10, 16, 19, 21, 507]) rfl rfl ?_)
             refine At.thenC ?_
             refine W.cond rfl (fun hb20 => ?_) (fun hb20 => ?_)
             · have H := of_true H hb20
               refine W.seq ?_
               obtain ⟨hc21, H⟩ := of_must H
               refine W.region env [] [] rfl rfl rfl (.cons (⟨by first | rfl | (simp; done) | omega | (simp; omega), by have := hc21; first | simpa using this | (unfold room at this ⊢; simp at this ⊢; omega)⟩) .nil) .nil (At.keep (ts := [1, 6, 7, 29, 30]) (ids := [16, 19, 21, 507]) rfl rfl ?_)
               refine At.convM (.cons (.refl _) (.cons (.refl _) (.cons (.refl _) (.cons (y := bufL 3 1 enc_Int (s8.2.2.1 ++ ([(p1.getD i11 default).Id] : List Int))) (BSim.seg (Seg.push (Seg.refl enc_Int _) (Seg.lit (f := enc_Int) (sz := 1) ([(p1.getD i11 default).Id] : List Int) rfl rfl (fun _ => rfl)))) .nil)))) ?_
               refine At.thenC ?_
               refine W.exit ?_
               refine At.xthen ?_
               refine At.xpast rfl ?_
               refine At.xthen ?_
               refine At.xthen ?_
               refine At.xpast rfl ?_
               refine At.xhere ?_
               refine At.thenK (At.keep (ts := [1, 6, 7, 29, 30]) (ids := [16, 19, 21, 507]) rfl rfl ?_)
               exact At.conv (.cons .q (.cons .q (.cons .qb (.cons .qi (.cons .qi .nil))))) (.cons .q (.cons .q (.cons (BSim.cells (.cons .q (.cons .q (.cons .qc (.cons .qc .nil))))) (.cons .q .nil)))) (hK10 (y18.2.of, y18.2.barred, y18.2.runners, y18.2.places, (s8.2.2.1 ++ ([(p1.getD i11 default).Id] : List Int))) H)
             · have H := of_false H hb20
               refine W.skip ?_
               refine At.thenC ?_
               obtain ⟨hc22, H⟩ := of_must H
               refine W.region env [] [] rfl rfl rfl (.cons (⟨by first | rfl | (simp; done) | omega | (simp; omega), hc22⟩) (.cons (⟨by first | rfl | (simp; done) | omega | (simp; omega), (by have := hc22; first | omega | (simp only [List.length_set]; omega) | (simp only [Int.toNat_natCast] at *; omega) | (simp at this ⊢; omega))⟩) .nil)) .nil (At.keep (ts := [1, 6, 7, 8, 29, 30, 33, 34, 35]) (ids := [16, 19, 21, 507]) rfl rfl ?_)
               refine At.convM (.cons (.refl _) (.cons (y := bufL 4 1 enc_Bool (y18.2.barred.set i11 false)) (BSim.seg (Seg.set (Seg.refl enc_Bool _) false rfl)) (.cons (.refl _) (.cons (.refl _) .nil)))) ?_
               refine At.inb ?_
               refine At.thenK (At.keep (ts := [1, 6, 7, 8, 29, 30, 33, 34, 35]) (ids := [16, 19, 21, 507]) rfl rfl ?_)
               exact At.conv (.cons .q (.cons .q (.cons .qb (.cons .qi (.cons .qi (.cons .qi (.cons .q (.cons .qi (.cons .qi .nil))))))))) (.cons .q (.cons .q (.cons (BSim.cells (.cons .q (.cons .q (.cons .qc (.cons .qc .nil))))) (.cons .q .nil)))) (hK13 (y18.2.of, (y18.2.barred.set i11 false), y18.2.runners, y18.2.places) H)
       · have H := H2 (by have := of_decide_eq_false hb12; omega)
         refine W.exit ?_
         refine At.xthen ?_
         refine At.xthen ?_
         refine At.xhere ?_
         refine At.inb ?_
         refine At.thenK (At.keep (ts := [1, 6, 7, 29, 30]) (ids := [16, 19, 21, 507]) rfl rfl ?_)
         exact At.conv (.cons .q (.cons .q (.cons .qb (.cons .qi (.cons .qi .nil))))) (.cons .q (.cons .q (.cons (BSim.cells (.cons .q (.cons .q (.cons .qc (.cons .qc .nil))))) (.cons .q .nil)))) (hK10 (s11.1, s11.2.1, s11.2.2.1, s11.2.2.2, s8.2.2.1) H)
   · have H := H2 (by have := of_decide_eq_false hb9; omega)
     refine W.exit ?_
     refine At.xthen ?_
     refine At.xthen ?_
     refine At.xhere ?_
     refine At.thenC ?_
     refine W.rg env [4, 5] [507] ?_
     refine W.ret ?_
     refine At.rins ?_
     cases H
     exact At.ret env.ty rfl rfl (fun q hq => by cases hq; exact (by first | rfl | (simp; done) | omega | (simp; omega))) (.refl _) hval
theorem c_fog_Assign (fuel : Nat) (p0 : (List Node)) (p1 : (List Runner)) (p2 : Int) {r : ((List Int) × Int)} (H : fog_Assign fuel p0 p1 p2 = some r) : Ctr Try.prog 25 [roL 8 enc_Node p0, roL 2 enc_Runner p1, .int .i64 (p2)] (.tup [roL 1 enc_Int r.1, .int .i64 (r.2)]) := by
 unfold fog_Assign at H
 refine Ctr.of_body (N := 31) Try.func25 (by kernel_rfl) (c := _) rfl Try.ntmps25 rfl (fun w0 h0 hval => ?_)
 refine W.rg env [0, 1, 2] [] ?_
 refine W.seq ?_
 obtain ⟨y1, hy2, H⟩ := of_bindO H
 refine W.region env [] [⟨.tup [.agg [.bool (y1.1.Test), .int .i64 (y1.1.District), .int .i64 (y1.1.Minute), .int .i64 (y1.1.Limit), .int .i64 (y1.1.Yes), .int .i64 (y1.1.No), .int .i64 (y1.1.Maybe), roL 2 enc_Send y1.1.Sends], .int .i64 (y1.2)], [], 0, []⟩] rfl rfl rfl .nil (.free (c_fog_leaf p0 p1 p2 hy2) .nil) (At.keep (ts := [1, 8, 9]) (ids := [8]) rfl rfl ?_)
 refine At.thenC ?_
 refine W.seq ?_
 refine W.rg env [1, 8, 9, 20] [8] ?_
 refine W.cond rfl (fun hb3 => ?_) (fun hb3 => ?_)
 · have H := of_true H hb3
   refine W.rg env [6, 7] [] ?_
   refine W.ret ?_
   refine At.rthen ?_
   cases H
   exact At.ret env.ty rfl rfl (fun q hq => by cases hq) (Sim.tupL (.cons (Sim.nil _ _) (.cons (.refl _) .nil))) hval
 · have H := of_false H hb3
   refine W.skip ?_
   refine At.thenC ?_
   refine W.seq ?_
   obtain ⟨y4, hy5, H⟩ := of_bindO H
   refine W.region env [] [⟨.tup [roL 1 enc_Int y4.1, .bool (y4.2)], [], 0, []⟩] rfl rfl rfl .nil (.free (c_fog_give fuel y1.1 p1 hy5) .nil) (At.keep (ts := [10, 11]) (ids := []) rfl rfl ?_)
   refine At.thenC ?_
   refine W.seq ?_
   refine W.rg env [10, 29] [] ?_
   refine W.cond rfl (fun hb6 => ?_) (fun hb6 => ?_)
   · have H := of_true H hb6
     refine W.rg env [6, 7] [] ?_
     refine W.ret ?_
     refine At.rthen ?_
     cases H
     exact At.ret env.ty rfl rfl (fun q hq => by cases hq) (Sim.tupL (.cons (Sim.nil _ _) (.cons (.refl _) .nil))) hval
   · have H := of_false H hb6
     refine W.skip ?_
     refine At.thenC ?_
     refine W.rg env [6, 7] [] ?_
     refine W.ret ?_
     cases H
     exact At.ret env.ty rfl rfl (fun q hq => by cases hq) (.refl _) hval
theorem c_fog_sum (p0 : (List Int)) {r : Int} (H : fog_sum p0 = some r) : Ctr Try.prog 103 [roL 1 enc_Int p0] (.int .i64 (r)) := by
 unfold fog_sum at H
 refine Ctr.of_body (N := 17) Try.func103 (by kernel_rfl) (c := _) rfl Try.ntmps103 rfl (fun w0 h0 hval => ?_)
 refine W.rg env [0] [] ?_
 refine W.rg env [0, 3] [] ?_
 refine W.seq ?_
 refine W.rg env [3, 6, 7, 8] [] ?_
 refine W.block ?_
 refine At.keep (ts := [3, 6, 7, 8]) (ids := []) rfl rfl ?_
 refine W.len (t := 6) rfl (fun (hn1 : p0.length ≤ maxLen) => ?_)
 refine W.rangeGo H (fun i1 (s1 : Int) => [(3, .int .i64 (s1)), (6, roL 1 enc_Int p0), (7, .int .i64 (((p0.length : Nat) : Int))), (8, .int .i64 ((i1 : Int)))]) (fun i1 (s1 : Int) => []) (.cons .qi (.cons .q (.cons .qi (.cons .qi .nil)))) .nil (fun k1 i1 s1 hle1 H1 H2 K0 hK1 => ?_)
 refine W.rg env [3, 6, 7, 8, 9] [] ?_
 refine W.seq ?_
 refine W.cond rfl (fun hb2 => ?_) (fun hb2 => ?_)
 · have hi1 : i1 < p0.length := by have := of_decide_eq_true hb2; omega
   have H := H1 hi1
   refine W.skip ?_
   refine At.thenC ?_
   refine W.seq ?_
   refine W.block ?_
   refine W.sr env [] [] [3, 5, 6, 7, 8] [] rfl rfl rfl (.cons (⟨by omega, by omega⟩ : 0 ≤ (i1 : Int) ∧ (i1 : Int) < ((p0.length : Nat) : Int)) .nil) .nil ?_
   obtain ⟨hc3, H⟩ := of_must H
   refine W.region env [] [] rfl rfl rfl (.cons hc3 .nil) .nil (At.keep (ts := [3, 6, 7, 8]) (ids := []) rfl rfl ?_)
   refine At.inb ?_
   refine At.thenC ?_
   refine W.region env [] [] rfl rfl rfl (.cons (by unfold inI; have := hn1; (try unfold maxLen at this); omega) .nil) .nil (At.keep (ts := [3, 6, 7, 8]) (ids := []) rfl rfl ?_)
   refine At.thenK (At.keep (ts := [3, 6, 7, 8]) (ids := []) rfl rfl ?_)
   exact At.conv (.cons .qi (.cons .q (.cons .qi (.cons .qi .nil)))) .nil (hK1 hi1 (s1 + (p0.getD i1 default)) H)
 · have H := H2 (by have := of_decide_eq_false hb2; omega)
   refine W.exit ?_
   refine At.xthen ?_
   refine At.xthen ?_
   refine At.xhere ?_
   refine At.thenC ?_
   refine W.rg env [2] [] ?_
   refine W.ret ?_
   cases H
   exact At.ret env.ty rfl rfl (fun q hq => by cases hq) (.refl _) hval
theorem c_slices_IndexFunc_int (p0 : (List Int)) (p1 : Int → Option Bool) (p1_g : Nat) (p1_a p1_b : List AV) (p1_h : ∀ x0 r, p1 x0 = some r → Ctr Try.prog p1_g (p1_a ++ ([.int .i64 (x0)] ++ p1_b)) (.bool (r))) {r : Int} (H : slices_IndexFunc_int p0 p1 = some r) : Ctr Try.prog 113 [roL 1 enc_Int p0, .clo (.func p1_g) p1_a p1_b] (.int .i64 (r)) := by
 unfold slices_IndexFunc_int at H
 refine Ctr.of_body (N := 19) Try.func113 (by kernel_rfl) (c := _) rfl Try.ntmps113 rfl (fun w0 h0 hval => ?_)
 refine W.rg env [0, 1] [] ?_
 refine W.seq ?_
 refine W.rg env [0, 1, 7, 8] [] ?_
 refine W.block ?_
 refine At.keep (ts := [0, 1, 7, 8]) (ids := []) rfl rfl ?_
 refine W.len (t := 0) rfl (fun (hn1 : p0.length ≤ maxLen) => ?_)
 refine W.rangeGo H (fun i1 (s1 : Unit) => [(0, roL 1 enc_Int p0), (1, .clo (.func p1_g) p1_a p1_b), (7, .int .i64 (((p0.length : Nat) : Int))), (8, .int .i64 ((i1 : Int)))]) (fun i1 (s1 : Unit) => []) (.cons .q (.cons .q (.cons .qi (.cons .qi .nil)))) .nil (fun k1 i1 s1 hle1 H1 H2 K0 hK1 => ?_)
 refine W.rg env [0, 1, 7, 8, 9] [] ?_
 refine W.seq ?_
 refine W.cond rfl (fun hb2 => ?_) (fun hb2 => ?_)
 · have hi1 : i1 < p0.length := by have := of_decide_eq_true hb2; omega
   have H := H1 hi1
   refine W.skip ?_
   refine At.thenC ?_
   refine W.seq ?_
   refine W.block ?_
   refine W.rg env [0, 1, 5, 7, 8] [] ?_
   refine W.seq ?_
   obtain ⟨y3, hy4, H⟩ := of_bindO H
   refine W.region env [] [⟨.bool (y3), [], 0, []⟩] rfl rfl rfl (.cons (⟨by omega, by omega⟩ : 0 ≤ (i1 : Int) ∧ (i1 : Int) < ((p0.length : Nat) : Int)) .nil) (.free (p1_h (p0.getD i1 default) _ hy4) .nil) (At.keep (ts := [0, 1, 5, 7, 8, 16]) (ids := []) rfl rfl ?_)
   refine At.thenC ?_
   refine W.cond rfl (fun hb5 => ?_) (fun hb5 => ?_)
   · have H := of_true H hb5
     refine W.rg env [4] [] ?_
     refine W.ret ?_
     refine At.rinb ?_
     refine At.rthen ?_
     refine At.rthen ?_
     refine At.rinb ?_
     refine At.rthen ?_
     cases H
     exact At.ret env.ty rfl rfl (fun q hq => by cases hq) (.refl _) hval
   · have H := of_false H hb5
     refine W.skip ?_
     refine At.inb ?_
     refine At.thenC ?_
     refine W.region env [] [] rfl rfl rfl (.cons (by unfold inI; have := hn1; (try unfold maxLen at this); omega) .nil) .nil (At.keep (ts := [0, 1, 7, 8]) (ids := []) rfl rfl ?_)
     refine At.thenK (At.keep (ts := [0, 1, 7, 8]) (ids := []) rfl rfl ?_)
     exact At.conv (.cons .q (.cons .q (.cons .qi (.cons .qi .nil)))) .nil (hK1 hi1 () H)
 · have H := H2 (by have := of_decide_eq_false hb2; omega)
   refine W.exit ?_
   refine At.xthen ?_
   refine At.xthen ?_
   refine At.xhere ?_
   refine At.thenC ?_
   refine W.rg env [4] [] ?_
   refine W.ret ?_
   cases H
   exact At.ret env.ty rfl rfl (fun q hq => by cases hq) (.refl _) hval
theorem c_slices_ContainsFunc_int (p0 : (List Int)) (p1 : Int → Option Bool) (p1_g : Nat) (p1_a p1_b : List AV) (p1_h : ∀ x0 r, p1 x0 = some r → Ctr Try.prog p1_g (p1_a ++ ([.int .i64 (x0)] ++ p1_b)) (.bool (r))) {r : Bool} (H : slices_ContainsFunc_int p0 p1 = some r) : Ctr Try.prog 104 [roL 1 enc_Int p0, .clo (.func p1_g) p1_a p1_b] (.bool (r)) := by
 unfold slices_ContainsFunc_int at H
 refine Ctr.of_body (N := 9) Try.func104 (by kernel_rfl) (c := _) rfl Try.ntmps104 rfl (fun w0 h0 hval => ?_)
 refine W.rg env [0, 1] [] ?_
 refine W.seq ?_
 obtain ⟨y1, hy2, H⟩ := of_bindO H
 refine W.region env [] [⟨.int .i64 (y1), [], 0, []⟩] rfl rfl rfl .nil (.free (c_slices_IndexFunc_int p0 p1 p1_g p1_a p1_b p1_h hy2) .nil) (At.keep (ts := [4]) (ids := []) rfl rfl ?_)
 refine At.thenC ?_
 refine W.ret ?_
 cases H
 exact At.ret env.ty rfl rfl (fun q hq => by cases hq) (.refl _) hval
theorem c_fog_few_1 (p0 : Int) (c0 : (List Int)) {r : Bool} (H : fog_few_1 p0 c0 = some r) : Ctr Try.prog 105 [.int .i64 (p0), .rp [roL 1 enc_Int c0]] (.bool (r)) := by
 unfold fog_few_1 at H
 refine Ctr.of_body (N := 7) Try.func105 (by kernel_rfl) (c := _) rfl Try.ntmps105 rfl (fun w0 h0 hval => ?_)
 refine W.rg env [0, 1] [] ?_
 refine W.seq ?_
 obtain ⟨y1, hy2, H⟩ := of_bindO H
 refine W.region env [] [⟨.bool (y1), [], 0, []⟩] rfl rfl rfl .nil (.free (c_slices_Contains_int c0 p0 hy2) .nil) (At.keep (ts := [3]) (ids := []) rfl rfl ?_)
 refine At.thenC ?_
 refine W.ret ?_
 cases H
 exact At.ret env.ty rfl rfl (fun q hq => by cases hq) (.refl _) hval
theorem c_fog_few (p0 : Node) (p1 : (List Runner)) (p2 : (List Int)) {r : Bool} (H : fog_few p0 p1 p2 = some r) : Ctr Try.prog 78 [.agg [.bool (p0.Test), .int .i64 (p0.District), .int .i64 (p0.Minute), .int .i64 (p0.Limit), .int .i64 (p0.Yes), .int .i64 (p0.No), .int .i64 (p0.Maybe), roL 2 enc_Send p0.Sends], roL 2 enc_Runner p1, roL 1 enc_Int p2] (.bool (r)) := by
 unfold fog_few at H
 refine Ctr.of_body (N := 46) Try.func78 (by kernel_rfl) (c := _) rfl Try.ntmps78 rfl (fun w0 h0 hval => ?_)
 refine W.rg env [1, 3, 5] [3, 5] ?_
 refine W.rg env [1, 3, 5, 7] [3, 5] ?_
 refine W.seq ?_
 refine W.rg env [1, 5, 7, 14, 15, 16] [5] ?_
 refine W.block ?_
 refine At.keep (ts := [1, 5, 7, 14, 15, 16]) (ids := [5]) rfl rfl ?_
 refine W.len (t := 14) rfl (fun (hn1 : p0.Sends.length ≤ maxLen) => ?_)
 refine W.rangeGo H (fun i1 (s1 : Int) => [(1, roL 2 enc_Runner p1), (5, .lp 5 0), (7, .int .i64 (s1)), (14, roL 2 enc_Send p0.Sends), (15, .int .i64 (((p0.Sends.length : Nat) : Int))), (16, .int .i64 ((i1 : Int)))]) (fun i1 (s1 : Int) => [(5, .cells [roL 1 enc_Int p2])]) (.cons .q (.cons .q (.cons .qi (.cons .q (.cons .qi (.cons .qi .nil)))))) (.cons .q .nil) (fun k1 i1 s1 hle1 H1 H2 K0 hK1 => ?_)
 refine W.rg env [1, 5, 7, 14, 15, 16, 17] [5] ?_
 refine W.seq ?_
 refine W.cond rfl (fun hb2 => ?_) (fun hb2 => ?_)
 · have hi1 : i1 < p0.Sends.length := by have := of_decide_eq_true hb2; omega
   have H := H1 hi1
   refine W.skip ?_
   refine At.thenC ?_
   refine W.seq ?_
   refine W.block ?_
   refine W.sr env [] [] [1, 5, 7, 9, 14, 15, 16] [5, 9] rfl rfl rfl (.cons (⟨by omega, by omega⟩ : 0 ≤ (i1 : Int) ∧ (i1 : Int) < ((p0.Sends.length : Nat) : Int)) .nil) .nil ?_
   refine W.seq ?_
   obtain ⟨y3, hy4, H⟩ := of_bindO H
   refine W.region env [] [⟨.bool (y3), [], 0, []⟩] rfl rfl rfl .nil (.free (c_slices_Contains_int p2 ((p0.Sends.getD i1 default).District) hy4) .nil) (At.keep (ts := [1, 5, 7, 9, 14, 15, 16, 23]) (ids := [5, 9]) rfl rfl ?_)
   refine At.thenC ?_
   refine W.cond rfl (fun hb5 => ?_) (fun hb5 => ?_)
   · have H := of_true H hb5
     obtain ⟨y6, hy7, H⟩ := of_bindO H
     refine W.region env [] [⟨.int .i64 (y6), [], 0, []⟩] rfl rfl rfl .nil (.free (Ctr.sim (.cons (Sim.lit (f := enc_Int) ([s1, (p0.Sends.getD i1 default).Many] : List Int) rfl rfl (fun _ => rfl)) .nil) (c_fog_sum ([s1, (p0.Sends.getD i1 default).Many] : List Int) hy7)) .nil) (At.keep (ts := [1, 5, 7, 14, 15, 16]) (ids := [5]) rfl rfl ?_)
     refine At.inb ?_
     refine At.thenC ?_
     refine W.region env [] [] rfl rfl rfl (.cons (by unfold inI; have := hn1; (try unfold maxLen at this); omega) .nil) .nil (At.keep (ts := [1, 5, 7, 14, 15, 16]) (ids := [5]) rfl rfl ?_)
     refine At.thenK (At.keep (ts := [1, 5, 7, 14, 15, 16]) (ids := [5]) rfl rfl ?_)
     exact At.conv (.cons .q (.cons .q (.cons .qi (.cons .q (.cons .qi (.cons .qi .nil)))))) (.cons .q .nil) (hK1 hi1 y6 H)
   · have H := of_false H hb5
     refine W.skip ?_
     refine At.inb ?_
     refine At.thenC ?_
     refine W.region env [] [] rfl rfl rfl (.cons (by unfold inI; have := hn1; (try unfold maxLen at this); omega) .nil) .nil (At.keep (ts := [1, 5, 7, 14, 15, 16]) (ids := [5]) rfl rfl ?_)
     refine At.thenK (At.keep (ts := [1, 5, 7, 14, 15, 16]) (ids := [5]) rfl rfl ?_)
     exact At.conv (.cons .q (.cons .q (.cons .qi (.cons .q (.cons .qi (.cons .qi .nil)))))) (.cons .q .nil) (hK1 hi1 s1 H)
 · have H := H2 (by have := of_decide_eq_false hb2; omega)
   refine W.exit ?_
   refine At.xthen ?_
   refine At.xthen ?_
   refine At.xhere ?_
   refine At.thenC ?_
   refine W.rg env [1, 5, 7, 10] [5] ?_
   refine W.seq ?_
   refine W.rg env [5, 7, 10, 30, 31, 32] [5] ?_
   refine W.block ?_
   refine At.keep (ts := [5, 7, 10, 30, 31, 32]) (ids := [5]) rfl rfl ?_
   refine W.len (t := 30) rfl (fun (hn8 : p1.length ≤ maxLen) => ?_)
   refine W.rangeGo H (fun i8 (s8 : Int) => [(5, .lp 5 0), (7, .int .i64 (s1)), (10, .int .i64 (s8)), (30, roL 2 enc_Runner p1), (31, .int .i64 (((p1.length : Nat) : Int))), (32, .int .i64 ((i8 : Int)))]) (fun i8 (s8 : Int) => [(5, .cells [roL 1 enc_Int p2])]) (.cons .q (.cons .qi (.cons .qi (.cons .q (.cons .qi (.cons .qi .nil)))))) (.cons .q .nil) (fun k8 i8 s8 hle8 H1 H2 K0 hK8 => ?_)
   refine W.rg env [5, 7, 10, 30, 31, 32, 33] [5] ?_
   refine W.seq ?_
   refine W.cond rfl (fun hb9 => ?_) (fun hb9 => ?_)
   · have hi8 : i8 < p1.length := by have := of_decide_eq_true hb9; omega
     have H := H1 hi8
     refine W.skip ?_
     refine At.thenC ?_
     refine W.seq ?_
     refine W.block ?_
     refine W.sr env [] [] [5, 7, 10, 12, 30, 31, 32] [5, 12] rfl rfl rfl (.cons (⟨by omega, by omega⟩ : 0 ≤ (i8 : Int) ∧ (i8 : Int) < ((p1.length : Nat) : Int)) .nil) .nil ?_
     refine W.seq ?_
     obtain ⟨y10, hy11, H⟩ := of_bindO H
     refine W.region env [] [⟨.bool (y10), [], 0, []⟩] rfl rfl rfl .nil (.free (c_slices_ContainsFunc_int ((p1.getD i8 default).Districts) (fun x0 => fog_few_1 x0 p2) 105 [] ([.rp [roL 1 enc_Int p2]]) (fun x0 r h => c_fog_few_1 x0 p2 h) hy11) .nil) (At.keep (ts := [5, 7, 10, 30, 31, 32, 39]) (ids := [5]) rfl rfl ?_)
     refine At.thenC ?_
     refine W.cond rfl (fun hb12 => ?_) (fun hb12 => ?_)
     · have H := of_true H hb12
       obtain ⟨hc13, H⟩ := of_must H
       refine W.region env [] [] rfl rfl rfl (.cons hc13 .nil) .nil (At.keep (ts := [5, 7, 10, 30, 31, 32]) (ids := [5]) rfl rfl ?_)
       refine At.inb ?_
       refine At.thenC ?_
       refine W.region env [] [] rfl rfl rfl (.cons (by unfold inI; have := hn8; (try unfold maxLen at this); omega) .nil) .nil (At.keep (ts := [5, 7, 10, 30, 31, 32]) (ids := [5]) rfl rfl ?_)
       refine At.thenK (At.keep (ts := [5, 7, 10, 30, 31, 32]) (ids := [5]) rfl rfl ?_)
       exact At.conv (.cons .q (.cons .qi (.cons .qi (.cons .q (.cons .qi (.cons .qi .nil)))))) (.cons .q .nil) (hK8 hi8 (s8 + 1) H)
     · have H := of_false H hb12
       refine W.skip ?_
       refine At.inb ?_
       refine At.thenC ?_
       refine W.region env [] [] rfl rfl rfl (.cons (by unfold inI; have := hn8; (try unfold maxLen at this); omega) .nil) .nil (At.keep (ts := [5, 7, 10, 30, 31, 32]) (ids := [5]) rfl rfl ?_)
       refine At.thenK (At.keep (ts := [5, 7, 10, 30, 31, 32]) (ids := [5]) rfl rfl ?_)
       exact At.conv (.cons .q (.cons .qi (.cons .qi (.cons .q (.cons .qi (.cons .qi .nil)))))) (.cons .q .nil) (hK8 hi8 s8 H)
   · have H := H2 (by have := of_decide_eq_false hb9; omega)
     refine W.exit ?_
     refine At.xthen ?_
     refine At.xthen ?_
     refine At.xhere ?_
     refine At.thenC ?_
     refine W.rg env [6] [] ?_
     refine W.ret ?_
     cases H
     exact At.ret env.ty rfl rfl (fun q hq => by cases hq) (.refl _) hval
theorem c_fog_some (p0 : Node) (p1 : (List Runner)) (p2 : (List Int)) {r : Bool} (H : fog_some p0 p1 p2 = some r) : Ctr Try.prog 70 [.agg [.bool (p0.Test), .int .i64 (p0.District), .int .i64 (p0.Minute), .int .i64 (p0.Limit), .int .i64 (p0.Yes), .int .i64 (p0.No), .int .i64 (p0.Maybe), roL 2 enc_Send p0.Sends], roL 2 enc_Runner p1, roL 1 enc_Int p2] (.bool (r)) := by
 unfold fog_some at H
 refine Ctr.of_body (N := 39) Try.func70 (by kernel_rfl) (c := _) rfl Try.ntmps70 rfl (fun w0 h0 hval => ?_)
 refine W.rg env [1, 2, 3] [3] ?_
 refine W.seq ?_
 obtain ⟨hc1, H⟩ := of_must H
 refine W.sr env [] [] [1, 2, 3, 13, 14] [3] rfl rfl rfl (.cons hc1 .nil) .nil ?_
 refine W.block ?_
 refine At.keep (ts := [1, 2, 3, 13, 14]) (ids := [3]) rfl rfl ?_
 obtain ⟨hn2, H⟩ := of_must H
 refine W.rangeGo H (fun i2 (s2 : Unit) => [(1, roL 2 enc_Runner p1), (2, roL 1 enc_Int p2), (3, .lp 3 0), (13, .int .i64 (((1 : Int) * 2 ^ (((p2.length : Nat) : Int) : Int).toNat))), (14, .int .i64 ((i2 : Int)))]) (fun i2 (s2 : Unit) => [(3, .cells [.bool (p0.Test), .int .i64 (p0.District), .int .i64 (p0.Minute), .int .i64 (p0.Limit), .int .i64 (p0.Yes), .int .i64 (p0.No), .int .i64 (p0.Maybe), roL 2 enc_Send p0.Sends])]) (.cons .q (.cons .q (.cons .q (.cons .qi (.cons .qi .nil))))) (.cons .q .nil) (fun k2 i2 s2 hle2 H1 H2 K0 hK2 => ?_)
 refine W.rg env [1, 2, 3, 13, 14, 15] [3] ?_
 refine W.seq ?_
 refine W.cond rfl (fun hb3 => ?_) (fun hb3 => ?_)
 · have hi2 : i2 < (((1 : Int) * 2 ^ (((p2.length : Nat) : Int) : Int).toNat)).toNat := by have := of_decide_eq_true hb3; omega
   have H := H1 hi2
   refine W.skip ?_
   refine At.thenC ?_
   refine W.seq ?_
   refine W.block ?_
   refine W.rg env [1, 2, 3, 7, 13, 14] [3] ?_
   refine W.rg env [1, 2, 3, 7, 8, 13, 14] [3] ?_
   refine W.seq ?_
   refine W.rg env [1, 2, 3, 7, 8, 13, 14, 17, 18, 19] [3] ?_
   refine W.block ?_
   refine At.nilOwn 8 508 3 1 (e := fun i => enc_Int (([] : List Int).getD i default)) rfl rfl ?_
   refine At.keep (ts := [1, 2, 3, 7, 8, 13, 14, 17, 18, 19]) (ids := [3, 508]) rfl rfl ?_
   refine W.len (t := 17) rfl (fun (hn4 : p2.length ≤ maxLen) => ?_)
   refine W.rangeGo H (fun i4 (s4 : (List Int)) => [(1, roL 2 enc_Runner p1), (2, roL 1 enc_Int p2), (3, .lp 3 0), (7, .int .i64 ((i2 : Int))), (8, .buf 508 (s4).length), (13, .int .i64 (((1 : Int) * 2 ^ (((p2.length : Nat) : Int) : Int).toNat))), (14, .int .i64 ((i2 : Int))), (17, roL 1 enc_Int p2), (18, .int .i64 (((p2.length : Nat) : Int))), (19, .int .i64 ((i4 : Int)))]) (fun i4 (s4 : (List Int)) => [(3, .cells [.bool (p0.Test), .int .i64 (p0.District), .int .i64 (p0.Minute), .int .i64 (p0.Limit), .int .i64 (p0.Yes), .int .i64 (p0.No), .int .i64 (p0.Maybe), roL 2 enc_Send p0.Sends]), (508, bufL 3 1 enc_Int s4)]) (.cons .q (.cons .q (.cons .q (.cons .qi (.cons .qb (.cons .qi (.cons .qi (.cons .q (.cons .qi (.cons .qi .nil)))))))))) (.cons .q (.cons .q .nil)) (fun k4 i4 s4 hle4 H1 H2 K0 hK4 => ?_)
   refine W.rg env [1, 2, 3, 7, 8, 13, 14, 17, 18, 19, 20] [3, 508] ?_
   refine W.seq ?_
   refine W.cond rfl (fun hb5 => ?_) (fun hb5 => ?_)
   · have hi4 : i4 < p2.length := by have := of_decide_eq_true hb5; omega
     have H := H1 hi4
     refine W.skip ?_
     refine At.thenC ?_
     refine W.seq ?_
     refine W.block ?_
     refine W.sr env [] [] [1, 2, 3, 7, 8, 9, 10, 13, 14, 17, 18, 19] [3, 508] rfl rfl rfl (.cons (⟨by omega, by omega⟩ : 0 ≤ (i4 : Int) ∧ (i4 : Int) < ((p2.length : Nat) : Int)) .nil) .nil ?_
     obtain ⟨hc6, H⟩ := of_must H
     obtain ⟨hc7, H⟩ := of_must H
     refine W.sr env [] [] [1, 2, 3, 7, 8, 10, 13, 14, 17, 18, 19, 28] [3, 508] rfl rfl rfl (.cons hc6 (.cons hc7 .nil)) .nil ?_
     refine W.cond rfl (fun hb8 => ?_) (fun hb8 => ?_)
     · have H := of_true H hb8
       obtain ⟨hc9, H⟩ := of_must H
       refine W.region env [] [] rfl rfl rfl (.cons (⟨by first | rfl | (simp; done) | omega | (simp; omega), by have := hc9; first | simpa using this | (unfold room at this ⊢; simp at this ⊢; omega)⟩) .nil) .nil (At.keep (ts := [1, 2, 3, 7, 8, 13, 14, 17, 18, 19]) (ids := [3, 508]) rfl rfl ?_)
       refine At.convM (.cons (.refl _) (.cons (y := bufL 3 1 enc_Int (s4 ++ ([(p2.getD i4 default)] : List Int))) (BSim.seg (Seg.push (Seg.refl enc_Int _) (Seg.lit (f := enc_Int) (sz := 1) ([(p2.getD i4 default)] : List Int) rfl rfl (fun _ => rfl)))) .nil)) ?_
       refine At.inb ?_
       refine At.thenC ?_
       refine W.region env [] [] rfl rfl rfl (.cons (by unfold inI; have := hn4; (try unfold maxLen at this); omega) .nil) .nil (At.keep (ts := [1, 2, 3, 7, 8, 13, 14, 17, 18, 19]) (ids := [3, 508]) rfl rfl ?_)
       refine At.thenK (At.keep (ts := [1, 2, 3, 7, 8, 13, 14, 17, 18, 19]) (ids := [3, 508]) rfl rfl ?_)
       exact At.conv (.cons .q (.cons .q (.cons .q (.cons .qi (.cons .qb (.cons .qi (.cons .qi (.cons .q (.cons .qi (.cons .qi .nil)))))))))) (.cons .q (.cons .q .nil)) (hK4 hi4 (s4 ++ ([(p2.getD i4 default)] : List Int)) H)
     · have H := of_false H hb8
       refine W.skip ?_
       refine At.inb ?_
       refine At.thenC ?_
       refine W.region env [] [] rfl rfl rfl (.cons (by unfold inI; have := hn4; (try unfold maxLen at this); omega) .nil) .nil (At.keep (ts := [1, 2, 3, 7, 8, 13, 14, 17, 18, 19]) (ids := [3, 508]) rfl rfl ?_)
       refine At.thenK (At.keep (ts := [1, 2, 3, 7, 8, 13, 14, 17, 18, 19]) (ids := [3, 508]) rfl rfl ?_)
       exact At.conv (.cons .q (.cons .q (.cons .q (.cons .qi (.cons .qb (.cons .qi (.cons .qi (.cons .q (.cons .qi (.cons .qi .nil)))))))))) (.cons .q (.cons .q .nil)) (hK4 hi4 s4 H)
   · have H := H2 (by have := of_decide_eq_false hb5; omega)
     refine W.exit ?_
     refine At.xthen ?_
     refine At.xthen ?_
     refine At.xhere ?_
     refine At.thenC ?_
     refine W.seq ?_
     obtain ⟨y10, hy11, H⟩ := of_bindO H
     refine W.region env [] [⟨.bool (y10), [], 0, []⟩] rfl rfl rfl (.cons (by first | rfl | (simp; done) | omega | (simp; omega)) .nil) (.free (c_fog_few p0 p1 s4 hy11) .nil) (At.keep (ts := [1, 2, 3, 13, 14, 37]) (ids := [3]) rfl rfl ?_)
     refine At.thenC ?_
     refine W.cond rfl (fun hb12 => ?_) (fun hb12 => ?_)
     · have H := of_true H hb12
       refine W.rg env [6] [] ?_
       refine W.ret ?_
       refine At.rinb ?_
       refine At.rthen ?_
       refine At.rthen ?_
       refine At.rinb ?_
       refine At.rthen ?_
       cases H
       exact At.ret env.ty rfl rfl (fun q hq => by cases hq) (.refl _) hval
     · have H := of_false H hb12
       refine W.skip ?_
       refine At.inb ?_
       refine At.thenC ?_
       refine W.region env [] [] rfl rfl rfl (.cons (by unfold inI; have := hn2; (try unfold maxLen at this); omega) .nil) .nil (At.keep (ts := [1, 2, 3, 13, 14]) (ids := [3]) rfl rfl ?_)
       refine At.thenK (At.keep (ts := [1, 2, 3, 13, 14]) (ids := [3]) rfl rfl ?_)
       exact At.conv (.cons .q (.cons .q (.cons .q (.cons .qi (.cons .qi .nil))))) (.cons .q .nil) (hK2 hi2 () H)
 · have H := H2 (by have := of_decide_eq_false hb3; omega)
   refine W.exit ?_
   refine At.xthen ?_
   refine At.xthen ?_
   refine At.xhere ?_
   refine At.thenC ?_
   refine W.rg env [6] [] ?_
   refine W.ret ?_
   cases H
   exact At.ret env.ty rfl rfl (fun q hq => by cases hq) (.refl _) hval
theorem c_slices_Clone_int (p0 : (List Int)) {r : (List Int)} (H : slices_Clone_int p0 = some r) : Ctr Try.prog 72 [roL 1 enc_Int p0] (roL 1 enc_Int r) := by
 unfold slices_Clone_int at H
 refine Ctr.of_body (N := 8) Try.func72 (by kernel_rfl) (c := _) rfl Try.ntmps72 rfl (fun w0 h0 hval => ?_)
 refine W.rg env [0] [] ?_
 refine W.seq ?_
 refine W.rg env [0, 4] [] ?_
 refine W.condNz rfl (fun hz => ?_) ?_
 · obtain rfl : p0 = [] := List.length_eq_zero_iff.1 hz
   obtain ⟨hc1, H⟩ := of_must H
   refine W.rg env [2] [] ?_
   refine W.ret ?_
   refine At.rthen ?_
   cases H
   exact At.ret env.ty rfl rfl (fun q hq => by cases hq) (Sim.nil _ _) hval
 · refine W.skip ?_
   refine At.thenC ?_
   refine W.seq ?_
   obtain ⟨hc1, H⟩ := of_must H
   refine W.region env [5] [] rfl rfl rfl (.cons (⟨by first | rfl | (simp; done) | omega | (simp; omega), by have := hc1; first | simpa using this | (unfold room at this ⊢; simp at this ⊢; omega)⟩) .nil) .nil (At.keep (ts := [2]) (ids := [5]) rfl rfl ?_)
   refine At.convM (.cons (y := bufL 3 1 enc_Int (([] : List Int) ++ p0)) (BSim.seg (Seg.push (Seg.lit (f := enc_Int) (sz := 1) ([] : List Int) rfl rfl (fun _ => rfl)) (Seg.refl enc_Int p0))) .nil) ?_
   refine At.thenC ?_
   refine W.ret ?_
   cases H
   exact At.ret env.ty rfl rfl (fun q hq => by cases hq; exact (by first | rfl | (simp; done) | omega | (simp; omega))) (.refl _) hval
theorem co_slices_Delete_int (p0 : (List Int)) (p1 : Int) (p2 : Int) {r : (List Int)} (H : slices_Delete_int p0 p1 p2 = some r) : CtrO Try.prog 71 [.buf 700 (p0).length, .int .i64 (p1), .int .i64 (p2)] [(700, bufL 3 1 enc_Int p0)] (.buf 900 r.length) [(900, bufL 3 1 enc_Int r)] := by
 unfold slices_Delete_int at H
 refine CtrO.of_body (N := 33) Try.func71 (by kernel_rfl) (c := _) rfl Try.ntmps71 rfl (fun w0 h0 ρb hval hdom => ?_)
 refine W.rg env [0, 1, 2] [700] ?_
 obtain ⟨hc1, H⟩ := of_must H
 refine W.sr env [] [] [0, 1, 2] [700] rfl rfl rfl (.cons (by first | rfl | (simp; done) | omega | (simp; omega)) (.cons (⟨by first | rfl | (simp; done) | omega | (simp; omega), hc1⟩) .nil)) .nil ?_
 refine W.seq ?_
 refine W.rg env [0, 1, 2, 16] [700] ?_
 refine W.cond rfl (fun hb2 => ?_) (fun hb2 => ?_)
 · have H := of_true H hb2
   refine W.rg env [6] [700] ?_
   refine W.ret ?_
   refine At.rthen ?_
   cases H
   exact At.retK env.ty [700] 200 rfl rfl rfl rfl (.cons (.refl _) .nil) (.of_eq (by refine bufEq ?_; first | (simp [copyAt]; done) | omega | (simp [copyAt]; omega) | rfl)) hval hdom rfl
 · have H := of_false H hb2
   refine W.skip ?_
   refine At.thenC ?_
   refine W.sr env [] [] [0, 1, 2, 7] [700] rfl rfl rfl (.cons (by first | rfl | (simp; done) | omega | (simp; omega)) .nil) .nil ?_
   refine W.seq ?_
   obtain ⟨hc3, H⟩ := of_must H
   obtain ⟨hc4, H⟩ := of_must H
   obtain ⟨hc5, H⟩ := of_must H
   refine W.region env [] [] rfl rfl (by first | rfl | kernel_rfl) (.cons (⟨by first | rfl | (simp; done) | omega | (simp; omega), hc3⟩) (.cons (⟨by first | rfl | (simp; done) | omega | (simp; omega), hc4⟩) (.cons (⟨rfl, rfl, by omega, by omega, by omega⟩) .nil))) .nil (At.keep (ts := [0, 7]) (ids := [26]) rfl rfl ?_)
   refine At.convM (.cons (y := bufkL 3 1 p0.length enc_Int (p0.take ((p1).toNat) ++ p0.drop ((p2).toNat))) (BSim.kseg (Seg.moved (f := enc_Int) (l := p0) ((p1).toNat) ((p2).toNat) (by omega) (by omega))) .nil) ?_
   refine At.thenC ?_
   refine W.seq ?_
   obtain ⟨hc6, H⟩ := of_must H
   refine W.region env [] [] rfl rfl rfl (.cons (by first | rfl | (simp; done) | omega | (simp; omega)) (.cons (⟨by first | rfl | (simp; done) | omega | (simp; omega), hc6⟩) (.cons (⟨by first | rfl | (simp; done) | omega | (simp; omega), by first | rfl | (simp; done) | omega | (simp; omega), by first | omega | (simp; omega)⟩) .nil))) .nil (At.keep (ts := [0]) (ids := [26]) rfl rfl ?_)
   refine At.convM (.cons (y := bufkL 3 1 p0.length enc_Int (p0.take ((p1).toNat) ++ p0.drop ((p2).toNat))) (BSim.kseg (Seg.refl enc_Int _)) .nil) ?_
   refine At.thenC ?_
   refine W.rg env [6] [26] ?_
   refine W.ret ?_
   cases H
   exact At.retK env.ty [26] 874 rfl rfl rfl rfl (.cons (.bufk (.refl _)) .nil) (.of_eq (by refine bufEq ?_; first | (simp [copyAt]; done) | omega | (simp [copyAt]; omega) | rfl)) hval hdom rfl
theorem co_slices_Clone_int (p0 : (List Int)) {r : (List Int)} (H : slices_Clone_int p0 = some r) : CtrO Try.prog 72 [roL 1 enc_Int p0] [] (.buf 900 r.length) [(900, bufL 3 1 enc_Int r)] := by
 unfold slices_Clone_int at H
 refine CtrO.of_body (N := 8) Try.func72 (by kernel_rfl) (c := _) rfl Try.ntmps72 rfl (fun w0 h0 ρb hval hdom => ?_)
 refine W.rg env [0] [] ?_
 refine W.seq ?_
 refine W.rg env [0, 4] [] ?_
 refine W.condNz rfl (fun hz => ?_) ?_
 · obtain rfl : p0 = [] := List.length_eq_zero_iff.1 hz
   obtain ⟨hc1, H⟩ := of_must H
   refine W.rg env [2] [] ?_
   refine W.ret ?_
   refine At.rthen ?_
   cases H
   refine At.nilOwn 2 800 3 1 (e := fun i => enc_Int (([] : List Int).getD i default)) rfl rfl ?_
   exact At.retK env.ty [800] 100 rfl rfl rfl rfl (.cons (.refl _) .nil) (.of_eq (by refine bufEq ?_; first | (simp [copyAt]; done) | omega | (simp [copyAt]; omega) | rfl)) hval hdom rfl
 · refine W.skip ?_
   refine At.thenC ?_
   refine W.seq ?_
   obtain ⟨hc1, H⟩ := of_must H
   refine W.region env [5] [] rfl rfl rfl (.cons (⟨by first | rfl | (simp; done) | omega | (simp; omega), by have := hc1; first | simpa using this | (unfold room at this ⊢; simp at this ⊢; omega)⟩) .nil) .nil (At.keep (ts := [2]) (ids := [5]) rfl rfl ?_)
   refine At.convM (.cons (y := bufL 3 1 enc_Int (([] : List Int) ++ p0)) (BSim.seg (Seg.push (Seg.lit (f := enc_Int) (sz := 1) ([] : List Int) rfl rfl (fun _ => rfl)) (Seg.refl enc_Int p0))) .nil) ?_
   refine At.thenC ?_
   refine W.ret ?_
   cases H
   exact At.retK env.ty [5] 895 rfl rfl rfl rfl (.cons (.refl _) .nil) (.of_eq (by refine bufEq ?_; first | (simp [copyAt]; done) | omega | (simp [copyAt]; omega) | rfl)) hval hdom rfl
theorem c_fog_Short (fuel : Nat) (p0 : (List Node)) (p1 : (List Runner)) (p2 : Int) {r : ((List Int) × Int)} (H : fog_Short fuel p0 p1 p2 = some r) : Ctr Try.prog 36 [roL 8 enc_Node p0, roL 2 enc_Runner p1, .int .i64 (p2)] (.tup [roL 1 enc_Int r.1, .int .i64 (r.2)]) := by
 unfold fog_Short at H
 refine Ctr.of_body (N := 62) Try.func36 (by kernel_rfl) (c := _) rfl Try.ntmps36 rfl (fun w0 h0 hval => ?_)
 refine W.rg env [0, 1, 2] [] ?_
 refine W.seq ?_
 obtain ⟨y1, hy2, H⟩ := of_bindO H
 refine W.region env [] [⟨.tup [.agg [.bool (y1.1.Test), .int .i64 (y1.1.District), .int .i64 (y1.1.Minute), .int .i64 (y1.1.Limit), .int .i64 (y1.1.Yes), .int .i64 (y1.1.No), .int .i64 (y1.1.Maybe), roL 2 enc_Send y1.1.Sends], .int .i64 (y1.2)], [], 0, []⟩] rfl rfl rfl .nil (.free (c_fog_leaf p0 p1 p2 hy2) .nil) (At.keep (ts := [1, 8, 9]) (ids := [8]) rfl rfl ?_)
 refine At.thenC ?_
 refine W.seq ?_
 refine W.rg env [1, 8, 9, 23] [8] ?_
 refine W.cond rfl (fun hb3 => ?_) (fun hb3 => ?_)
 · have H := of_true H hb3
   refine W.rg env [6, 7] [] ?_
   refine W.ret ?_
   refine At.rthen ?_
   cases H
   exact At.ret env.ty rfl rfl (fun q hq => by cases hq) (Sim.tupL (.cons (Sim.nil _ _) (.cons (.refl _) .nil))) hval
 · have H := of_false H hb3
   refine W.skip ?_
   refine At.thenC ?_
   refine W.rg env [1, 8, 10] [8] ?_
   refine W.seq ?_
   refine W.rg env [1, 8, 10, 26, 27, 28] [8] ?_
   refine W.block ?_
   refine At.nilOwn 10 510 3 1 (e := fun i => enc_Int (([] : List Int).getD i default)) rfl rfl ?_
   refine At.keep (ts := [1, 8, 10, 26, 27, 28]) (ids := [8, 510]) rfl rfl ?_
   refine W.len (t := 26) rfl (fun (hn4 : y1.1.Sends.length ≤ maxLen) => ?_)
   refine W.rangeGo H (fun i4 (s4 : (List Int)) => [(1, roL 2 enc_Runner p1), (8, .lp 8 0), (10, .buf 510 (s4).length), (26, roL 2 enc_Send y1.1.Sends), (27, .int .i64 (((y1.1.Sends.length : Nat) : Int))), (28, .int .i64 ((i4 : Int)))]) (fun i4 (s4 : (List Int)) => [(8, .cells [.bool (y1.1.Test), .int .i64 (y1.1.District), .int .i64 (y1.1.Minute), .int .i64 (y1.1.Limit), .int .i64 (y1.1.Yes), .int .i64 (y1.1.No), .int .i64 (y1.1.Maybe), roL 2 enc_Send y1.1.Sends]), (510, bufL 3 1 enc_Int s4)]) (.cons .q (.cons .q (.cons .qb (.cons .q (.cons .qi (.cons .qi .nil)))))) (.cons .q (.cons .q .nil)) (fun k4 i4 s4 hle4 H1 H2 K0 hK4 => ?_)
   refine W.rg env [1, 8, 10, 26, 27, 28, 29] [8, 510] ?_
   refine W.seq ?_
   refine W.cond rfl (fun hb5 => ?_) (fun hb5 => ?_)
   · have hi4 : i4 < y1.1.Sends.length := by have := of_decide_eq_true hb5; omega
     have H := H1 hi4
     refine W.skip ?_
     refine At.thenC ?_
     refine W.seq ?_
     refine W.block ?_
     refine W.sr env [] [] [1, 8, 10, 12, 26, 27, 28] [8, 12, 510] rfl rfl rfl (.cons (⟨by omega, by omega⟩ : 0 ≤ (i4 : Int) ∧ (i4 : Int) < ((y1.1.Sends.length : Nat) : Int)) .nil) .nil ?_
     obtain ⟨hc6, H⟩ := of_must H
     refine W.region env [] [] rfl rfl rfl (.cons (⟨by first | rfl | (simp; done) | omega | (simp; omega), by have := hc6; first | simpa using this | (unfold room at this ⊢; simp at this ⊢; omega)⟩) .nil) .nil (At.keep (ts := [1, 8, 10, 26, 27, 28]) (ids := [8, 510]) rfl rfl ?_)
     refine At.convM (.cons (.refl _) (.cons (y := bufL 3 1 enc_Int (s4 ++ ([(y1.1.Sends.getD i4 default).District] : List Int))) (BSim.seg (Seg.push (Seg.refl enc_Int _) (Seg.lit (f := enc_Int) (sz := 1) ([(y1.1.Sends.getD i4 default).District] : List Int) rfl rfl (fun _ => rfl)))) .nil)) ?_
     refine At.inb ?_
     refine At.thenC ?_
     refine W.region env [] [] rfl rfl rfl (.cons (by unfold inI; have := hn4; (try unfold maxLen at this); omega) .nil) .nil (At.keep (ts := [1, 8, 10, 26, 27, 28]) (ids := [8, 510]) rfl rfl ?_)
     refine At.thenK (At.keep (ts := [1, 8, 10, 26, 27, 28]) (ids := [8, 510]) rfl rfl ?_)
     exact At.conv (.cons .q (.cons .q (.cons .qb (.cons .q (.cons .qi (.cons .qi .nil)))))) (.cons .q (.cons .q .nil)) (hK4 hi4 (s4 ++ ([(y1.1.Sends.getD i4 default).District] : List Int)) H)
   · have H := H2 (by have := of_decide_eq_false hb5; omega)
     refine W.exit ?_
     refine At.xthen ?_
     refine At.xthen ?_
     refine At.xhere ?_
     refine At.thenC ?_
     refine W.seq ?_
     refine W.seq ?_
     obtain ⟨y7, hy8, H⟩ := of_bindO H
     refine W.region env [] [⟨.bool (y7), [], 0, []⟩] rfl rfl rfl (.cons (by first | rfl | (simp; done) | omega | (simp; omega)) .nil) (.free (c_fog_some y1.1 p1 s4 hy8) .nil) (At.keep (ts := [1, 8, 10, 42]) (ids := [8, 510]) rfl rfl ?_)
     refine At.thenC ?_
     refine W.cond rfl (fun hb9 => ?_) (fun hb9 => ?_)
     · have H := of_true H hb9
       refine W.rg env [6, 7] [] ?_
       refine W.ret ?_
       refine At.rthen ?_
       cases H
       exact At.ret env.ty rfl rfl (fun q hq => by cases hq) (Sim.tupL (.cons (Sim.nil _ _) (.cons (.refl _) .nil))) hval
     · have H := of_false H hb9
       refine W.skip ?_
       refine At.thenC ?_
       refine W.seq ?_
       obtain ⟨hc10, H⟩ := of_must H
       refine W.sr env [] [] [1, 8, 10, 13] [8, 510] rfl rfl rfl (.cons (by first | rfl | (simp; done) | omega | (simp; omega)) (.cons hc10 .nil)) .nil ?_
       refine W.block ?_
       refine At.freezeA 510 (K := [8]) (ts := [1, 8, 10, 13]) rfl rfl rfl rfl (.cons (by first | rfl | (simp; done) | omega | (simp; omega)) .nil) .nil (fun _ h => h) ?_
       refine At.keep (ts := [1, 8, 10, 13]) (ids := [8]) rfl rfl ?_
       refine W.loopGo H (fun (s11 : Int × (List Int)) => [(1, roL 2 enc_Runner p1), (8, .lp 8 0), (10, roL 1 enc_Int s11.2), (13, .int .i64 (s11.1))]) (fun (s11 : Int × (List Int)) => [(8, .cells [.bool (y1.1.Test), .int .i64 (y1.1.District), .int .i64 (y1.1.Minute), .int .i64 (y1.1.Limit), .int .i64 (y1.1.Yes), .int .i64 (y1.1.No), .int .i64 (y1.1.Maybe), roL 2 enc_Send y1.1.Sends])]) (.cons .q (.cons .q (.cons .q (.cons .qi .nil)))) (.cons .q .nil) (fun k11 s11 H K0 hK11 => ?_)
       refine W.seq ?_
       refine W.rg env [1, 8, 10, 13, 47] [8] ?_
       refine W.cond rfl (fun hb12 => ?_) (fun hb12 => ?_)
       · have H := of_true H hb12
         refine W.skip ?_
         refine At.thenC ?_
         refine W.seq ?_
         refine W.block ?_
         refine W.seq ?_
         obtain ⟨y13, hy14, H⟩ := of_bindO H
         obtain ⟨hc15, H⟩ := of_must H
         obtain ⟨y16, hy17, H⟩ := of_bindO H
         refine W.region env [] [⟨.buf 900 y13.length, [(900, bufL 3 1 enc_Int y13)], 52000, []⟩, ⟨.buf 900 y16.length, [(52900, .dead), (900, bufL 3 1 enc_Int y16)], 56000, []⟩] rfl rfl (by kernel_rfl) (.cons hc15 .nil) (.free ((Ctr.ofO (co_slices_Clone_int s11.2 hy14))) (.free (CtrO.sim (CtrO.at (co_slices_Delete_int y13 s11.1 (s11.1 + 1) hy17) rfl 52900) (.cons .qc (.cons (.refl _) (.cons (.refl _) .nil))) (.cons (.refl _) .nil)) .nil)) (At.keep (ts := [1, 8, 10, 13, 14]) (ids := [8, 56900]) rfl rfl ?_)
         refine At.thenC ?_
         refine W.seq ?_
         obtain ⟨y18, hy19, H⟩ := of_bindO H
         refine W.region env [] [⟨.bool (y18), [], 0, []⟩] rfl rfl rfl (.cons (by first | rfl | (simp; done) | omega | (simp; omega)) .nil) (.free (c_fog_some y1.1 p1 y16 hy19) .nil) (At.keep (ts := [1, 8, 10, 13, 14, 59]) (ids := [8, 56900]) rfl rfl ?_)
         refine At.thenC ?_
         refine W.cond rfl (fun hb20 => ?_) (fun hb20 => ?_)
         · have H := of_true H hb20
           refine W.region env [] [] rfl rfl rfl .nil .nil (At.keep (ts := [1, 8, 10, 13]) (ids := [8, 56900]) rfl rfl ?_)
           refine At.inb ?_
           refine At.thenC ?_
           obtain ⟨hc21, H⟩ := of_must H
           refine W.region env [] [] rfl rfl rfl (.cons hc21 .nil) .nil (At.keep (ts := [1, 8, 10, 13]) (ids := [8, 56900]) rfl rfl ?_)
           refine At.freezeA 56900 (K := [8]) (ts := [1, 8, 10, 13]) rfl rfl rfl rfl (.cons (by first | rfl | (simp; done) | omega | (simp; omega)) .nil) .nil (fun _ h => h) ?_
           refine At.thenK (At.keep (ts := [1, 8, 10, 13]) (ids := [8]) rfl rfl ?_)
           exact At.conv (.cons .q (.cons .q (.cons .q (.cons .qi .nil)))) (.cons .q .nil) (hK11 ((s11.1 - 1), y16) H)
         · have H := of_false H hb20
           refine W.skip ?_
           refine At.inb ?_
           refine At.thenC ?_
           obtain ⟨hc22, H⟩ := of_must H
           refine W.region env [] [] rfl rfl rfl (.cons hc22 .nil) .nil (At.keep (ts := [1, 8, 10, 13]) (ids := [8]) rfl rfl ?_)
           refine At.thenK (At.keep (ts := [1, 8, 10, 13]) (ids := [8]) rfl rfl ?_)
           exact At.conv (.cons .q (.cons .q (.cons .q (.cons .qi .nil)))) (.cons .q .nil) (hK11 ((s11.1 - 1), s11.2) H)
       · have H := of_false H hb12
         refine W.exit ?_
         refine At.xthen ?_
         refine At.xthen ?_
         refine At.xhere ?_
         refine At.thenC ?_
         refine W.rg env [6, 7] [] ?_
         refine W.ret ?_
         cases H
         exact At.ret env.ty rfl rfl (fun q hq => by cases hq) (.refl _) hval
theorem c_slices_IndexFunc_Runner (p0 : (List Runner)) (p1 : Runner → Option Bool) (p1_g : Nat) (p1_a p1_b : List AV) (p1_h : ∀ x0 r, p1 x0 = some r → Ctr Try.prog p1_g (p1_a ++ ([.agg [.int .i64 (x0.Id), roL 1 enc_Int x0.Districts]] ++ p1_b)) (.bool (r))) {r : Int} (H : slices_IndexFunc_Runner p0 p1 = some r) : Ctr Try.prog 74 [roL 2 enc_Runner p0, .clo (.func p1_g) p1_a p1_b] (.int .i64 (r)) := by
 unfold slices_IndexFunc_Runner at H
 refine Ctr.of_body (N := 19) Try.func74 (by kernel_rfl) (c := _) rfl Try.ntmps74 rfl (fun w0 h0 hval => ?_)
 refine W.rg env [0, 1] [] ?_
 refine W.seq ?_
 refine W.rg env [0, 1, 7, 8] [] ?_
 refine W.block ?_
 refine At.keep (ts := [0, 1, 7, 8]) (ids := []) rfl rfl ?_
 refine W.len (t := 0) rfl (fun (hn1 : p0.length ≤ maxLen) => ?_)
 refine W.rangeGo H (fun i1 (s1 : Unit) => [(0, roL 2 enc_Runner p0), (1, .clo (.func p1_g) p1_a p1_b), (7, .int .i64 (((p0.length : Nat) : Int))), (8, .int .i64 ((i1 : Int)))]) (fun i1 (s1 : Unit) => []) (.cons .q (.cons .q (.cons .qi (.cons .qi .nil)))) .nil (fun k1 i1 s1 hle1 H1 H2 K0 hK1 => ?_)
 refine W.rg env [0, 1, 7, 8, 9] [] ?_
 refine W.seq ?_
 refine W.cond rfl (fun hb2 => ?_) (fun hb2 => ?_)
 · have hi1 : i1 < p0.length := by have := of_decide_eq_true hb2; omega
   have H := H1 hi1
   refine W.skip ?_
   refine At.thenC ?_
   refine W.seq ?_
   refine W.block ?_
   refine W.rg env [0, 1, 5, 7, 8] [] ?_
   refine W.seq ?_
   obtain ⟨y3, hy4, H⟩ := of_bindO H
   refine W.region env [] [⟨.bool (y3), [], 0, []⟩] rfl rfl rfl (.cons (⟨by omega, by omega⟩ : 0 ≤ (i1 : Int) ∧ (i1 : Int) < ((p0.length : Nat) : Int)) .nil) (.free (p1_h (p0.getD i1 default) _ hy4) .nil) (At.keep (ts := [0, 1, 5, 7, 8, 16]) (ids := []) rfl rfl ?_)
   refine At.thenC ?_
   refine W.cond rfl (fun hb5 => ?_) (fun hb5 => ?_)
   · have H := of_true H hb5
     refine W.rg env [4] [] ?_
     refine W.ret ?_
     refine At.rinb ?_
     refine At.rthen ?_
     refine At.rthen ?_
     refine At.rinb ?_
     refine At.rthen ?_
     cases H
     exact At.ret env.ty rfl rfl (fun q hq => by cases hq) (.refl _) hval
   · have H := of_false H hb5
     refine W.skip ?_
     refine At.inb ?_
     refine At.thenC ?_
     refine W.region env [] [] rfl rfl rfl (.cons (by unfold inI; have := hn1; (try unfold maxLen at this); omega) .nil) .nil (At.keep (ts := [0, 1, 7, 8]) (ids := []) rfl rfl ?_)
     refine At.thenK (At.keep (ts := [0, 1, 7, 8]) (ids := []) rfl rfl ?_)
     exact At.conv (.cons .q (.cons .q (.cons .qi (.cons .qi .nil)))) .nil (hK1 hi1 () H)
 · have H := H2 (by have := of_decide_eq_false hb2; omega)
   refine W.exit ?_
   refine At.xthen ?_
   refine At.xthen ?_
   refine At.xhere ?_
   refine At.thenC ?_
   refine W.rg env [4] [] ?_
   refine W.ret ?_
   cases H
   exact At.ret env.ty rfl rfl (fun q hq => by cases hq) (.refl _) hval
theorem c_fog_CheckAssign_1 (p0 : Runner) (c0 : Int) : Ctr Try.prog 75 [.agg [.int .i64 (p0.Id), roL 1 enc_Int p0.Districts], .rp [.int .i64 (c0)]] (.bool ((fog_CheckAssign_1 p0 c0))) := by
 obtain ⟨r, H⟩ : ∃ r, fog_CheckAssign_1 p0 c0 = r := ⟨_, rfl⟩
 rw [H]
 unfold fog_CheckAssign_1 at H
 refine Ctr.of_body (N := 8) Try.func75 (by kernel_rfl) (c := _) rfl Try.ntmps75 rfl (fun w0 h0 hval => ?_)
 refine W.rg env [1, 2] [2] ?_
 refine W.rg env [3] [] ?_
 refine W.ret ?_
 cases H
 exact At.ret env.ty rfl rfl (fun q hq => by cases hq) (.refl _) hval
theorem c_fog_CheckAssign (p0 : (List Node)) (p1 : (List Runner)) (p2 : Int) (p3 : (List Int)) {r : Int} (H : fog_CheckAssign p0 p1 p2 p3 = some r) : Ctr Try.prog 37 [roL 8 enc_Node p0, roL 2 enc_Runner p1, .int .i64 (p2), roL 1 enc_Int p3] (.int .i64 (r)) := by
 unfold fog_CheckAssign at H
 refine Ctr.of_body (N := 67) Try.func37 (by kernel_rfl) (c := _) rfl Try.ntmps37 rfl (fun w0 h0 hval => ?_)
 refine W.rg env [0, 1, 2, 3] [] ?_
 refine W.seq ?_
 obtain ⟨y1, hy2, H⟩ := of_bindO H
 refine W.region env [] [⟨.tup [.agg [.bool (y1.1.Test), .int .i64 (y1.1.District), .int .i64 (y1.1.Minute), .int .i64 (y1.1.Limit), .int .i64 (y1.1.Yes), .int .i64 (y1.1.No), .int .i64 (y1.1.Maybe), roL 2 enc_Send y1.1.Sends], .int .i64 (y1.2)], [], 0, []⟩] rfl rfl rfl .nil (.free (c_fog_leaf p0 p1 p2 hy2) .nil) (At.keep (ts := [1, 3, 9, 10]) (ids := [9]) rfl rfl ?_)
 refine At.thenC ?_
 refine W.seq ?_
 refine W.rg env [1, 3, 9, 10, 24] [9] ?_
 refine W.cond rfl (fun hb3 => ?_) (fun hb3 => ?_)
 · have H := of_true H hb3
   refine W.rg env [8] [] ?_
   refine W.ret ?_
   refine At.rthen ?_
   cases H
   exact At.ret env.ty rfl rfl (fun q hq => by cases hq) (.refl _) hval
 · have H := of_false H hb3
   refine W.skip ?_
   refine At.thenC ?_
   refine W.seq ?_
   obtain ⟨y4, hy5, H⟩ := of_bindO H
   refine W.region env [] [⟨roL 1 enc_Int y4, [], 0, []⟩] rfl rfl rfl .nil (.free (c_fog_places y1.1 hy5) .nil) (At.keep (ts := [1, 3, 11]) (ids := []) rfl rfl ?_)
   refine At.thenC ?_
   refine W.seq ?_
   refine W.rg env [1, 3, 11, 32] [] ?_
   refine W.cond rfl (fun hb6 => ?_) (fun hb6 => ?_)
   · have H := of_true H hb6
     refine W.rg env [8] [] ?_
     refine W.ret ?_
     refine At.rthen ?_
     cases H
     exact At.ret env.ty rfl rfl (fun q hq => by cases hq) (.refl _) hval
   · have H := of_false H hb6
     refine W.skip ?_
     refine At.thenC ?_
     refine W.seq ?_
     refine W.region env [] [] rfl rfl rfl .nil .nil (At.keep (ts := [1, 3, 11, 12]) (ids := [33]) rfl rfl ?_)
     refine At.convM (.cons (y := mapL (.bool false) (fun (x : Bool) => .bool (x)) (Mp.empty : Mp Bool)) (BSim.mseg (f := (fun (x : Bool) => .bool (x))) (MSeg.empty rfl)) .nil) ?_
     refine At.thenC ?_
     refine W.seq ?_
     refine W.rg env [1, 11, 12, 34, 35, 36] [33] ?_
     refine W.block ?_
     refine At.keep (ts := [1, 11, 12, 34, 35, 36]) (ids := [33]) rfl rfl ?_
     refine W.len (t := 34) rfl (fun (hn7 : p3.length ≤ maxLen) => ?_)
     refine W.rangeGo H (fun i7 (s7 : (Mp Bool)) => [(1, roL 2 enc_Runner p1), (11, roL 1 enc_Int y4), (12, .mp 33), (34, roL 1 enc_Int p3), (35, .int .i64 (((p3.length : Nat) : Int))), (36, .int .i64 ((i7 : Int)))]) (fun i7 (s7 : (Mp Bool)) => [(33, mapL (.bool false) (fun (x : Bool) => .bool (x)) s7)]) (.cons .q (.cons .q (.cons .q (.cons .q (.cons .qi (.cons .qi .nil)))))) (.cons .q .nil) (fun k7 i7 s7 hle7 H1 H2 K0 hK7 => ?_)
     refine W.rg env [1, 11, 12, 34, 35, 36, 37] [33] ?_
     refine W.seq ?_
     refine W.cond rfl (fun hb8 => ?_) (fun hb8 => ?_)
     · have hi7 : i7 < p3.length := by have := of_decide_eq_true hb8; omega
       have H := H1 hi7
       refine W.skip ?_
       refine At.thenC ?_
       refine W.seq ?_
       refine W.block ?_
       refine W.sr env [] [] [1, 11, 12, 13, 14, 34, 35, 36] [14, 33] rfl rfl rfl (.cons (⟨by omega, by omega⟩ : 0 ≤ (i7 : Int) ∧ (i7 : Int) < ((p3.length : Nat) : Int)) .nil) .nil ?_
       refine W.seq ?_
       obtain ⟨y9, hy10, H⟩ := of_bindO H
       refine W.region env [] [⟨.int .i64 (y9), [], 0, []⟩] rfl rfl rfl .nil (.free (c_slices_IndexFunc_Runner p1 (fun x0 => some (fog_CheckAssign_1 x0 (p3.getD i7 default))) 75 [] ([.rp [.int .i64 ((p3.getD i7 default))]]) (fun x0 r h => by cases h; exact c_fog_CheckAssign_1 x0 (p3.getD i7 default)) hy10) .nil) (At.keep (ts := [1, 11, 12, 13, 14, 15, 34, 35, 36]) (ids := [14, 33]) rfl rfl ?_)
       refine At.thenC ?_
       refine W.seq ?_
       refine W.seq ?_
       obtain ⟨hc11, H⟩ := of_must H
       obtain ⟨hc12, H⟩ := of_must H
       obtain ⟨y13, hy14, H⟩ := of_bindO H
       refine W.region env [] [⟨.bool (y13), [], 0, []⟩] rfl rfl (by kernel_rfl) (.cons (fun _ => rfl) (.cons (fun h => h) (.cons (fun h => h) (.cons (fun h => by rw [h]; rfl) (.cons hc11 (.cons (fun h => h) (.cons (fun h => h) (.cons (fun h => h) (.cons (fun h => h) (.cons hc12 (.cons (fun h => h) (.cons (fun h => h) (.cons (fun h => h) (.cons (fun h => h) (.cons (fun h => h) (.cons (fun h => h) (.cons (fun h => by rw [h]; rfl) .nil))))))))))))))))) (.on (fun hW => c_slices_Contains_int ((p1.getD (y9).toNat default).Districts) (y4.getD i7 default) (of_true hy14 hW)) .nil) (At.keep (ts := [1, 11, 12, 14, 34, 35, 36, 63]) (ids := [14, 33]) rfl rfl ?_)
       refine At.thenC ?_
       refine W.cond rfl (fun hb15 => ?_) (fun hb15 => ?_)
       · have H := of_true H hb15
         refine W.rg env [8] [] ?_
         refine W.ret ?_
         refine At.rthen ?_
         refine At.rinb ?_
         refine At.rthen ?_
         refine At.rthen ?_
         refine At.rinb ?_
         refine At.rthen ?_
         cases H
         exact At.ret env.ty rfl rfl (fun q hq => by cases hq) (.refl _) hval
       · have H := of_false H hb15
         refine W.skip ?_
         refine At.thenC ?_
         refine W.region env [] [] rfl rfl rfl .nil .nil (At.keep (ts := [1, 11, 12, 34, 35, 36]) (ids := [33]) rfl rfl ?_)
         refine At.convM (.cons (y := mapL (.bool false) (fun (x : Bool) => .bool (x)) (s7.set (p3.getD i7 default) true)) (BSim.mseg (f := (fun (x : Bool) => .bool (x))) (MSeg.set (MSeg.refl (fun (x : Bool) => .bool (x)) _) true rfl)) .nil) ?_
         refine At.inb ?_
         refine At.thenC ?_
         refine W.region env [] [] rfl rfl rfl (.cons (by unfold inI; have := hn7; (try unfold maxLen at this); omega) .nil) .nil (At.keep (ts := [1, 11, 12, 34, 35, 36]) (ids := [33]) rfl rfl ?_)
         refine At.thenK (At.keep (ts := [1, 11, 12, 34, 35, 36]) (ids := [33]) rfl rfl ?_)
         exact At.conv (.cons .q (.cons .q (.cons .q (.cons .q (.cons .qi (.cons .qi .nil)))))) (.cons .q .nil) (hK7 hi7 (s7.set (p3.getD i7 default) true) H)
     · have H := H2 (by have := of_decide_eq_false hb8; omega)
       refine W.exit ?_
       refine At.xthen ?_
       refine At.xthen ?_
       refine At.xhere ?_
       refine At.thenC ?_
       refine W.rg env [8] [] ?_
       refine W.ret ?_
       cases H
       exact At.ret env.ty rfl rfl (fun q hq => by cases hq) (.refl _) hval
theorem c_slices_IndexFunc_Send (p0 : (List Send)) (p1 : Send → Option Bool) (p1_g : Nat) (p1_a p1_b : List AV) (p1_h : ∀ x0 r, p1 x0 = some r → Ctr Try.prog p1_g (p1_a ++ ([.agg [.int .i64 (x0.District), .int .i64 (x0.Many)]] ++ p1_b)) (.bool (r))) {r : Int} (H : slices_IndexFunc_Send p0 p1 = some r) : Ctr Try.prog 102 [roL 2 enc_Send p0, .clo (.func p1_g) p1_a p1_b] (.int .i64 (r)) := by
 unfold slices_IndexFunc_Send at H
 refine Ctr.of_body (N := 19) Try.func102 (by kernel_rfl) (c := _) rfl Try.ntmps102 rfl (fun w0 h0 hval => ?_)
 refine W.rg env [0, 1] [] ?_
 refine W.seq ?_
 refine W.rg env [0, 1, 7, 8] [] ?_
 refine W.block ?_
 refine At.keep (ts := [0, 1, 7, 8]) (ids := []) rfl rfl ?_
 refine W.len (t := 0) rfl (fun (hn1 : p0.length ≤ maxLen) => ?_)
 refine W.rangeGo H (fun i1 (s1 : Unit) => [(0, roL 2 enc_Send p0), (1, .clo (.func p1_g) p1_a p1_b), (7, .int .i64 (((p0.length : Nat) : Int))), (8, .int .i64 ((i1 : Int)))]) (fun i1 (s1 : Unit) => []) (.cons .q (.cons .q (.cons .qi (.cons .qi .nil)))) .nil (fun k1 i1 s1 hle1 H1 H2 K0 hK1 => ?_)
 refine W.rg env [0, 1, 7, 8, 9] [] ?_
 refine W.seq ?_
 refine W.cond rfl (fun hb2 => ?_) (fun hb2 => ?_)
 · have hi1 : i1 < p0.length := by have := of_decide_eq_true hb2; omega
   have H := H1 hi1
   refine W.skip ?_
   refine At.thenC ?_
   refine W.seq ?_
   refine W.block ?_
   refine W.rg env [0, 1, 5, 7, 8] [] ?_
   refine W.seq ?_
   obtain ⟨y3, hy4, H⟩ := of_bindO H
   refine W.region env [] [⟨.bool (y3), [], 0, []⟩] rfl rfl rfl (.cons (⟨by omega, by omega⟩ : 0 ≤ (i1 : Int) ∧ (i1 : Int) < ((p0.length : Nat) : Int)) .nil) (.free (p1_h (p0.getD i1 default) _ hy4) .nil) (At.keep (ts := [0, 1, 5, 7, 8, 16]) (ids := []) rfl rfl ?_)
   refine At.thenC ?_
   refine W.cond rfl (fun hb5 => ?_) (fun hb5 => ?_)
   · have H := of_true H hb5
     refine W.rg env [4] [] ?_
     refine W.ret ?_
     refine At.rinb ?_
     refine At.rthen ?_
     refine At.rthen ?_
     refine At.rinb ?_
     refine At.rthen ?_
     cases H
     exact At.ret env.ty rfl rfl (fun q hq => by cases hq) (.refl _) hval
   · have H := of_false H hb5
     refine W.skip ?_
     refine At.inb ?_
     refine At.thenC ?_
     refine W.region env [] [] rfl rfl rfl (.cons (by unfold inI; have := hn1; (try unfold maxLen at this); omega) .nil) .nil (At.keep (ts := [0, 1, 7, 8]) (ids := []) rfl rfl ?_)
     refine At.thenK (At.keep (ts := [0, 1, 7, 8]) (ids := []) rfl rfl ?_)
     exact At.conv (.cons .q (.cons .q (.cons .qi (.cons .qi .nil)))) .nil (hK1 hi1 () H)
 · have H := H2 (by have := of_decide_eq_false hb2; omega)
   refine W.exit ?_
   refine At.xthen ?_
   refine At.xthen ?_
   refine At.xhere ?_
   refine At.thenC ?_
   refine W.rg env [4] [] ?_
   refine W.ret ?_
   cases H
   exact At.ret env.ty rfl rfl (fun q hq => by cases hq) (.refl _) hval
theorem c_slices_ContainsFunc_Send (p0 : (List Send)) (p1 : Send → Option Bool) (p1_g : Nat) (p1_a p1_b : List AV) (p1_h : ∀ x0 r, p1 x0 = some r → Ctr Try.prog p1_g (p1_a ++ ([.agg [.int .i64 (x0.District), .int .i64 (x0.Many)]] ++ p1_b)) (.bool (r))) {r : Bool} (H : slices_ContainsFunc_Send p0 p1 = some r) : Ctr Try.prog 76 [roL 2 enc_Send p0, .clo (.func p1_g) p1_a p1_b] (.bool (r)) := by
 unfold slices_ContainsFunc_Send at H
 refine Ctr.of_body (N := 9) Try.func76 (by kernel_rfl) (c := _) rfl Try.ntmps76 rfl (fun w0 h0 hval => ?_)
 refine W.rg env [0, 1] [] ?_
 refine W.seq ?_
 obtain ⟨y1, hy2, H⟩ := of_bindO H
 refine W.region env [] [⟨.int .i64 (y1), [], 0, []⟩] rfl rfl rfl .nil (.free (c_slices_IndexFunc_Send p0 p1 p1_g p1_a p1_b p1_h hy2) .nil) (At.keep (ts := [4]) (ids := []) rfl rfl ?_)
 refine At.thenC ?_
 refine W.ret ?_
 cases H
 exact At.ret env.ty rfl rfl (fun q hq => by cases hq) (.refl _) hval
theorem c_fog_CheckShort_1 (p0 : Send) (c0 : Int) : Ctr Try.prog 77 [.agg [.int .i64 (p0.District), .int .i64 (p0.Many)], .rp [.int .i64 (c0)]] (.bool ((fog_CheckShort_1 p0 c0))) := by
 obtain ⟨r, H⟩ : ∃ r, fog_CheckShort_1 p0 c0 = r := ⟨_, rfl⟩
 rw [H]
 unfold fog_CheckShort_1 at H
 refine Ctr.of_body (N := 8) Try.func77 (by kernel_rfl) (c := _) rfl Try.ntmps77 rfl (fun w0 h0 hval => ?_)
 refine W.rg env [1, 2] [2] ?_
 refine W.rg env [3] [] ?_
 refine W.ret ?_
 cases H
 exact At.ret env.ty rfl rfl (fun q hq => by cases hq) (.refl _) hval
theorem c_fog_CheckShort (p0 : (List Node)) (p1 : (List Runner)) (p2 : Int) (p3 : (List Int)) {r : Int} (H : fog_CheckShort p0 p1 p2 p3 = some r) : Ctr Try.prog 38 [roL 8 enc_Node p0, roL 2 enc_Runner p1, .int .i64 (p2), roL 1 enc_Int p3] (.int .i64 (r)) := by
 unfold fog_CheckShort at H
 refine Ctr.of_body (N := 59) Try.func38 (by kernel_rfl) (c := _) rfl Try.ntmps38 rfl (fun w0 h0 hval => ?_)
 refine W.rg env [0, 1, 2, 3] [] ?_
 refine W.seq ?_
 obtain ⟨y1, hy2, H⟩ := of_bindO H
 refine W.region env [] [⟨.tup [.agg [.bool (y1.1.Test), .int .i64 (y1.1.District), .int .i64 (y1.1.Minute), .int .i64 (y1.1.Limit), .int .i64 (y1.1.Yes), .int .i64 (y1.1.No), .int .i64 (y1.1.Maybe), roL 2 enc_Send y1.1.Sends], .int .i64 (y1.2)], [], 0, []⟩] rfl rfl rfl .nil (.free (c_fog_leaf p0 p1 p2 hy2) .nil) (At.keep (ts := [1, 3, 9, 10]) (ids := [9]) rfl rfl ?_)
 refine At.thenC ?_
 refine W.seq ?_
 refine W.rg env [1, 3, 9, 10, 21] [9] ?_
 refine W.cond rfl (fun hb3 => ?_) (fun hb3 => ?_)
 · have H := of_true H hb3
   refine W.rg env [8] [] ?_
   refine W.ret ?_
   refine At.rthen ?_
   cases H
   exact At.ret env.ty rfl rfl (fun q hq => by cases hq) (.refl _) hval
 · have H := of_false H hb3
   refine W.skip ?_
   refine At.thenC ?_
   refine W.seq ?_
   refine W.rg env [1, 3, 9, 23, 24, 25] [9] ?_
   refine W.block ?_
   refine At.keep (ts := [1, 3, 9, 23, 24, 25]) (ids := [9]) rfl rfl ?_
   refine W.len (t := 23) rfl (fun (hn4 : p3.length ≤ maxLen) => ?_)
   refine W.rangeGo H (fun i4 (s4 : Unit) => [(1, roL 2 enc_Runner p1), (3, roL 1 enc_Int p3), (9, .lp 9 0), (23, roL 1 enc_Int p3), (24, .int .i64 (((p3.length : Nat) : Int))), (25, .int .i64 ((i4 : Int)))]) (fun i4 (s4 : Unit) => [(9, .cells [.bool (y1.1.Test), .int .i64 (y1.1.District), .int .i64 (y1.1.Minute), .int .i64 (y1.1.Limit), .int .i64 (y1.1.Yes), .int .i64 (y1.1.No), .int .i64 (y1.1.Maybe), roL 2 enc_Send y1.1.Sends])]) (.cons .q (.cons .q (.cons .q (.cons .q (.cons .qi (.cons .qi .nil)))))) (.cons .q .nil) (fun k4 i4 s4 hle4 H1 H2 K0 hK4 => ?_)
   refine W.rg env [1, 3, 9, 23, 24, 25, 26] [9] ?_
   refine W.seq ?_
   refine W.cond rfl (fun hb5 => ?_) (fun hb5 => ?_)
   · have hi4 : i4 < p3.length := by have := of_decide_eq_true hb5; omega
     have H := H1 hi4
     refine W.skip ?_
     refine At.thenC ?_
     refine W.seq ?_
     refine W.block ?_
     refine W.sr env [] [] [1, 3, 9, 11, 12, 23, 24, 25] [9, 12] rfl rfl rfl (.cons (⟨by omega, by omega⟩ : 0 ≤ (i4 : Int) ∧ (i4 : Int) < ((p3.length : Nat) : Int)) .nil) .nil ?_
     refine W.seq ?_
     obtain ⟨hc6, H⟩ := of_must H
     obtain ⟨hc7, H⟩ := of_must H
     obtain ⟨y8, hy9, H⟩ := of_bindO H
     refine W.region env [] [⟨.bool (y8), [], 0, []⟩] rfl rfl (by kernel_rfl) (.cons hc6 (.cons (fun h => h) (.cons hc7 (.cons (fun h => h) (.cons (fun h => h) (.cons (fun h => h) (.cons (fun h => h) (.cons (fun h => h) (.cons (fun h => h) (.cons (fun h => h) (.cons (fun h => h) (.cons (fun h => h) (.cons (fun h => h) (.cons (fun h => by rw [h]; rfl) .nil)))))))))))))) (.on (fun hW => c_slices_ContainsFunc_Send y1.1.Sends (fun x0 => some (fog_CheckShort_1 x0 (p3.getD i4 default))) 77 [] ([.rp [.int .i64 ((p3.getD i4 default))]]) (fun x0 r h => by cases h; exact c_fog_CheckShort_1 x0 (p3.getD i4 default)) (of_true hy9 hW)) .nil) (At.keep (ts := [1, 3, 9, 23, 24, 25, 47]) (ids := [9]) rfl rfl ?_)
     refine At.thenC ?_
     refine W.cond rfl (fun hb10 => ?_) (fun hb10 => ?_)
     · have H := of_true H hb10
       refine W.rg env [8] [] ?_
       refine W.ret ?_
       refine At.rinb ?_
       refine At.rthen ?_
       refine At.rthen ?_
       refine At.rinb ?_
       refine At.rthen ?_
       cases H
       exact At.ret env.ty rfl rfl (fun q hq => by cases hq) (.refl _) hval
     · have H := of_false H hb10
       refine W.skip ?_
       refine At.inb ?_
       refine At.thenC ?_
       refine W.region env [] [] rfl rfl rfl (.cons (by unfold inI; have := hn4; (try unfold maxLen at this); omega) .nil) .nil (At.keep (ts := [1, 3, 9, 23, 24, 25]) (ids := [9]) rfl rfl ?_)
       refine At.thenK (At.keep (ts := [1, 3, 9, 23, 24, 25]) (ids := [9]) rfl rfl ?_)
       exact At.conv (.cons .q (.cons .q (.cons .q (.cons .q (.cons .qi (.cons .qi .nil)))))) (.cons .q .nil) (hK4 hi4 () H)
   · have H := H2 (by have := of_decide_eq_false hb5; omega)
     refine W.exit ?_
     refine At.xthen ?_
     refine At.xthen ?_
     refine At.xhere ?_
     refine At.thenC ?_
     refine W.seq ?_
     refine W.seq ?_
     obtain ⟨y11, hy12, H⟩ := of_bindO H
     refine W.region env [] [⟨.bool (y11), [], 0, []⟩] rfl rfl rfl (.cons (fun h => h) (.cons (fun h => h) (.cons (fun h => h) (.cons (fun h => h) (.cons (fun h => by rw [h]; rfl) .nil))))) (.on (fun hW => c_fog_few y1.1 p1 p3 (of_true hy12 hW)) .nil) (At.keep (ts := [58]) (ids := []) rfl rfl ?_)
     refine At.thenC ?_
     refine W.cond rfl (fun hb13 => ?_) (fun hb13 => ?_)
     · have H := of_true H hb13
       refine W.rg env [8] [] ?_
       refine W.ret ?_
       refine At.rthen ?_
       cases H
       exact At.ret env.ty rfl rfl (fun q hq => by cases hq) (.refl _) hval
     · have H := of_false H hb13
       refine W.skip ?_
       refine At.thenC ?_
       refine W.rg env [8] [] ?_
       refine W.ret ?_
       cases H
       exact At.ret env.ty rfl rfl (fun q hq => by cases hq) (.refl _) hval
theorem c_gasolierlaw05_reports  : Ctr Try.prog 43 [] (roL 9 enc_Report (gasolierlaw05_reports)) := by
 obtain ⟨r, H⟩ : ∃ r, gasolierlaw05_reports = r := ⟨_, rfl⟩
 rw [H]
 unfold gasolierlaw05_reports at H
 refine Ctr.of_body (N := 8) Try.func43 (by kernel_rfl) (c := _) rfl Try.ntmps43 rfl (fun w0 h0 hval => ?_)
 refine W.rg env [] [] ?_
 refine W.seq ?_
 refine W.region env [] [] rfl rfl rfl .nil .nil (At.keep (ts := [0]) (ids := []) rfl rfl ?_)
 refine At.slot (t := 0) (v := roL 9 enc_Report ([(⟨1, 1, 2, 300, 500, (⟨100, 400⟩ : Range), 3180, 0⟩ : Report), (⟨2, 1, 2, 400, 600, (⟨50, 150⟩ : Range), 3350, 0⟩ : Report), (⟨3, 1, 2, 450, 450, (⟨200, 300⟩ : Range), 3480, 0⟩ : Report)] : List Report)) (Sim.lit (f := enc_Report) ([(⟨1, 1, 2, 300, 500, (⟨100, 400⟩ : Range), 3180, 0⟩ : Report), (⟨2, 1, 2, 400, 600, (⟨50, 150⟩ : Range), 3350, 0⟩ : Report), (⟨3, 1, 2, 450, 450, (⟨200, 300⟩ : Range), 3480, 0⟩ : Report)] : List Report) rfl rfl (fun _ => rfl)) ?_
 refine At.thenC ?_
 refine W.ret ?_
 cases H
 exact At.ret env.ty rfl rfl (fun q hq => by cases hq) (.refl _) hval
theorem c_gasolierlaw05_policy  : Ctr Try.prog 44 [] (roL 8 enc_Node (gasolierlaw05_policy)) := by
 obtain ⟨r, H⟩ : ∃ r, gasolierlaw05_policy = r := ⟨_, rfl⟩
 rw [H]
 unfold gasolierlaw05_policy at H
 refine Ctr.of_body (N := 11) Try.func44 (by kernel_rfl) (c := _) rfl Try.ntmps44 rfl (fun w0 h0 hval => ?_)
 refine W.rg env [] [] ?_
 refine W.seq ?_
 refine W.region env [] [] rfl rfl rfl .nil .nil (At.keep (ts := [0]) (ids := []) rfl rfl ?_)
 refine At.slot (t := 0) (v := roL 8 enc_Node ([(⟨true, 1, 480, 200, 1, 2, 3, []⟩ : Node), (⟨false, 0, 0, 0, 0, 0, 0, ([(⟨1, 2⟩ : Send), (⟨2, 1⟩ : Send)] : List Send)⟩ : Node), (⟨false, 0, 0, 0, 0, 0, 0, []⟩ : Node), (⟨false, 0, 0, 0, 0, 0, 0, ([(⟨1, 1⟩ : Send)] : List Send)⟩ : Node)] : List Node)) (Sim.lit2 (f := enc_Node) ([(⟨true, 1, 480, 200, 1, 2, 3, []⟩ : Node), (⟨false, 0, 0, 0, 0, 0, 0, ([(⟨1, 2⟩ : Send), (⟨2, 1⟩ : Send)] : List Send)⟩ : Node), (⟨false, 0, 0, 0, 0, 0, 0, []⟩ : Node), (⟨false, 0, 0, 0, 0, 0, 0, ([(⟨1, 1⟩ : Send)] : List Send)⟩ : Node)] : List Node) (.cons (.refl _) (.cons (.refl _) (.cons (.refl _) (.cons (.refl _) (.cons (.refl _) (.cons (.refl _) (.cons (.refl _) (.cons (Sim.nil _ _) (.cons (.refl _) (.cons (.refl _) (.cons (.refl _) (.cons (.refl _) (.cons (.refl _) (.cons (.refl _) (.cons (.refl _) (.cons (Sim.lit (f := enc_Send) ([(⟨1, 2⟩ : Send), (⟨2, 1⟩ : Send)] : List Send) rfl rfl (fun _ => rfl)) (.cons (.refl _) (.cons (.refl _) (.cons (.refl _) (.cons (.refl _) (.cons (.refl _) (.cons (.refl _) (.cons (.refl _) (.cons (Sim.nil _ _) (.cons (.refl _) (.cons (.refl _) (.cons (.refl _) (.cons (.refl _) (.cons (.refl _) (.cons (.refl _) (.cons (.refl _) (.cons (Sim.lit (f := enc_Send) ([(⟨1, 1⟩ : Send)] : List Send) rfl rfl (fun _ => rfl)) .nil)))))))))))))))))))))))))))))))) rfl rfl (fun _ => rfl)) ?_
 refine At.thenC ?_
 refine W.ret ?_
 cases H
 exact At.ret env.ty rfl rfl (fun q hq => by cases hq) (.refl _) hval
theorem c_gasolierlaw05_runners  : Ctr Try.prog 45 [] (roL 2 enc_Runner (gasolierlaw05_runners)) := by
 obtain ⟨r, H⟩ : ∃ r, gasolierlaw05_runners = r := ⟨_, rfl⟩
 rw [H]
 unfold gasolierlaw05_runners at H
 refine Ctr.of_body (N := 8) Try.func45 (by kernel_rfl) (c := _) rfl Try.ntmps45 rfl (fun w0 h0 hval => ?_)
 refine W.rg env [] [] ?_
 refine W.seq ?_
 refine W.region env [] [] rfl rfl rfl .nil .nil (At.keep (ts := [0]) (ids := []) rfl rfl ?_)
 refine At.slot (t := 0) (v := roL 2 enc_Runner ([(⟨10, ([1] : List Int)⟩ : Runner), (⟨11, ([1, 2] : List Int)⟩ : Runner), (⟨12, ([2] : List Int)⟩ : Runner)] : List Runner)) (Sim.lit2 (f := enc_Runner) ([(⟨10, ([1] : List Int)⟩ : Runner), (⟨11, ([1, 2] : List Int)⟩ : Runner), (⟨12, ([2] : List Int)⟩ : Runner)] : List Runner) (.cons (.refl _) (.cons (Sim.lit (f := enc_Int) ([1] : List Int) rfl rfl (fun _ => rfl)) (.cons (.refl _) (.cons (Sim.lit (f := enc_Int) ([1, 2] : List Int) rfl rfl (fun _ => rfl)) (.cons (.refl _) (.cons (Sim.lit (f := enc_Int) ([2] : List Int) rfl rfl (fun _ => rfl)) .nil)))))) rfl rfl (fun _ => rfl)) ?_
 refine At.thenC ?_
 refine W.ret ?_
 cases H
 exact At.ret env.ty rfl rfl (fun q hq => by cases hq) (.refl _) hval
theorem c_fog_isNight (p0 : Int) : Ctr Try.prog 79 [.int .i64 (p0)] (.bool ((fog_isNight p0))) := by
 obtain ⟨r, H⟩ : ∃ r, fog_isNight p0 = r := ⟨_, rfl⟩
 rw [H]
 unfold fog_isNight at H
 refine Ctr.of_body (N := 5) Try.func79 (by kernel_rfl) (c := _) rfl Try.ntmps79 rfl (fun w0 h0 hval => ?_)
 refine W.rg env [0] [] ?_
 refine W.sr env [] [⟨.bool ((fog_within p0 0 100000)), [], 0, []⟩] [2] [] rfl rfl rfl .nil (.free (c_fog_within p0 0 100000) .nil) ?_
 refine W.ret ?_
 cases H
 exact At.ret env.ty rfl rfl (fun q hq => by cases hq) (.refl _) hval
theorem c_fog_isRange (p0 : Range) (p1 : Int) : Ctr Try.prog 91 [.agg [.int .i64 (p0.Lo), .int .i64 (p0.Hi)], .int .i64 (p1)] (.bool ((fog_isRange p0 p1))) := by
 obtain ⟨r, H⟩ : ∃ r, fog_isRange p0 p1 = r := ⟨_, rfl⟩
 rw [H]
 unfold fog_isRange at H
 refine Ctr.of_body (N := 21) Try.func91 (by kernel_rfl) (c := _) rfl Try.ntmps91 rfl (fun w0 h0 hval => ?_)
 refine W.rg env [1, 2] [2] ?_
 refine W.sr env [] [] [4] [] rfl rfl rfl (.cons (fun h => h) (.cons (fun h => h) (.cons (fun h => h) (.cons (fun h => h) (.cons (fun h => h) (.cons (fun h => h) (.cons (fun h => h) (.cons (fun h => h) (.cons (fun h => h) .nil))))))))) .nil ?_
 refine W.ret ?_
 cases H
 exact At.ret env.ty rfl rfl (fun q hq => by cases hq) (.refl _) hval
theorem c_fog_isMoment (p0 : Int) : Ctr Try.prog 54 [.int .i64 (p0)] (.bool ((fog_isMoment p0))) := by
 obtain ⟨r, H⟩ : ∃ r, fog_isMoment p0 = r := ⟨_, rfl⟩
 rw [H]
 unfold fog_isMoment at H
 refine Ctr.of_body (N := 5) Try.func54 (by kernel_rfl) (c := _) rfl Try.ntmps54 rfl (fun w0 h0 hval => ?_)
 refine W.rg env [0] [] ?_
 refine W.sr env [] [⟨.bool ((fog_within p0 0 144001439)), [], 0, []⟩] [2] [] rfl rfl rfl .nil (.free (c_fog_within p0 0 144001439) .nil) ?_
 refine W.ret ?_
 cases H
 exact At.ret env.ty rfl rfl (fun q hq => by cases hq) (.refl _) hval
theorem c_fog_CheckReport (p0 : Report) : Ctr Try.prog 86 [.agg [.int .i64 (p0.Source), .int .i64 (p0.District), .int .i64 (p0.Night), .int .i64 (p0.From), .int .i64 (p0.To), .int .i64 (p0.Sight.Lo), .int .i64 (p0.Sight.Hi), .int .i64 (p0.Known), .int .i64 (p0.Until)]] (.int .i64 ((fog_CheckReport p0))) := by
 obtain ⟨r, H⟩ : ∃ r, fog_CheckReport p0 = r := ⟨_, rfl⟩
 rw [H]
 unfold fog_CheckReport at H
 refine Ctr.of_body (N := 58) Try.func86 (by kernel_rfl) (c := _) rfl Try.ntmps86 rfl (fun w0 h0 hval => ?_)
 refine W.rg env [1] [1] ?_
 refine W.seq ?_
 refine W.sr env [] [⟨.bool ((fog_within p0.Source 1 99999)), [], 0, []⟩, ⟨.bool ((fog_isDistrict p0.District)), [], 0, []⟩, ⟨.bool ((fog_isNight p0.Night)), [], 0, []⟩, ⟨.bool ((fog_isRange (⟨p0.From, p0.To⟩ : Range) 1439)), [], 0, []⟩, ⟨.bool ((fog_isRange p0.Sight 5000)), [], 0, []⟩, ⟨.bool ((fog_isMoment p0.Known)), [], 0, []⟩, ⟨.bool ((fog_isMoment p0.Until)), [], 0, []⟩] [57] [] rfl rfl rfl (.cons (fun h => h) (.cons (fun h => h) (.cons (fun h => h) (.cons (fun h => by rw [h]; rfl) (.cons (fun h => h) (.cons (fun h => h) (.cons (fun h => h) (.cons (fun h => by rw [h]; rfl) (.cons (fun h => h) (.cons (fun h => h) (.cons (fun h => h) (.cons (fun h => h) (.cons (fun h => h) (.cons (fun h => h) (.cons (fun h => by rw [h]; rfl) (.cons (fun h => h) (.cons (fun h => h) (.cons (fun h => h) (.cons (fun h => by rw [h]; rfl) (.cons (fun h => h) (.cons (fun h => h) (.cons (fun h => h) (.cons (fun h => by rw [h]; rfl) (.cons (fun h => h) (.cons (fun h => h) (.cons (fun h => h) (.cons (fun h => h) (.cons (fun h => h) (.cons (fun h => h) (.cons (fun h => h) (.cons (fun h => h) (.cons (fun h => h) (.cons (fun h => h) (.cons (fun h => h) (.cons (fun h => h) (.cons (fun hW h => by revert hW h; first | (simp +contextual; done) | grind) (.cons (fun h => h) (.cons (fun hW h => by revert hW h; first | (simp +contextual; done) | grind) (.cons (fun h => by rw [h]; rfl) .nil))))))))))))))))))))))))))))))))))))))) (.free (c_fog_within p0.Source 1 99999) (.on (fun hW => c_fog_isDistrict p0.District) (.on (fun hW => c_fog_isNight p0.Night) (.on (fun hW => c_fog_isRange (⟨p0.From, p0.To⟩ : Range) 1439) (.on (fun hW => c_fog_isRange p0.Sight 5000) (.on (fun hW => c_fog_isMoment p0.Known) (.on (fun hW => c_fog_isMoment p0.Until) .nil))))))) ?_
 refine W.cond rfl (fun hb1 => ?_) (fun hb1 => ?_)
 · have H := of_true H hb1
   refine W.rg env [2] [] ?_
   refine W.ret ?_
   refine At.rthen ?_
   cases H
   exact At.ret env.ty rfl rfl (fun q hq => by cases hq) (.refl _) hval
 · have H := of_false H hb1
   refine W.skip ?_
   refine At.thenC ?_
   refine W.rg env [2] [] ?_
   refine W.ret ?_
   cases H
   exact At.ret env.ty rfl rfl (fun q hq => by cases hq) (.refl _) hval
theorem c_cmp_isNaN_int (p0 : Int) : Ctr Try.prog 114 [.int .i64 (p0)] (.bool ((cmp_isNaN_int p0))) := by
 obtain ⟨r, H⟩ : ∃ r, cmp_isNaN_int p0 = r := ⟨_, rfl⟩
 rw [H]
 unfold cmp_isNaN_int at H
 refine Ctr.of_body (N := 6) Try.func114 (by kernel_rfl) (c := _) rfl Try.ntmps114 rfl (fun w0 h0 hval => ?_)
 refine W.rg env [0] [] ?_
 refine W.rg env [2] [] ?_
 refine W.ret ?_
 cases H
 exact At.ret env.ty rfl rfl (fun q hq => by cases hq) (.refl _) hval
theorem c_cmp_Compare_int (p0 : Int) (p1 : Int) : Ctr Try.prog 107 [.int .i64 (p0), .int .i64 (p1)] (.int .i64 ((cmp_Compare_int p0 p1))) := by
 obtain ⟨r, H⟩ : ∃ r, cmp_Compare_int p0 p1 = r := ⟨_, rfl⟩
 rw [H]
 unfold cmp_Compare_int at H
 refine Ctr.of_body (N := 20) Try.func107 (by kernel_rfl) (c := _) rfl Try.ntmps107 rfl (fun w0 h0 hval => ?_)
 refine W.rg env [0, 1] [] ?_
 refine W.sr env [] [⟨.bool ((cmp_isNaN_int p0)), [], 0, []⟩] [0, 1, 5] [] rfl rfl rfl .nil (.free (c_cmp_isNaN_int p0) .nil) ?_
 refine W.sr env [] [⟨.bool ((cmp_isNaN_int p1)), [], 0, []⟩] [0, 1, 5, 6] [] rfl rfl rfl .nil (.free (c_cmp_isNaN_int p1) .nil) ?_
 refine W.seq ?_
 refine W.rg env [0, 1, 6, 11] [] ?_
 refine W.cond rfl (fun hb1 => ?_) (fun hb1 => ?_)
 · have H := of_true H hb1
   refine W.seq ?_
   refine W.rg env [12] [] ?_
   refine W.cond rfl (fun hb2 => ?_) (fun hb2 => ?_)
   · have H := of_true H hb2
     refine W.rg env [4] [] ?_
     refine W.ret ?_
     refine At.rthen ?_
     refine At.rthen ?_
     cases H
     exact At.ret env.ty rfl rfl (fun q hq => by cases hq) (.refl _) hval
   · have H := of_false H hb2
     refine W.skip ?_
     refine At.thenC ?_
     refine W.rg env [4] [] ?_
     refine W.ret ?_
     refine At.rthen ?_
     cases H
     exact At.ret env.ty rfl rfl (fun q hq => by cases hq) (.refl _) hval
 · have H := of_false H hb1
   refine W.skip ?_
   refine At.thenC ?_
   refine W.seq ?_
   refine W.rg env [0, 1, 13] [] ?_
   refine W.cond rfl (fun hb3 => ?_) (fun hb3 => ?_)
   · have H := of_true H hb3
     refine W.rg env [4] [] ?_
     refine W.ret ?_
     refine At.rthen ?_
     cases H
     exact At.ret env.ty rfl rfl (fun q hq => by cases hq) (.refl _) hval
   · have H := of_false H hb3
     refine W.skip ?_
     refine At.thenC ?_
     refine W.seq ?_
     refine W.rg env [0, 1, 16] [] ?_
     refine W.cond rfl (fun hb4 => ?_) (fun hb4 => ?_)
     · have H := of_true H hb4
       refine W.rg env [4] [] ?_
       refine W.ret ?_
       refine At.rthen ?_
       cases H
       exact At.ret env.ty rfl rfl (fun q hq => by cases hq) (.refl _) hval
     · have H := of_false H hb4
       refine W.skip ?_
       refine At.thenC ?_
       refine W.seq ?_
       refine W.rg env [19] [] ?_
       refine W.cond rfl (fun hb5 => ?_) (fun hb5 => ?_)
       · have H := of_true H hb5
         refine W.rg env [4] [] ?_
         refine W.ret ?_
         refine At.rthen ?_
         cases H
         exact At.ret env.ty rfl rfl (fun q hq => by cases hq) (.refl _) hval
       · have H := of_false H hb5
         refine W.skip ?_
         refine At.thenC ?_
         refine W.rg env [4] [] ?_
         refine W.ret ?_
         cases H
         exact At.ret env.ty rfl rfl (fun q hq => by cases hq) (.refl _) hval
theorem c_fog_compare (p0 : Report) (p1 : Report) : Ctr Try.prog 87 [.agg [.int .i64 (p0.Source), .int .i64 (p0.District), .int .i64 (p0.Night), .int .i64 (p0.From), .int .i64 (p0.To), .int .i64 (p0.Sight.Lo), .int .i64 (p0.Sight.Hi), .int .i64 (p0.Known), .int .i64 (p0.Until)], .agg [.int .i64 (p1.Source), .int .i64 (p1.District), .int .i64 (p1.Night), .int .i64 (p1.From), .int .i64 (p1.To), .int .i64 (p1.Sight.Lo), .int .i64 (p1.Sight.Hi), .int .i64 (p1.Known), .int .i64 (p1.Until)]] (.int .i64 ((fog_compare p0 p1))) := by
 obtain ⟨r, H⟩ : ∃ r, fog_compare p0 p1 = r := ⟨_, rfl⟩
 rw [H]
 unfold fog_compare at H
 refine Ctr.of_body (N := 10) Try.func87 (by kernel_rfl) (c := _) rfl Try.ntmps87 rfl (fun w0 h0 hval => ?_)
 refine W.rg env [2, 3] [2, 3] ?_
 refine W.sr env [] [⟨.int .i64 ((cmp_Compare_int p0.Source p1.Source)), [], 0, []⟩] [4] [] rfl rfl rfl .nil (.free (c_cmp_Compare_int p0.Source p1.Source) .nil) ?_
 refine W.ret ?_
 cases H
 exact At.ret env.ty rfl rfl (fun q hq => by cases hq) (.refl _) hval
theorem c_fog_Check (p0 : (List Report)) {r : Int} (H : fog_Check p0 = some r) : Ctr Try.prog 53 [roL 9 enc_Report p0] (.int .i64 (r)) := by
 unfold fog_Check at H
 refine Ctr.of_body (N := 33) Try.func53 (by kernel_rfl) (c := _) rfl Try.ntmps53 rfl (fun w0 h0 hval => ?_)
 refine W.rg env [0] [] ?_
 refine W.seq ?_
 refine W.rg env [0, 7] [] ?_
 refine W.cond rfl (fun hb1 => ?_) (fun hb1 => ?_)
 · have H := of_true H hb1
   refine W.rg env [2] [] ?_
   refine W.ret ?_
   refine At.rthen ?_
   cases H
   exact At.ret env.ty rfl rfl (fun q hq => by cases hq) (.refl _) hval
 · have H := of_false H hb1
   refine W.skip ?_
   refine At.thenC ?_
   refine W.seq ?_
   refine W.rg env [0, 8, 9, 10] [] ?_
   refine W.block ?_
   refine At.keep (ts := [0, 8, 9, 10]) (ids := []) rfl rfl ?_
   refine W.len (t := 8) rfl (fun (hn2 : p0.length ≤ maxLen) => ?_)
   refine W.rangeGo H (fun i2 (s2 : Unit) => [(0, roL 9 enc_Report p0), (8, roL 9 enc_Report p0), (9, .int .i64 (((p0.length : Nat) : Int))), (10, .int .i64 ((i2 : Int)))]) (fun i2 (s2 : Unit) => []) (.cons .q (.cons .q (.cons .qi (.cons .qi .nil)))) .nil (fun k2 i2 s2 hle2 H1 H2 K0 hK2 => ?_)
   refine W.rg env [0, 8, 9, 10, 11] [] ?_
   refine W.seq ?_
   refine W.cond rfl (fun hb3 => ?_) (fun hb3 => ?_)
   · have hi2 : i2 < p0.length := by have := of_decide_eq_true hb3; omega
     have H := H1 hi2
     refine W.skip ?_
     refine At.thenC ?_
     refine W.seq ?_
     refine W.block ?_
     refine W.sr env [] [] [0, 3, 4, 8, 9, 10] [4] rfl rfl rfl (.cons (⟨by omega, by omega⟩ : 0 ≤ (i2 : Int) ∧ (i2 : Int) < ((p0.length : Nat) : Int)) .nil) .nil ?_
     obtain ⟨hc4, H⟩ := of_must H
     obtain ⟨hc5, H⟩ := of_must H
     refine W.sr env [] [⟨.int .i64 ((fog_CheckReport (p0.getD i2 default))), [], 0, []⟩, ⟨.int .i64 ((fog_compare (p0.getD (((i2 : Int) - 1)).toNat default) (p0.getD i2 default))), [], 0, []⟩] [0, 8, 9, 10, 31] [] rfl rfl (by kernel_rfl) (.cons (fun h => h) (.cons (fun h => h) (.cons hc4 (.cons (fun h => h) (.cons hc5 (.cons (fun h => h) (.cons (fun h => h) (.cons (fun h => h) (.cons (fun h => h) (.cons (fun h => h) (.cons (fun h => h) (.cons (fun h => h) (.cons (fun hW h => by revert hW h; first | (simp +contextual; done) | grind) (.cons (fun h => by rw [h]; rfl) .nil)))))))))))))) (.free (c_fog_CheckReport (p0.getD i2 default)) (.on (fun hW => c_fog_compare (p0.getD (((i2 : Int) - 1)).toNat default) (p0.getD i2 default)) .nil)) ?_
     refine W.cond rfl (fun hb6 => ?_) (fun hb6 => ?_)
     · have H := of_true H hb6
       refine W.rg env [2] [] ?_
       refine W.ret ?_
       refine At.rinb ?_
       refine At.rthen ?_
       refine At.rthen ?_
       refine At.rinb ?_
       refine At.rthen ?_
       cases H
       exact At.ret env.ty rfl rfl (fun q hq => by cases hq) (.refl _) hval
     · have H := of_false H hb6
       refine W.skip ?_
       refine At.inb ?_
       refine At.thenC ?_
       refine W.region env [] [] rfl rfl rfl (.cons (by unfold inI; have := hn2; (try unfold maxLen at this); omega) .nil) .nil (At.keep (ts := [0, 8, 9, 10]) (ids := []) rfl rfl ?_)
       refine At.thenK (At.keep (ts := [0, 8, 9, 10]) (ids := []) rfl rfl ?_)
       exact At.conv (.cons .q (.cons .q (.cons .qi (.cons .qi .nil)))) .nil (hK2 hi2 () H)
   · have H := H2 (by have := of_decide_eq_false hb3; omega)
     refine W.exit ?_
     refine At.xthen ?_
     refine At.xthen ?_
     refine At.xhere ?_
     refine At.thenC ?_
     refine W.rg env [2] [] ?_
     refine W.ret ?_
     cases H
     exact At.ret env.ty rfl rfl (fun q hq => by cases hq) (.refl _) hval
theorem c_slices_Clone_Report (p0 : (List Report)) {r : (List Report)} (H : slices_Clone_Report p0 = some r) : Ctr Try.prog 49 [roL 9 enc_Report p0] (roL 9 enc_Report r) := by
 unfold slices_Clone_Report at H
 refine Ctr.of_body (N := 8) Try.func49 (by kernel_rfl) (c := _) rfl Try.ntmps49 rfl (fun w0 h0 hval => ?_)
 refine W.rg env [0] [] ?_
 refine W.seq ?_
 refine W.rg env [0, 4] [] ?_
 refine W.condNz rfl (fun hz => ?_) ?_
 · obtain rfl : p0 = [] := List.length_eq_zero_iff.1 hz
   obtain ⟨hc1, H⟩ := of_must H
   refine W.rg env [2] [] ?_
   refine W.ret ?_
   refine At.rthen ?_
   cases H
   exact At.ret env.ty rfl rfl (fun q hq => by cases hq) (Sim.nil _ _) hval
 · refine W.skip ?_
   refine At.thenC ?_
   refine W.seq ?_
   obtain ⟨hc1, H⟩ := of_must H
   refine W.region env [5] [] rfl rfl rfl (.cons (⟨by first | rfl | (simp; done) | omega | (simp; omega), by have := hc1; first | simpa using this | (unfold room at this ⊢; simp at this ⊢; omega)⟩) .nil) .nil (At.keep (ts := [2]) (ids := [5]) rfl rfl ?_)
   refine At.convM (.cons (y := bufL 42 9 enc_Report (([] : List Report) ++ p0)) (BSim.seg (Seg.push (Seg.lit (f := enc_Report) (sz := 9) ([] : List Report) rfl rfl (fun _ => rfl)) (Seg.refl enc_Report p0))) .nil) ?_
   refine At.thenC ?_
   refine W.ret ?_
   cases H
   exact At.ret env.ty rfl rfl (fun q hq => by cases hq; exact (by first | rfl | (simp; done) | omega | (simp; omega))) (.refl _) hval
theorem c_slices_IndexFunc_Report (p0 : (List Report)) (p1 : Report → Option Bool) (p1_g : Nat) (p1_a p1_b : List AV) (p1_h : ∀ x0 r, p1 x0 = some r → Ctr Try.prog p1_g (p1_a ++ ([.agg [.int .i64 (x0.Source), .int .i64 (x0.District), .int .i64 (x0.Night), .int .i64 (x0.From), .int .i64 (x0.To), .int .i64 (x0.Sight.Lo), .int .i64 (x0.Sight.Hi), .int .i64 (x0.Known), .int .i64 (x0.Until)]] ++ p1_b)) (.bool (r))) {r : Int} (H : slices_IndexFunc_Report p0 p1 = some r) : Ctr Try.prog 46 [roL 9 enc_Report p0, .clo (.func p1_g) p1_a p1_b] (.int .i64 (r)) := by
 unfold slices_IndexFunc_Report at H
 refine Ctr.of_body (N := 19) Try.func46 (by kernel_rfl) (c := _) rfl Try.ntmps46 rfl (fun w0 h0 hval => ?_)
 refine W.rg env [0, 1] [] ?_
 refine W.seq ?_
 refine W.rg env [0, 1, 7, 8] [] ?_
 refine W.block ?_
 refine At.keep (ts := [0, 1, 7, 8]) (ids := []) rfl rfl ?_
 refine W.len (t := 0) rfl (fun (hn1 : p0.length ≤ maxLen) => ?_)
 refine W.rangeGo H (fun i1 (s1 : Unit) => [(0, roL 9 enc_Report p0), (1, .clo (.func p1_g) p1_a p1_b), (7, .int .i64 (((p0.length : Nat) : Int))), (8, .int .i64 ((i1 : Int)))]) (fun i1 (s1 : Unit) => []) (.cons .q (.cons .q (.cons .qi (.cons .qi .nil)))) .nil (fun k1 i1 s1 hle1 H1 H2 K0 hK1 => ?_)
 refine W.rg env [0, 1, 7, 8, 9] [] ?_
 refine W.seq ?_
 refine W.cond rfl (fun hb2 => ?_) (fun hb2 => ?_)
 · have hi1 : i1 < p0.length := by have := of_decide_eq_true hb2; omega
   have H := H1 hi1
   refine W.skip ?_
   refine At.thenC ?_
   refine W.seq ?_
   refine W.block ?_
   refine W.rg env [0, 1, 5, 7, 8] [] ?_
   refine W.seq ?_
   obtain ⟨y3, hy4, H⟩ := of_bindO H
   refine W.region env [] [⟨.bool (y3), [], 0, []⟩] rfl rfl rfl (.cons (⟨by omega, by omega⟩ : 0 ≤ (i1 : Int) ∧ (i1 : Int) < ((p0.length : Nat) : Int)) .nil) (.free (p1_h (p0.getD i1 default) _ hy4) .nil) (At.keep (ts := [0, 1, 5, 7, 8, 16]) (ids := []) rfl rfl ?_)
   refine At.thenC ?_
   refine W.cond rfl (fun hb5 => ?_) (fun hb5 => ?_)
   · have H := of_true H hb5
     refine W.rg env [4] [] ?_
     refine W.ret ?_
     refine At.rinb ?_
     refine At.rthen ?_
     refine At.rthen ?_
     refine At.rinb ?_
     refine At.rthen ?_
     cases H
     exact At.ret env.ty rfl rfl (fun q hq => by cases hq) (.refl _) hval
   · have H := of_false H hb5
     refine W.skip ?_
     refine At.inb ?_
     refine At.thenC ?_
     refine W.region env [] [] rfl rfl rfl (.cons (by unfold inI; have := hn1; (try unfold maxLen at this); omega) .nil) .nil (At.keep (ts := [0, 1, 7, 8]) (ids := []) rfl rfl ?_)
     refine At.thenK (At.keep (ts := [0, 1, 7, 8]) (ids := []) rfl rfl ?_)
     exact At.conv (.cons .q (.cons .q (.cons .qi (.cons .qi .nil)))) .nil (hK1 hi1 () H)
 · have H := H2 (by have := of_decide_eq_false hb2; omega)
   refine W.exit ?_
   refine At.xthen ?_
   refine At.xthen ?_
   refine At.xhere ?_
   refine At.thenC ?_
   refine W.rg env [4] [] ?_
   refine W.ret ?_
   cases H
   exact At.ret env.ty rfl rfl (fun q hq => by cases hq) (.refl _) hval
theorem co_slices_DeleteFunc_Report (fuel : Nat) (p0 : (List Report)) (p1 : Report → Option Bool) (p1_g : Nat) (p1_a p1_b : List AV) (p1_h : ∀ x0 r, p1 x0 = some r → Ctr Try.prog p1_g (p1_a ++ ([.agg [.int .i64 (x0.Source), .int .i64 (x0.District), .int .i64 (x0.Night), .int .i64 (x0.From), .int .i64 (x0.To), .int .i64 (x0.Sight.Lo), .int .i64 (x0.Sight.Hi), .int .i64 (x0.Known), .int .i64 (x0.Until)]] ++ p1_b)) (.bool (r))) {r : (List Report)} (H : slices_DeleteFunc_Report fuel p0 p1 = some r) : CtrO Try.prog 83 [.buf 700 (p0).length, .clo (.func p1_g) p1_a p1_b] [(700, bufL 42 9 enc_Report p0)] (.buf 900 r.length) [(900, bufL 42 9 enc_Report r)] := by
 unfold slices_DeleteFunc_Report at H
 refine CtrO.of_body (N := 42) Try.func83 (by kernel_rfl) (c := _) rfl Try.ntmps83 rfl (fun w0 h0 ρb hval hdom => ?_)
 refine W.rg env [0, 1] [700] ?_
 refine W.seq ?_
 obtain ⟨y1, hy2, H⟩ := of_bindO H
 refine W.region env [] [⟨.int .i64 (y1), [], 0, []⟩] rfl rfl rfl (.cons (by first | rfl | (simp; done) | omega | (simp; omega)) .nil) (.free (c_slices_IndexFunc_Report p0 p1 p1_g p1_a p1_b p1_h hy2) .nil) (At.keep (ts := [0, 1, 5]) (ids := [700]) rfl rfl ?_)
 refine At.thenC ?_
 refine W.seq ?_
 refine W.rg env [0, 1, 5, 12] [700] ?_
 refine W.cond rfl (fun hb3 => ?_) (fun hb3 => ?_)
 · have H := of_true H hb3
   refine W.rg env [4] [700] ?_
   refine W.ret ?_
   refine At.rthen ?_
   cases H
   exact At.retK env.ty [700] 200 rfl rfl rfl rfl (.cons (.refl _) .nil) (.of_eq (by refine bufEq ?_; first | (simp [copyAt]; done) | omega | (simp [copyAt]; omega) | rfl)) hval hdom rfl
 · have H := of_false H hb3
   refine W.skip ?_
   refine At.thenC ?_
   refine W.seq ?_
   obtain ⟨hc4, H⟩ := of_must H
   refine W.sr env [] [] [0, 1, 5, 6] [700] rfl rfl rfl (.cons hc4 .nil) .nil ?_
   refine W.block ?_
   refine At.keep (ts := [0, 1, 5, 6]) (ids := [700]) rfl rfl ?_
   refine W.loopGo H (fun (s5 : Int × Int × (List Report)) => [(0, .buf 700 (s5.2.2).length), (1, .clo (.func p1_g) p1_a p1_b), (5, .int .i64 (s5.1)), (6, .int .i64 (s5.2.1))]) (fun (s5 : Int × Int × (List Report)) => [(700, bufL 42 9 enc_Report s5.2.2)]) (.cons .qb (.cons .q (.cons .qi (.cons .qi .nil)))) (.cons .q .nil) (fun k5 s5 H K0 hK5 => ?_)
   refine W.seq ?_
   refine W.sr env [] [] [0, 1, 5, 6, 19] [700] rfl rfl rfl (.cons (by first | rfl | (simp; done) | omega | (simp; omega)) .nil) .nil ?_
   refine W.cond rfl (fun hb6 => ?_) (fun hb6 => ?_)
   · have H := of_true H hb6
     refine W.skip ?_
     refine At.thenC ?_
     refine W.seq ?_
     refine W.block ?_
     obtain ⟨hc7, H⟩ := of_must H
     refine W.sr env [] [] [0, 1, 5, 6, 7] [7, 700] rfl rfl rfl (.cons (⟨by first | rfl | (simp; done) | omega | (simp; omega), hc7⟩) (.cons (⟨by first | rfl | (simp; done) | omega | (simp; omega), (by have := hc7; first | omega | (simp only [List.length_set]; omega) | (simp only [Int.toNat_natCast] at *; omega) | (simp at this ⊢; omega))⟩) .nil)) .nil ?_
     refine W.seq ?_
     obtain ⟨y8, hy9, H⟩ := of_bindO H
     refine W.region env [] [⟨.bool (y8), [], 0, []⟩] rfl rfl rfl .nil (.free (p1_h (s5.2.2.getD (s5.2.1).toNat default) _ hy9) .nil) (At.keep (ts := [0, 1, 5, 6, 7, 29]) (ids := [7, 700]) rfl rfl ?_)
     refine At.thenC ?_
     refine W.cond rfl (fun hb10 => ?_) (fun hb10 => ?_)
     · have H := of_true H hb10
       refine W.seq ?_
       obtain ⟨hc11, H⟩ := of_must H
       refine W.region env [] [] rfl rfl rfl (.cons (⟨by first | rfl | (simp; done) | omega | (simp; omega), hc11⟩) (.cons (⟨by first | rfl | (simp; done) | omega | (simp; omega), (by have := hc11; first | omega | (simp only [List.length_set]; omega) | (simp only [Int.toNat_natCast] at *; omega) | (simp at this ⊢; omega))⟩) .nil)) .nil (At.keep (ts := [0, 1, 5, 6]) (ids := [700]) rfl rfl ?_)
       refine At.convM (.cons (y := bufL 42 9 enc_Report (s5.2.2.set (s5.1).toNat (s5.2.2.getD (s5.2.1).toNat default))) (BSim.seg (Seg.set (Seg.refl enc_Report _) (s5.2.2.getD (s5.2.1).toNat default) rfl)) .nil) ?_
       refine At.thenC ?_
       obtain ⟨hc12, H⟩ := of_must H
       refine W.region env [] [] rfl rfl rfl (.cons hc12 .nil) .nil (At.keep (ts := [0, 1, 5, 6]) (ids := [700]) rfl rfl ?_)
       refine At.inb ?_
       refine At.thenC ?_
       obtain ⟨hc13, H⟩ := of_must H
       refine W.region env [] [] rfl rfl rfl (.cons hc13 .nil) .nil (At.keep (ts := [0, 1, 5, 6]) (ids := [700]) rfl rfl ?_)
       refine At.thenK (At.keep (ts := [0, 1, 5, 6]) (ids := [700]) rfl rfl ?_)
       exact At.conv (.cons .qb (.cons .q (.cons .qi (.cons .qi .nil)))) (.cons .q .nil) (hK5 ((s5.1 + 1), (s5.2.1 + 1), (s5.2.2.set (s5.1).toNat (s5.2.2.getD (s5.2.1).toNat default))) H)
     · have H := of_false H hb10
       refine W.skip ?_
       refine At.inb ?_
       refine At.thenC ?_
       obtain ⟨hc14, H⟩ := of_must H
       refine W.region env [] [] rfl rfl rfl (.cons hc14 .nil) .nil (At.keep (ts := [0, 1, 5, 6]) (ids := [700]) rfl rfl ?_)
       refine At.thenK (At.keep (ts := [0, 1, 5, 6]) (ids := [700]) rfl rfl ?_)
       exact At.conv (.cons .qb (.cons .q (.cons .qi (.cons .qi .nil)))) (.cons .q .nil) (hK5 (s5.1, (s5.2.1 + 1), s5.2.2) H)
   · have H := of_false H hb6
     refine W.exit ?_
     refine At.xthen ?_
     refine At.xthen ?_
     refine At.xhere ?_
     refine At.thenC ?_
     refine W.seq ?_
     obtain ⟨hc15, H⟩ := of_must H
     refine W.region env [] [] rfl rfl rfl (.cons (⟨by first | rfl | (simp; done) | omega | (simp; omega), hc15⟩) (.cons (⟨by first | rfl | (simp; done) | omega | (simp; omega), (by have := hc15; omega), (by have := hc15; omega)⟩) .nil)) .nil (At.keep (ts := [0, 5]) (ids := [700]) rfl rfl ?_)
     refine At.convM (.cons (y := bufL 42 9 enc_Report (copyAt s5.2.2 ((s5.1).toNat) (s5.2.2.length - (s5.1).toNat) (fun _ => (⟨0, 0, 0, 0, 0, (⟨0, 0⟩ : Range), 0, 0⟩ : Report)))) (BSim.seg (Seg.cleared (a := (s5.1).toNat) (b := s5.2.2.length) (Seg.refl enc_Report _) (⟨0, 0, 0, 0, 0, (⟨0, 0⟩ : Range), 0, 0⟩ : Report) rfl (by have := hc15; omega))) .nil) ?_
     refine At.thenC ?_
     obtain ⟨hc16, H⟩ := of_must H
     refine W.sr env [] [] [4] [700] rfl rfl rfl (.cons (⟨by first | rfl | (simp [length_copyAt]; done) | (simp [length_copyAt]; omega), hc16⟩) .nil) .nil ?_
     refine W.ret ?_
     cases H
     refine At.shrink 4 700 850 (K := []) (ts := []) rfl rfl (by first | rfl | (simp; done) | omega | (simp; omega)) (by have := hc16; omega) rfl rfl rfl rfl ?_
     refine At.convM (.cons (y := bufL 42 9 enc_Report ((copyAt s5.2.2 ((s5.1).toNat) (s5.2.2.length - (s5.1).toNat) (fun _ => (⟨0, 0, 0, 0, 0, (⟨0, 0⟩ : Range), 0, 0⟩ : Report))).take ((s5.1).toNat))) (BSim.seg (Seg.first (Seg.refl enc_Report _) (by have := hc16; omega))) .nil) ?_
     exact At.retK env.ty [850] 50 rfl rfl rfl rfl (.cons (.refl _) .nil) (.of_eq (by refine bufEq ?_; first | (simp [copyAt]; done) | omega | (simp [copyAt]; omega) | rfl)) hval hdom rfl
theorem co_slices_Clone_Report (p0 : (List Report)) {r : (List Report)} (H : slices_Clone_Report p0 = some r) : CtrO Try.prog 49 [roL 9 enc_Report p0] [] (.buf 900 r.length) [(900, bufL 42 9 enc_Report r)] := by
 unfold slices_Clone_Report at H
 refine CtrO.of_body (N := 8) Try.func49 (by kernel_rfl) (c := _) rfl Try.ntmps49 rfl (fun w0 h0 ρb hval hdom => ?_)
 refine W.rg env [0] [] ?_
 refine W.seq ?_
 refine W.rg env [0, 4] [] ?_
 refine W.condNz rfl (fun hz => ?_) ?_
 · obtain rfl : p0 = [] := List.length_eq_zero_iff.1 hz
   obtain ⟨hc1, H⟩ := of_must H
   refine W.rg env [2] [] ?_
   refine W.ret ?_
   refine At.rthen ?_
   cases H
   refine At.nilOwn 2 800 42 9 (e := fun i => enc_Report (([] : List Report).getD i default)) rfl rfl ?_
   exact At.retK env.ty [800] 100 rfl rfl rfl rfl (.cons (.refl _) .nil) (.of_eq (by refine bufEq ?_; first | (simp [copyAt]; done) | omega | (simp [copyAt]; omega) | rfl)) hval hdom rfl
 · refine W.skip ?_
   refine At.thenC ?_
   refine W.seq ?_
   obtain ⟨hc1, H⟩ := of_must H
   refine W.region env [5] [] rfl rfl rfl (.cons (⟨by first | rfl | (simp; done) | omega | (simp; omega), by have := hc1; first | simpa using this | (unfold room at this ⊢; simp at this ⊢; omega)⟩) .nil) .nil (At.keep (ts := [2]) (ids := [5]) rfl rfl ?_)
   refine At.convM (.cons (y := bufL 42 9 enc_Report (([] : List Report) ++ p0)) (BSim.seg (Seg.push (Seg.lit (f := enc_Report) (sz := 9) ([] : List Report) rfl rfl (fun _ => rfl)) (Seg.refl enc_Report p0))) .nil) ?_
   refine At.thenC ?_
   refine W.ret ?_
   cases H
   exact At.retK env.ty [5] 895 rfl rfl rfl rfl (.cons (.refl _) .nil) (.of_eq (by refine bufEq ?_; first | (simp [copyAt]; done) | omega | (simp [copyAt]; omega) | rfl)) hval hdom rfl
theorem c_fog_counts (p0 : Report) (p1 : Int) : Ctr Try.prog 55 [.agg [.int .i64 (p0.Source), .int .i64 (p0.District), .int .i64 (p0.Night), .int .i64 (p0.From), .int .i64 (p0.To), .int .i64 (p0.Sight.Lo), .int .i64 (p0.Sight.Hi), .int .i64 (p0.Known), .int .i64 (p0.Until)], .int .i64 (p1)] (.bool ((fog_counts p0 p1))) := by
 obtain ⟨r, H⟩ : ∃ r, fog_counts p0 p1 = r := ⟨_, rfl⟩
 rw [H]
 unfold fog_counts at H
 refine Ctr.of_body (N := 20) Try.func55 (by kernel_rfl) (c := _) rfl Try.ntmps55 rfl (fun w0 h0 hval => ?_)
 refine W.rg env [1, 2] [2] ?_
 refine W.sr env [] [] [4] [] rfl rfl rfl (.cons (fun h => h) (.cons (fun h => h) (.cons (fun h => h) (.cons (fun h => h) (.cons (fun h => h) (.cons (fun h => h) (.cons (fun h => h) (.cons (fun hW h => by revert hW h; first | (simp +contextual; done) | grind) (.cons (fun h => h) .nil))))))))) .nil ?_
 refine W.ret ?_
 cases H
 exact At.ret env.ty rfl rfl (fun q hq => by cases hq) (.refl _) hval
theorem c_fog_see_1 (p0 : Report) (c0 : Int) (c1 : Int) (c2 : Int) : Ctr Try.prog 84 [.agg [.int .i64 (p0.Source), .int .i64 (p0.District), .int .i64 (p0.Night), .int .i64 (p0.From), .int .i64 (p0.To), .int .i64 (p0.Sight.Lo), .int .i64 (p0.Sight.Hi), .int .i64 (p0.Known), .int .i64 (p0.Until)], .rp [.int .i64 (c0)], .rp [.int .i64 (c1)], .rp [.int .i64 (c2)]] (.bool ((fog_see_1 p0 c0 c1 c2))) := by
 obtain ⟨r, H⟩ : ∃ r, fog_see_1 p0 c0 c1 c2 = r := ⟨_, rfl⟩
 rw [H]
 unfold fog_see_1 at H
 refine Ctr.of_body (N := 22) Try.func84 (by kernel_rfl) (c := _) rfl Try.ntmps84 rfl (fun w0 h0 hval => ?_)
 refine W.rg env [1, 2, 3, 4] [4] ?_
 refine W.sr env [] [⟨.bool ((fog_counts p0 c2)), [], 0, []⟩] [5] [] rfl rfl rfl (.cons (fun h => h) (.cons (fun h => h) (.cons (fun h => h) (.cons (fun h => by rw [h]; rfl) (.cons (fun h => h) (.cons (fun h => h) (.cons (fun h => h) (.cons (fun h => by rw [h]; rfl) .nil)))))))) (.on (fun hW => c_fog_counts p0 c2) .nil) ?_
 refine W.ret ?_
 cases H
 exact At.ret env.ty rfl rfl (fun q hq => by cases hq) (.refl _) hval
theorem c_fog_see (fuel : Nat) (p0 : (List Report)) (p1 : Int) (p2 : Int) (p3 : Int) {r : (List Report)} (H : fog_see fuel p0 p1 p2 p3 = some r) : Ctr Try.prog 50 [roL 9 enc_Report p0, .int .i64 (p1), .int .i64 (p2), .int .i64 (p3)] (roL 9 enc_Report r) := by
 unfold fog_see at H
 refine Ctr.of_body (N := 13) Try.func50 (by kernel_rfl) (c := _) rfl Try.ntmps50 rfl (fun w0 h0 hval => ?_)
 refine W.rg env [0, 5, 6, 7] [5, 6, 7] ?_
 refine W.seq ?_
 refine At.freezeC 5 (K := [6, 7]) (ts := [0, 5, 6, 7]) rfl rfl rfl rfl rfl (fun _ h => h) ?_
 refine At.freezeC 6 (K := [7]) (ts := [0, 5, 6, 7]) rfl rfl rfl rfl rfl (fun _ h => h) ?_
 refine At.freezeC 7 (K := []) (ts := [0, 5, 6, 7]) rfl rfl rfl rfl rfl (fun _ h => h) ?_
 obtain ⟨y1, hy2, H⟩ := of_bindO H
 obtain ⟨y3, hy4, H⟩ := of_bindO H
 refine W.region env [] [⟨.buf 900 y1.length, [(900, bufL 42 9 enc_Report y1)], 11000, []⟩, ⟨.buf 900 y3.length, [(11900, .dead), (900, bufL 42 9 enc_Report y3)], 13000, []⟩] rfl rfl (by kernel_rfl) .nil (.free ((Ctr.ofO (co_slices_Clone_Report p0 hy2))) (.free (CtrO.sim (CtrO.at (co_slices_DeleteFunc_Report fuel y1 (fun x0 => some (fog_see_1 x0 p1 p2 p3)) 84 [] ([.rp [.int .i64 (p1)], .rp [.int .i64 (p2)], .rp [.int .i64 (p3)]]) (fun x0 r h => by cases h; exact c_fog_see_1 x0 p1 p2 p3) hy4) rfl 11900) (.cons .qc (.cons (Sim.fnClo rfl) .nil)) (.cons (.refl _) .nil)) .nil)) (At.keep (ts := [8]) (ids := [13900]) rfl rfl ?_)
 refine At.thenC ?_
 refine W.ret ?_
 cases H
 exact At.ret env.ty rfl rfl (fun q hq => by cases hq; exact (by first | rfl | (simp; done) | omega | (simp; omega))) (.refl _) hval
theorem c_fog_query__view (fuel : Nat) (p0 : fog_query) (p1 : (List Report)) {r : ((List Report) × Int)} (H : fog_query__view fuel p0 p1 = some r) : Ctr Try.prog 56 [.agg [.int .i64 (p0.district), .int .i64 (p0.night), .int .i64 (p0.moment), .int .i64 (p0.minute), .int .i64 (p0.time.Lo), .int .i64 (p0.time.Hi), .int .i64 (p0.limit)], roL 9 enc_Report p1] (.tup [roL 9 enc_Report r.1, .int .i64 (r.2)]) := by
 unfold fog_query__view at H
 refine Ctr.of_body (N := 52) Try.func56 (by kernel_rfl) (c := _) rfl Try.ntmps56 rfl (fun w0 h0 hval => ?_)
 refine W.rg env [1, 2] [2] ?_
 refine W.seq ?_
 refine W.block ?_
 refine W.seq ?_
 obtain ⟨y1, hy2, H⟩ := of_bindO H
 refine W.region env [] [⟨.int .i64 (y1), [], 0, []⟩] rfl rfl rfl .nil (.free (c_fog_Check p1 hy2) .nil) (At.keep (ts := [1, 2, 6]) (ids := [2]) rfl rfl ?_)
 refine At.thenC ?_
 refine W.cond rfl (fun hb3 => ?_) (fun hb3 => ?_)
 · have H := of_true H hb3
   refine W.rg env [4, 5] [] ?_
   refine W.ret ?_
   refine At.rinb ?_
   refine At.rthen ?_
   cases H
   exact At.ret env.ty rfl rfl (fun q hq => by cases hq) (Sim.tupL (.cons (Sim.nil _ _) (.cons (.refl _) .nil))) hval
 · have H := of_false H hb3
   refine W.sr env [] [⟨.bool ((fog_isDistrict p0.district)), [], 0, []⟩, ⟨.bool ((fog_isMinute p0.minute)), [], 0, []⟩, ⟨.bool ((fog_isRange p0.time 1439)), [], 0, []⟩, ⟨.bool ((fog_within p0.limit 1 5000)), [], 0, []⟩] [1, 2, 10] [2] rfl rfl rfl (.cons (fun h => h) (.cons (fun h => h) (.cons (fun h => h) (.cons (fun h => by rw [h]; rfl) (.cons (fun h => h) (.cons (fun h => h) (.cons (fun h => h) (.cons (fun h => by rw [h]; rfl) (.cons (fun h => h) (.cons (fun h => h) (.cons (fun h => h) (.cons (fun h => by rw [h]; rfl) .nil)))))))))))) (.free (c_fog_isDistrict p0.district) (.on (fun hW => c_fog_isMinute p0.minute) (.on (fun hW => c_fog_isRange p0.time 1439) (.on (fun hW => c_fog_within p0.limit 1 5000) .nil)))) ?_
   refine W.cond rfl (fun hb4 => ?_) (fun hb4 => ?_)
   · have H := of_true H hb4
     refine W.rg env [4, 5] [] ?_
     refine W.ret ?_
     refine At.rinb ?_
     refine At.rthen ?_
     cases H
     exact At.ret env.ty rfl rfl (fun q hq => by cases hq) (Sim.tupL (.cons (Sim.nil _ _) (.cons (.refl _) .nil))) hval
   · have H := of_false H hb4
     refine W.sr env [] [⟨.bool ((fog_isNight p0.night)), [], 0, []⟩, ⟨.bool ((fog_isMoment p0.moment)), [], 0, []⟩] [1, 2, 33] [2] rfl rfl rfl (.cons (fun h => h) (.cons (fun h => h) (.cons (fun h => h) (.cons (fun h => by rw [h]; rfl) .nil)))) (.free (c_fog_isNight p0.night) (.on (fun hW => c_fog_isMoment p0.moment) .nil)) ?_
     refine W.cond rfl (fun hb5 => ?_) (fun hb5 => ?_)
     · have H := of_true H hb5
       refine W.rg env [4, 5] [] ?_
       refine W.ret ?_
       refine At.rinb ?_
       refine At.rthen ?_
       cases H
       exact At.ret env.ty rfl rfl (fun q hq => by cases hq) (Sim.tupL (.cons (Sim.nil _ _) (.cons (.refl _) .nil))) hval
     · have H := of_false H hb5
       refine W.skip ?_
       refine At.inb ?_
       refine At.thenC ?_
       refine W.seq ?_
       obtain ⟨y6, hy7, H⟩ := of_bindO H
       refine W.region env [] [⟨roL 9 enc_Report y6, [], 0, []⟩] rfl rfl rfl .nil (.free (c_fog_see fuel p1 p0.district p0.night p0.moment hy7) .nil) (At.keep (ts := [4, 5]) (ids := []) rfl rfl ?_)
       refine At.thenC ?_
       refine W.ret ?_
       cases H
       exact At.ret env.ty rfl rfl (fun q hq => by cases hq) (.refl _) hval
theorem c_fog_clash (p0 : Report) (p1 : Report) : Ctr Try.prog 68 [.agg [.int .i64 (p0.Source), .int .i64 (p0.District), .int .i64 (p0.Night), .int .i64 (p0.From), .int .i64 (p0.To), .int .i64 (p0.Sight.Lo), .int .i64 (p0.Sight.Hi), .int .i64 (p0.Known), .int .i64 (p0.Until)], .agg [.int .i64 (p1.Source), .int .i64 (p1.District), .int .i64 (p1.Night), .int .i64 (p1.From), .int .i64 (p1.To), .int .i64 (p1.Sight.Lo), .int .i64 (p1.Sight.Hi), .int .i64 (p1.Known), .int .i64 (p1.Until)]] (.bool ((fog_clash p0 p1))) := by
 obtain ⟨r, H⟩ : ∃ r, fog_clash p0 p1 = r := ⟨_, rfl⟩
 rw [H]
 unfold fog_clash at H
 refine Ctr.of_body (N := 37) Try.func68 (by kernel_rfl) (c := _) rfl Try.ntmps68 rfl (fun w0 h0 hval => ?_)
 refine W.rg env [2, 3] [2, 3] ?_
 refine W.sr env [] [] [2, 3, 5] [2, 3] rfl rfl rfl (.cons (fun h => h) (.cons (fun h => h) (.cons (fun h => h) (.cons (fun h => h) (.cons (fun h => h) .nil))))) .nil ?_
 refine W.sr env [] [] [4] [] rfl rfl rfl (.cons (fun h => h) (.cons (fun h => h) (.cons (fun h => h) (.cons (fun h => h) (.cons (fun h => h) (.cons (fun h => h) (.cons (fun h => h) (.cons (fun h => h) (.cons (fun h => h) (.cons (fun h => h) (.cons (fun h => h) (.cons (fun h => h) (.cons (fun h => h) (.cons (fun h => h) (.cons (fun hW h => by revert hW h; first | (simp +contextual; done) | grind) (.cons (fun h => h) .nil)))))))))))))))) .nil ?_
 refine W.ret ?_
 cases H
 exact At.ret env.ty rfl rfl (fun q hq => by cases hq) (.refl _) hval
theorem c_fog_view__pair (p0 : (List Report)) {r : ((List Int) × Bool)} (H : fog_view__pair p0 = some r) : Ctr Try.prog 51 [roL 9 enc_Report p0] (.tup [roL 1 enc_Int r.1, .bool (r.2)]) := by
 unfold fog_view__pair at H
 refine Ctr.of_body (N := 34) Try.func51 (by kernel_rfl) (c := _) rfl Try.ntmps51 rfl (fun w0 h0 hval => ?_)
 refine W.rg env [0] [] ?_
 refine W.seq ?_
 refine W.rg env [0, 8, 9, 10] [] ?_
 refine W.block ?_
 refine At.keep (ts := [0, 8, 9, 10]) (ids := []) rfl rfl ?_
 refine W.len (t := 8) rfl (fun (hn1 : p0.length ≤ maxLen) => ?_)
 refine W.rangeGo H (fun i1 (s1 : Unit) => [(0, roL 9 enc_Report p0), (8, roL 9 enc_Report p0), (9, .int .i64 (((p0.length : Nat) : Int))), (10, .int .i64 ((i1 : Int)))]) (fun i1 (s1 : Unit) => []) (.cons .q (.cons .q (.cons .qi (.cons .qi .nil)))) .nil (fun k1 i1 s1 hle1 H1 H2 K0 hK1 => ?_)
 refine W.rg env [0, 8, 9, 10, 11] [] ?_
 refine W.seq ?_
 refine W.cond rfl (fun hb2 => ?_) (fun hb2 => ?_)
 · have hi1 : i1 < p0.length := by have := of_decide_eq_true hb2; omega
   have H := H1 hi1
   refine W.skip ?_
   refine At.thenC ?_
   refine W.seq ?_
   refine W.block ?_
   refine W.sr env [] [] [0, 4, 5, 8, 9, 10] [5] rfl rfl rfl (.cons (⟨by omega, by omega⟩ : 0 ≤ (i1 : Int) ∧ (i1 : Int) < ((p0.length : Nat) : Int)) .nil) .nil ?_
   refine W.seq ?_
   obtain ⟨hc3, H⟩ := of_must H
   refine W.region env [] [] rfl rfl rfl (.cons (by unfold inI; have := hn1; (try unfold maxLen at this); omega) (.cons hc3 .nil)) .nil (At.keep (ts := [0, 5, 8, 9, 10, 18, 19, 20]) (ids := [5]) rfl rfl ?_)
   refine At.slot (t := 18) (v := roL 9 enc_Report (p0.drop (((i1 : Int) + 1)).toNat)) (Sim.seg (Seg.drop enc_Report p0 ((((i1 : Int) + 1)).toNat))) ?_
   refine At.thenC ?_
   refine W.block ?_
   refine At.keep (ts := [0, 5, 8, 9, 10, 18, 19, 20]) (ids := [5]) rfl rfl ?_
   refine W.len (t := 18) rfl (fun (hn4 : (p0.drop (((i1 : Int) + 1)).toNat).length ≤ maxLen) => ?_)
   refine W.rangeGo H (fun i4 (s4 : Unit) => [(0, roL 9 enc_Report p0), (5, .lp 5 0), (8, roL 9 enc_Report p0), (9, .int .i64 (((p0.length : Nat) : Int))), (10, .int .i64 ((i1 : Int))), (18, roL 9 enc_Report (p0.drop (((i1 : Int) + 1)).toNat)), (19, .int .i64 ((((p0.drop (((i1 : Int) + 1)).toNat).length : Nat) : Int))), (20, .int .i64 ((i4 : Int)))]) (fun i4 (s4 : Unit) => [(5, .cells [.int .i64 ((p0.getD i1 default).Source), .int .i64 ((p0.getD i1 default).District), .int .i64 ((p0.getD i1 default).Night), .int .i64 ((p0.getD i1 default).From), .int .i64 ((p0.getD i1 default).To), .int .i64 ((p0.getD i1 default).Sight.Lo), .int .i64 ((p0.getD i1 default).Sight.Hi), .int .i64 ((p0.getD i1 default).Known), .int .i64 ((p0.getD i1 default).Until)])]) (.cons .q (.cons .q (.cons .q (.cons .qi (.cons .qi (.cons .q (.cons .qi (.cons .qi .nil)))))))) (.cons .q .nil) (fun k4 i4 s4 hle4 H1 H2 K0 hK4 => ?_)
   refine W.rg env [0, 5, 8, 9, 10, 18, 19, 20, 21] [5] ?_
   refine W.seq ?_
   refine W.cond rfl (fun hb5 => ?_) (fun hb5 => ?_)
   · have hi4 : i4 < (p0.drop (((i1 : Int) + 1)).toNat).length := by have := of_decide_eq_true hb5; omega
     have H := H1 hi4
     refine W.skip ?_
     refine At.thenC ?_
     refine W.seq ?_
     refine W.block ?_
     refine W.sr env [] [] [0, 5, 7, 8, 9, 10, 18, 19, 20] [5, 7] rfl rfl rfl (.cons (⟨by omega, by omega⟩ : 0 ≤ (i4 : Int) ∧ (i4 : Int) < (((p0.drop (((i1 : Int) + 1)).toNat).length : Nat) : Int)) .nil) .nil ?_
     refine W.sr env [] [⟨.bool ((fog_clash (p0.getD i1 default) ((p0.drop (((i1 : Int) + 1)).toNat).getD i4 default))), [], 0, []⟩] [0, 5, 7, 8, 9, 10, 18, 19, 20, 26] [5, 7] rfl rfl rfl .nil (.free (c_fog_clash (p0.getD i1 default) ((p0.drop (((i1 : Int) + 1)).toNat).getD i4 default)) .nil) ?_
     refine W.cond rfl (fun hb6 => ?_) (fun hb6 => ?_)
     · have H := of_true H hb6
       refine W.seq ?_
       refine W.region env [] [] rfl rfl rfl .nil .nil (At.keep (ts := [2, 3]) (ids := []) rfl rfl ?_)
       refine At.slot (t := 2) (v := roL 1 enc_Int ([(p0.getD i1 default).Source, ((p0.drop (((i1 : Int) + 1)).toNat).getD i4 default).Source] : List Int)) (Sim.lit (f := enc_Int) ([(p0.getD i1 default).Source, ((p0.drop (((i1 : Int) + 1)).toNat).getD i4 default).Source] : List Int) rfl rfl (fun _ => rfl)) ?_
       refine At.thenC ?_
       refine W.ret ?_
       refine At.rinb ?_
       refine At.rthen ?_
       refine At.rthen ?_
       refine At.rinb ?_
       refine At.rinb ?_
       refine At.rthen ?_
       refine At.rthen ?_
       refine At.rinb ?_
       refine At.rthen ?_
       cases H
       exact At.ret env.ty rfl rfl (fun q hq => by cases hq) (.refl _) hval
     · have H := of_false H hb6
       refine W.skip ?_
       refine At.inb ?_
       refine At.thenC ?_
       refine W.region env [] [] rfl rfl rfl (.cons (by unfold inI; have := hn4; (try unfold maxLen at this); omega) .nil) .nil (At.keep (ts := [0, 5, 8, 9, 10, 18, 19, 20]) (ids := [5]) rfl rfl ?_)
       refine At.thenK (At.keep (ts := [0, 5, 8, 9, 10, 18, 19, 20]) (ids := [5]) rfl rfl ?_)
       exact At.conv (.cons .q (.cons .q (.cons .q (.cons .qi (.cons .qi (.cons .q (.cons .qi (.cons .qi .nil)))))))) (.cons .q .nil) (hK4 hi4 () H)
   · have H := H2 (by have := of_decide_eq_false hb5; omega)
     refine W.exit ?_
     refine At.xthen ?_
     refine At.xthen ?_
     refine At.xhere ?_
     refine At.inb ?_
     refine At.thenC ?_
     refine W.region env [] [] rfl rfl rfl (.cons (by unfold inI; have := hn1; (try unfold maxLen at this); omega) .nil) .nil (At.keep (ts := [0, 8, 9, 10]) (ids := []) rfl rfl ?_)
     refine At.thenK (At.keep (ts := [0, 8, 9, 10]) (ids := []) rfl rfl ?_)
     exact At.conv (.cons .q (.cons .q (.cons .qi (.cons .qi .nil)))) .nil (hK1 hi1 () H)
 · have H := H2 (by have := of_decide_eq_false hb2; omega)
   refine W.exit ?_
   refine At.xthen ?_
   refine At.xthen ?_
   refine At.xhere ?_
   refine At.thenC ?_
   refine W.rg env [2, 3] [] ?_
   refine W.ret ?_
   cases H
   exact At.ret env.ty rfl rfl (fun q hq => by cases hq) (Sim.tupL (.cons (Sim.nil _ _) (.cons (.refl _) .nil))) hval
theorem c_fog_query__clear (fuel : Nat) (p0 : fog_query) (p1 : (List Report)) {r : ((List Report) × Int)} (H : fog_query__clear fuel p0 p1 = some r) : Ctr Try.prog 57 [.agg [.int .i64 (p0.district), .int .i64 (p0.night), .int .i64 (p0.moment), .int .i64 (p0.minute), .int .i64 (p0.time.Lo), .int .i64 (p0.time.Hi), .int .i64 (p0.limit)], roL 9 enc_Report p1] (.tup [roL 9 enc_Report r.1, .int .i64 (r.2)]) := by
 unfold fog_query__clear at H
 refine Ctr.of_body (N := 26) Try.func57 (by kernel_rfl) (c := _) rfl Try.ntmps57 rfl (fun w0 h0 hval => ?_)
 refine W.rg env [1, 2] [2] ?_
 refine W.seq ?_
 obtain ⟨y1, hy2, H⟩ := of_bindO H
 refine W.region env [] [⟨.tup [roL 9 enc_Report y1.1, .int .i64 (y1.2)], [], 0, []⟩] rfl rfl rfl .nil (.free (c_fog_query__view fuel p0 p1 hy2) .nil) (At.keep (ts := [6, 7]) (ids := []) rfl rfl ?_)
 refine At.thenC ?_
 refine W.seq ?_
 refine W.rg env [6, 7, 17] [] ?_
 refine W.cond rfl (fun hb3 => ?_) (fun hb3 => ?_)
 · have H := of_true H hb3
   refine W.rg env [4, 5] [] ?_
   refine W.ret ?_
   refine At.rthen ?_
   cases H
   exact At.ret env.ty rfl rfl (fun q hq => by cases hq) (Sim.tupL (.cons (Sim.nil _ _) (.cons (.refl _) .nil))) hval
 · have H := of_false H hb3
   refine W.skip ?_
   refine At.thenC ?_
   refine W.seq ?_
   refine W.seq ?_
   obtain ⟨y4, hy5, H⟩ := of_bindO H
   refine W.region env [] [⟨.tup [roL 1 enc_Int y4.1, .bool (y4.2)], [], 0, []⟩] rfl rfl rfl .nil (.free (c_fog_view__pair y1.1 hy5) .nil) (At.keep (ts := [6, 9]) (ids := []) rfl rfl ?_)
   refine At.thenC ?_
   refine W.rg env [6, 24] [] ?_
   refine W.cond rfl (fun hb6 => ?_) (fun hb6 => ?_)
   · have H := of_true H hb6
     refine W.rg env [4, 5] [] ?_
     refine W.ret ?_
     refine At.rthen ?_
     cases H
     exact At.ret env.ty rfl rfl (fun q hq => by cases hq) (Sim.tupL (.cons (Sim.nil _ _) (.cons (.refl _) .nil))) hval
   · have H := of_false H hb6
     refine W.skip ?_
     refine At.thenC ?_
     refine W.rg env [4, 5] [] ?_
     refine W.ret ?_
     cases H
     exact At.ret env.ty rfl rfl (fun q hq => by cases hq) (.refl _) hval
theorem c_fog_view__of (p0 : (List Report)) (p1 : Int) : Ctr Try.prog 85 [roL 9 enc_Report p0, .int .i64 (p1)] (.clo (.func 106) [] [.rp [roL 9 enc_Report p0], .rp [.int .i64 (p1)]]) := by
 refine Ctr.of_body (N := 6) Try.func85 (by kernel_rfl) (c := _) rfl Try.ntmps85 rfl (fun w0 h0 hval => ?_)
 refine W.rg env [2, 3] [2, 3] ?_
 refine W.rg env [4] [2, 3] ?_
 refine W.ret ?_
 exact At.ret env.ty rfl rfl (fun q hq => by cases hq) (.refl _) hval
theorem c_fog_view__of_1 (c0 : (List Report)) (c1 : Int) {r : List (Report)} (H : fog_view__of_1 c0 c1 = some r) : Iter Try.prog 106 [.rp [roL 9 enc_Report c0], .rp [.int .i64 (c1)]] (r.map (fun (x : Report) => [.agg [.int .i64 (x.Source), .int .i64 (x.District), .int .i64 (x.Night), .int .i64 (x.From), .int .i64 (x.To), .int .i64 (x.Sight.Lo), .int .i64 (x.Sight.Hi), .int .i64 (x.Known), .int .i64 (x.Until)]])) := by
 unfold fog_view__of_1 at H
 have hYl := Yl.start r
 skip
 refine Iter.of_body (N := 25) Try.func106 (by kernel_rfl) (c := _) rfl Try.ntmps106 rfl (fun w0 h0 lp J hJ hval hY => ?_)
 refine W.rg env [0, 2, 6, 7, 8] [] ?_
 refine W.block ?_
 refine At.keep (ts := [0, 2, 6, 7, 8]) (ids := []) rfl rfl ?_
 refine W.len (t := 6) rfl (fun (hn1 : c0.length ≤ maxLen) => ?_)
 refine W.rangeGoI H hYl (fun i1 (s1 : Unit) => [(0, .fn (.yield lp) [] []), (2, .rp [.int .i64 (c1)]), (6, roL 9 enc_Report c0), (7, .int .i64 (((c0.length : Nat) : Int))), (8, .int .i64 ((i1 : Int)))]) (fun i1 (s1 : Unit) => []) (.cons .q (.cons .q (.cons .q (.cons .qi (.cons .qi .nil))))) .nil (fun k1 i1 s1 g r hle1 hYl H1 H2 K0 hK1 => ?_)
 refine W.rg env [0, 2, 6, 7, 8, 9] [] ?_
 refine W.seq ?_
 refine W.cond rfl (fun hb2 => ?_) (fun hb2 => ?_)
 · have hi1 : i1 < c0.length := by have := of_decide_eq_true hb2; omega
   have H := H1 hi1
   refine W.skip ?_
   refine At.thenC ?_
   refine W.seq ?_
   refine W.block ?_
   refine W.sr env [] [] [0, 2, 5, 6, 7, 8] [5] rfl rfl rfl (.cons (⟨by omega, by omega⟩ : 0 ≤ (i1 : Int) ∧ (i1 : Int) < ((c0.length : Nat) : Int)) .nil) .nil ?_
   refine W.seq ?_
   refine W.regionY env hY [] 9 [⟨.bool ((fog_within c1 ((c0.getD i1 default).From) ((c0.getD i1 default).To))), [], 0, []⟩] [] rfl rfl rfl rfl rfl rfl rfl rfl (fun b => rfl) rfl .nil (.free (c_fog_within c1 ((c0.getD i1 default).From) ((c0.getD i1 default).To)) .nil) (.cons (fun h => h) (.cons (fun h => h) .nil)) (fun b => (.cons (fun h => h) (.cons (fun h => h) .nil))) (fun b => .nil) (fun hW => Yl.item (fun (x : Report) => [.agg [.int .i64 (x.Source), .int .i64 (x.District), .int .i64 (x.Night), .int .i64 (x.From), .int .i64 (x.To), .int .i64 (x.Sight.Lo), .int .i64 (x.Sight.Hi), .int .i64 (x.Known), .int .i64 (x.Until)]]) H hYl hW) (fun b g1 hg1 hg2 => ?_)
   refine At.keep (ts := [0, 2, 6, 7, 8, 23]) (ids := []) rfl rfl ?_
   refine At.thenC ?_
   rcases Yl.split hg1 hg2 with ⟨hw1, hw2, rfl⟩ | ⟨hw1, hw2, hw3⟩
   · refine W.cond rfl (fun hb => ?_) (fun hb => ?_)
     · refine W.ret ?_
       refine At.rinb ?_
       refine At.rthen ?_
       refine At.rthen ?_
       refine At.rinb ?_
       exact At.iret rfl (.inl rfl) hval
     · exact absurd hb (by rw [hw1, hw2]; simp)
   · refine W.cond rfl (fun hb => ?_) (fun hb => ?_)
     · exact absurd hb (by intro hb; simp only [Bool.and_eq_true, Bool.not_eq_true'] at hb; have := hw1 (by first | exact hb.1 | (simp only [Bool.and_eq_true]; exact hb.1)); rw [this] at hb; simp at hb)
     · obtain ⟨r, H, hYl⟩ := Yl.next H hYl hw2 hw3
       refine W.skip ?_
       refine At.inb ?_
       refine At.thenC ?_
       refine W.region env [] [] rfl rfl rfl (.cons (by unfold inI; have := hn1; (try unfold maxLen at this); omega) .nil) .nil (At.keep (ts := [0, 2, 6, 7, 8]) (ids := []) rfl rfl ?_)
       refine At.thenK (At.keep (ts := [0, 2, 6, 7, 8]) (ids := []) rfl rfl ?_)
       exact At.conv (.cons .q (.cons .q (.cons .q (.cons .qi (.cons .qi .nil))))) .nil (hK1 hi1 () _ _ hYl H)
 · have H := H2 (by have := of_decide_eq_false hb2; omega)
   refine W.exit ?_
   refine At.xthen ?_
   refine At.xthen ?_
   refine At.xhere ?_
   refine At.iofNormal ?_
   exact At.iret rfl (.inr (Yl.fin (fun (x : Report) => [.agg [.int .i64 (x.Source), .int .i64 (x.District), .int .i64 (x.Night), .int .i64 (x.From), .int .i64 (x.To), .int .i64 (x.Sight.Lo), .int .i64 (x.Sight.Hi), .int .i64 (x.Known), .int .i64 (x.Until)]]) H hYl)) hval
theorem c_fog_view__sight (p0 : (List Report)) (p1 : Int) {r : Range} (H : fog_view__sight p0 p1 = some r) : Ctr Try.prog 52 [roL 9 enc_Report p0, .int .i64 (p1)] (.agg [.int .i64 (r.Lo), .int .i64 (r.Hi)]) := by
 unfold fog_view__sight at H
 refine Ctr.of_body (N := 26) Try.func52 (by kernel_rfl) (c := _) rfl Try.ntmps52 rfl (fun w0 h0 hval => ?_)
 refine W.rg env [0, 1, 4] [4] ?_
 refine W.rg env [0, 1, 4, 5] [4, 5] ?_
 refine W.seq ?_
 refine W.sr env [] [⟨.clo (.func 106) [] [.rp [roL 9 enc_Report p0], .rp [.int .i64 (p1)]], [], 0, []⟩] [4, 5, 10] [4, 5] rfl rfl rfl .nil (.free (c_fog_view__of p0 p1) .nil) ?_
 refine W.block ?_
 obtain ⟨it1, hit1, H⟩ := of_bindO H
 refine At.keep (ts := [4, 5, 10]) (ids := [4, 5]) rfl rfl ?_
 refine W.listGo H (fun (x : Report) => [.agg [.int .i64 (x.Source), .int .i64 (x.District), .int .i64 (x.Night), .int .i64 (x.From), .int .i64 (x.To), .int .i64 (x.Sight.Lo), .int .i64 (x.Sight.Hi), .int .i64 (x.Known), .int .i64 (x.Until)]]) (c_fog_view__of_1 p0 p1 hit1) rfl (fun _ => ⟨rfl, rfl⟩) rfl rfl rfl (fun (s2 : Range) => [(4, .cells [.int .i64 (0), .int .i64 (0)]), (5, .cells [.int .i64 (s2.Lo), .int .i64 (s2.Hi)])]) (.cons .q (.cons .q .nil)) (fun (x1 : Report) => [(4, .lp 4 0), (5, .lp 5 0), (6, .lp 6 0)]) (fun (x1 : Report) (s2 : Range) => [(4, .cells [.int .i64 (0), .int .i64 (0)]), (5, .cells [.int .i64 (s2.Lo), .int .i64 (s2.Hi)]), (6, .cells [.int .i64 (x1.Source), .int .i64 (x1.District), .int .i64 (x1.Night), .int .i64 (x1.From), .int .i64 (x1.To), .int .i64 (x1.Sight.Lo), .int .i64 (x1.Sight.Hi), .int .i64 (x1.Known), .int .i64 (x1.Until)])]) (fun _ (_ : Unit) => False) (fun _ _ => []) (fun _ _ h => h.elim) hval (fun h1 vs gh st lp x1 s2 K hK => ?_) (fun k2 h1 vs gh st lp x1 s2 H Qr hQ2 hX2 => ?_) (fun s2 H => ?_) (fun _ _ h => h.elim)
 · refine W.region env [] [] rfl rfl rfl .nil .nil (At.keep (ts := [4, 5, 6]) (ids := [4, 5, 6]) rfl rfl ?_)
   refine At.thenK (At.keep (ts := [4, 5, 6]) (ids := [4, 5, 6]) rfl rfl ?_)
   exact hK
 · refine W.block ?_
   refine W.region env [] [] rfl rfl rfl .nil .nil (At.keep (ts := [4]) (ids := [4, 5]) rfl rfl ?_)
   refine At.inb ?_
   refine At.keep (ts := []) (ids := [4, 5]) rfl rfl ?_
   exact At.conv .nil (.cons .q (.cons .q .nil)) (hQ2 (⟨(max s2.Lo x1.Sight.Lo), (min s2.Hi x1.Sight.Hi)⟩ : Range) H)
 · refine At.inb ?_
   refine At.thenC ?_
   refine W.rg env [4] [4] ?_
   refine W.ret ?_
   cases H
   exact At.ret env.ty rfl rfl (fun q hq => by cases hq) (.refl _) hval
theorem c_fog_Sight (fuel : Nat) (p0 : (List Report)) (p1 : Int) (p2 : Int) (p3 : Int) (p4 : Int) {r : (Range × Int)} (H : fog_Sight fuel p0 p1 p2 p3 p4 = some r) : Ctr Try.prog 20 [roL 9 enc_Report p0, .int .i64 (p1), .int .i64 (p2), .int .i64 (p3), .int .i64 (p4)] (.tup [.agg [.int .i64 (r.1.Lo), .int .i64 (r.1.Hi)], .int .i64 (r.2)]) := by
 unfold fog_Sight at H
 refine Ctr.of_body (N := 31) Try.func20 (by kernel_rfl) (c := _) rfl Try.ntmps20 rfl (fun w0 h0 hval => ?_)
 refine W.rg env [0, 1, 2, 3, 4, 10] [10] ?_
 refine W.seq ?_
 obtain ⟨y1, hy2, H⟩ := of_bindO H
 refine W.region env [] [⟨.tup [roL 9 enc_Report y1.1, .int .i64 (y1.2)], [], 0, []⟩] rfl rfl rfl .nil (.free (c_fog_query__clear fuel (⟨p1, p2, p4, p3, (⟨0, 0⟩ : Range), 1⟩ : fog_query) p0 hy2) .nil) (At.keep (ts := [3, 10, 12, 13]) (ids := [10]) rfl rfl ?_)
 refine At.thenC ?_
 refine W.seq ?_
 refine W.rg env [3, 10, 12, 13, 25] [10] ?_
 refine W.cond rfl (fun hb3 => ?_) (fun hb3 => ?_)
 · have H := of_true H hb3
   refine W.rg env [10, 11] [10] ?_
   refine W.ret ?_
   refine At.rthen ?_
   cases H
   exact At.ret env.ty rfl rfl (fun q hq => by cases hq) (.refl _) hval
 · have H := of_false H hb3
   refine W.skip ?_
   refine At.thenC ?_
   refine W.seq ?_
   obtain ⟨y4, hy5, H⟩ := of_bindO H
   refine W.region env [] [⟨.agg [.int .i64 (y4.Lo), .int .i64 (y4.Hi)], [], 0, []⟩] rfl rfl rfl .nil (.free (c_fog_view__sight y1.1 p3 hy5) .nil) (At.keep (ts := [10, 11]) (ids := [10]) rfl rfl ?_)
   refine At.thenC ?_
   refine W.ret ?_
   cases H
   exact At.ret env.ty rfl rfl (fun q hq => by cases hq) (.refl _) hval
theorem c_fog_below (p0 : Range) (p1 : Int) : Ctr Try.prog 63 [.agg [.int .i64 (p0.Lo), .int .i64 (p0.Hi)], .int .i64 (p1)] (.int .i64 ((fog_below p0 p1))) := by
 obtain ⟨r, H⟩ : ∃ r, fog_below p0 p1 = r := ⟨_, rfl⟩
 rw [H]
 unfold fog_below at H
 refine Ctr.of_body (N := 15) Try.func63 (by kernel_rfl) (c := _) rfl Try.ntmps63 rfl (fun w0 h0 hval => ?_)
 refine W.rg env [1, 2] [2] ?_
 refine W.seq ?_
 refine W.block ?_
 refine W.rg env [1, 2, 5] [2] ?_
 refine W.cond rfl (fun hb1 => ?_) (fun hb1 => ?_)
 · have H := of_true H hb1
   refine W.rg env [4] [] ?_
   refine W.ret ?_
   refine At.rinb ?_
   refine At.rthen ?_
   cases H
   exact At.ret env.ty rfl rfl (fun q hq => by cases hq) (.refl _) hval
 · have H := of_false H hb1
   refine W.rg env [10] [] ?_
   refine W.cond rfl (fun hb2 => ?_) (fun hb2 => ?_)
   · have H := of_true H hb2
     refine W.rg env [4] [] ?_
     refine W.ret ?_
     refine At.rinb ?_
     refine At.rthen ?_
     cases H
     exact At.ret env.ty rfl rfl (fun q hq => by cases hq) (.refl _) hval
   · have H := of_false H hb2
     refine W.skip ?_
     refine At.inb ?_
     refine At.thenC ?_
     refine W.rg env [4] [] ?_
     refine W.ret ?_
     cases H
     exact At.ret env.ty rfl rfl (fun q hq => by cases hq) (.refl _) hval
theorem c_fog_Below (fuel : Nat) (p0 : (List Report)) (p1 : Int) (p2 : Int) (p3 : Int) (p4 : Int) (p5 : Int) {r : (Int × Int)} (H : fog_Below fuel p0 p1 p2 p3 p4 p5 = some r) : Ctr Try.prog 28 [roL 9 enc_Report p0, .int .i64 (p1), .int .i64 (p2), .int .i64 (p3), .int .i64 (p4), .int .i64 (p5)] (.tup [.int .i64 (r.1), .int .i64 (r.2)]) := by
 unfold fog_Below at H
 refine Ctr.of_body (N := 35) Try.func28 (by kernel_rfl) (c := _) rfl Try.ntmps28 rfl (fun w0 h0 hval => ?_)
 refine W.rg env [0, 1, 2, 3, 4, 5] [] ?_
 refine W.seq ?_
 obtain ⟨y1, hy2, H⟩ := of_bindO H
 refine W.region env [] [⟨.tup [roL 9 enc_Report y1.1, .int .i64 (y1.2)], [], 0, []⟩] rfl rfl rfl .nil (.free (c_fog_query__clear fuel (⟨p1, p2, p5, p3, (⟨0, 0⟩ : Range), p4⟩ : fog_query) p0 hy2) .nil) (At.keep (ts := [3, 4, 14, 15]) (ids := []) rfl rfl ?_)
 refine At.thenC ?_
 refine W.seq ?_
 refine W.rg env [3, 4, 14, 15, 28] [] ?_
 refine W.cond rfl (fun hb3 => ?_) (fun hb3 => ?_)
 · have H := of_true H hb3
   refine W.rg env [12, 13] [] ?_
   refine W.ret ?_
   refine At.rthen ?_
   cases H
   exact At.ret env.ty rfl rfl (fun q hq => by cases hq) (.refl _) hval
 · have H := of_false H hb3
   refine W.skip ?_
   refine At.thenC ?_
   refine W.seq ?_
   obtain ⟨y4, hy5, H⟩ := of_bindO H
   refine W.region env [] [⟨.agg [.int .i64 (y4.Lo), .int .i64 (y4.Hi)], [], 0, []⟩, ⟨.int .i64 ((fog_below y4 p4)), [], 0, []⟩] rfl rfl rfl .nil (.free (c_fog_view__sight y1.1 p3 hy5) (.free (c_fog_below y4 p4) .nil)) (At.keep (ts := [12, 13]) (ids := []) rfl rfl ?_)
   refine At.thenC ?_
   refine W.ret ?_
   cases H
   exact At.ret env.ty rfl rfl (fun q hq => by cases hq) (.refl _) hval
end Go.Sp
