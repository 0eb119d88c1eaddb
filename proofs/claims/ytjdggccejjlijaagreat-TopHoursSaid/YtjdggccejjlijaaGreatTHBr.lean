/- Printed by opn.py: what the arguments of the laws read as; each law's statement out of its Lean definition. -/
import Derived.Test.YtjdggccejjlijaaGreatFr4
import Derived.Test.YtjdggccejjlijaaGreatCtr2
import Derived.Test.YtjdggccejjlijaaGreatRows
import Derived.JoinedOf
set_option linter.all false
set_option maxRecDepth 100000
set_option linter.unusedVariables false
namespace Go.Sp
open Go Go.Av Go.Proofs Go.Proofs.YtjdggccejjlijaaGreat
theorem zrH:ownKnob Tryz.prog.godebug=none:=by kernel_rfl
theorem zqP:Kids Tryz.prog (· < Tryz.prog.types.size):=kids_rows (by kernel_rfl) (by kernel_rfl)
theorem zqQ:∀ t e,t<Tryz.prog.types.size→Tryz.prog.underlying t=some (.slice e)→0<Tryz.prog.cellsOf e:=slices_full_of Tryz.prog (by kernel_rfl)
def zfG (x:(Arr2 Int)):Prop:=inI x.x0∧inI x.x1
abbrev ziW (x:(Arr2 Int)):List AV:=[.int .i64 (x.x0),.int .i64 (x.x1)]
theorem o_42:Opn Tryz.prog 42 2 ziW zfG:=
 Opn.array (n:=2) (s:=1) (sz:=2) Tryz.underlying42 (by kernel_rfl) (by kernel_rfl) (show OpnF Tryz.prog [(0,3),(1,3)] 0 2 _ _ from .cons (Opn.int Tryz.underlying3 (by kernel_rfl)) (.cons (Opn.int Tryz.underlying3 (by kernel_rfl)) (.nil))) (fun x=>(⟨x.1,x.2.1⟩:(Arr2 Int))) (fun _=>rfl) (fun _=>rfl) (fun x h=>⟨h.1,h.2.1⟩)
def ziG (x:(Arr3 Int)):Prop:=inI x.x0∧inI x.x1∧inI x.x2
abbrev zk5 (x:(Arr3 Int)):List AV:=[.int .i64 (x.x0),.int .i64 (x.x1),.int .i64 (x.x2)]
theorem o_70:Opn Tryz.prog 70 3 zk5 ziG:=
 Opn.array (n:=3) (s:=1) (sz:=3) Tryz.underlying70 (by kernel_rfl) (by kernel_rfl) (show OpnF Tryz.prog [(0,3),(1,3),(2,3)] 0 3 _ _ from .cons (Opn.int Tryz.underlying3 (by kernel_rfl)) (.cons (Opn.int Tryz.underlying3 (by kernel_rfl)) (.cons (Opn.int Tryz.underlying3 (by kernel_rfl)) (.nil)))) (fun x=>(⟨x.1,x.2.1,x.2.2.1⟩:(Arr3 Int))) (fun _=>rfl) (fun _=>rfl) (fun x h=>⟨h.1,h.2.1,h.2.2.1⟩)
def zcv (x:gasoliertop_Winter):Prop:=(fun l:(List (Arr2 Int))=>l.length * 16≤140737488351232∧∀ x∈l,zfG x) x.Nights∧(fun l:(List Int)=>l.length * 8≤140737488351232∧∀ x∈l,inI x) x.Batch∧(fun l:(List (Arr3 Int))=>l.length * 24≤140737488351232∧∀ x∈l,ziG x) x.Lives∧(fun l:(List Int)=>l.length * 8≤140737488351232∧∀ x∈l,inI x) x.Burnt∧(fun l:(List (Arr2 Int))=>l.length * 16≤140737488351232∧∀ x∈l,zfG x) x.Looks∧inI x.Many
abbrev zeM (x:gasoliertop_Winter):List AV:=[roL 2 za0 x.Nights,roL 1 zaa x.Batch,roL 3 zcD x.Lives,roL 1 zaa x.Burnt,roL 2 za0 x.Looks,.int .i64 (x.Many)]
theorem o_26:Opn Tryz.prog 26 6 zeM zcv:=
 Opn.struct Tryz.underlying26 (by kernel_rfl) (show OpnF Tryz.prog [(0,22),(1,23),(2,24),(3,23),(4,22),(5,3)] 0 6 _ _ from .cons (Opn.slice (k:=16) Tryz.underlying22 (by kernel_rfl) (show Opn Tryz.prog 42 2 ziW zfG from o_42) (by decide) (by decide +kernel)) (.cons (Opn.slice (k:=8) Tryz.underlying23 (by kernel_rfl) (show Opn Tryz.prog 3 1 zaa inI from (Opn.int Tryz.underlying3 (by kernel_rfl))) (by decide) (by decide +kernel)) (.cons (Opn.slice (k:=24) Tryz.underlying24 (by kernel_rfl) (show Opn Tryz.prog 70 3 zk5 ziG from o_70) (by decide) (by decide +kernel)) (.cons (Opn.slice (k:=8) Tryz.underlying23 (by kernel_rfl) (show Opn Tryz.prog 3 1 zaa inI from (Opn.int Tryz.underlying3 (by kernel_rfl))) (by decide) (by decide +kernel)) (.cons (Opn.slice (k:=16) Tryz.underlying22 (by kernel_rfl) (show Opn Tryz.prog 42 2 ziW zfG from o_42) (by decide) (by decide +kernel)) (.cons (Opn.int Tryz.underlying3 (by kernel_rfl)) (.nil))))))) (fun x=>(⟨x.1,x.2.1,x.2.2.1,x.2.2.2.1,x.2.2.2.2.1,x.2.2.2.2.2.1⟩:gasoliertop_Winter)) (fun _=>rfl) (fun _=>rfl) (fun x h=>⟨h.1,h.2.1,h.2.2.1,h.2.2.2.1,h.2.2.2.2.1,h.2.2.2.2.2.1⟩)
theorem args_3:OpnA Tryz.prog [26] (fun x:gasoliertop_Winter×Unit=>[.agg (zeM x.1)]) (fun x=>zcv x.1∧True):=
 .cons (.struct Tryz.underlying26 o_26) (.nil)
theorem zjV (h:∀ (a0:gasoliertop_Winter),zcv a0→∃ fuel,zcF fuel a0=some true) (os:Os) (started:os.Started) (H:Type) (enc:TypeId×Value→H) :
 ReturnsInHanded {} Tryz.checked os 3 .any (Rows.topHoursSpec.pre6 enc Tryz.prog Tryz.f3 Rows.topHoursRow.domain Rows.topHoursRow.apart) (Rows.topHoursSpec.post enc Tryz.prog Tryz.f3 Rows.topHoursRow.apart Rows.topHoursRow.fresh Rows.topHoursRow.handsOn Rows.topHoursRow.again):=by
 refine returnsInHanded_of_change_sized (C:=Tryz.checked) zrH started (by kernel_rfl) Tryz.func3
  (ChangeSpec.witness6 (enc:=enc) (C:=Tryz.checked) false ⟨#[],#[.agg #[.slice none 0 0,.slice none 0 0,.slice none 0 0,.slice none 0 0,.slice none 0 0,.int .i64 0]],[]⟩ 12 (by kernel_rfl) (by kernel_rfl) (by kernel_rfl) (by kernel_rfl)) ?_
 intro W base args ds gs before hval hW _ hbig _
 have hp:Tryz.f3.params.toList=[26]:=by rw [Tryz.params3]
 refine zp8 (P:=Tryz.prog) (fn:=Tryz.f3) zqP zqQ (by rw [hp];kernel_rfl) (hp▸args_3) rfl ?_ (by kernel_rfl) Tryz.underlying4 ?_ H enc W base args ds gs before hval hW hbig
 · intro H ds hl
   rw [hp] at hl
   match ds,hl with
   | [_],_=>rfl
 · rintro ⟨a0,_⟩ ⟨h0,_⟩
   obtain ⟨fuel,hf⟩:=h a0 h0
   exact zgq fuel a0 hf
theorem znm (h:∀ (a0:gasoliertop_Winter),zcv a0→∃ fuel,zcF fuel a0=some true):Rows.TopHoursSaid:=
 OpenClaim.holds_of_wide 3 Tryz.f3 rfl rfl rfl rfl rfl rfl rfl ⟨rfl,rfl,rfl,rfl,rfl⟩ rfl rfl rfl rfl rfl (by kernel_rfl) Tryz.func3 (by kernel_rfl)
  (of_decide_eq_true (by kernel_rfl)) (by unfold Func.isWrapper;rw [if_neg (by decide +kernel)];exact ⟨rfl,rfl⟩)
  (fun os started H enc _=>zjV h os started H enc)
end Go.Sp
