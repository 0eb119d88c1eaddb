/- Printed by opn.py: what the arguments of the laws read as; each law's statement out of its Lean definition. -/
import Derived.Test.YtilbmfgiigbeiaaGreatFr3
import Derived.Test.YtilbmfgiigbeiaaGreatCtr3
import Derived.Test.YtilbmfgiigbeiaaGreatRows
import Derived.JoinedOf
set_option linter.all false
set_option maxRecDepth 100000
set_option linter.unusedVariables false
namespace Go.Sp
open Go Go.Av Go.Proofs Go.Proofs.YtilbmfgiigbeiaaGreat
theorem zoQ:ownKnob Tryz.prog.godebug=none:=by kernel_rfl
theorem zn0:Kids Tryz.prog (· < Tryz.prog.types.size):=kids_rows (by kernel_rfl) (by kernel_rfl)
theorem zn1:∀ t e,t<Tryz.prog.types.size→Tryz.prog.underlying t=some (.slice e)→0<Tryz.prog.cellsOf e:=slices_full_of Tryz.prog (by kernel_rfl)
def zea (x:(Arr3 Int)):Prop:=inI x.x0∧inI x.x1∧inI x.x2
abbrev zgA (x:(Arr3 Int)):List AV:=[.int .i64 (x.x0),.int .i64 (x.x1),.int .i64 (x.x2)]
theorem o_59:Opn Tryz.prog 59 3 zgA zea:=
 Opn.array (n:=3) (s:=1) (sz:=3) Tryz.underlying59 (by kernel_rfl) (by kernel_rfl) (show OpnF Tryz.prog [(0,3),(1,3),(2,3)] 0 3 _ _ from .cons (Opn.int Tryz.underlying3 (by kernel_rfl)) (.cons (Opn.int Tryz.underlying3 (by kernel_rfl)) (.cons (Opn.int Tryz.underlying3 (by kernel_rfl)) (.nil)))) (fun x=>(⟨x.1,x.2.1,x.2.2.1⟩:(Arr3 Int))) (fun _=>rfl) (fun _=>rfl) (fun x h=>⟨h.1,h.2.1,h.2.2.1⟩)
def zgp (x:(Arr4 Int)):Prop:=inI x.x0∧inI x.x1∧inI x.x2∧inI x.x3
abbrev zmz (x:(Arr4 Int)):List AV:=[.int .i64 (x.x0),.int .i64 (x.x1),.int .i64 (x.x2),.int .i64 (x.x3)]
theorem o_23:Opn Tryz.prog 23 4 zmz zgp:=
 Opn.array (n:=4) (s:=1) (sz:=4) Tryz.underlying23 (by kernel_rfl) (by kernel_rfl) (show OpnF Tryz.prog [(0,3),(1,3),(2,3),(3,3)] 0 4 _ _ from .cons (Opn.int Tryz.underlying3 (by kernel_rfl)) (.cons (Opn.int Tryz.underlying3 (by kernel_rfl)) (.cons (Opn.int Tryz.underlying3 (by kernel_rfl)) (.cons (Opn.int Tryz.underlying3 (by kernel_rfl)) (.nil))))) (fun x=>(⟨x.1,x.2.1,x.2.2.1,x.2.2.2.1⟩:(Arr4 Int))) (fun _=>rfl) (fun _=>rfl) (fun x h=>⟨h.1,h.2.1,h.2.2.1,h.2.2.2.1⟩)
def zgq (x:(Arr2 Int)):Prop:=inI x.x0∧inI x.x1
abbrev ziA (x:(Arr2 Int)):List AV:=[.int .i64 (x.x0),.int .i64 (x.x1)]
theorem o_62:Opn Tryz.prog 62 2 ziA zgq:=
 Opn.array (n:=2) (s:=1) (sz:=2) Tryz.underlying62 (by kernel_rfl) (by kernel_rfl) (show OpnF Tryz.prog [(0,3),(1,3)] 0 2 _ _ from .cons (Opn.int Tryz.underlying3 (by kernel_rfl)) (.cons (Opn.int Tryz.underlying3 (by kernel_rfl)) (.nil))) (fun x=>(⟨x.1,x.2.1⟩:(Arr2 Int))) (fun _=>rfl) (fun _=>rfl) (fun x h=>⟨h.1,h.2.1⟩)
def zb8 (x:gasoliertop_Town):Prop:=(fun l:(List (Arr3 Int))=>l.length * 24≤140737488351232∧∀ x∈l,zea x) x.Ways∧(fun l:(List (Arr3 Int))=>l.length * 24≤140737488351232∧∀ x∈l,zea x) x.Lamps∧zgp x.Law∧zgp x.Night∧(fun l:(List (Arr2 Int))=>l.length * 16≤140737488351232∧∀ x∈l,zgq x) x.Hands
abbrev zdH (x:gasoliertop_Town):List AV:=[roL 3 zaF x.Ways,roL 3 zaF x.Lamps,.int .i64 (x.Law.x0),.int .i64 (x.Law.x1),.int .i64 (x.Law.x2),.int .i64 (x.Law.x3),.int .i64 (x.Night.x0),.int .i64 (x.Night.x1),.int .i64 (x.Night.x2),.int .i64 (x.Night.x3),roL 2 zbb x.Hands]
theorem o_26:Opn Tryz.prog 26 11 zdH zb8:=
 Opn.struct Tryz.underlying26 (by kernel_rfl) (show OpnF Tryz.prog [(0,22),(1,22),(2,23),(6,23),(10,24)] 0 11 _ _ from .cons (Opn.slice (k:=24) Tryz.underlying22 (by kernel_rfl) (show Opn Tryz.prog 59 3 zgA zea from o_59) (by decide) (by decide +kernel)) (.cons (Opn.slice (k:=24) Tryz.underlying22 (by kernel_rfl) (show Opn Tryz.prog 59 3 zgA zea from o_59) (by decide) (by decide +kernel)) (.cons o_23 (.cons o_23 (.cons (Opn.slice (k:=16) Tryz.underlying24 (by kernel_rfl) (show Opn Tryz.prog 62 2 ziA zgq from o_62) (by decide) (by decide +kernel)) (.nil)))))) (fun x=>(⟨x.1,x.2.1,x.2.2.1,x.2.2.2.1,x.2.2.2.2.1⟩:gasoliertop_Town)) (fun _=>rfl) (fun _=>rfl) (fun x h=>⟨h.1,h.2.1,h.2.2.1,h.2.2.2.1,h.2.2.2.2.1⟩)
theorem args_3:OpnA Tryz.prog [26] (fun x:gasoliertop_Town×Unit=>[.agg (zdH x.1)]) (fun x=>zb8 x.1∧True):=
 .cons (.struct Tryz.underlying26 o_26) (.nil)
theorem ziP (h:∀ (a0:gasoliertop_Town),zb8 a0→∃ fuel,zbp fuel a0=some true) (os:Os) (started:os.Started) (H:Type) (enc:TypeId×Value→H) :
 ReturnsInHanded {} Tryz.checked os 3 .any (Rows.topLitSpec.pre6 enc Tryz.prog Tryz.f3 Rows.topLitRow.domain Rows.topLitRow.apart) (Rows.topLitSpec.post enc Tryz.prog Tryz.f3 Rows.topLitRow.apart Rows.topLitRow.fresh Rows.topLitRow.handsOn Rows.topLitRow.again):=by
 refine returnsInHanded_of_change_sized (C:=Tryz.checked) zoQ started (by kernel_rfl) Tryz.func3
  (ChangeSpec.witness6 (enc:=enc) (C:=Tryz.checked) false ⟨#[],#[.agg #[.slice none 0 0,.slice none 0 0,.int .i64 0,.int .i64 0,.int .i64 0,.int .i64 0,.int .i64 0,.int .i64 0,.int .i64 0,.int .i64 0,.slice none 0 0]],[]⟩ 12 (by kernel_rfl) (by kernel_rfl) (by kernel_rfl) (by kernel_rfl)) ?_
 intro W base args ds gs before hval hW _ hbig _
 have hp:Tryz.f3.params.toList=[26]:=by rw [Tryz.params3]
 refine zng (P:=Tryz.prog) (fn:=Tryz.f3) zn0 zn1 (by rw [hp];kernel_rfl) (hp▸args_3) rfl ?_ (by kernel_rfl) Tryz.underlying4 ?_ H enc W base args ds gs before hval hW hbig
 · intro H ds hl
   rw [hp] at hl
   match ds,hl with
   | [_],_=>rfl
 · rintro ⟨a0,_⟩ ⟨h0,_⟩
   obtain ⟨fuel,hf⟩:=h a0 h0
   exact zfn fuel a0 hf
theorem zmO (h:∀ (a0:gasoliertop_Town),zb8 a0→∃ fuel,zbp fuel a0=some true):Rows.TopLitSaid:=
 OpenClaim.holds_of_wide 3 Tryz.f3 rfl rfl rfl rfl rfl rfl rfl ⟨rfl,rfl,rfl,rfl,rfl⟩ rfl rfl rfl rfl rfl (by kernel_rfl) Tryz.func3 (by kernel_rfl)
  (of_decide_eq_true (by kernel_rfl)) (by unfold Func.isWrapper;rw [if_neg (by decide +kernel)];exact ⟨rfl,rfl⟩)
  (fun os started H enc _=>ziP h os started H enc)
end Go.Sp
