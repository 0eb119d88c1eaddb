/- Printed by opn.py: what the arguments of the laws read as; each law's statement out of its Lean definition. -/
import Derived.Test.YtakjeajlmlmkeaaGreatFr5
import Derived.Test.YtakjeajlmlmkeaaGreatCtr2
import Derived.Test.YtakjeajlmlmkeaaGreatRows
import Derived.JoinedOf
set_option linter.all false
set_option maxRecDepth 100000
set_option linter.unusedVariables false
namespace Go.Sp
open Go Go.Av Go.Proofs Go.Proofs.YtakjeajlmlmkeaaGreat
theorem zpS:ownKnob Tryz.prog.godebug=none:=by kernel_rfl
theorem zo1:Kids Tryz.prog (· < Tryz.prog.types.size):=kids_rows (by kernel_rfl) (by kernel_rfl)
theorem zo2:∀ t e,t<Tryz.prog.types.size→Tryz.prog.underlying t=some (.slice e)→0<Tryz.prog.cellsOf e:=slices_full_of Tryz.prog (by kernel_rfl)
def zhD (x:(Arr2 Int)):Prop:=inI x.x0∧inI x.x1
abbrev zjQ (x:(Arr2 Int)):List AV:=[.int .i64 (x.x0),.int .i64 (x.x1)]
theorem o_81:Opn Tryz.prog 81 2 zjQ zhD:=
 Opn.array (n:=2) (s:=1) (sz:=2) Tryz.underlying81 (by kernel_rfl) (by kernel_rfl) (show OpnF Tryz.prog [(0,3),(1,3)] 0 2 _ _ from .cons (Opn.int Tryz.underlying3 (by kernel_rfl)) (.cons (Opn.int Tryz.underlying3 (by kernel_rfl)) (.nil))) (fun x=>(⟨x.1,x.2.1⟩:(Arr2 Int))) (fun _=>rfl) (fun _=>rfl) (fun x h=>⟨h.1,h.2.1⟩)
def zdv (x:(Arr4 Int)):Prop:=inI x.x0∧inI x.x1∧inI x.x2∧inI x.x3
abbrev zgt (x:(Arr4 Int)):List AV:=[.int .i64 (x.x0),.int .i64 (x.x1),.int .i64 (x.x2),.int .i64 (x.x3)]
theorem o_57:Opn Tryz.prog 57 4 zgt zdv:=
 Opn.array (n:=4) (s:=1) (sz:=4) Tryz.underlying57 (by kernel_rfl) (by kernel_rfl) (show OpnF Tryz.prog [(0,3),(1,3),(2,3),(3,3)] 0 4 _ _ from .cons (Opn.int Tryz.underlying3 (by kernel_rfl)) (.cons (Opn.int Tryz.underlying3 (by kernel_rfl)) (.cons (Opn.int Tryz.underlying3 (by kernel_rfl)) (.cons (Opn.int Tryz.underlying3 (by kernel_rfl)) (.nil))))) (fun x=>(⟨x.1,x.2.1,x.2.2.1,x.2.2.2.1⟩:(Arr4 Int))) (fun _=>rfl) (fun _=>rfl) (fun x h=>⟨h.1,h.2.1,h.2.2.1,h.2.2.2.1⟩)
def zhC (x:(Arr5 Int)):Prop:=inI x.x0∧inI x.x1∧inI x.x2∧inI x.x3∧inI x.x4
abbrev zjP (x:(Arr5 Int)):List AV:=[.int .i64 (x.x0),.int .i64 (x.x1),.int .i64 (x.x2),.int .i64 (x.x3),.int .i64 (x.x4)]
theorem o_131:Opn Tryz.prog 131 5 zjP zhC:=
 Opn.array (n:=5) (s:=1) (sz:=5) Tryz.underlying131 (by kernel_rfl) (by kernel_rfl) (show OpnF Tryz.prog [(0,3),(1,3),(2,3),(3,3),(4,3)] 0 5 _ _ from .cons (Opn.int Tryz.underlying3 (by kernel_rfl)) (.cons (Opn.int Tryz.underlying3 (by kernel_rfl)) (.cons (Opn.int Tryz.underlying3 (by kernel_rfl)) (.cons (Opn.int Tryz.underlying3 (by kernel_rfl)) (.cons (Opn.int Tryz.underlying3 (by kernel_rfl)) (.nil)))))) (fun x=>(⟨x.1,x.2.1,x.2.2.1,x.2.2.2.1,x.2.2.2.2.1⟩:(Arr5 Int))) (fun _=>rfl) (fun _=>rfl) (fun x h=>⟨h.1,h.2.1,h.2.2.1,h.2.2.2.1,h.2.2.2.2.1⟩)
def zcb (x:gasolierref06_Raw):Prop:=(fun l:(List (Arr2 Int))=>l.length * 16≤140737488351232∧∀ x∈l,zhD x) x.Batches∧(fun l:(List (Arr4 Int))=>l.length * 32≤140737488351232∧∀ x∈l,zdv x) x.Mantles∧(fun l:(List (Arr5 Int))=>l.length * 40≤140737488351232∧∀ x∈l,zhC x) x.Burns∧(fun l:(List (Arr4 Int))=>l.length * 32≤140737488351232∧∀ x∈l,zdv x) x.Looks
abbrev zel (x:gasolierref06_Raw):List AV:=[roL 2 zcR x.Batches,roL 4 zba x.Mantles,roL 5 zcQ x.Burns,roL 4 zba x.Looks]
theorem o_55:Opn Tryz.prog 55 4 zel zcb:=
 Opn.struct Tryz.underlying55 (by kernel_rfl) (show OpnF Tryz.prog [(0,51),(1,52),(2,53),(3,52)] 0 4 _ _ from .cons (Opn.slice (k:=16) Tryz.underlying51 (by kernel_rfl) (show Opn Tryz.prog 81 2 zjQ zhD from o_81) (by decide) (by decide +kernel)) (.cons (Opn.slice (k:=32) Tryz.underlying52 (by kernel_rfl) (show Opn Tryz.prog 57 4 zgt zdv from o_57) (by decide) (by decide +kernel)) (.cons (Opn.slice (k:=40) Tryz.underlying53 (by kernel_rfl) (show Opn Tryz.prog 131 5 zjP zhC from o_131) (by decide) (by decide +kernel)) (.cons (Opn.slice (k:=32) Tryz.underlying52 (by kernel_rfl) (show Opn Tryz.prog 57 4 zgt zdv from o_57) (by decide) (by decide +kernel)) (.nil))))) (fun x=>(⟨x.1,x.2.1,x.2.2.1,x.2.2.2.1⟩:gasolierref06_Raw)) (fun _=>rfl) (fun _=>rfl) (fun x h=>⟨h.1,h.2.1,h.2.2.1,h.2.2.2.1⟩)
theorem args_4:OpnA Tryz.prog [55,56,57] (fun x:gasolierref06_Raw×(List Int)×(Arr4 Int)×Unit=>[.agg (zel x.1),roL 1 zac x.2.1,.agg (zgt x.2.2.1)]) (fun x=>zcb x.1∧(fun l:(List Int)=>l.length * 8≤140737488351232∧∀ x∈l,inI x) x.2.1∧zdv x.2.2.1∧True):=
 .cons (.struct Tryz.underlying55 o_55) (.cons (.slice (k:=8) Tryz.underlying56 (by kernel_rfl) (show Opn Tryz.prog 3 1 zac inI from (Opn.int Tryz.underlying3 (by kernel_rfl))) (by decide) (by decide +kernel)) (.cons (.array Tryz.underlying57 o_57) (.nil)))
theorem zgW (h:∀ (a0:gasolierref06_Raw) (a1:(List Int)) (a2:(Arr4 Int)),zcb a0→(fun l:(List Int)=>l.length * 8≤140737488351232∧∀ x∈l,inI x) a1→zdv a2→∃ fuel,zaZ fuel a0 a1 a2=some true) (os:Os) (started:os.Started) (H:Type) (enc:TypeId×Value→H) :
 ReturnsInHanded {} Tryz.checked os 4 .any (Rows.mantleLookedSpec.pre6 enc Tryz.prog Tryz.f4 Rows.mantleLookedRow.domain Rows.mantleLookedRow.apart) (Rows.mantleLookedSpec.post enc Tryz.prog Tryz.f4 Rows.mantleLookedRow.apart Rows.mantleLookedRow.fresh Rows.mantleLookedRow.handsOn Rows.mantleLookedRow.again):=by
 refine returnsInHanded_of_change_sized (C:=Tryz.checked) zpS started (by kernel_rfl) Tryz.func4
  (ChangeSpec.witness6 (enc:=enc) (C:=Tryz.checked) false ⟨#[],#[.agg #[.slice none 0 0,.slice none 0 0,.slice none 0 0,.slice none 0 0],.slice none 0 0,.agg #[.int .i64 0,.int .i64 0,.int .i64 0,.int .i64 0]],[]⟩ 12 (by kernel_rfl) (by kernel_rfl) (by kernel_rfl) (by kernel_rfl)) ?_
 intro W base args ds gs before hval hW _ hbig _
 have hp:Tryz.f4.params.toList=[55,56,57]:=by rw [Tryz.params4]
 refine zok (P:=Tryz.prog) (fn:=Tryz.f4) zo1 zo2 (by rw [hp];kernel_rfl) (hp▸args_4) rfl ?_ (by kernel_rfl) Tryz.underlying4 ?_ H enc W base args ds gs before hval hW hbig
 · intro H ds hl
   rw [hp] at hl
   match ds,hl with
   | [_,_,_],_=>rfl
 · rintro ⟨a0,a1,a2,_⟩ ⟨h0,h1,h2,_⟩
   obtain ⟨fuel,hf⟩:=h a0 a1 a2 h0 h1 h2
   exact zeu fuel a0 a1 a2 hf
theorem ziY (h:∀ (a0:gasolierref06_Raw) (a1:(List Int)) (a2:(Arr4 Int)),zcb a0→(fun l:(List Int)=>l.length * 8≤140737488351232∧∀ x∈l,inI x) a1→zdv a2→∃ fuel,zaZ fuel a0 a1 a2=some true):Rows.MantleLookedSaid:=
 OpenClaim.holds_of_wide 4 Tryz.f4 rfl rfl rfl rfl rfl rfl rfl ⟨rfl,rfl,rfl,rfl,rfl⟩ rfl rfl rfl rfl rfl (by kernel_rfl) Tryz.func4 (by kernel_rfl)
  (of_decide_eq_true (by kernel_rfl)) (by unfold Func.isWrapper;rw [if_neg (by decide +kernel)];exact ⟨rfl,rfl⟩)
  (fun os started H enc _=>zgW h os started H enc)
end Go.Sp
