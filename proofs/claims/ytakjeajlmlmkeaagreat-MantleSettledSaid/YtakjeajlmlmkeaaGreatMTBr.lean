/- Printed by opn.py: what the arguments of the laws read as; each law's statement out of its Lean definition. -/
import Derived.Test.YtakjeajlmlmkeaaGreatFr4
import Derived.Test.YtakjeajlmlmkeaaGreatCtr2
import Derived.Test.YtakjeajlmlmkeaaGreatRows
import Derived.JoinedOf
set_option linter.all false
set_option maxRecDepth 100000
set_option linter.unusedVariables false
namespace Go.Sp
open Go Go.Av Go.Proofs Go.Proofs.YtakjeajlmlmkeaaGreat
theorem zqA:ownKnob Tryz.prog.godebug=none:=by kernel_rfl
theorem zpF:Kids Tryz.prog (· < Tryz.prog.types.size):=kids_rows (by kernel_rfl) (by kernel_rfl)
theorem zpG:∀ t e,t<Tryz.prog.types.size→Tryz.prog.underlying t=some (.slice e)→0<Tryz.prog.cellsOf e:=slices_full_of Tryz.prog (by kernel_rfl)
def zh5 (x:(Arr2 Int)):Prop:=inI x.x0∧inI x.x1
abbrev zkb (x:(Arr2 Int)):List AV:=[.int .i64 (x.x0),.int .i64 (x.x1)]
theorem o_81:Opn Tryz.prog 81 2 zkb zh5:=
 Opn.array (n:=2) (s:=1) (sz:=2) Tryz.underlying81 (by kernel_rfl) (by kernel_rfl) (show OpnF Tryz.prog [(0,3),(1,3)] 0 2 _ _ from .cons (Opn.int Tryz.underlying3 (by kernel_rfl)) (.cons (Opn.int Tryz.underlying3 (by kernel_rfl)) (.nil))) (fun x=>(⟨x.1,x.2.1⟩:(Arr2 Int))) (fun _=>rfl) (fun _=>rfl) (fun x h=>⟨h.1,h.2.1⟩)
def zdE (x:(Arr4 Int)):Prop:=inI x.x0∧inI x.x1∧inI x.x2∧inI x.x3
abbrev zgJ (x:(Arr4 Int)):List AV:=[.int .i64 (x.x0),.int .i64 (x.x1),.int .i64 (x.x2),.int .i64 (x.x3)]
theorem o_57:Opn Tryz.prog 57 4 zgJ zdE:=
 Opn.array (n:=4) (s:=1) (sz:=4) Tryz.underlying57 (by kernel_rfl) (by kernel_rfl) (show OpnF Tryz.prog [(0,3),(1,3),(2,3),(3,3)] 0 4 _ _ from .cons (Opn.int Tryz.underlying3 (by kernel_rfl)) (.cons (Opn.int Tryz.underlying3 (by kernel_rfl)) (.cons (Opn.int Tryz.underlying3 (by kernel_rfl)) (.cons (Opn.int Tryz.underlying3 (by kernel_rfl)) (.nil))))) (fun x=>(⟨x.1,x.2.1,x.2.2.1,x.2.2.2.1⟩:(Arr4 Int))) (fun _=>rfl) (fun _=>rfl) (fun x h=>⟨h.1,h.2.1,h.2.2.1,h.2.2.2.1⟩)
def zh4 (x:(Arr5 Int)):Prop:=inI x.x0∧inI x.x1∧inI x.x2∧inI x.x3∧inI x.x4
abbrev zka (x:(Arr5 Int)):List AV:=[.int .i64 (x.x0),.int .i64 (x.x1),.int .i64 (x.x2),.int .i64 (x.x3),.int .i64 (x.x4)]
theorem o_131:Opn Tryz.prog 131 5 zka zh4:=
 Opn.array (n:=5) (s:=1) (sz:=5) Tryz.underlying131 (by kernel_rfl) (by kernel_rfl) (show OpnF Tryz.prog [(0,3),(1,3),(2,3),(3,3),(4,3)] 0 5 _ _ from .cons (Opn.int Tryz.underlying3 (by kernel_rfl)) (.cons (Opn.int Tryz.underlying3 (by kernel_rfl)) (.cons (Opn.int Tryz.underlying3 (by kernel_rfl)) (.cons (Opn.int Tryz.underlying3 (by kernel_rfl)) (.cons (Opn.int Tryz.underlying3 (by kernel_rfl)) (.nil)))))) (fun x=>(⟨x.1,x.2.1,x.2.2.1,x.2.2.2.1,x.2.2.2.2.1⟩:(Arr5 Int))) (fun _=>rfl) (fun _=>rfl) (fun x h=>⟨h.1,h.2.1,h.2.2.1,h.2.2.2.1,h.2.2.2.2.1⟩)
def zck (x:gasolierref06_Raw):Prop:=(fun l:(List (Arr2 Int))=>l.length * 16≤140737488351232∧∀ x∈l,zh5 x) x.Batches∧(fun l:(List (Arr4 Int))=>l.length * 32≤140737488351232∧∀ x∈l,zdE x) x.Mantles∧(fun l:(List (Arr5 Int))=>l.length * 40≤140737488351232∧∀ x∈l,zh4 x) x.Burns∧(fun l:(List (Arr4 Int))=>l.length * 32≤140737488351232∧∀ x∈l,zdE x) x.Looks
abbrev zew (x:gasolierref06_Raw):List AV:=[roL 2 zcD x.Batches,roL 4 za0 x.Mantles,roL 5 zcC x.Burns,roL 4 za0 x.Looks]
theorem o_55:Opn Tryz.prog 55 4 zew zck:=
 Opn.struct Tryz.underlying55 (by kernel_rfl) (show OpnF Tryz.prog [(0,51),(1,52),(2,53),(3,52)] 0 4 _ _ from .cons (Opn.slice (k:=16) Tryz.underlying51 (by kernel_rfl) (show Opn Tryz.prog 81 2 zkb zh5 from o_81) (by decide) (by decide +kernel)) (.cons (Opn.slice (k:=32) Tryz.underlying52 (by kernel_rfl) (show Opn Tryz.prog 57 4 zgJ zdE from o_57) (by decide) (by decide +kernel)) (.cons (Opn.slice (k:=40) Tryz.underlying53 (by kernel_rfl) (show Opn Tryz.prog 131 5 zka zh4 from o_131) (by decide) (by decide +kernel)) (.cons (Opn.slice (k:=32) Tryz.underlying52 (by kernel_rfl) (show Opn Tryz.prog 57 4 zgJ zdE from o_57) (by decide) (by decide +kernel)) (.nil))))) (fun x=>(⟨x.1,x.2.1,x.2.2.1,x.2.2.2.1⟩:gasolierref06_Raw)) (fun _=>rfl) (fun _=>rfl) (fun x h=>⟨h.1,h.2.1,h.2.2.1,h.2.2.2.1⟩)
theorem zrj:OpnA Tryz.prog [55,56,57] (fun x:gasolierref06_Raw×(List Int)×(Arr4 Int)×Unit=>[.agg (zew x.1),roL 1 zab x.2.1,.agg (zgJ x.2.2.1)]) (fun x=>zck x.1∧(fun l:(List Int)=>l.length * 8≤140737488351232∧∀ x∈l,inI x) x.2.1∧zdE x.2.2.1∧True):=
 .cons (.struct Tryz.underlying55 o_55) (.cons (.slice (k:=8) Tryz.underlying56 (by kernel_rfl) (show Opn Tryz.prog 3 1 zab inI from (Opn.int Tryz.underlying3 (by kernel_rfl))) (by decide) (by decide +kernel)) (.cons (.array Tryz.underlying57 o_57) (.nil)))
theorem zgR (h:∀ (a0:gasolierref06_Raw) (a1:(List Int)) (a2:(Arr4 Int)),zck a0→(fun l:(List Int)=>l.length * 8≤140737488351232∧∀ x∈l,inI x) a1→zdE a2→∃ fuel,zbr fuel a0 a1 a2=some true) (os:Os) (started:os.Started) (H:Type) (enc:TypeId×Value→H) :
 ReturnsInHanded {} Tryz.checked os 11 .any (Rows.mantleSettledSpec.pre6 enc Tryz.prog Tryz.f11 Rows.mantleSettledRow.domain Rows.mantleSettledRow.apart) (Rows.mantleSettledSpec.post enc Tryz.prog Tryz.f11 Rows.mantleSettledRow.apart Rows.mantleSettledRow.fresh Rows.mantleSettledRow.handsOn Rows.mantleSettledRow.again):=by
 refine returnsInHanded_of_change_sized (C:=Tryz.checked) zqA started (by kernel_rfl) Tryz.func11
  (ChangeSpec.witness6 (enc:=enc) (C:=Tryz.checked) false ⟨#[],#[.agg #[.slice none 0 0,.slice none 0 0,.slice none 0 0,.slice none 0 0],.slice none 0 0,.agg #[.int .i64 0,.int .i64 0,.int .i64 0,.int .i64 0]],[]⟩ 12 (by kernel_rfl) (by kernel_rfl) (by kernel_rfl) (by kernel_rfl)) ?_
 intro W base args ds gs before hval hW _ hbig _
 have hp:Tryz.f11.params.toList=[55,56,57]:=by rw [Tryz.params11]
 refine zoW (P:=Tryz.prog) (fn:=Tryz.f11) zpF zpG (by rw [hp];kernel_rfl) (hp▸zrj) rfl ?_ (by kernel_rfl) Tryz.underlying4 ?_ H enc W base args ds gs before hval hW hbig
 · intro H ds hl
   rw [hp] at hl
   match ds,hl with
   | [_,_,_],_=>rfl
 · rintro ⟨a0,a1,a2,_⟩ ⟨h0,h1,h2,_⟩
   obtain ⟨fuel,hf⟩:=h a0 a1 a2 h0 h1 h2
   exact zet fuel a0 a1 a2 hf
theorem ziC (h:∀ (a0:gasolierref06_Raw) (a1:(List Int)) (a2:(Arr4 Int)),zck a0→(fun l:(List Int)=>l.length * 8≤140737488351232∧∀ x∈l,inI x) a1→zdE a2→∃ fuel,zbr fuel a0 a1 a2=some true):Rows.MantleSettledSaid:=
 OpenClaim.holds_of_wide 11 Tryz.f11 rfl rfl rfl rfl rfl rfl rfl ⟨rfl,rfl,rfl,rfl,rfl⟩ rfl rfl rfl rfl rfl (by kernel_rfl) Tryz.func11 (by kernel_rfl)
  (of_decide_eq_true (by kernel_rfl)) (by unfold Func.isWrapper;rw [if_neg (by decide +kernel)];exact ⟨rfl,rfl⟩)
  (fun os started H enc _=>zgR h os started H enc)
end Go.Sp
