/- Printed by opn.py: what the arguments of the laws read as; each law's statement out of its Lean definition. -/
import Derived.Test.YtakjeajlmlmkeaaGreatFr5
import Derived.Test.YtakjeajlmlmkeaaGreatCtr2
import Derived.Test.YtakjeajlmlmkeaaGreatRows
import Derived.JoinedOf
set_option linter.all false
set_option maxRecDepth 100000
set_option linter.unusedVariables false
namespace Go.Sp
open Go Go.Av Go.Proofs Go.Proofs.YtakjeajlmlmkeaaGreat
theorem zpG:ownKnob Tryz.prog.godebug=none:=by kernel_rfl
theorem zoW:Kids Tryz.prog (· < Tryz.prog.types.size):=kids_rows (by kernel_rfl) (by kernel_rfl)
theorem zoX:∀ t e,t<Tryz.prog.types.size→Tryz.prog.underlying t=some (.slice e)→0<Tryz.prog.cellsOf e:=slices_full_of Tryz.prog (by kernel_rfl)
def zhy (x:(Arr2 Int)):Prop:=inI x.x0∧inI x.x1
abbrev zjN (x:(Arr2 Int)):List AV:=[.int .i64 (x.x0),.int .i64 (x.x1)]
theorem o_81:Opn Tryz.prog 81 2 zjN zhy:=
 Opn.array (n:=2) (s:=1) (sz:=2) Tryz.underlying81 (by kernel_rfl) (by kernel_rfl) (show OpnF Tryz.prog [(0,3),(1,3)] 0 2 _ _ from .cons (Opn.int Tryz.underlying3 (by kernel_rfl)) (.cons (Opn.int Tryz.underlying3 (by kernel_rfl)) (.nil))) (fun x=>(⟨x.1,x.2.1⟩:(Arr2 Int))) (fun _=>rfl) (fun _=>rfl) (fun x h=>⟨h.1,h.2.1⟩)
def zeU (x:(Arr4 Int)):Prop:=inI x.x0∧inI x.x1∧inI x.x2∧inI x.x3
abbrev zhI (x:(Arr4 Int)):List AV:=[.int .i64 (x.x0),.int .i64 (x.x1),.int .i64 (x.x2),.int .i64 (x.x3)]
theorem o_57:Opn Tryz.prog 57 4 zhI zeU:=
 Opn.array (n:=4) (s:=1) (sz:=4) Tryz.underlying57 (by kernel_rfl) (by kernel_rfl) (show OpnF Tryz.prog [(0,3),(1,3),(2,3),(3,3)] 0 4 _ _ from .cons (Opn.int Tryz.underlying3 (by kernel_rfl)) (.cons (Opn.int Tryz.underlying3 (by kernel_rfl)) (.cons (Opn.int Tryz.underlying3 (by kernel_rfl)) (.cons (Opn.int Tryz.underlying3 (by kernel_rfl)) (.nil))))) (fun x=>(⟨x.1,x.2.1,x.2.2.1,x.2.2.2.1⟩:(Arr4 Int))) (fun _=>rfl) (fun _=>rfl) (fun x h=>⟨h.1,h.2.1,h.2.2.1,h.2.2.2.1⟩)
def zhx (x:(Arr5 Int)):Prop:=inI x.x0∧inI x.x1∧inI x.x2∧inI x.x3∧inI x.x4
abbrev zjL (x:(Arr5 Int)):List AV:=[.int .i64 (x.x0),.int .i64 (x.x1),.int .i64 (x.x2),.int .i64 (x.x3),.int .i64 (x.x4)]
theorem o_131:Opn Tryz.prog 131 5 zjL zhx:=
 Opn.array (n:=5) (s:=1) (sz:=5) Tryz.underlying131 (by kernel_rfl) (by kernel_rfl) (show OpnF Tryz.prog [(0,3),(1,3),(2,3),(3,3),(4,3)] 0 5 _ _ from .cons (Opn.int Tryz.underlying3 (by kernel_rfl)) (.cons (Opn.int Tryz.underlying3 (by kernel_rfl)) (.cons (Opn.int Tryz.underlying3 (by kernel_rfl)) (.cons (Opn.int Tryz.underlying3 (by kernel_rfl)) (.cons (Opn.int Tryz.underlying3 (by kernel_rfl)) (.nil)))))) (fun x=>(⟨x.1,x.2.1,x.2.2.1,x.2.2.2.1,x.2.2.2.2.1⟩:(Arr5 Int))) (fun _=>rfl) (fun _=>rfl) (fun x h=>⟨h.1,h.2.1,h.2.2.1,h.2.2.2.1,h.2.2.2.2.1⟩)
def zcg (x:gasolierref06_Raw):Prop:=(fun l:(List (Arr2 Int))=>l.length * 16≤140737488351232∧∀ x∈l,zhy x) x.Batches∧(fun l:(List (Arr4 Int))=>l.length * 32≤140737488351232∧∀ x∈l,zeU x) x.Mantles∧(fun l:(List (Arr5 Int))=>l.length * 40≤140737488351232∧∀ x∈l,zhx x) x.Burns∧(fun l:(List (Arr4 Int))=>l.length * 32≤140737488351232∧∀ x∈l,zeU x) x.Looks
abbrev zec (x:gasolierref06_Raw):List AV:=[roL 2 zcT x.Batches,roL 4 za7 x.Mantles,roL 5 zcS x.Burns,roL 4 za7 x.Looks]
theorem o_55:Opn Tryz.prog 55 4 zec zcg:=
 Opn.struct Tryz.underlying55 (by kernel_rfl) (show OpnF Tryz.prog [(0,51),(1,52),(2,53),(3,52)] 0 4 _ _ from .cons (Opn.slice (k:=16) Tryz.underlying51 (by kernel_rfl) (show Opn Tryz.prog 81 2 zjN zhy from o_81) (by decide) (by decide +kernel)) (.cons (Opn.slice (k:=32) Tryz.underlying52 (by kernel_rfl) (show Opn Tryz.prog 57 4 zhI zeU from o_57) (by decide) (by decide +kernel)) (.cons (Opn.slice (k:=40) Tryz.underlying53 (by kernel_rfl) (show Opn Tryz.prog 131 5 zjL zhx from o_131) (by decide) (by decide +kernel)) (.cons (Opn.slice (k:=32) Tryz.underlying52 (by kernel_rfl) (show Opn Tryz.prog 57 4 zhI zeU from o_57) (by decide) (by decide +kernel)) (.nil))))) (fun x=>(⟨x.1,x.2.1,x.2.2.1,x.2.2.2.1⟩:gasolierref06_Raw)) (fun _=>rfl) (fun _=>rfl) (fun x h=>⟨h.1,h.2.1,h.2.2.1,h.2.2.2.1⟩)
def zgi (x:(Arr3 Int)):Prop:=inI x.x0∧inI x.x1∧inI x.x2
abbrev zjM (x:(Arr3 Int)):List AV:=[.int .i64 (x.x0),.int .i64 (x.x1),.int .i64 (x.x2)]
theorem o_79:Opn Tryz.prog 79 3 zjM zgi:=
 Opn.array (n:=3) (s:=1) (sz:=3) Tryz.underlying79 (by kernel_rfl) (by kernel_rfl) (show OpnF Tryz.prog [(0,3),(1,3),(2,3)] 0 3 _ _ from .cons (Opn.int Tryz.underlying3 (by kernel_rfl)) (.cons (Opn.int Tryz.underlying3 (by kernel_rfl)) (.cons (Opn.int Tryz.underlying3 (by kernel_rfl)) (.nil)))) (fun x=>(⟨x.1,x.2.1,x.2.2.1⟩:(Arr3 Int))) (fun _=>rfl) (fun _=>rfl) (fun x h=>⟨h.1,h.2.1,h.2.2.1⟩)
theorem zqg:OpnA Tryz.prog [55,79] (fun x:gasolierref06_Raw×(Arr3 Int)×Unit=>[.agg (zec x.1),.agg (zjM x.2.1)]) (fun x=>zcg x.1∧zgi x.2.1∧True):=
 .cons (.struct Tryz.underlying55 o_55) (.cons (.array Tryz.underlying79 o_79) (.nil))
theorem zhb (h:∀ (a0:gasolierref06_Raw) (a1:(Arr3 Int)),zcg a0→zgi a1→∃ fuel,zaZ fuel a0 a1=some true) (os:Os) (started:os.Started) (H:Type) (enc:TypeId×Value→H) :
 ReturnsInHanded {} Tryz.checked os 10 .any (Rows.mantleKnownSpec.pre6 enc Tryz.prog Tryz.f10 Rows.mantleKnownRow.domain Rows.mantleKnownRow.apart) (Rows.mantleKnownSpec.post enc Tryz.prog Tryz.f10 Rows.mantleKnownRow.apart Rows.mantleKnownRow.fresh Rows.mantleKnownRow.handsOn Rows.mantleKnownRow.again):=by
 refine returnsInHanded_of_change_sized (C:=Tryz.checked) zpG started (by kernel_rfl) Tryz.func10
  (ChangeSpec.witness6 (enc:=enc) (C:=Tryz.checked) false ⟨#[],#[.agg #[.slice none 0 0,.slice none 0 0,.slice none 0 0,.slice none 0 0],.agg #[.int .i64 0,.int .i64 0,.int .i64 0]],[]⟩ 12 (by kernel_rfl) (by kernel_rfl) (by kernel_rfl) (by kernel_rfl)) ?_
 intro W base args ds gs before hval hW _ hbig _
 have hp:Tryz.f10.params.toList=[55,79]:=by rw [Tryz.params10]
 refine zod (P:=Tryz.prog) (fn:=Tryz.f10) zoW zoX (by rw [hp];kernel_rfl) (hp▸zqg) rfl ?_ (by kernel_rfl) Tryz.underlying4 ?_ H enc W base args ds gs before hval hW hbig
 · intro H ds hl
   rw [hp] at hl
   match ds,hl with
   | [_,_],_=>rfl
 · rintro ⟨a0,a1,_⟩ ⟨h0,h1,_⟩
   obtain ⟨fuel,hf⟩:=h a0 a1 h0 h1
   exact zey fuel a0 a1 hf
theorem zjn (h:∀ (a0:gasolierref06_Raw) (a1:(Arr3 Int)),zcg a0→zgi a1→∃ fuel,zaZ fuel a0 a1=some true):Rows.MantleKnownSaid:=
 OpenClaim.holds_of_wide 10 Tryz.f10 rfl rfl rfl rfl rfl rfl rfl ⟨rfl,rfl,rfl,rfl,rfl⟩ rfl rfl rfl rfl rfl (by kernel_rfl) Tryz.func10 (by kernel_rfl)
  (of_decide_eq_true (by kernel_rfl)) (by unfold Func.isWrapper;rw [if_neg (by decide +kernel)];exact ⟨rfl,rfl⟩)
  (fun os started H enc _=>zhb h os started H enc)
end Go.Sp
