/- Printed by opn.py: what the arguments of the laws read as; each law's statement out of its Lean definition. -/
import Derived.Test.YtakjeajlmlmkeaaGreatFr5
import Derived.Test.YtakjeajlmlmkeaaGreatCtr3
import Derived.Test.YtakjeajlmlmkeaaGreatRows
import Derived.JoinedOf
set_option linter.all false
set_option maxRecDepth 100000
set_option linter.unusedVariables false
namespace Go.Sp
open Go Go.Av Go.Proofs Go.Proofs.YtakjeajlmlmkeaaGreat
theorem zpT:ownKnob Tryz.prog.godebug=none:=by kernel_rfl
theorem zo8:Kids Tryz.prog (· < Tryz.prog.types.size):=kids_rows (by kernel_rfl) (by kernel_rfl)
theorem zo9:∀ t e,t<Tryz.prog.types.size→Tryz.prog.underlying t=some (.slice e)→0<Tryz.prog.cellsOf e:=slices_full_of Tryz.prog (by kernel_rfl)
def zkf (x:Range):Prop:=inI x.Lo∧inI x.Hi
abbrev zpM (x:Range):List AV:=[.int .i64 (x.Lo),.int .i64 (x.Hi)]
theorem o_29:Opn Tryz.prog 29 2 zpM zkf:=
 Opn.struct Tryz.underlying29 (by kernel_rfl) (show OpnF Tryz.prog [(0,3),(1,3)] 0 2 _ _ from .cons (Opn.int Tryz.underlying3 (by kernel_rfl)) (.cons (Opn.int Tryz.underlying3 (by kernel_rfl)) (.nil))) (fun x=>(⟨x.1,x.2.1⟩:Range)) (fun _=>rfl) (fun _=>rfl) (fun x h=>⟨h.1,h.2.1⟩)
def zkg (x:Batch):Prop:=inI x.Id∧zkf x.Life
abbrev zm3 (x:Batch):List AV:=[.int .i64 (x.Id),.int .i64 (x.Life.Lo),.int .i64 (x.Life.Hi)]
theorem o_31:Opn Tryz.prog 31 3 zm3 zkg:=
 Opn.struct Tryz.underlying31 (by kernel_rfl) (show OpnF Tryz.prog [(0,3),(1,29)] 0 3 _ _ from .cons (Opn.int Tryz.underlying3 (by kernel_rfl)) (.cons o_29 (.nil))) (fun x=>(⟨x.1,x.2.1⟩:Batch)) (fun _=>rfl) (fun _=>rfl) (fun x h=>⟨h.1,h.2.1⟩)
def ziN (x:Mantle):Prop:=inI x.Source∧inI x.Lamp∧inI x.Batch∧inI x.Night∧inI x.Known∧inI x.Until
abbrev zlz (x:Mantle):List AV:=[.int .i64 (x.Source),.int .i64 (x.Lamp),.int .i64 (x.Batch),.int .i64 (x.Night),.int .i64 (x.Known),.int .i64 (x.Until)]
theorem o_33:Opn Tryz.prog 33 6 zlz ziN:=
 Opn.struct Tryz.underlying33 (by kernel_rfl) (show OpnF Tryz.prog [(0,3),(1,3),(2,3),(3,3),(4,3),(5,3)] 0 6 _ _ from .cons (Opn.int Tryz.underlying3 (by kernel_rfl)) (.cons (Opn.int Tryz.underlying3 (by kernel_rfl)) (.cons (Opn.int Tryz.underlying3 (by kernel_rfl)) (.cons (Opn.int Tryz.underlying3 (by kernel_rfl)) (.cons (Opn.int Tryz.underlying3 (by kernel_rfl)) (.cons (Opn.int Tryz.underlying3 (by kernel_rfl)) (.nil))))))) (fun x=>(⟨x.1,x.2.1,x.2.2.1,x.2.2.2.1,x.2.2.2.2.1,x.2.2.2.2.2.1⟩:Mantle)) (fun _=>rfl) (fun _=>rfl) (fun x h=>⟨h.1,h.2.1,h.2.2.1,h.2.2.2.1,h.2.2.2.2.1,h.2.2.2.2.2.1⟩)
def zlZ (x:Burn):Prop:=inI x.Source∧inI x.Lamp∧inI x.Night∧zkf x.Minutes∧inI x.Known∧inI x.Until
abbrev zoQ (x:Burn):List AV:=[.int .i64 (x.Source),.int .i64 (x.Lamp),.int .i64 (x.Night),.int .i64 (x.Minutes.Lo),.int .i64 (x.Minutes.Hi),.int .i64 (x.Known),.int .i64 (x.Until)]
theorem o_35:Opn Tryz.prog 35 7 zoQ zlZ:=
 Opn.struct Tryz.underlying35 (by kernel_rfl) (show OpnF Tryz.prog [(0,3),(1,3),(2,3),(3,29),(5,3),(6,3)] 0 7 _ _ from .cons (Opn.int Tryz.underlying3 (by kernel_rfl)) (.cons (Opn.int Tryz.underlying3 (by kernel_rfl)) (.cons (Opn.int Tryz.underlying3 (by kernel_rfl)) (.cons o_29 (.cons (Opn.int Tryz.underlying3 (by kernel_rfl)) (.cons (Opn.int Tryz.underlying3 (by kernel_rfl)) (.nil))))))) (fun x=>(⟨x.1,x.2.1,x.2.2.1,x.2.2.2.1,x.2.2.2.2.1,x.2.2.2.2.2.1⟩:Burn)) (fun _=>rfl) (fun _=>rfl) (fun x h=>⟨h.1,h.2.1,h.2.2.1,h.2.2.2.1,h.2.2.2.2.1,h.2.2.2.2.2.1⟩)
def zlY (x:Look):Prop:=inI x.Source∧inI x.Lamp∧inI x.Night∧(fun _:Bool=>True) x.Bad∧inI x.Known∧inI x.Until
abbrev zoP (x:Look):List AV:=[.int .i64 (x.Source),.int .i64 (x.Lamp),.int .i64 (x.Night),.bool (x.Bad),.int .i64 (x.Known),.int .i64 (x.Until)]
theorem o_37:Opn Tryz.prog 37 6 zoP zlY:=
 Opn.struct Tryz.underlying37 (by kernel_rfl) (show OpnF Tryz.prog [(0,3),(1,3),(2,3),(3,4),(4,3),(5,3)] 0 6 _ _ from .cons (Opn.int Tryz.underlying3 (by kernel_rfl)) (.cons (Opn.int Tryz.underlying3 (by kernel_rfl)) (.cons (Opn.int Tryz.underlying3 (by kernel_rfl)) (.cons (Opn.bool Tryz.underlying4 (by kernel_rfl)) (.cons (Opn.int Tryz.underlying3 (by kernel_rfl)) (.cons (Opn.int Tryz.underlying3 (by kernel_rfl)) (.nil))))))) (fun x=>(⟨x.1,x.2.1,x.2.2.1,x.2.2.2.1,x.2.2.2.2.1,x.2.2.2.2.2.1⟩:Look)) (fun _=>rfl) (fun _=>rfl) (fun x h=>⟨h.1,h.2.1,h.2.2.1,h.2.2.2.1,h.2.2.2.2.1,h.2.2.2.2.2.1⟩)
def zke (x:Wear):Prop:=(fun l:(List Batch)=>l.length * 24≤140737488351232∧∀ x∈l,zkg x) x.Batches∧(fun l:(List Mantle)=>l.length * 48≤140737488351232∧∀ x∈l,ziN x) x.Mantles∧(fun l:(List Burn)=>l.length * 56≤140737488351232∧∀ x∈l,zlZ x) x.Burns∧(fun l:(List Look)=>l.length * 48≤140737488351232∧∀ x∈l,zlY x) x.Looks
abbrev zoO (x:Wear):List AV:=[roL 3 zac x.Batches,roL 6 zaa x.Mantles,roL 7 zaf x.Burns,roL 6 zab x.Looks]
theorem o_27:Opn Tryz.prog 27 4 zoO zke:=
 Opn.struct Tryz.underlying27 (by kernel_rfl) (show OpnF Tryz.prog [(0,22),(1,23),(2,24),(3,25)] 0 4 _ _ from .cons (Opn.slice (k:=24) Tryz.underlying22 (by kernel_rfl) (show Opn Tryz.prog 31 3 zm3 zkg from o_31) (by decide) (by decide +kernel)) (.cons (Opn.slice (k:=48) Tryz.underlying23 (by kernel_rfl) (show Opn Tryz.prog 33 6 zlz ziN from o_33) (by decide) (by decide +kernel)) (.cons (Opn.slice (k:=56) Tryz.underlying24 (by kernel_rfl) (show Opn Tryz.prog 35 7 zoQ zlZ from o_35) (by decide) (by decide +kernel)) (.cons (Opn.slice (k:=48) Tryz.underlying25 (by kernel_rfl) (show Opn Tryz.prog 37 6 zoP zlY from o_37) (by decide) (by decide +kernel)) (.nil))))) (fun x=>(⟨x.1,x.2.1,x.2.2.1,x.2.2.2.1⟩:Wear)) (fun _=>rfl) (fun _=>rfl) (fun x h=>⟨h.1,h.2.1,h.2.2.1,h.2.2.2.1⟩)
def zce (x:gasolierref06_When):Prop:=inI x.Lamp∧inI x.Night∧inI x.Known
abbrev zd2 (x:gasolierref06_When):List AV:=[.int .i64 (x.Lamp),.int .i64 (x.Night),.int .i64 (x.Known)]
theorem o_74:Opn Tryz.prog 74 3 zd2 zce:=
 Opn.struct Tryz.underlying74 (by kernel_rfl) (show OpnF Tryz.prog [(0,3),(1,3),(2,3)] 0 3 _ _ from .cons (Opn.int Tryz.underlying3 (by kernel_rfl)) (.cons (Opn.int Tryz.underlying3 (by kernel_rfl)) (.cons (Opn.int Tryz.underlying3 (by kernel_rfl)) (.nil)))) (fun x=>(⟨x.1,x.2.1,x.2.2.1⟩:gasolierref06_When)) (fun _=>rfl) (fun _=>rfl) (fun x h=>⟨h.1,h.2.1,h.2.2.1⟩)
theorem args_5:OpnA Tryz.prog [27,74] (fun x:Wear×gasolierref06_When×Unit=>[.agg (zoO x.1),.agg (zd2 x.2.1)]) (fun x=>zke x.1∧zce x.2.1∧True):=
 .cons (.struct Tryz.underlying27 o_27) (.cons (.struct Tryz.underlying74 o_74) (.nil))
theorem zhI (h:∀ (a0:Wear) (a1:gasolierref06_When),zke a0→zce a1→∃ fuel,za0 fuel a0 a1=some true) (os:Os) (started:os.Started) (H:Type) (enc:TypeId×Value→H) :
 ReturnsInHanded {} Tryz.checked os 5 .any (Rows.mantleAgesSpec.pre6 enc Tryz.prog Tryz.f5 Rows.mantleAgesRow.domain Rows.mantleAgesRow.apart) (Rows.mantleAgesSpec.post enc Tryz.prog Tryz.f5 Rows.mantleAgesRow.apart Rows.mantleAgesRow.fresh Rows.mantleAgesRow.handsOn Rows.mantleAgesRow.again):=by
 refine returnsInHanded_of_change_sized (C:=Tryz.checked) zpT started (by kernel_rfl) Tryz.func5
  (ChangeSpec.witness6 (enc:=enc) (C:=Tryz.checked) false ⟨#[],#[.agg #[.slice none 0 0,.slice none 0 0,.slice none 0 0,.slice none 0 0],.agg #[.int .i64 0,.int .i64 0,.int .i64 0]],[]⟩ 12 (by kernel_rfl) (by kernel_rfl) (by kernel_rfl) (by kernel_rfl)) ?_
 intro W base args ds gs before hval hW _ hbig _
 have hp:Tryz.f5.params.toList=[27,74]:=by rw [Tryz.params5]
 refine zoo (P:=Tryz.prog) (fn:=Tryz.f5) zo8 zo9 (by rw [hp];kernel_rfl) (hp▸args_5) rfl ?_ (by kernel_rfl) Tryz.underlying4 ?_ H enc W base args ds gs before hval hW hbig
 · intro H ds hl
   rw [hp] at hl
   match ds,hl with
   | [_,_],_=>rfl
 · rintro ⟨a0,a1,_⟩ ⟨h0,h1,_⟩
   obtain ⟨fuel,hf⟩:=h a0 a1 h0 h1
   exact zeE fuel a0 a1 hf
theorem zkj (h:∀ (a0:Wear) (a1:gasolierref06_When),zke a0→zce a1→∃ fuel,za0 fuel a0 a1=some true):Rows.MantleAgesSaid:=
 OpenClaim.holds_of_wide 5 Tryz.f5 rfl rfl rfl rfl rfl rfl rfl ⟨rfl,rfl,rfl,rfl,rfl⟩ rfl rfl rfl rfl rfl (by kernel_rfl) Tryz.func5 (by kernel_rfl)
  (of_decide_eq_true (by kernel_rfl)) (by unfold Func.isWrapper;rw [if_neg (by decide +kernel)];exact ⟨rfl,rfl⟩)
  (fun os started H enc _=>zhI h os started H enc)
end Go.Sp
