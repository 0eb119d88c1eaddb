/- Printed by opn.py: what the arguments of the laws read as; each law's statement out of its Lean definition. -/
import Derived.Test.YtakjeajlmlmkeaaGreatFr4
import Derived.Test.YtakjeajlmlmkeaaGreatCtr2
import Derived.Test.YtakjeajlmlmkeaaGreatRows
import Derived.JoinedOf
set_option linter.all false
set_option maxRecDepth 100000
set_option linter.unusedVariables false
namespace Go.Sp
open Go Go.Av Go.Proofs Go.Proofs.YtakjeajlmlmkeaaGreat
theorem zqk:ownKnob Tryz.prog.godebug=none:=by kernel_rfl
theorem zpu:Kids Tryz.prog (· < Tryz.prog.types.size):=kids_rows (by kernel_rfl) (by kernel_rfl)
theorem zpv:∀ t e,t<Tryz.prog.types.size→Tryz.prog.underlying t=some (.slice e)→0<Tryz.prog.cellsOf e:=slices_full_of Tryz.prog (by kernel_rfl)
def zkD (x:Range):Prop:=inI x.Lo∧inI x.Hi
abbrev zqc (x:Range):List AV:=[.int .i64 (x.Lo),.int .i64 (x.Hi)]
theorem o_29:Opn Tryz.prog 29 2 zqc zkD:=
 Opn.struct Tryz.underlying29 (by kernel_rfl) (show OpnF Tryz.prog [(0,3),(1,3)] 0 2 _ _ from .cons (Opn.int Tryz.underlying3 (by kernel_rfl)) (.cons (Opn.int Tryz.underlying3 (by kernel_rfl)) (.nil))) (fun x=>(⟨x.1,x.2.1⟩:Range)) (fun _=>rfl) (fun _=>rfl) (fun x h=>⟨h.1,h.2.1⟩)
def zkE (x:Batch):Prop:=inI x.Id∧zkD x.Life
abbrev znp (x:Batch):List AV:=[.int .i64 (x.Id),.int .i64 (x.Life.Lo),.int .i64 (x.Life.Hi)]
theorem o_31:Opn Tryz.prog 31 3 znp zkE:=
 Opn.struct Tryz.underlying31 (by kernel_rfl) (show OpnF Tryz.prog [(0,3),(1,29)] 0 3 _ _ from .cons (Opn.int Tryz.underlying3 (by kernel_rfl)) (.cons o_29 (.nil))) (fun x=>(⟨x.1,x.2.1⟩:Batch)) (fun _=>rfl) (fun _=>rfl) (fun x h=>⟨h.1,h.2.1⟩)
def zjh (x:Mantle):Prop:=inI x.Source∧inI x.Lamp∧inI x.Batch∧inI x.Night∧inI x.Known∧inI x.Until
abbrev zlT (x:Mantle):List AV:=[.int .i64 (x.Source),.int .i64 (x.Lamp),.int .i64 (x.Batch),.int .i64 (x.Night),.int .i64 (x.Known),.int .i64 (x.Until)]
theorem o_33:Opn Tryz.prog 33 6 zlT zjh:=
 Opn.struct Tryz.underlying33 (by kernel_rfl) (show OpnF Tryz.prog [(0,3),(1,3),(2,3),(3,3),(4,3),(5,3)] 0 6 _ _ from .cons (Opn.int Tryz.underlying3 (by kernel_rfl)) (.cons (Opn.int Tryz.underlying3 (by kernel_rfl)) (.cons (Opn.int Tryz.underlying3 (by kernel_rfl)) (.cons (Opn.int Tryz.underlying3 (by kernel_rfl)) (.cons (Opn.int Tryz.underlying3 (by kernel_rfl)) (.cons (Opn.int Tryz.underlying3 (by kernel_rfl)) (.nil))))))) (fun x=>(⟨x.1,x.2.1,x.2.2.1,x.2.2.2.1,x.2.2.2.2.1,x.2.2.2.2.2.1⟩:Mantle)) (fun _=>rfl) (fun _=>rfl) (fun x h=>⟨h.1,h.2.1,h.2.2.1,h.2.2.2.1,h.2.2.2.2.1,h.2.2.2.2.2.1⟩)
def zmm (x:Burn):Prop:=inI x.Source∧inI x.Lamp∧inI x.Night∧zkD x.Minutes∧inI x.Known∧inI x.Until
abbrev zpb (x:Burn):List AV:=[.int .i64 (x.Source),.int .i64 (x.Lamp),.int .i64 (x.Night),.int .i64 (x.Minutes.Lo),.int .i64 (x.Minutes.Hi),.int .i64 (x.Known),.int .i64 (x.Until)]
theorem o_35:Opn Tryz.prog 35 7 zpb zmm:=
 Opn.struct Tryz.underlying35 (by kernel_rfl) (show OpnF Tryz.prog [(0,3),(1,3),(2,3),(3,29),(5,3),(6,3)] 0 7 _ _ from .cons (Opn.int Tryz.underlying3 (by kernel_rfl)) (.cons (Opn.int Tryz.underlying3 (by kernel_rfl)) (.cons (Opn.int Tryz.underlying3 (by kernel_rfl)) (.cons o_29 (.cons (Opn.int Tryz.underlying3 (by kernel_rfl)) (.cons (Opn.int Tryz.underlying3 (by kernel_rfl)) (.nil))))))) (fun x=>(⟨x.1,x.2.1,x.2.2.1,x.2.2.2.1,x.2.2.2.2.1,x.2.2.2.2.2.1⟩:Burn)) (fun _=>rfl) (fun _=>rfl) (fun x h=>⟨h.1,h.2.1,h.2.2.1,h.2.2.2.1,h.2.2.2.2.1,h.2.2.2.2.2.1⟩)
def zml (x:Look):Prop:=inI x.Source∧inI x.Lamp∧inI x.Night∧(fun _:Bool=>True) x.Bad∧inI x.Known∧inI x.Until
abbrev zpa (x:Look):List AV:=[.int .i64 (x.Source),.int .i64 (x.Lamp),.int .i64 (x.Night),.bool (x.Bad),.int .i64 (x.Known),.int .i64 (x.Until)]
theorem o_37:Opn Tryz.prog 37 6 zpa zml:=
 Opn.struct Tryz.underlying37 (by kernel_rfl) (show OpnF Tryz.prog [(0,3),(1,3),(2,3),(3,4),(4,3),(5,3)] 0 6 _ _ from .cons (Opn.int Tryz.underlying3 (by kernel_rfl)) (.cons (Opn.int Tryz.underlying3 (by kernel_rfl)) (.cons (Opn.int Tryz.underlying3 (by kernel_rfl)) (.cons (Opn.bool Tryz.underlying4 (by kernel_rfl)) (.cons (Opn.int Tryz.underlying3 (by kernel_rfl)) (.cons (Opn.int Tryz.underlying3 (by kernel_rfl)) (.nil))))))) (fun x=>(⟨x.1,x.2.1,x.2.2.1,x.2.2.2.1,x.2.2.2.2.1,x.2.2.2.2.2.1⟩:Look)) (fun _=>rfl) (fun _=>rfl) (fun x h=>⟨h.1,h.2.1,h.2.2.1,h.2.2.2.1,h.2.2.2.2.1,h.2.2.2.2.2.1⟩)
def zkC (x:Wear):Prop:=(fun l:(List Batch)=>l.length * 24≤140737488351232∧∀ x∈l,zkE x) x.Batches∧(fun l:(List Mantle)=>l.length * 48≤140737488351232∧∀ x∈l,zjh x) x.Mantles∧(fun l:(List Burn)=>l.length * 56≤140737488351232∧∀ x∈l,zmm x) x.Burns∧(fun l:(List Look)=>l.length * 48≤140737488351232∧∀ x∈l,zml x) x.Looks
abbrev zo9 (x:Wear):List AV:=[roL 3 zaD x.Batches,roL 6 zan x.Mantles,roL 7 zax x.Burns,roL 6 zah x.Looks]
theorem o_27:Opn Tryz.prog 27 4 zo9 zkC:=
 Opn.struct Tryz.underlying27 (by kernel_rfl) (show OpnF Tryz.prog [(0,22),(1,23),(2,24),(3,25)] 0 4 _ _ from .cons (Opn.slice (k:=24) Tryz.underlying22 (by kernel_rfl) (show Opn Tryz.prog 31 3 znp zkE from o_31) (by decide) (by decide +kernel)) (.cons (Opn.slice (k:=48) Tryz.underlying23 (by kernel_rfl) (show Opn Tryz.prog 33 6 zlT zjh from o_33) (by decide) (by decide +kernel)) (.cons (Opn.slice (k:=56) Tryz.underlying24 (by kernel_rfl) (show Opn Tryz.prog 35 7 zpb zmm from o_35) (by decide) (by decide +kernel)) (.cons (Opn.slice (k:=48) Tryz.underlying25 (by kernel_rfl) (show Opn Tryz.prog 37 6 zpa zml from o_37) (by decide) (by decide +kernel)) (.nil))))) (fun x=>(⟨x.1,x.2.1,x.2.2.1,x.2.2.2.1⟩:Wear)) (fun _=>rfl) (fun _=>rfl) (fun x h=>⟨h.1,h.2.1,h.2.2.1,h.2.2.2.1⟩)
def zgP (x:(Arr2 Int)):Prop:=inI x.x0∧inI x.x1
abbrev zkj (x:(Arr2 Int)):List AV:=[.int .i64 (x.x0),.int .i64 (x.x1)]
theorem o_81:Opn Tryz.prog 81 2 zkj zgP:=
 Opn.array (n:=2) (s:=1) (sz:=2) Tryz.underlying81 (by kernel_rfl) (by kernel_rfl) (show OpnF Tryz.prog [(0,3),(1,3)] 0 2 _ _ from .cons (Opn.int Tryz.underlying3 (by kernel_rfl)) (.cons (Opn.int Tryz.underlying3 (by kernel_rfl)) (.nil))) (fun x=>(⟨x.1,x.2.1⟩:(Arr2 Int))) (fun _=>rfl) (fun _=>rfl) (fun x h=>⟨h.1,h.2.1⟩)
theorem args_9:OpnA Tryz.prog [27,3,81] (fun x:Wear×Int×(Arr2 Int)×Unit=>[.agg (zo9 x.1),.int .i64 x.2.1,.agg (zkj x.2.2.1)]) (fun x=>zkC x.1∧inI x.2.1∧zgP x.2.2.1∧True):=
 .cons (.struct Tryz.underlying27 o_27) (.cons (.int Tryz.underlying3) (.cons (.array Tryz.underlying81 o_81) (.nil)))
theorem zhO (h:∀ (a0:Wear) (a1:Int) (a2:(Arr2 Int)),zkC a0→inI a1→zgP a2→∃ fuel,za5 fuel a0 a1 a2=some true) (os:Os) (started:os.Started) (H:Type) (enc:TypeId×Value→H) :
 ReturnsInHanded {} Tryz.checked os 9 .any (Rows.mantleMovesSpec.pre6 enc Tryz.prog Tryz.f9 Rows.mantleMovesRow.domain Rows.mantleMovesRow.apart) (Rows.mantleMovesSpec.post enc Tryz.prog Tryz.f9 Rows.mantleMovesRow.apart Rows.mantleMovesRow.fresh Rows.mantleMovesRow.handsOn Rows.mantleMovesRow.again):=by
 refine returnsInHanded_of_change_sized (C:=Tryz.checked) zqk started (by kernel_rfl) Tryz.func9
  (ChangeSpec.witness6 (enc:=enc) (C:=Tryz.checked) false ⟨#[],#[.agg #[.slice none 0 0,.slice none 0 0,.slice none 0 0,.slice none 0 0],.int .i64 0,.agg #[.int .i64 0,.int .i64 0]],[]⟩ 12 (by kernel_rfl) (by kernel_rfl) (by kernel_rfl) (by kernel_rfl)) ?_
 intro W base args ds gs before hval hW _ hbig _
 have hp:Tryz.f9.params.toList=[27,3,81]:=by rw [Tryz.params9]
 refine zoH (P:=Tryz.prog) (fn:=Tryz.f9) zpu zpv (by rw [hp];kernel_rfl) (hp▸args_9) rfl ?_ (by kernel_rfl) Tryz.underlying4 ?_ H enc W base args ds gs before hval hW hbig
 · intro H ds hl
   rw [hp] at hl
   match ds,hl with
   | [_,_,_],_=>rfl
 · rintro ⟨a0,a1,a2,_⟩ ⟨h0,h1,h2,_⟩
   obtain ⟨fuel,hf⟩:=h a0 a1 a2 h0 h1 h2
   exact zeR fuel a0 a1 a2 hf
theorem zjV (h:∀ (a0:Wear) (a1:Int) (a2:(Arr2 Int)),zkC a0→inI a1→zgP a2→∃ fuel,za5 fuel a0 a1 a2=some true):Rows.MantleMovesSaid:=
 OpenClaim.holds_of_wide 9 Tryz.f9 rfl rfl rfl rfl rfl rfl rfl ⟨rfl,rfl,rfl,rfl,rfl⟩ rfl rfl rfl rfl rfl (by kernel_rfl) Tryz.func9 (by kernel_rfl)
  (of_decide_eq_true (by kernel_rfl)) (by unfold Func.isWrapper;rw [if_neg (by decide +kernel)];exact ⟨rfl,rfl⟩)
  (fun os started H enc _=>zhO h os started H enc)
end Go.Sp
