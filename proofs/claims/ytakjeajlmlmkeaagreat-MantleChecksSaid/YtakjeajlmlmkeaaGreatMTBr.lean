/- Printed by opn.py: what the arguments of the laws read as; each law's statement out of its Lean definition. -/
import Derived.Test.YtakjeajlmlmkeaaGreatFr5
import Derived.Test.YtakjeajlmlmkeaaGreatCtr2
import Derived.Test.YtakjeajlmlmkeaaGreatRows
import Derived.JoinedOf
set_option linter.all false
set_option maxRecDepth 100000
set_option linter.unusedVariables false
namespace Go.Sp
open Go Go.Av Go.Proofs Go.Proofs.YtakjeajlmlmkeaaGreat
theorem znt:ownKnob Tryz.prog.godebug=none:=by kernel_rfl
theorem zmQ:Kids Tryz.prog (· < Tryz.prog.types.size):=kids_rows (by kernel_rfl) (by kernel_rfl)
theorem zmR:∀ t e,t<Tryz.prog.types.size→Tryz.prog.underlying t=some (.slice e)→0<Tryz.prog.cellsOf e:=slices_full_of Tryz.prog (by kernel_rfl)
def ziO (x:Range):Prop:=inI x.Lo∧inI x.Hi
abbrev znp (x:Range):List AV:=[.int .i64 (x.Lo),.int .i64 (x.Hi)]
theorem o_29:Opn Tryz.prog 29 2 znp ziO:=
 Opn.struct Tryz.underlying29 (by kernel_rfl) (show OpnF Tryz.prog [(0,3),(1,3)] 0 2 _ _ from .cons (Opn.int Tryz.underlying3 (by kernel_rfl)) (.cons (Opn.int Tryz.underlying3 (by kernel_rfl)) (.nil))) (fun x=>(⟨x.1,x.2.1⟩:Range)) (fun _=>rfl) (fun _=>rfl) (fun x h=>⟨h.1,h.2.1⟩)
def zhm (x:Batch):Prop:=inI x.Id∧ziO x.Life
abbrev zlj (x:Batch):List AV:=[.int .i64 (x.Id),.int .i64 (x.Life.Lo),.int .i64 (x.Life.Hi)]
theorem o_31:Opn Tryz.prog 31 3 zlj zhm:=
 Opn.struct Tryz.underlying31 (by kernel_rfl) (show OpnF Tryz.prog [(0,3),(1,29)] 0 3 _ _ from .cons (Opn.int Tryz.underlying3 (by kernel_rfl)) (.cons o_29 (.nil))) (fun x=>(⟨x.1,x.2.1⟩:Batch)) (fun _=>rfl) (fun _=>rfl) (fun x h=>⟨h.1,h.2.1⟩)
def zgn (x:Mantle):Prop:=inI x.Source∧inI x.Lamp∧inI x.Batch∧inI x.Night∧inI x.Known∧inI x.Until
abbrev zj3 (x:Mantle):List AV:=[.int .i64 (x.Source),.int .i64 (x.Lamp),.int .i64 (x.Batch),.int .i64 (x.Night),.int .i64 (x.Known),.int .i64 (x.Until)]
theorem o_33:Opn Tryz.prog 33 6 zj3 zgn:=
 Opn.struct Tryz.underlying33 (by kernel_rfl) (show OpnF Tryz.prog [(0,3),(1,3),(2,3),(3,3),(4,3),(5,3)] 0 6 _ _ from .cons (Opn.int Tryz.underlying3 (by kernel_rfl)) (.cons (Opn.int Tryz.underlying3 (by kernel_rfl)) (.cons (Opn.int Tryz.underlying3 (by kernel_rfl)) (.cons (Opn.int Tryz.underlying3 (by kernel_rfl)) (.cons (Opn.int Tryz.underlying3 (by kernel_rfl)) (.cons (Opn.int Tryz.underlying3 (by kernel_rfl)) (.nil))))))) (fun x=>(⟨x.1,x.2.1,x.2.2.1,x.2.2.2.1,x.2.2.2.2.1,x.2.2.2.2.2.1⟩:Mantle)) (fun _=>rfl) (fun _=>rfl) (fun x h=>⟨h.1,h.2.1,h.2.2.1,h.2.2.2.1,h.2.2.2.2.1,h.2.2.2.2.2.1⟩)
def ziQ (x:Burn):Prop:=inI x.Source∧inI x.Lamp∧inI x.Night∧ziO x.Minutes∧inI x.Known∧inI x.Until
abbrev zmC (x:Burn):List AV:=[.int .i64 (x.Source),.int .i64 (x.Lamp),.int .i64 (x.Night),.int .i64 (x.Minutes.Lo),.int .i64 (x.Minutes.Hi),.int .i64 (x.Known),.int .i64 (x.Until)]
theorem o_35:Opn Tryz.prog 35 7 zmC ziQ:=
 Opn.struct Tryz.underlying35 (by kernel_rfl) (show OpnF Tryz.prog [(0,3),(1,3),(2,3),(3,29),(5,3),(6,3)] 0 7 _ _ from .cons (Opn.int Tryz.underlying3 (by kernel_rfl)) (.cons (Opn.int Tryz.underlying3 (by kernel_rfl)) (.cons (Opn.int Tryz.underlying3 (by kernel_rfl)) (.cons o_29 (.cons (Opn.int Tryz.underlying3 (by kernel_rfl)) (.cons (Opn.int Tryz.underlying3 (by kernel_rfl)) (.nil))))))) (fun x=>(⟨x.1,x.2.1,x.2.2.1,x.2.2.2.1,x.2.2.2.2.1,x.2.2.2.2.2.1⟩:Burn)) (fun _=>rfl) (fun _=>rfl) (fun x h=>⟨h.1,h.2.1,h.2.2.1,h.2.2.2.1,h.2.2.2.2.1,h.2.2.2.2.2.1⟩)
def ziP (x:Look):Prop:=inI x.Source∧inI x.Lamp∧inI x.Night∧(fun _:Bool=>True) x.Bad∧inI x.Known∧inI x.Until
abbrev zmB (x:Look):List AV:=[.int .i64 (x.Source),.int .i64 (x.Lamp),.int .i64 (x.Night),.bool (x.Bad),.int .i64 (x.Known),.int .i64 (x.Until)]
theorem o_37:Opn Tryz.prog 37 6 zmB ziP:=
 Opn.struct Tryz.underlying37 (by kernel_rfl) (show OpnF Tryz.prog [(0,3),(1,3),(2,3),(3,4),(4,3),(5,3)] 0 6 _ _ from .cons (Opn.int Tryz.underlying3 (by kernel_rfl)) (.cons (Opn.int Tryz.underlying3 (by kernel_rfl)) (.cons (Opn.int Tryz.underlying3 (by kernel_rfl)) (.cons (Opn.bool Tryz.underlying4 (by kernel_rfl)) (.cons (Opn.int Tryz.underlying3 (by kernel_rfl)) (.cons (Opn.int Tryz.underlying3 (by kernel_rfl)) (.nil))))))) (fun x=>(⟨x.1,x.2.1,x.2.2.1,x.2.2.2.1,x.2.2.2.2.1,x.2.2.2.2.2.1⟩:Look)) (fun _=>rfl) (fun _=>rfl) (fun x h=>⟨h.1,h.2.1,h.2.2.1,h.2.2.2.1,h.2.2.2.2.1,h.2.2.2.2.2.1⟩)
def ziN (x:Wear):Prop:=(fun l:(List Batch)=>l.length * 24≤140737488351232∧∀ x∈l,zhm x) x.Batches∧(fun l:(List Mantle)=>l.length * 48≤140737488351232∧∀ x∈l,zgn x) x.Mantles∧(fun l:(List Burn)=>l.length * 56≤140737488351232∧∀ x∈l,ziQ x) x.Burns∧(fun l:(List Look)=>l.length * 48≤140737488351232∧∀ x∈l,ziP x) x.Looks
abbrev zmA (x:Wear):List AV:=[roL 3 zad x.Batches,roL 6 zaa x.Mantles,roL 7 zaf x.Burns,roL 6 zac x.Looks]
theorem o_27:Opn Tryz.prog 27 4 zmA ziN:=
 Opn.struct Tryz.underlying27 (by kernel_rfl) (show OpnF Tryz.prog [(0,22),(1,23),(2,24),(3,25)] 0 4 _ _ from .cons (Opn.slice (k:=24) Tryz.underlying22 (by kernel_rfl) (show Opn Tryz.prog 31 3 zlj zhm from o_31) (by decide) (by decide +kernel)) (.cons (Opn.slice (k:=48) Tryz.underlying23 (by kernel_rfl) (show Opn Tryz.prog 33 6 zj3 zgn from o_33) (by decide) (by decide +kernel)) (.cons (Opn.slice (k:=56) Tryz.underlying24 (by kernel_rfl) (show Opn Tryz.prog 35 7 zmC ziQ from o_35) (by decide) (by decide +kernel)) (.cons (Opn.slice (k:=48) Tryz.underlying25 (by kernel_rfl) (show Opn Tryz.prog 37 6 zmB ziP from o_37) (by decide) (by decide +kernel)) (.nil))))) (fun x=>(⟨x.1,x.2.1,x.2.2.1,x.2.2.2.1⟩:Wear)) (fun _=>rfl) (fun _=>rfl) (fun x h=>⟨h.1,h.2.1,h.2.2.1,h.2.2.2.1⟩)
def zbM (x:gasolierlaw06_One):Prop:=zhm x.Batch∧zgn x.Mantle∧ziQ x.Burn∧ziP x.Look
abbrev zdL (x:gasolierlaw06_One):List AV:=[.int .i64 (x.Batch.Id),.int .i64 (x.Batch.Life.Lo),.int .i64 (x.Batch.Life.Hi),.int .i64 (x.Mantle.Source),.int .i64 (x.Mantle.Lamp),.int .i64 (x.Mantle.Batch),.int .i64 (x.Mantle.Night),.int .i64 (x.Mantle.Known),.int .i64 (x.Mantle.Until),.int .i64 (x.Burn.Source),.int .i64 (x.Burn.Lamp),.int .i64 (x.Burn.Night),.int .i64 (x.Burn.Minutes.Lo),.int .i64 (x.Burn.Minutes.Hi),.int .i64 (x.Burn.Known),.int .i64 (x.Burn.Until),.int .i64 (x.Look.Source),.int .i64 (x.Look.Lamp),.int .i64 (x.Look.Night),.bool (x.Look.Bad),.int .i64 (x.Look.Known),.int .i64 (x.Look.Until)]
theorem o_39:Opn Tryz.prog 39 22 zdL zbM:=
 Opn.struct Tryz.underlying39 (by kernel_rfl) (show OpnF Tryz.prog [(0,31),(3,33),(9,35),(16,37)] 0 22 _ _ from .cons o_31 (.cons o_33 (.cons o_35 (.cons o_37 (.nil))))) (fun x=>(⟨x.1,x.2.1,x.2.2.1,x.2.2.2.1⟩:gasolierlaw06_One)) (fun _=>rfl) (fun _=>rfl) (fun x h=>⟨h.1,h.2.1,h.2.2.1,h.2.2.2.1⟩)
theorem args_3:OpnA Tryz.prog [27,39] (fun x:Wear×gasolierlaw06_One×Unit=>[.agg (zmA x.1),.agg (zdL x.2.1)]) (fun x=>ziN x.1∧zbM x.2.1∧True):=
 .cons (.struct Tryz.underlying27 o_27) (.cons (.struct Tryz.underlying39 o_39) (.nil))
theorem zf7 (h:∀ (a0:Wear) (a1:gasolierlaw06_One),ziN a0→zbM a1→∃ fuel,zaK fuel a0 a1=some true) (os:Os) (started:os.Started) (H:Type) (enc:TypeId×Value→H) :
 ReturnsInHanded {} Tryz.checked os 3 .any (Rows.mantleChecksSpec.pre6 enc Tryz.prog Tryz.f3 Rows.mantleChecksRow.domain Rows.mantleChecksRow.apart) (Rows.mantleChecksSpec.post enc Tryz.prog Tryz.f3 Rows.mantleChecksRow.apart Rows.mantleChecksRow.fresh Rows.mantleChecksRow.handsOn Rows.mantleChecksRow.again):=by
 refine returnsInHanded_of_change_sized (C:=Tryz.checked) znt started (by kernel_rfl) Tryz.func3
  (ChangeSpec.witness6 (enc:=enc) (C:=Tryz.checked) false ⟨#[],#[.agg #[.slice none 0 0,.slice none 0 0,.slice none 0 0,.slice none 0 0],.agg #[.int .i64 0,.int .i64 0,.int .i64 0,.int .i64 0,.int .i64 0,.int .i64 0,.int .i64 0,.int .i64 0,.int .i64 0,.int .i64 0,.int .i64 0,.int .i64 0,.int .i64 0,.int .i64 0,.int .i64 0,.int .i64 0,.int .i64 0,.int .i64 0,.int .i64 0,.bool false,.int .i64 0,.int .i64 0]],[]⟩ 12 (by kernel_rfl) (by kernel_rfl) (by kernel_rfl) (by kernel_rfl)) ?_
 intro W base args ds gs before hval hW _ hbig _
 have hp:Tryz.f3.params.toList=[27,39]:=by rw [Tryz.params3]
 refine zme (P:=Tryz.prog) (fn:=Tryz.f3) zmQ zmR (by rw [hp];kernel_rfl) (hp▸args_3) rfl ?_ (by kernel_rfl) Tryz.underlying4 ?_ H enc W base args ds gs before hval hW hbig
 · intro H ds hl
   rw [hp] at hl
   match ds,hl with
   | [_,_],_=>rfl
 · rintro ⟨a0,a1,_⟩ ⟨h0,h1,_⟩
   obtain ⟨fuel,hf⟩:=h a0 a1 h0 h1
   exact zdT fuel a0 a1 hf
theorem zhN (h:∀ (a0:Wear) (a1:gasolierlaw06_One),ziN a0→zbM a1→∃ fuel,zaK fuel a0 a1=some true):Rows.MantleChecksSaid:=
 OpenClaim.holds_of_wide 3 Tryz.f3 rfl rfl rfl rfl rfl rfl rfl ⟨rfl,rfl,rfl,rfl,rfl⟩ rfl rfl rfl rfl rfl (by kernel_rfl) Tryz.func3 (by kernel_rfl)
  (of_decide_eq_true (by kernel_rfl)) (by unfold Func.isWrapper;rw [if_neg (by decide +kernel)];exact ⟨rfl,rfl⟩)
  (fun os started H enc _=>zf7 h os started H enc)
end Go.Sp
