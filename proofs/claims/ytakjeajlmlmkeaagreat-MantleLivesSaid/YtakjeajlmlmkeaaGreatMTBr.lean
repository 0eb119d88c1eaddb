/- Printed by opn.py: what the arguments of the laws read as; each law's statement out of its Lean definition. -/
import Derived.Test.YtakjeajlmlmkeaaGreatFr5
import Derived.Test.YtakjeajlmlmkeaaGreatCtr2
import Derived.Test.YtakjeajlmlmkeaaGreatRows
import Derived.JoinedOf
set_option linter.all false
set_option maxRecDepth 100000
set_option linter.unusedVariables false
namespace Go.Sp
open Go Go.Av Go.Proofs Go.Proofs.YtakjeajlmlmkeaaGreat
theorem zp9:ownKnob Tryz.prog.godebug=none:=by kernel_rfl
theorem zpn:Kids Tryz.prog (· < Tryz.prog.types.size):=kids_rows (by kernel_rfl) (by kernel_rfl)
theorem zpo:∀ t e,t<Tryz.prog.types.size→Tryz.prog.underlying t=some (.slice e)→0<Tryz.prog.cellsOf e:=slices_full_of Tryz.prog (by kernel_rfl)
def zkA (x:Range):Prop:=inI x.Lo∧inI x.Hi
abbrev zp3 (x:Range):List AV:=[.int .i64 (x.Lo),.int .i64 (x.Hi)]
theorem o_29:Opn Tryz.prog 29 2 zp3 zkA:=
 Opn.struct Tryz.underlying29 (by kernel_rfl) (show OpnF Tryz.prog [(0,3),(1,3)] 0 2 _ _ from .cons (Opn.int Tryz.underlying3 (by kernel_rfl)) (.cons (Opn.int Tryz.underlying3 (by kernel_rfl)) (.nil))) (fun x=>(⟨x.1,x.2.1⟩:Range)) (fun _=>rfl) (fun _=>rfl) (fun x h=>⟨h.1,h.2.1⟩)
def zkB (x:Batch):Prop:=inI x.Id∧zkA x.Life
abbrev znu (x:Batch):List AV:=[.int .i64 (x.Id),.int .i64 (x.Life.Lo),.int .i64 (x.Life.Hi)]
theorem o_31:Opn Tryz.prog 31 3 znu zkB:=
 Opn.struct Tryz.underlying31 (by kernel_rfl) (show OpnF Tryz.prog [(0,3),(1,29)] 0 3 _ _ from .cons (Opn.int Tryz.underlying3 (by kernel_rfl)) (.cons o_29 (.nil))) (fun x=>(⟨x.1,x.2.1⟩:Batch)) (fun _=>rfl) (fun _=>rfl) (fun x h=>⟨h.1,h.2.1⟩)
def zjf (x:Mantle):Prop:=inI x.Source∧inI x.Lamp∧inI x.Batch∧inI x.Night∧inI x.Known∧inI x.Until
abbrev zlU (x:Mantle):List AV:=[.int .i64 (x.Source),.int .i64 (x.Lamp),.int .i64 (x.Batch),.int .i64 (x.Night),.int .i64 (x.Known),.int .i64 (x.Until)]
theorem o_33:Opn Tryz.prog 33 6 zlU zjf:=
 Opn.struct Tryz.underlying33 (by kernel_rfl) (show OpnF Tryz.prog [(0,3),(1,3),(2,3),(3,3),(4,3),(5,3)] 0 6 _ _ from .cons (Opn.int Tryz.underlying3 (by kernel_rfl)) (.cons (Opn.int Tryz.underlying3 (by kernel_rfl)) (.cons (Opn.int Tryz.underlying3 (by kernel_rfl)) (.cons (Opn.int Tryz.underlying3 (by kernel_rfl)) (.cons (Opn.int Tryz.underlying3 (by kernel_rfl)) (.cons (Opn.int Tryz.underlying3 (by kernel_rfl)) (.nil))))))) (fun x=>(⟨x.1,x.2.1,x.2.2.1,x.2.2.2.1,x.2.2.2.2.1,x.2.2.2.2.2.1⟩:Mantle)) (fun _=>rfl) (fun _=>rfl) (fun x h=>⟨h.1,h.2.1,h.2.2.1,h.2.2.2.1,h.2.2.2.2.1,h.2.2.2.2.2.1⟩)
def zml (x:Burn):Prop:=inI x.Source∧inI x.Lamp∧inI x.Night∧zkA x.Minutes∧inI x.Known∧inI x.Until
abbrev zo7 (x:Burn):List AV:=[.int .i64 (x.Source),.int .i64 (x.Lamp),.int .i64 (x.Night),.int .i64 (x.Minutes.Lo),.int .i64 (x.Minutes.Hi),.int .i64 (x.Known),.int .i64 (x.Until)]
theorem o_35:Opn Tryz.prog 35 7 zo7 zml:=
 Opn.struct Tryz.underlying35 (by kernel_rfl) (show OpnF Tryz.prog [(0,3),(1,3),(2,3),(3,29),(5,3),(6,3)] 0 7 _ _ from .cons (Opn.int Tryz.underlying3 (by kernel_rfl)) (.cons (Opn.int Tryz.underlying3 (by kernel_rfl)) (.cons (Opn.int Tryz.underlying3 (by kernel_rfl)) (.cons o_29 (.cons (Opn.int Tryz.underlying3 (by kernel_rfl)) (.cons (Opn.int Tryz.underlying3 (by kernel_rfl)) (.nil))))))) (fun x=>(⟨x.1,x.2.1,x.2.2.1,x.2.2.2.1,x.2.2.2.2.1,x.2.2.2.2.2.1⟩:Burn)) (fun _=>rfl) (fun _=>rfl) (fun x h=>⟨h.1,h.2.1,h.2.2.1,h.2.2.2.1,h.2.2.2.2.1,h.2.2.2.2.2.1⟩)
def zmk (x:Look):Prop:=inI x.Source∧inI x.Lamp∧inI x.Night∧(fun _:Bool=>True) x.Bad∧inI x.Known∧inI x.Until
abbrev zo6 (x:Look):List AV:=[.int .i64 (x.Source),.int .i64 (x.Lamp),.int .i64 (x.Night),.bool (x.Bad),.int .i64 (x.Known),.int .i64 (x.Until)]
theorem o_37:Opn Tryz.prog 37 6 zo6 zmk:=
 Opn.struct Tryz.underlying37 (by kernel_rfl) (show OpnF Tryz.prog [(0,3),(1,3),(2,3),(3,4),(4,3),(5,3)] 0 6 _ _ from .cons (Opn.int Tryz.underlying3 (by kernel_rfl)) (.cons (Opn.int Tryz.underlying3 (by kernel_rfl)) (.cons (Opn.int Tryz.underlying3 (by kernel_rfl)) (.cons (Opn.bool Tryz.underlying4 (by kernel_rfl)) (.cons (Opn.int Tryz.underlying3 (by kernel_rfl)) (.cons (Opn.int Tryz.underlying3 (by kernel_rfl)) (.nil))))))) (fun x=>(⟨x.1,x.2.1,x.2.2.1,x.2.2.2.1,x.2.2.2.2.1,x.2.2.2.2.2.1⟩:Look)) (fun _=>rfl) (fun _=>rfl) (fun x h=>⟨h.1,h.2.1,h.2.2.1,h.2.2.2.1,h.2.2.2.2.1,h.2.2.2.2.2.1⟩)
def zkz (x:Wear):Prop:=(fun l:(List Batch)=>l.length * 24≤140737488351232∧∀ x∈l,zkB x) x.Batches∧(fun l:(List Mantle)=>l.length * 48≤140737488351232∧∀ x∈l,zjf x) x.Mantles∧(fun l:(List Burn)=>l.length * 56≤140737488351232∧∀ x∈l,zml x) x.Burns∧(fun l:(List Look)=>l.length * 48≤140737488351232∧∀ x∈l,zmk x) x.Looks
abbrev zo5 (x:Wear):List AV:=[roL 3 zaK x.Batches,roL 6 zaE x.Mantles,roL 7 zaV x.Burns,roL 6 zai x.Looks]
theorem o_27:Opn Tryz.prog 27 4 zo5 zkz:=
 Opn.struct Tryz.underlying27 (by kernel_rfl) (show OpnF Tryz.prog [(0,22),(1,23),(2,24),(3,25)] 0 4 _ _ from .cons (Opn.slice (k:=24) Tryz.underlying22 (by kernel_rfl) (show Opn Tryz.prog 31 3 znu zkB from o_31) (by decide) (by decide +kernel)) (.cons (Opn.slice (k:=48) Tryz.underlying23 (by kernel_rfl) (show Opn Tryz.prog 33 6 zlU zjf from o_33) (by decide) (by decide +kernel)) (.cons (Opn.slice (k:=56) Tryz.underlying24 (by kernel_rfl) (show Opn Tryz.prog 35 7 zo7 zml from o_35) (by decide) (by decide +kernel)) (.cons (Opn.slice (k:=48) Tryz.underlying25 (by kernel_rfl) (show Opn Tryz.prog 37 6 zo6 zmk from o_37) (by decide) (by decide +kernel)) (.nil))))) (fun x=>(⟨x.1,x.2.1,x.2.2.1,x.2.2.2.1⟩:Wear)) (fun _=>rfl) (fun _=>rfl) (fun x h=>⟨h.1,h.2.1,h.2.2.1,h.2.2.2.1⟩)
def zgL (x:(Arr2 Int)):Prop:=inI x.x0∧inI x.x1
abbrev zkf (x:(Arr2 Int)):List AV:=[.int .i64 (x.x0),.int .i64 (x.x1)]
theorem o_81:Opn Tryz.prog 81 2 zkf zgL:=
 Opn.array (n:=2) (s:=1) (sz:=2) Tryz.underlying81 (by kernel_rfl) (by kernel_rfl) (show OpnF Tryz.prog [(0,3),(1,3)] 0 2 _ _ from .cons (Opn.int Tryz.underlying3 (by kernel_rfl)) (.cons (Opn.int Tryz.underlying3 (by kernel_rfl)) (.nil))) (fun x=>(⟨x.1,x.2.1⟩:(Arr2 Int))) (fun _=>rfl) (fun _=>rfl) (fun x h=>⟨h.1,h.2.1⟩)
theorem args_7:OpnA Tryz.prog [27,81,56] (fun x:Wear×(Arr2 Int)×(List Int)×Unit=>[.agg (zo5 x.1),.agg (zkf x.2.1),roL 1 zae x.2.2.1]) (fun x=>zkz x.1∧zgL x.2.1∧(fun l:(List Int)=>l.length * 8≤140737488351232∧∀ x∈l,inI x) x.2.2.1∧True):=
 .cons (.struct Tryz.underlying27 o_27) (.cons (.array Tryz.underlying81 o_81) (.cons (.slice (k:=8) Tryz.underlying56 (by kernel_rfl) (show Opn Tryz.prog 3 1 zae inI from (Opn.int Tryz.underlying3 (by kernel_rfl))) (by decide) (by decide +kernel)) (.nil)))
theorem zhF (h:∀ (a0:Wear) (a1:(Arr2 Int)) (a2:(List Int)),zkz a0→zgL a1→(fun l:(List Int)=>l.length * 8≤140737488351232∧∀ x∈l,inI x) a2→∃ fuel,za7 fuel a0 a1 a2=some true) (os:Os) (started:os.Started) (H:Type) (enc:TypeId×Value→H) :
 ReturnsInHanded {} Tryz.checked os 7 .any (Rows.mantleLivesSpec.pre6 enc Tryz.prog Tryz.f7 Rows.mantleLivesRow.domain Rows.mantleLivesRow.apart) (Rows.mantleLivesSpec.post enc Tryz.prog Tryz.f7 Rows.mantleLivesRow.apart Rows.mantleLivesRow.fresh Rows.mantleLivesRow.handsOn Rows.mantleLivesRow.again):=by
 refine returnsInHanded_of_change_sized (C:=Tryz.checked) zp9 started (by kernel_rfl) Tryz.func7
  (ChangeSpec.witness6 (enc:=enc) (C:=Tryz.checked) false ⟨#[],#[.agg #[.slice none 0 0,.slice none 0 0,.slice none 0 0,.slice none 0 0],.agg #[.int .i64 0,.int .i64 0],.slice none 0 0],[]⟩ 12 (by kernel_rfl) (by kernel_rfl) (by kernel_rfl) (by kernel_rfl)) ?_
 intro W base args ds gs before hval hW _ hbig _
 have hp:Tryz.f7.params.toList=[27,81,56]:=by rw [Tryz.params7]
 refine zoI (P:=Tryz.prog) (fn:=Tryz.f7) zpn zpo (by rw [hp];kernel_rfl) (hp▸args_7) rfl ?_ (by kernel_rfl) Tryz.underlying4 ?_ H enc W base args ds gs before hval hW hbig
 · intro H ds hl
   rw [hp] at hl
   match ds,hl with
   | [_,_,_],_=>rfl
 · rintro ⟨a0,a1,a2,_⟩ ⟨h0,h1,h2,_⟩
   obtain ⟨fuel,hf⟩:=h a0 a1 a2 h0 h1 h2
   exact zeS fuel a0 a1 a2 hf
theorem zjT (h:∀ (a0:Wear) (a1:(Arr2 Int)) (a2:(List Int)),zkz a0→zgL a1→(fun l:(List Int)=>l.length * 8≤140737488351232∧∀ x∈l,inI x) a2→∃ fuel,za7 fuel a0 a1 a2=some true):Rows.MantleLivesSaid:=
 OpenClaim.holds_of_wide 7 Tryz.f7 rfl rfl rfl rfl rfl rfl rfl ⟨rfl,rfl,rfl,rfl,rfl⟩ rfl rfl rfl rfl rfl (by kernel_rfl) Tryz.func7 (by kernel_rfl)
  (of_decide_eq_true (by kernel_rfl)) (by unfold Func.isWrapper;rw [if_neg (by decide +kernel)];exact ⟨rfl,rfl⟩)
  (fun os started H enc _=>zhF h os started H enc)
end Go.Sp
