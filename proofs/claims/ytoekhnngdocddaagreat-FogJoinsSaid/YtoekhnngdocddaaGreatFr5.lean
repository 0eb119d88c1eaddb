/- Texts of the framework, or of the plain law, one behind another. -/
import Derived.Test.YtoekhnngdocddaaGreatFr1
/- Printed by gen.py. -/
section
set_option linter.all false
set_option linter.unusedVariables false
namespace Go.Sp
open Go.Av
structure Send where
 District : Int
 Many : Int
 deriving Inhabited, DecidableEq
structure Node where
 Test : Bool
 District : Int
 Minute : Int
 Limit : Int
 Yes : Int
 No : Int
 Maybe : Int
 Sends : (List Send)
 deriving Inhabited, DecidableEq
structure Range where
 Lo : Int
 Hi : Int
 deriving Inhabited, DecidableEq
structure Report where
 Source : Int
 District : Int
 Night : Int
 From : Int
 To : Int
 Sight : Range
 Known : Int
 Until : Int
 deriving Inhabited, DecidableEq
structure gasolierref05_At where
 District : Int
 Night : Int
 Moment : Int
 deriving Inhabited, DecidableEq
structure gasolierlaw05_Given where
 Leaf : Int
 Ids : (List Int)
 Districts : (List Int)
 deriving Inhabited, DecidableEq
structure Runner where
 Id : Int
 Districts : (List Int)
 deriving Inhabited, DecidableEq
structure fog_query where
 district : Int
 night : Int
 moment : Int
 minute : Int
 time : Range
 limit : Int
 deriving Inhabited, DecidableEq
structure gasolierref05_Time where
 Lo : Int
 Hi : Int
 Limit : Int
 deriving Inhabited, DecidableEq
structure fog_giver where
 runners : (List Runner)
 places : (List Int)
 of : (List Int)
 barred : (List Bool)
 deriving Inhabited, DecidableEq
structure gasolierref05_Town where
 Policy : (List Node)
 Runners : (List Runner)
 deriving Inhabited, DecidableEq
structure gasolierref05_Source where
 Source : Int
 Night : Int
 Moment : Int
 deriving Inhabited, DecidableEq
structure gasoliertop_Mist where
 Sights : (List Int)
 Reports : (List (Arr4 Int))
 Law : (Arr3 Int)
 Limit : Int
 deriving Inhabited, DecidableEq
structure Night where
 No : Int
 Set : Range
 Rise : Range
 Light : Range
 Fog : Int
 deriving Inhabited, DecidableEq
structure Version where
 Source : Int
 Class : Int
 From : Int
 On : Range
 Off : Range
 Moon : Int
 Fog : Int
 Known : Int
 Until : Int
 deriving Inhabited, DecidableEq
structure Street where
 Id : Int
 Class : Int
 District : Int
 First : Int
 Many : Int
 deriving Inhabited, DecidableEq
structure Bylaw where
 Versions : (List Version)
 Streets : (List Street)
 deriving Inhabited, DecidableEq
structure Truth where
 Set : Int
 Rise : Int
 Light : Int
 Fog : Bool
 deriving Inhabited, DecidableEq
structure Times where
 On : Int
 Off : Int
 deriving Inhabited, DecidableEq
structure Duty where
 Lit : Int
 On : Range
 Off : Range
 deriving Inhabited, DecidableEq
structure bylaw_window where
 v : Version
 n : Night
 deriving Inhabited, DecidableEq
def gasolierref05_Mod (p0 : Int) (p1 : Int) : Option Int :=
 must ((p1 : Int) ≠ 0) <| must (inI ((Int.tmod p0 p1) + p1)) <| must ((p1 : Int) ≠ 0) <| some (Int.tmod ((Int.tmod p0 p1) + p1) p1)
def gasolierref05_Num (p0 : (List Int)) (p1 : Int) : Option Int :=
 (bif (decide (((p0.length : Nat) : Int) = 0)) then some 0 else bindO (gasolierref05_Mod p1 ((p0.length : Nat) : Int)) fun y2 => must (0 ≤ (y2 : Int) ∧ (y2 : Int) < ((p0.length : Nat) : Int)) <| some (p0.getD (y2).toNat default))
def gasolierref05_True (p0 : (List Int)) (p1 : Int) (p2 : Int) : Option Int :=
 must ((90 : Int) ≠ 0 ∧ inI (Int.tdiv p2 90)) <| bindO (gasolierref05_Num p0 (wrapI (p1 + (Int.tdiv p2 90)))) fun y2 => must ((60 : Int) ≠ 0 ∧ inI (Int.tdiv p2 60)) <| bindO (gasolierref05_Mod (wrapI (y2 + (Int.tdiv p2 60))) 900) fun y5 => some y5
def gasolierref05_reach (fuel : Nat) (p0 : (List Int)) (p1 : Int) (p2 : Int) (p3 : Int) : Option Range :=
 (loopGo (fun (s1 : Int × Range) k1 => (bif (decide (s1.1 ≤ p3)) then bindO (gasolierref05_True p0 p1 s1.1) fun y3 => must (inI (s1.1 + 1)) <| k1 ((s1.1 + 1), (⟨(min s1.2.Lo y3), (max s1.2.Hi y3)⟩ : Range)) else some s1.2)) fuel (p2, (⟨5000, 0⟩ : Range)))
def gasolierref05_Made (fuel : Nat) (p0 : (List (Arr7 Int))) (p1 : (List Int)) : Option (List Report) :=
 (loopGo (fun (s1 : Int × (List Report)) k1 => (bif ((decide (s1.1 < ((p0.length : Nat) : Int))) && (decide (s1.1 < 12))) then must (0 ≤ (s1.1 : Int) ∧ (s1.1 : Int) < ((p0.length : Nat) : Int)) <| must (inI ((wrapI (4 * s1.1)) + 3)) <| bindO (gasolierref05_Mod ((p0.getD (s1.1).toNat default).x0) 3) fun y5 => must (inI (1 + y5)) <| bindO (gasolierref05_Mod ((p0.getD (s1.1).toNat default).x1) 1300) fun y8 => bindO (gasolierref05_Mod ((p0.getD (s1.1).toNat default).x2) 139) fun y10 => must (inI (y8 + y10)) <| bindO (gasolierref05_reach fuel p1 (1 + y5) y8 (y8 + y10)) fun y13 => bindO (gasolierref05_Mod ((p0.getD (s1.1).toNat default).x3) 300) fun y15 => must (inI (y13.Lo - y15)) <| bindO (gasolierref05_Mod ((p0.getD (s1.1).toNat default).x4) 300) fun y18 => must (inI (y13.Hi + y18)) <| bindO (gasolierref05_Mod ((p0.getD (s1.1).toNat default).x6) 7) fun y21 => (joinK (fun (k23 : Report → _) => (bif (decide (y21 = 6)) then bindO (gasolierref05_Mod ((p0.getD (s1.1).toNat default).x3) 600) fun y42 => bindO (gasolierref05_Mod ((p0.getD (s1.1).toNat default).x3) 600) fun y44 => bindO (gasolierref05_Mod ((p0.getD (s1.1).toNat default).x4) 60) fun y46 => must (inI (y44 + y46)) <| k23 (⟨((wrapI (4 * s1.1)) + 3), (1 + y5), 3, y8, (y8 + y10), (⟨y42, (y44 + y46)⟩ : Range), 0, 0⟩ : Report) else k23 (⟨((wrapI (4 * s1.1)) + 3), (1 + y5), 3, y8, (y8 + y10), (⟨(max 0 (y13.Lo - y15)), (min 5000 (y13.Hi + y18))⟩ : Range), 0, 0⟩ : Report))) (fun (s23 : Report) => bindO (gasolierref05_Mod ((p0.getD (s1.1).toNat default).x6) 11) fun y24 => (joinK (fun (k26 : Report → _) => (bif (decide (y24 = 10)) then k26 (⟨s23.Source, s23.District, 4, s23.From, s23.To, s23.Sight, s23.Known, s23.Until⟩ : Report) else k26 s23)) (fun (s26 : Report) => bindO (gasolierref05_Mod ((p0.getD (s1.1).toNat default).x5) 1440) fun y27 => must (inI (4320 + y27)) <| bindO (gasolierref05_Mod ((p0.getD (s1.1).toNat default).x6) 5) fun y30 => (joinK (fun (k32 : Report → _) => (bif (decide (y30 = 4)) then must (inI ((4320 + y27) + 1)) <| bindO (gasolierref05_Mod (wrapI ((p0.getD (s1.1).toNat default).x5 * 7)) 600) fun y37 => must (inI (((4320 + y27) + 1) + y37)) <| k32 (⟨s26.Source, s26.District, s26.Night, s26.From, s26.To, s26.Sight, (4320 + y27), (((4320 + y27) + 1) + y37)⟩ : Report) else k32 (⟨s26.Source, s26.District, s26.Night, s26.From, s26.To, s26.Sight, (4320 + y27), s26.Until⟩ : Report))) (fun (s32 : Report) => must (room (s1.2 ++ ([s32] : List Report)).length 72) <| must (inI (s1.1 + 1)) <| k1 ((s1.1 + 1), (s1.2 ++ ([s32] : List Report))))))))) else some s1.2)) fuel (0, ([] : List Report)))
def fog_within (p0 : Int) (p1 : Int) (p2 : Int) : Bool :=
 ((decide (p1 ≤ p0)) && (decide (p0 ≤ p2)))
def fog_isDistrict (p0 : Int) : Bool :=
 (fog_within p0 1 9)
def fog_areSends (p0 : (List Send)) : Option Bool :=
 (rangeGo (fun i1 (s1 : Unit) k1 => must ((((!((!(fog_isDistrict ((p0.getD i1 default).District))) || (!(fog_within ((p0.getD i1 default).Many) 1 20)))) && (decide (0 < (i1 : Int)))) = true → (inI ((i1 : Int) - 1)))) <| must ((((!((!(fog_isDistrict ((p0.getD i1 default).District))) || (!(fog_within ((p0.getD i1 default).Many) 1 20)))) && (decide (0 < (i1 : Int)))) = true → (0 ≤ (((i1 : Int) - 1) : Int) ∧ (((i1 : Int) - 1) : Int) < ((p0.length : Nat) : Int)))) <| (bif (((!(fog_isDistrict ((p0.getD i1 default).District))) || (!(fog_within ((p0.getD i1 default).Many) 1 20))) || ((decide (0 < (i1 : Int))) && (decide ((p0.getD i1 default).District ≤ (p0.getD (((i1 : Int) - 1)).toNat default).District)))) then some false else k1 ())) (fun (s1 : Unit) => some (decide (((p0.length : Nat) : Int) ≤ 9))) p0.length 0 ())
def fog_isMinute (p0 : Int) : Bool :=
 (fog_within p0 0 1439)
def fog_next (p0 : Node) : (Mp Int) :=
 ((((Mp.empty : Mp Int).set 1 p0.Yes).set 0 p0.No).set 2 p0.Maybe)
def fog_isNode (p0 : (List Node)) (p1 : Int) : Option Bool :=
 must (0 ≤ (p1 : Int) ∧ (p1 : Int) < ((p0.length : Nat) : Int)) <| (bif (!((p0.getD (p1).toNat default).Test)) then bindO ((bif ((((((decide ((p0.getD (p1).toNat default).District = 0)) && (decide ((p0.getD (p1).toNat default).Minute = 0))) && (decide ((p0.getD (p1).toNat default).Limit = 0))) && (decide ((p0.getD (p1).toNat default).Yes = 0))) && (decide ((p0.getD (p1).toNat default).No = 0))) && (decide ((p0.getD (p1).toNat default).Maybe = 0))) then fog_areSends ((p0.getD (p1).toNat default).Sends) else some default)) fun y3 => some (((((((decide ((p0.getD (p1).toNat default).District = 0)) && (decide ((p0.getD (p1).toNat default).Minute = 0))) && (decide ((p0.getD (p1).toNat default).Limit = 0))) && (decide ((p0.getD (p1).toNat default).Yes = 0))) && (decide ((p0.getD (p1).toNat default).No = 0))) && (decide ((p0.getD (p1).toNat default).Maybe = 0))) && y3) else (bif ((((!(fog_isDistrict ((p0.getD (p1).toNat default).District))) || (!(fog_isMinute ((p0.getD (p1).toNat default).Minute)))) || (!(fog_within ((p0.getD (p1).toNat default).Limit) 1 5000))) || (decide (0 < ((((p0.getD (p1).toNat default).Sends).length : Nat) : Int)))) then some false else must ((fog_next (p0.getD (p1).toNat default)).ok) <| bindO (mapAny (fun (q6 : Int) => must (inI (p1 + 1)) <| must (inI (((p0.length : Nat) : Int) - 1)) <| must (((!(!(fog_within (((fog_next (p0.getD (p1).toNat default)).get q6).getD default) (p1 + 1) (((p0.length : Nat) : Int) - 1)))) = true → (0 ≤ ((((fog_next (p0.getD (p1).toNat default)).get q6).getD default) : Int) ∧ ((((fog_next (p0.getD (p1).toNat default)).get q6).getD default) : Int) < ((p0.length : Nat) : Int)))) <| must ((((!(!(fog_within (((fog_next (p0.getD (p1).toNat default)).get q6).getD default) (p1 + 1) (((p0.length : Nat) : Int) - 1)))) && ((p0.getD ((((fog_next (p0.getD (p1).toNat default)).get q6).getD default)).toNat default).Test)) = true → (0 ≤ ((((fog_next (p0.getD (p1).toNat default)).get q6).getD default) : Int) ∧ ((((fog_next (p0.getD (p1).toNat default)).get q6).getD default) : Int) < ((p0.length : Nat) : Int)))) <| (bif ((!(fog_within (((fog_next (p0.getD (p1).toNat default)).get q6).getD default) (p1 + 1) (((p0.length : Nat) : Int) - 1))) || (((p0.getD ((((fog_next (p0.getD (p1).toNat default)).get q6).getD default)).toNat default).Test) && (decide ((p0.getD ((((fog_next (p0.getD (p1).toNat default)).get q6).getD default)).toNat default).Minute < (p0.getD (p1).toNat default).Minute)))) then some true else some false)) (fog_next (p0.getD (p1).toNat default)).keys) fun y6 => (bif y6 then some false else some true)))
def fog_CheckPolicy (p0 : (List Node)) : Option Int :=
 (bif (!(fog_within ((p0.length : Nat) : Int) 1 31)) then some 53 else (rangeGo (fun i2 (s2 : (Mp Bool)) k2 => (joinK (fun (k4 : (Mp Bool) → _) => bindO (fog_isNode p0 (i2 : Int)) fun y5 => (bif (!y5) then some 53 else (bif (!((p0.getD i2 default).Test)) then k4 s2 else (rangeGo (fun i9 (s9 : (Mp Bool)) k9 => (bif ((s9.get (([(p0.getD i2 default).Yes, (p0.getD i2 default).No, (p0.getD i2 default).Maybe] : List Int).getD i9 default)).getD default) then some 53 else k9 (s9.set (([(p0.getD i2 default).Yes, (p0.getD i2 default).No, (p0.getD i2 default).Maybe] : List Int).getD i9 default) true))) (fun (s9 : (Mp Bool)) => k4 s9) (([(p0.getD i2 default).Yes, (p0.getD i2 default).No, (p0.getD i2 default).Maybe] : List Int).length) 0 s2)))) (fun (s4 : (Mp Bool)) => k2 s4))) (fun (s2 : (Mp Bool)) => must (inI (((p0.length : Nat) : Int) - 1)) <| (bif (!decide (((s2.card : Nat) : Int) = (((p0.length : Nat) : Int) - 1))) then some 53 else some 0)) p0.length 0 (Mp.empty : Mp Bool)))
def fog_isNight (p0 : Int) : Bool :=
 (fog_within p0 0 100000)
def fog_isRange (p0 : Range) (p1 : Int) : Bool :=
 (((decide (0 ≤ p0.Lo)) && (decide (p0.Lo ≤ p0.Hi))) && (decide (p0.Hi ≤ p1)))
def fog_isMoment (p0 : Int) : Bool :=
 (fog_within p0 0 144001439)
def fog_CheckReport (p0 : Report) : Int :=
 (bif (((((((!(fog_within p0.Source 1 99999)) || (!(fog_isDistrict p0.District))) || (!(fog_isNight p0.Night))) || (!(fog_isRange (⟨p0.From, p0.To⟩ : Range) 1439))) || (!(fog_isRange p0.Sight 5000))) || (!(fog_isMoment p0.Known))) || ((!decide (p0.Until = 0)) && ((decide (p0.Until ≤ p0.Known)) || (!(fog_isMoment p0.Until))))) then 50 else 0)
def cmp_isNaN_int (p0 : Int) : Bool :=
 (!decide (p0 = p0))
def cmp_Compare_int (p0 : Int) (p1 : Int) : Int :=
 (bif (cmp_isNaN_int p0) then (bif (cmp_isNaN_int p1) then 0 else (-1)) else (bif (cmp_isNaN_int p1) then 1 else (bif (decide (p0 < p1)) then (-1) else (bif (decide (p1 < p0)) then 1 else 0))))
def fog_compare (p0 : Report) (p1 : Report) : Int :=
 (cmp_Compare_int p0.Source p1.Source)
def fog_Check (p0 : (List Report)) : Option Int :=
 (bif (decide (60 < ((p0.length : Nat) : Int))) then some 51 else (rangeGo (fun i2 (s2 : Unit) k2 => must ((((!(!decide ((fog_CheckReport (p0.getD i2 default)) = 0))) && (decide (0 < (i2 : Int)))) = true → (inI ((i2 : Int) - 1)))) <| must ((((!(!decide ((fog_CheckReport (p0.getD i2 default)) = 0))) && (decide (0 < (i2 : Int)))) = true → (0 ≤ (((i2 : Int) - 1) : Int) ∧ (((i2 : Int) - 1) : Int) < ((p0.length : Nat) : Int)))) <| (bif ((!decide ((fog_CheckReport (p0.getD i2 default)) = 0)) || ((decide (0 < (i2 : Int))) && (decide (0 ≤ (fog_compare (p0.getD (((i2 : Int) - 1)).toNat default) (p0.getD i2 default)))))) then some 51 else k2 ())) (fun (s2 : Unit) => some 0) p0.length 0 ()))
def fog_asked (p0 : (List Node)) (p1 : (List Report)) (p2 : Int) (p3 : Int) : Option Int :=
 bindO (fog_CheckPolicy p0) fun y1 => (bif (!decide (y1 = 0)) then some 53 else bindO (fog_Check p1) fun y4 => (bif (!decide (y4 = 0)) then some 51 else (bif ((!(fog_isNight p2)) || (!(fog_isMoment p3))) then some 6 else some 0)))
def fog_moment (p0 : Int) (p1 : Int) : Option Int :=
 must (inI (p0 * 1440)) <| must (inI ((p0 * 1440) + p1)) <| some ((p0 * 1440) + p1)
def slices_Clone_Report (p0 : (List Report)) : Option (List Report) :=
 must (room (([] : List Report) ++ p0).length 72) <| some (([] : List Report) ++ p0)
def slices_IndexFunc_Report (p0 : (List Report)) (p1 : Report → Option Bool) : Option Int :=
 (rangeGo (fun i1 (s1 : Unit) k1 => bindO (p1 (p0.getD i1 default)) fun y3 => (bif y3 then some (i1 : Int) else k1 ())) (fun (s1 : Unit) => some (-1)) p0.length 0 ())
def slices_DeleteFunc_Report (fuel : Nat) (p0 : (List Report)) (p1 : Report → Option Bool) : Option (List Report) :=
 bindO (slices_IndexFunc_Report p0 p1) fun y1 => (bif (decide (y1 = (-1))) then some p0 else must (inI (y1 + 1)) <| (loopGo (fun (s5 : Int × Int × (List Report)) k5 => (bif (decide (s5.2.1 < ((s5.2.2.length : Nat) : Int))) then must (0 ≤ (s5.2.1 : Int) ∧ (s5.2.1 : Int) < ((s5.2.2.length : Nat) : Int)) <| bindO (p1 (s5.2.2.getD (s5.2.1).toNat default)) fun y8 => (bif (!y8) then must (0 ≤ (s5.1 : Int) ∧ (s5.1 : Int) < ((s5.2.2.length : Nat) : Int)) <| must (inI (s5.1 + 1)) <| must (inI (s5.2.1 + 1)) <| k5 ((s5.1 + 1), (s5.2.1 + 1), (s5.2.2.set (s5.1).toNat (s5.2.2.getD (s5.2.1).toNat default))) else must (inI (s5.2.1 + 1)) <| k5 (s5.1, (s5.2.1 + 1), s5.2.2)) else must (0 < s5.2.2.length ∧ 0 ≤ (s5.1 : Int) ∧ (s5.1 : Int) ≤ ((s5.2.2.length : Nat) : Int)) <| must (0 < (copyAt s5.2.2 ((s5.1).toNat) (s5.2.2.length - (s5.1).toNat) (fun _ => (⟨0, 0, 0, 0, 0, (⟨0, 0⟩ : Range), 0, 0⟩ : Report))).length ∧ 0 ≤ (s5.1 : Int) ∧ (s5.1 : Int) ≤ (((copyAt s5.2.2 ((s5.1).toNat) (s5.2.2.length - (s5.1).toNat) (fun _ => (⟨0, 0, 0, 0, 0, (⟨0, 0⟩ : Range), 0, 0⟩ : Report))).length : Nat) : Int)) <| some ((copyAt s5.2.2 ((s5.1).toNat) (s5.2.2.length - (s5.1).toNat) (fun _ => (⟨0, 0, 0, 0, 0, (⟨0, 0⟩ : Range), 0, 0⟩ : Report))).take ((s5.1).toNat)))) fuel (y1, (y1 + 1), p0)))
def fog_counts (p0 : Report) (p1 : Int) : Bool :=
 ((decide (p0.Known ≤ p1)) && ((decide (p0.Until = 0)) || (decide (p1 < p0.Until))))
def fog_see_1 (p0 : Report) (c0 : Int) (c1 : Int) (c2 : Int) : Bool :=
 (((!decide (p0.District = c0)) || (!decide (p0.Night = c1))) || (!(fog_counts p0 c2)))
def fog_see (fuel : Nat) (p0 : (List Report)) (p1 : Int) (p2 : Int) (p3 : Int) : Option (List Report) :=
 bindO (slices_Clone_Report p0) fun y1 => bindO (slices_DeleteFunc_Report fuel y1 (fun x0 => some (fog_see_1 x0 p1 p2 p3))) fun y3 => some y3
def fog_clash (p0 : Report) (p1 : Report) : Bool :=
 (((decide (p0.From ≤ p1.To)) && (decide (p1.From ≤ p0.To))) && ((decide (p1.Sight.Hi < p0.Sight.Lo)) || (decide (p0.Sight.Hi < p1.Sight.Lo))))
def fog_view__pair (p0 : (List Report)) : Option ((List Int) × Bool) :=
 (rangeGo (fun i1 (s1 : Unit) k1 => must ((0 : Int) ≤ ((i1 : Int) + 1) ∧ (((i1 : Int) + 1) : Int) ≤ ((p0.length : Nat) : Int)) <| (rangeGo (fun i4 (s4 : Unit) k4 => (bif (fog_clash (p0.getD i1 default) ((p0.drop (((i1 : Int) + 1)).toNat).getD i4 default)) then some (([(p0.getD i1 default).Source, ((p0.drop (((i1 : Int) + 1)).toNat).getD i4 default).Source] : List Int), true) else k4 ())) (fun (s4 : Unit) => k1 ()) ((p0.drop (((i1 : Int) + 1)).toNat).length) 0 ())) (fun (s1 : Unit) => some ([], false)) p0.length 0 ())
def fog_view__of_1 (c0 : (List Report)) (c1 : Int) : Option (List (Report)) :=
 (rangeGo (fun i1 (s1 : Unit) k1 => emitIf (fog_within c1 ((c0.getD i1 default).From) ((c0.getD i1 default).To)) (c0.getD i1 default) <| k1 ()) (fun (s1 : Unit) => some []) c0.length 0 ())
def fog_view__sight (p0 : (List Report)) (p1 : Int) : Option Range :=
 bindO (fog_view__of_1 p0 p1) fun it1 => (listGo (fun (x1 : Report) (s2 : Range) k2 => k2 (⟨(max s2.Lo x1.Sight.Lo), (min s2.Hi x1.Sight.Hi)⟩ : Range)) (fun (s2 : Range) => some s2) it1 (⟨0, 5000⟩ : Range))
def fog_below (p0 : Range) (p1 : Int) : Int :=
 (bif (decide (p0.Hi < p1)) then 1 else (bif (decide (p1 ≤ p0.Lo)) then 0 else 2))
def fog_tell (fuel : Nat) (p0 : Node) (p1 : (List Report)) (p2 : Int) (p3 : Int) : Option Int :=
 bindO (fog_see fuel p1 p0.District p2 p3) fun y1 => bindO (fog_view__pair y1) fun y3 => (bif y3.2 then some 2 else bindO (fog_view__sight y1 p0.Minute) fun y6 => some (fog_below y6 p0.Limit))
def fog_path (fuel : Nat) (p0 : (List Node)) (p1 : (List Report)) (p2 : Int) : Option (List Int) :=
 (loopGo (fun (s1 : Int × (List Int)) k1 => must (0 ≤ (s1.1 : Int) ∧ (s1.1 : Int) < ((p0.length : Nat) : Int)) <| (bif (p0.getD (s1.1).toNat default).Test then must (0 ≤ (s1.1 : Int) ∧ (s1.1 : Int) < ((p0.length : Nat) : Int)) <| must (0 ≤ (s1.1 : Int) ∧ (s1.1 : Int) < ((p0.length : Nat) : Int)) <| must (0 ≤ (s1.1 : Int) ∧ (s1.1 : Int) < ((p0.length : Nat) : Int)) <| bindO (fog_moment p2 ((p0.getD (s1.1).toNat default).Minute)) fun y7 => bindO (fog_tell fuel (p0.getD (s1.1).toNat default) p1 p2 y7) fun y9 => must (room (s1.2 ++ ([(((fog_next (p0.getD (s1.1).toNat default)).get y9).getD default)] : List Int)).length 8) <| k1 ((((fog_next (p0.getD (s1.1).toNat default)).get y9).getD default), (s1.2 ++ ([(((fog_next (p0.getD (s1.1).toNat default)).get y9).getD default)] : List Int))) else some s1.2)) fuel (0, ([0] : List Int)))
def fog_Path (fuel : Nat) (p0 : (List Node)) (p1 : (List Report)) (p2 : Int) : Option ((List Int) × Int) :=
 bindO (fog_asked p0 p1 p2 0) fun y1 => (bif (!decide (y1 = 0)) then some ([], y1) else bindO (fog_path fuel p0 p1 p2) fun y4 => some (y4, 0))
def gasolierlaw05_reports  : (List Report) :=
 ([(⟨1, 1, 2, 300, 500, (⟨100, 400⟩ : Range), 3180, 0⟩ : Report), (⟨2, 1, 2, 400, 600, (⟨50, 150⟩ : Range), 3350, 0⟩ : Report), (⟨3, 1, 2, 450, 450, (⟨200, 300⟩ : Range), 3480, 0⟩ : Report)] : List Report)
def gasolierlaw05_policy  : (List Node) :=
 ([(⟨true, 1, 480, 200, 1, 2, 3, []⟩ : Node), (⟨false, 0, 0, 0, 0, 0, 0, ([(⟨1, 2⟩ : Send), (⟨2, 1⟩ : Send)] : List Send)⟩ : Node), (⟨false, 0, 0, 0, 0, 0, 0, []⟩ : Node), (⟨false, 0, 0, 0, 0, 0, 0, ([(⟨1, 1⟩ : Send)] : List Send)⟩ : Node)] : List Node)
def gasolierlaw05_runners  : (List Runner) :=
 ([(⟨10, ([1] : List Int)⟩ : Runner), (⟨11, ([1, 2] : List Int)⟩ : Runner), (⟨12, ([2] : List Int)⟩ : Runner)] : List Runner)
def fog_query__view (fuel : Nat) (p0 : fog_query) (p1 : (List Report)) : Option ((List Report) × Int) :=
 bindO (fog_Check p1) fun y1 => (bif (!decide (y1 = 0)) then some ([], 51) else (bif ((((!(fog_isDistrict p0.district)) || (!(fog_isMinute p0.minute))) || (!(fog_isRange p0.time 1439))) || (!(fog_within p0.limit 1 5000))) then some ([], 1) else (bif ((!(fog_isNight p0.night)) || (!(fog_isMoment p0.moment))) then some ([], 6) else bindO (fog_see fuel p1 p0.district p0.night p0.moment) fun y6 => some (y6, 0))))
def fog_query__clear (fuel : Nat) (p0 : fog_query) (p1 : (List Report)) : Option ((List Report) × Int) :=
 bindO (fog_query__view fuel p0 p1) fun y1 => (bif (!decide (y1.2 = 0)) then some ([], y1.2) else bindO (fog_view__pair y1.1) fun y4 => (bif y4.2 then some ([], 52) else some (y1.1, 0)))
def fog_Sight (fuel : Nat) (p0 : (List Report)) (p1 : Int) (p2 : Int) (p3 : Int) (p4 : Int) : Option (Range × Int) :=
 bindO (fog_query__clear fuel (⟨p1, p2, p4, p3, (⟨0, 0⟩ : Range), 1⟩ : fog_query) p0) fun y1 => (bif (!decide (y1.2 = 0)) then some ((⟨0, 0⟩ : Range), y1.2) else bindO (fog_view__sight y1.1 p3) fun y4 => some (y4, 0))
def fog_Below (fuel : Nat) (p0 : (List Report)) (p1 : Int) (p2 : Int) (p3 : Int) (p4 : Int) (p5 : Int) : Option (Int × Int) :=
 bindO (fog_query__clear fuel (⟨p1, p2, p5, p3, (⟨0, 0⟩ : Range), p4⟩ : fog_query) p0) fun y1 => (bif (!decide (y1.2 = 0)) then some (0, y1.2) else bindO (fog_view__sight y1.1 p3) fun y4 => some ((fog_below y4 p4), 0))
def fog_Clash (fuel : Nat) (p0 : (List Report)) (p1 : Int) (p2 : Int) (p3 : Int) : Option ((List Int) × Int) :=
 bindO (fog_query__view fuel (⟨p1, p2, p3, 0, (⟨0, 0⟩ : Range), 1⟩ : fog_query) p0) fun y1 => (bif (!decide (y1.2 = 0)) then some ([], y1.2) else bindO (fog_view__pair y1.1) fun y4 => (bif (!y4.2) then some ([], 3) else some (y4.1, 0)))
def fog_Worst (fuel : Nat) (p0 : (List Report)) (p1 : Int) (p2 : Int) (p3 : Range) (p4 : Int) : Option (Range × Int) :=
 bindO (fog_query__clear fuel (⟨p1, p2, p4, 0, p3, 1⟩ : fog_query) p0) fun y1 => (bif (!decide (y1.2 = 0)) then some ((⟨0, 0⟩ : Range), y1.2) else bindO (fog_view__sight y1.1 p3.Lo) fun y4 => must (inI (p3.Lo + 1)) <| (loopGo (fun (s7 : Int × Range) k7 => (bif (decide (s7.1 ≤ p3.Hi)) then bindO (fog_view__sight y1.1 s7.1) fun y9 => must (inI (s7.1 + 1)) <| k7 ((s7.1 + 1), (⟨(min s7.2.Lo y9.Lo), (min s7.2.Hi y9.Hi)⟩ : Range)) else some (s7.2, 0))) fuel ((p3.Lo + 1), y4)))
def fog_possible_1_l_F (fuel : Nat) (rec : Int → (List Node) → (List Int) → Int → (List Report) → Int → Option (List Int)) (p0 : Int) (c0 : (List Node)) (c1 : (List Int)) (c2 : Int) (c3 : (List Report)) (c4 : Int) : Option (List Int) :=
 must (0 ≤ (p0 : Int) ∧ (p0 : Int) < ((c0.length : Nat) : Int)) <| (bif (!((c0.getD (p0).toNat default).Test)) then must (room (c1 ++ ([p0] : List Int)).length 8) <| some (c1 ++ ([p0] : List Int)) else bindO (fog_moment c2 ((c0.getD (p0).toNat default).Minute)) fun y4 => bindO (fog_tell fuel (c0.getD (p0).toNat default) c3 c2 (min y4 c4)) fun y6 => (bif ((decide (c4 < y4)) && (decide (y6 = 2))) then (rangeGo (fun i9 (s9 : (List Int)) k9 => bindO (rec (([(c0.getD (p0).toNat default).Yes, (c0.getD (p0).toNat default).No, (c0.getD (p0).toNat default).Maybe] : List Int).getD i9 default) c0 s9 c2 c3 c4) fun y11 => k9 y11) (fun (s9 : (List Int)) => some s9) (([(c0.getD (p0).toNat default).Yes, (c0.getD (p0).toNat default).No, (c0.getD (p0).toNat default).Maybe] : List Int).length) 0 c1) else bindO (rec (((fog_next (c0.getD (p0).toNat default)).get y6).getD default) c0 c1 c2 c3 c4) fun y13 => some y13))
def fog_possible_1_l (fuel : Nat) : Nat → Int → (List Node) → (List Int) → Int → (List Report) → Int → Option (List Int)
 | 0 => fun _ _ _ _ _ _ => none
 | n + 1 => fog_possible_1_l_F fuel (fog_possible_1_l fuel n)
def fog_possible (fuel : Nat) (p0 : (List Node)) (p1 : (List Report)) (p2 : Int) (p3 : Int) : Option (List Int) :=
 bindO (fog_possible_1_l fuel fuel 0 p0 ([] : List Int) p2 p1 p3) fun y1 => bindO (slices_Sort_int_l y1) fun y3 => must (y3.length = y1.length) <| some y3
def fog_Possible (fuel : Nat) (p0 : (List Node)) (p1 : (List Report)) (p2 : Int) (p3 : Int) : Option ((List Int) × Int) :=
 bindO (fog_asked p0 p1 p2 p3) fun y1 => (bif (!decide (y1 = 0)) then some ([], y1) else bindO (fog_possible fuel p0 p1 p2 p3) fun y4 => some (y4, 0))
def fog_CheckRunners (p0 : (List Runner)) : Option Int :=
 (bif (decide (20 < ((p0.length : Nat) : Int))) then some 54 else (rangeGo (fun i2 (s2 : Unit) k2 => must ((((!(!(fog_within ((p0.getD i2 default).Id) 1 99))) && (decide (0 < (i2 : Int)))) = true → (inI ((i2 : Int) - 1)))) <| must ((((!(!(fog_within ((p0.getD i2 default).Id) 1 99))) && (decide (0 < (i2 : Int)))) = true → (0 ≤ (((i2 : Int) - 1) : Int) ∧ (((i2 : Int) - 1) : Int) < ((p0.length : Nat) : Int)))) <| (bif (((!(fog_within ((p0.getD i2 default).Id) 1 99)) || ((decide (0 < (i2 : Int))) && (decide ((p0.getD i2 default).Id ≤ (p0.getD (((i2 : Int) - 1)).toNat default).Id)))) || (!(fog_within ((((p0.getD i2 default).Districts).length : Nat) : Int) 1 9))) then some 54 else (rangeGo (fun i7 (s7 : Unit) k7 => must ((((!(!(fog_isDistrict (((p0.getD i2 default).Districts).getD i7 default)))) && (decide (0 < (i7 : Int)))) = true → (inI ((i7 : Int) - 1)))) <| must ((((!(!(fog_isDistrict (((p0.getD i2 default).Districts).getD i7 default)))) && (decide (0 < (i7 : Int)))) = true → (0 ≤ (((i7 : Int) - 1) : Int) ∧ (((i7 : Int) - 1) : Int) < ((((p0.getD i2 default).Districts).length : Nat) : Int)))) <| (bif ((!(fog_isDistrict (((p0.getD i2 default).Districts).getD i7 default))) || ((decide (0 < (i7 : Int))) && (decide ((((p0.getD i2 default).Districts).getD i7 default) ≤ (((p0.getD i2 default).Districts).getD (((i7 : Int) - 1)).toNat default))))) then some 54 else k7 ())) (fun (s7 : Unit) => k2 ()) (((p0.getD i2 default).Districts).length) 0 ()))) (fun (s2 : Unit) => some 0) p0.length 0 ()))
def fog_leaf (p0 : (List Node)) (p1 : (List Runner)) (p2 : Int) : Option (Node × Int) :=
 bindO (fog_CheckPolicy p0) fun y1 => (bif (!decide (y1 = 0)) then some ((⟨false, 0, 0, 0, 0, 0, 0, []⟩ : Node), 53) else bindO (fog_CheckRunners p1) fun y4 => (bif (!decide (y4 = 0)) then some ((⟨false, 0, 0, 0, 0, 0, 0, []⟩ : Node), 54) else must (inI (((p0.length : Nat) : Int) - 1)) <| must (((!(!(fog_within p2 0 (((p0.length : Nat) : Int) - 1)))) = true → (0 ≤ (p2 : Int) ∧ (p2 : Int) < ((p0.length : Nat) : Int)))) <| (bif ((!(fog_within p2 0 (((p0.length : Nat) : Int) - 1))) || ((p0.getD (p2).toNat default).Test)) then some ((⟨false, 0, 0, 0, 0, 0, 0, []⟩ : Node), 55) else must (0 ≤ (p2 : Int) ∧ (p2 : Int) < ((p0.length : Nat) : Int)) <| some ((p0.getD (p2).toNat default), 0))))
def fog_places (p0 : Node) : Option (List Int) :=
 (rangeGo (fun i1 (s1 : (List Int)) k1 => must (((p0.Sends.getD i1 default).Many).toNat ≤ 9223372036854775807) <| (rangeGo (fun i3 (s3 : (List Int)) k3 => must (room (s3 ++ ([(p0.Sends.getD i1 default).District] : List Int)).length 8) <| k3 (s3 ++ ([(p0.Sends.getD i1 default).District] : List Int))) (fun (s3 : (List Int)) => k1 s3) (((p0.Sends.getD i1 default).Many).toNat) 0 s1)) (fun (s1 : (List Int)) => some s1) p0.Sends.length 0 ([] : List Int))
def slices_Index_int (p0 : (List Int)) (p1 : Int) : Option Int :=
 (rangeGo (fun i1 (s1 : Unit) k1 => (bif (decide (p1 = (p0.getD i1 default))) then some (i1 : Int) else k1 ())) (fun (s1 : Unit) => some (-1)) p0.length 0 ())
def slices_Contains_int (p0 : (List Int)) (p1 : Int) : Option Bool :=
 bindO (slices_Index_int p0 p1) fun y1 => some (decide (0 ≤ y1))
def fog_giver__may (p0 : fog_giver) (p1 : Int) (p2 : Int) : Option Bool :=
 must (0 ≤ (p1 : Int) ∧ (p1 : Int) < ((p0.barred.length : Nat) : Int)) <| must (((!(p0.barred.getD (p1).toNat default)) = true → (0 ≤ (p1 : Int) ∧ (p1 : Int) < ((p0.runners.length : Nat) : Int)))) <| must (((!(p0.barred.getD (p1).toNat default)) = true → (0 ≤ (p2 : Int) ∧ (p2 : Int) < ((p0.places.length : Nat) : Int)))) <| bindO ((bif (!(p0.barred.getD (p1).toNat default)) then slices_Contains_int ((p0.runners.getD (p1).toNat default).Districts) (p0.places.getD (p2).toNat default) else some default)) fun y4 => some ((!(p0.barred.getD (p1).toNat default)) && y4)
def fog_giver__step_l_F (fuel : Nat) (rec : fog_giver → Int → (List Bool) → Option (Bool × fog_giver × (List Bool))) (p0 : fog_giver) (p1 : Int) (p2 : (List Bool)) : Option (Bool × fog_giver × (List Bool)) :=
 must (p0.runners.length ≤ 9223372036854775807) <| (rangeGo (fun i1 (s1 : (List Int) × (List Bool) × (List Bool) × (List Runner) × (List Int)) k1 => (joinK (fun (k3 : (List Runner) × (List Int) × (List Int) × (List Bool) × (List Bool) → _) => must (0 ≤ ((i1 : Int) : Int) ∧ ((i1 : Int) : Int) < ((s1.2.2.1.length : Nat) : Int)) <| bindO ((bif (!(s1.2.2.1.getD i1 default)) then fog_giver__may (⟨s1.2.2.2.1, s1.2.2.2.2, s1.1, s1.2.1⟩ : fog_giver) (i1 : Int) p1 else some default)) fun y5 => (bif ((s1.2.2.1.getD i1 default) || (!y5)) then k3 (s1.2.2.2.1, s1.2.2.2.2, s1.1, s1.2.1, s1.2.2.1) else must (0 ≤ ((i1 : Int) : Int) ∧ ((i1 : Int) : Int) < ((s1.2.2.1.length : Nat) : Int)) <| must (0 ≤ ((i1 : Int) : Int) ∧ ((i1 : Int) : Int) < ((s1.1.length : Nat) : Int)) <| must (((!(decide ((s1.1.getD i1 default) < 0))) = true → (0 ≤ ((i1 : Int) : Int) ∧ ((i1 : Int) : Int) < ((s1.1.length : Nat) : Int)))) <| bindO ((bif (!(decide ((s1.1.getD i1 default) < 0))) then rec (⟨s1.2.2.2.1, s1.2.2.2.2, s1.1, s1.2.1⟩ : fog_giver) (s1.1.getD i1 default) (s1.2.2.1.set i1 true) else some (default, (⟨s1.2.2.2.1, s1.2.2.2.2, s1.1, s1.2.1⟩ : fog_giver), (s1.2.2.1.set i1 true)))) fun y11 => must (y11.2.1.of.length = s1.1.length) <| must (y11.2.2.length = (s1.2.2.1.set i1 true).length) <| (bif ((decide ((s1.1.getD i1 default) < 0)) || y11.1) then must (0 ≤ ((i1 : Int) : Int) ∧ ((i1 : Int) : Int) < ((y11.2.1.of.length : Nat) : Int)) <| some (true, (⟨y11.2.1.runners, y11.2.1.places, (y11.2.1.of.set i1 p1), y11.2.1.barred⟩ : fog_giver), y11.2.2) else k3 (y11.2.1.runners, y11.2.1.places, y11.2.1.of, y11.2.1.barred, y11.2.2)))) (fun (s3 : (List Runner) × (List Int) × (List Int) × (List Bool) × (List Bool)) => k1 (s3.2.2.1, s3.2.2.2.1, s3.2.2.2.2, s3.1, s3.2.1)))) (fun (s1 : (List Int) × (List Bool) × (List Bool) × (List Runner) × (List Int)) => some (false, (⟨s1.2.2.2.1, s1.2.2.2.2, s1.1, s1.2.1⟩ : fog_giver), s1.2.2.1)) p0.runners.length 0 (p0.of, p0.barred, p2, p0.runners, p0.places))
def fog_giver__step_l (fuel : Nat) : Nat → fog_giver → Int → (List Bool) → Option (Bool × fog_giver × (List Bool))
 | 0 => fun _ _ _ => none
 | n + 1 => fog_giver__step_l_F fuel (fog_giver__step_l fuel n)
def fog_giver__full_l (fuel : Nat) (p0 : fog_giver) (p1 : Int) : Option (Bool × fog_giver) :=
 must (p0.of.length ≤ 9223372036854775807) <| (rangeGo (fun i1 (s1 : (List Int)) k1 => must (0 ≤ ((i1 : Int) : Int) ∧ ((i1 : Int) : Int) < ((s1.length : Nat) : Int)) <| k1 (s1.set i1 (-1))) (fun (s1 : (List Int)) => (loopGo (fun (s4 : Int × (List Int) × (List Bool) × (List Runner) × (List Int)) k4 => (bif (decide (s4.1 < ((s4.2.2.2.2.length : Nat) : Int))) then must (0 ≤ (((s4.2.2.2.1.length : Nat) : Int) : Int) ∧ (((s4.2.2.2.1.length : Nat) : Int) : Int) ≤ ((s4.2.2.2.1.length : Nat) : Int) ∧ room (((s4.2.2.2.1.length : Nat) : Int) : Int).toNat 1) <| bindO (fog_giver__step_l fuel fuel (⟨s4.2.2.2.1, s4.2.2.2.2, s4.2.1, s4.2.2.1⟩ : fog_giver) s4.1 (List.replicate (((s4.2.2.2.1.length : Nat) : Int)).toNat (false : Bool))) fun y7 => (bif (!y7.1) then some (false, y7.2.1) else must (inI (s4.1 + 1)) <| k4 ((s4.1 + 1), y7.2.1.of, y7.2.1.barred, y7.2.1.runners, y7.2.1.places)) else some (true, (⟨s4.2.2.2.1, s4.2.2.2.2, s4.2.1, s4.2.2.1⟩ : fog_giver)))) fuel (p1, s1, p0.barred, p0.runners, p0.places))) p0.of.length 0 p0.of)
def fog_give (fuel : Nat) (p0 : Node) (p1 : (List Runner)) : Option ((List Int) × Bool) :=
 bindO (fog_places p0) fun y1 => must (0 ≤ (((p1.length : Nat) : Int) : Int) ∧ (((p1.length : Nat) : Int) : Int) ≤ ((p1.length : Nat) : Int) ∧ room (((p1.length : Nat) : Int) : Int).toNat 8) <| must (0 ≤ (((p1.length : Nat) : Int) : Int) ∧ (((p1.length : Nat) : Int) : Int) ≤ ((p1.length : Nat) : Int) ∧ room (((p1.length : Nat) : Int) : Int).toNat 1) <| bindO (fog_giver__full_l fuel (⟨p1, y1, (List.replicate (((p1.length : Nat) : Int)).toNat (0 : Int)), (List.replicate (((p1.length : Nat) : Int)).toNat (false : Bool))⟩ : fog_giver) 0) fun y5 => (bif (!y5.1) then some ([], false) else must (y5.2.places.length ≤ 9223372036854775807) <| (rangeGo (fun i8 (s8 : (List Int) × (List Bool) × (List Int) × (List Runner) × (List Int)) k8 => (joinK (fun (k10 : (List Int) × (List Bool) × (List Runner) × (List Int) × (List Int) → _) => (rangeGo (fun i11 (s11 : (List Int) × (List Bool) × (List Runner) × (List Int)) k11 => (joinK (fun (k13 : (List Int) × (List Bool) × (List Runner) × (List Int) → _) => bindO (fog_giver__may (⟨s11.2.2.1, s11.2.2.2, s11.1, s11.2.1⟩ : fog_giver) (i11 : Int) (i8 : Int)) fun y14 => (bif (!y14) then k13 (s11.1, s11.2.1, s11.2.2.1, s11.2.2.2) else must (0 ≤ ((i11 : Int) : Int) ∧ ((i11 : Int) : Int) < ((s11.2.1.length : Nat) : Int)) <| bindO (fog_giver__full_l fuel (⟨s11.2.2.1, s11.2.2.2, s11.1, (s11.2.1.set i11 true)⟩ : fog_giver) ((i8 : Int) + 1)) fun y18 => (bif y18.1 then must (room (s8.2.2.1 ++ ([(p1.getD i11 default).Id] : List Int)).length 8) <| k10 (y18.2.of, y18.2.barred, y18.2.runners, y18.2.places, (s8.2.2.1 ++ ([(p1.getD i11 default).Id] : List Int))) else must (0 ≤ ((i11 : Int) : Int) ∧ ((i11 : Int) : Int) < ((y18.2.barred.length : Nat) : Int)) <| k13 (y18.2.of, (y18.2.barred.set i11 false), y18.2.runners, y18.2.places)))) (fun (s13 : (List Int) × (List Bool) × (List Runner) × (List Int)) => k11 (s13.1, s13.2.1, s13.2.2.1, s13.2.2.2)))) (fun (s11 : (List Int) × (List Bool) × (List Runner) × (List Int)) => k10 (s11.1, s11.2.1, s11.2.2.1, s11.2.2.2, s8.2.2.1)) p1.length 0 (s8.1, s8.2.1, s8.2.2.2.1, s8.2.2.2.2))) (fun (s10 : (List Int) × (List Bool) × (List Runner) × (List Int) × (List Int)) => k8 (s10.1, s10.2.1, s10.2.2.2.2, s10.2.2.1, s10.2.2.2.1)))) (fun (s8 : (List Int) × (List Bool) × (List Int) × (List Runner) × (List Int)) => some (s8.2.2.1, true)) y5.2.places.length 0 (y5.2.of, y5.2.barred, ([] : List Int), y5.2.runners, y5.2.places)))
def fog_Assign (fuel : Nat) (p0 : (List Node)) (p1 : (List Runner)) (p2 : Int) : Option ((List Int) × Int) :=
 bindO (fog_leaf p0 p1 p2) fun y1 => (bif (!decide (y1.2 = 0)) then some ([], y1.2) else bindO (fog_give fuel y1.1 p1) fun y4 => (bif (!y4.2) then some ([], 57) else some (y4.1, 0)))
def fog_sum (p0 : (List Int)) : Option Int :=
 (rangeGo (fun i1 (s1 : Int) k1 => must (inI (s1 + (p0.getD i1 default))) <| k1 (s1 + (p0.getD i1 default))) (fun (s1 : Int) => some s1) p0.length 0 0)
def slices_IndexFunc_int (p0 : (List Int)) (p1 : Int → Option Bool) : Option Int :=
 (rangeGo (fun i1 (s1 : Unit) k1 => bindO (p1 (p0.getD i1 default)) fun y3 => (bif y3 then some (i1 : Int) else k1 ())) (fun (s1 : Unit) => some (-1)) p0.length 0 ())
def slices_ContainsFunc_int (p0 : (List Int)) (p1 : Int → Option Bool) : Option Bool :=
 bindO (slices_IndexFunc_int p0 p1) fun y1 => some (decide (0 ≤ y1))
def fog_few_1 (p0 : Int) (c0 : (List Int)) : Option Bool :=
 bindO (slices_Contains_int c0 p0) fun y1 => some y1
def fog_few (p0 : Node) (p1 : (List Runner)) (p2 : (List Int)) : Option Bool :=
 (rangeGo (fun i1 (s1 : Int) k1 => bindO (slices_Contains_int p2 ((p0.Sends.getD i1 default).District)) fun y3 => (bif y3 then bindO (fog_sum ([s1, (p0.Sends.getD i1 default).Many] : List Int)) fun y6 => k1 y6 else k1 s1)) (fun (s1 : Int) => (rangeGo (fun i8 (s8 : Int) k8 => bindO (slices_ContainsFunc_int ((p1.getD i8 default).Districts) (fun x0 => fog_few_1 x0 p2)) fun y10 => (bif y10 then must (inI (s8 + 1)) <| k8 (s8 + 1) else k8 s8)) (fun (s8 : Int) => some (decide (s8 < s1))) p1.length 0 0)) p0.Sends.length 0 0)
def fog_some (p0 : Node) (p1 : (List Runner)) (p2 : (List Int)) : Option Bool :=
 must (0 ≤ (((p2.length : Nat) : Int) : Int) ∧ (((p2.length : Nat) : Int) : Int) < 64 ∧ inI ((1 : Int) * 2 ^ (((p2.length : Nat) : Int) : Int).toNat)) <| must ((((1 : Int) * 2 ^ (((p2.length : Nat) : Int) : Int).toNat)).toNat ≤ 9223372036854775807) <| (rangeGo (fun i2 (s2 : Unit) k2 => (rangeGo (fun i4 (s4 : (List Int)) k4 => must (0 ≤ ((i4 : Int) : Int) ∧ ((i4 : Int) : Int) < 64) <| must (0 ≤ ((Int.fdiv (i2 : Int) (2 ^ ((i4 : Int) : Int).toNat)) : Int) ∧ 0 ≤ (1 : Int) ∧ inI (Int.fdiv (i2 : Int) (2 ^ ((i4 : Int) : Int).toNat)) ∧ inI 1) <| (bif (decide (((((Int.fdiv (i2 : Int) (2 ^ ((i4 : Int) : Int).toNat)) : Int).toNat &&& (1 : Int).toNat : Nat) : Int) = 1)) then must (room (s4 ++ ([(p2.getD i4 default)] : List Int)).length 8) <| k4 (s4 ++ ([(p2.getD i4 default)] : List Int)) else k4 s4)) (fun (s4 : (List Int)) => bindO (fog_few p0 p1 s4) fun y10 => (bif y10 then some true else k2 ())) p2.length 0 ([] : List Int))) (fun (s2 : Unit) => some false) ((((1 : Int) * 2 ^ (((p2.length : Nat) : Int) : Int).toNat)).toNat) 0 ())
def slices_Clone_int (p0 : (List Int)) : Option (List Int) :=
 must (room (([] : List Int) ++ p0).length 8) <| some (([] : List Int) ++ p0)
def slices_Delete_int (p0 : (List Int)) (p1 : Int) (p2 : Int) : Option (List Int) :=
 must (0 ≤ (p1 : Int) ∧ (p1 : Int) ≤ p2 ∧ (p2 : Int) ≤ ((p0.length : Nat) : Int) ∧ (((p0.length : Nat) : Int) : Int) ≤ ((p0.length : Nat) : Int)) <| (bif (decide (p1 = p2)) then some p0 else must (0 < p0.length ∧ 0 ≤ (p1 : Int) ∧ (p1 : Int) ≤ ((p0.length : Nat) : Int)) <| must (0 < p0.length ∧ 0 ≤ (p2 : Int) ∧ (p2 : Int) ≤ ((p0.length : Nat) : Int)) <| must ((p1).toNat ≤ (p2).toNat) <| must (0 ≤ ((((p0.take ((p1).toNat) ++ p0.drop ((p2).toNat)).length : Nat) : Int) : Int) ∧ ((((p0.take ((p1).toNat) ++ p0.drop ((p2).toNat)).length : Nat) : Int) : Int) ≤ ((p0.length : Nat) : Int) ∧ (((p0.length : Nat) : Int) : Int) ≤ ((p0.length : Nat) : Int)) <| some (p0.take ((p1).toNat) ++ p0.drop ((p2).toNat)))
def fog_Short (fuel : Nat) (p0 : (List Node)) (p1 : (List Runner)) (p2 : Int) : Option ((List Int) × Int) :=
 bindO (fog_leaf p0 p1 p2) fun y1 => (bif (!decide (y1.2 = 0)) then some ([], y1.2) else (rangeGo (fun i4 (s4 : (List Int)) k4 => must (room (s4 ++ ([(y1.1.Sends.getD i4 default).District] : List Int)).length 8) <| k4 (s4 ++ ([(y1.1.Sends.getD i4 default).District] : List Int))) (fun (s4 : (List Int)) => bindO (fog_some y1.1 p1 s4) fun y7 => (bif (!y7) then some ([], 58) else must (inI (((s4.length : Nat) : Int) - 1)) <| (loopGo (fun (s11 : Int × (List Int)) k11 => (bif (decide (0 ≤ s11.1)) then bindO (slices_Clone_int s11.2) fun y13 => must (inI (s11.1 + 1)) <| bindO (slices_Delete_int y13 s11.1 (s11.1 + 1)) fun y16 => bindO (fog_some y1.1 p1 y16) fun y18 => (bif y18 then must (inI (s11.1 - 1)) <| k11 ((s11.1 - 1), y16) else must (inI (s11.1 - 1)) <| k11 ((s11.1 - 1), s11.2)) else some (s11.2, 0))) fuel ((((s4.length : Nat) : Int) - 1), s4)))) y1.1.Sends.length 0 ([] : List Int)))
def fog_Moved_1 (p0 : Report) (c0 : Int) : Bool :=
 (decide (p0.Source = c0))
def slices_Delete_Report (p0 : (List Report)) (p1 : Int) (p2 : Int) : Option (List Report) :=
 must (0 ≤ (p1 : Int) ∧ (p1 : Int) ≤ p2 ∧ (p2 : Int) ≤ ((p0.length : Nat) : Int) ∧ (((p0.length : Nat) : Int) : Int) ≤ ((p0.length : Nat) : Int)) <| (bif (decide (p1 = p2)) then some p0 else must (0 < p0.length ∧ 0 ≤ (p1 : Int) ∧ (p1 : Int) ≤ ((p0.length : Nat) : Int)) <| must (0 < p0.length ∧ 0 ≤ (p2 : Int) ∧ (p2 : Int) ≤ ((p0.length : Nat) : Int)) <| must ((p1).toNat ≤ (p2).toNat) <| must (0 ≤ ((((p0.take ((p1).toNat) ++ p0.drop ((p2).toNat)).length : Nat) : Int) : Int) ∧ ((((p0.take ((p1).toNat) ++ p0.drop ((p2).toNat)).length : Nat) : Int) : Int) ≤ ((p0.length : Nat) : Int) ∧ (((p0.length : Nat) : Int) : Int) ≤ ((p0.length : Nat) : Int)) <| some (p0.take ((p1).toNat) ++ p0.drop ((p2).toNat)))
def fog_Moved (fuel : Nat) (p0 : (List Node)) (p1 : (List Report)) (p2 : Int) (p3 : Int) (p4 : Int) : Option (Bool × (List Int) × Int) :=
 bindO (fog_asked p0 p1 p3 p4) fun y1 => (bif (!decide (y1 = 0)) then some (false, [], y1) else bindO (slices_IndexFunc_Report p1 (fun x0 => some (fog_Moved_1 x0 p2))) fun y4 => (bif (decide (y4 < 0)) then some (false, [], 3) else bindO (slices_Clone_Report p1) fun y7 => must (inI (y4 + 1)) <| bindO (slices_Delete_Report y7 y4 (y4 + 1)) fun y10 => bindO (fog_path fuel p0 p1 p3) fun y12 => bindO (fog_path fuel p0 y10 p3) fun y14 => must (0 ≤ (y4 : Int) ∧ (y4 : Int) < ((p1.length : Nat) : Int)) <| bindO (fog_see fuel p1 ((p1.getD (y4).toNat default).District) p3 p4) fun y17 => must (0 ≤ (y4 : Int) ∧ (y4 : Int) < ((p1.length : Nat) : Int)) <| bindO (fog_see fuel y10 ((p1.getD (y4).toNat default).District) p3 p4) fun y20 => bindO (fog_view__pair y17) fun y22 => bindO (fog_view__pair y20) fun y24 => (rangeGo (fun i26 (s26 : (List Int)) k26 => bindO ((bif ((!(!(y22.2 == y24.2))) && (!y22.2)) then fog_view__sight y17 (i26 : Int) else some default)) fun y28 => bindO ((bif ((!(!(y22.2 == y24.2))) && (!y22.2)) then fog_view__sight y20 (i26 : Int) else some default)) fun y30 => (bif ((!(y22.2 == y24.2)) || ((!y22.2) && (!((decide (y28.Lo = y30.Lo)) && (decide (y28.Hi = y30.Hi)))))) then must (room (s26 ++ ([(i26 : Int)] : List Int)).length 8) <| k26 (s26 ++ ([(i26 : Int)] : List Int)) else k26 s26)) (fun (s26 : (List Int)) => must (inI (((y12.length : Nat) : Int) - 1)) <| must (0 ≤ ((((y12.length : Nat) : Int) - 1) : Int) ∧ ((((y12.length : Nat) : Int) - 1) : Int) < ((y12.length : Nat) : Int)) <| must (inI (((y14.length : Nat) : Int) - 1)) <| must (0 ≤ ((((y14.length : Nat) : Int) - 1) : Int) ∧ ((((y14.length : Nat) : Int) - 1) : Int) < ((y14.length : Nat) : Int)) <| some ((!decide ((y12.getD ((((y12.length : Nat) : Int) - 1)).toNat default) = (y14.getD ((((y14.length : Nat) : Int) - 1)).toNat default))), s26, 0)) 1440 0 ([] : List Int))))
def gasolierref05_Same (fuel : Nat) (p0 : (List Int)) (p1 : (List Int)) : Option Bool :=
 (bif (!decide (((p0.length : Nat) : Int) = ((p1.length : Nat) : Int))) then some false else (loopGo (fun (s2 : Int) k2 => (bif (decide (s2 < ((p0.length : Nat) : Int))) then must (0 ≤ (s2 : Int) ∧ (s2 : Int) < ((p0.length : Nat) : Int)) <| must (0 ≤ (s2 : Int) ∧ (s2 : Int) < ((p1.length : Nat) : Int)) <| (bif (!decide ((p0.getD (s2).toNat default) = (p1.getD (s2).toNat default))) then some false else must (inI (s2 + 1)) <| k2 (s2 + 1)) else some true)) fuel 0))
def gasolierlaw05_sane (fuel : Nat) : Option Bool :=
 must (0 ≤ (0 : Int) ∧ (0 : Int) < (((gasolierlaw05_runners).length : Nat) : Int)) <| must (0 ≤ (2 : Int) ∧ (2 : Int) < (((gasolierlaw05_runners).length : Nat) : Int)) <| bindO (fog_Sight fuel (gasolierlaw05_reports) 1 2 450 3400) fun y3 => bindO (fog_Below fuel (gasolierlaw05_reports) 1 2 450 200 3300) fun y5 => bindO (fog_Clash fuel (gasolierlaw05_reports) 1 2 3500) fun y7 => bindO (fog_Worst fuel (gasolierlaw05_reports) 1 2 (⟨300, 600⟩ : Range) 3400) fun y9 => bindO (fog_Path fuel (gasolierlaw05_policy) (gasolierlaw05_reports) 2) fun y11 => bindO (fog_Possible fuel (gasolierlaw05_policy) (gasolierlaw05_reports) 2 3300) fun y13 => bindO (fog_Assign fuel (gasolierlaw05_policy) (gasolierlaw05_runners) 1) fun y15 => bindO (fog_Short fuel (gasolierlaw05_policy) ([((gasolierlaw05_runners).getD 0 default), ((gasolierlaw05_runners).getD 2 default)] : List Runner) 1) fun y17 => bindO (fog_Moved fuel (gasolierlaw05_policy) (gasolierlaw05_reports) 2 2 3400) fun y19 => bindO ((bif (((decide (y3.1.Lo = 100)) && (decide (y3.1.Hi = 150))) && (decide (y5.1 = 2))) then gasolierref05_Same fuel y7.1 ([2, 3] : List Int) else some default)) fun y21 => bindO ((bif (((((decide (y3.1.Lo = 100)) && (decide (y3.1.Hi = 150))) && (decide (y5.1 = 2))) && y21) && ((decide (y9.1.Lo = 50)) && (decide (y9.1.Hi = 150)))) then gasolierref05_Same fuel y11.1 ([0, 1] : List Int) else some default)) fun y23 => bindO ((bif ((((((((((decide (y3.2 = 0)) && (decide (y5.2 = 0))) && (decide (y7.2 = 0))) && (decide (y9.2 = 0))) && (decide (y11.2 = 0))) && (decide (y13.2 = 0))) && (decide (y15.2 = 0))) && (decide (y17.2 = 0))) && (decide (y19.2.2 = 0))) && ((((((decide (y3.1.Lo = 100)) && (decide (y3.1.Hi = 150))) && (decide (y5.1 = 2))) && y21) && ((decide (y9.1.Lo = 50)) && (decide (y9.1.Hi = 150)))) && y23)) then gasolierref05_Same fuel y13.1 ([1, 2, 3] : List Int) else some default)) fun y25 => bindO ((bif (((((((((((decide (y3.2 = 0)) && (decide (y5.2 = 0))) && (decide (y7.2 = 0))) && (decide (y9.2 = 0))) && (decide (y11.2 = 0))) && (decide (y13.2 = 0))) && (decide (y15.2 = 0))) && (decide (y17.2 = 0))) && (decide (y19.2.2 = 0))) && ((((((decide (y3.1.Lo = 100)) && (decide (y3.1.Hi = 150))) && (decide (y5.1 = 2))) && y21) && ((decide (y9.1.Lo = 50)) && (decide (y9.1.Hi = 150)))) && y23)) && y25) then gasolierref05_Same fuel y15.1 ([10, 11, 12] : List Int) else some default)) fun y27 => bindO ((bif ((((((((((((decide (y3.2 = 0)) && (decide (y5.2 = 0))) && (decide (y7.2 = 0))) && (decide (y9.2 = 0))) && (decide (y11.2 = 0))) && (decide (y13.2 = 0))) && (decide (y15.2 = 0))) && (decide (y17.2 = 0))) && (decide (y19.2.2 = 0))) && ((((((decide (y3.1.Lo = 100)) && (decide (y3.1.Hi = 150))) && (decide (y5.1 = 2))) && y21) && ((decide (y9.1.Lo = 50)) && (decide (y9.1.Hi = 150)))) && y23)) && y25) && y27) then gasolierref05_Same fuel y17.1 ([1] : List Int) else some default)) fun y29 => must (((((((((((((((((decide (y3.2 = 0)) && (decide (y5.2 = 0))) && (decide (y7.2 = 0))) && (decide (y9.2 = 0))) && (decide (y11.2 = 0))) && (decide (y13.2 = 0))) && (decide (y15.2 = 0))) && (decide (y17.2 = 0))) && (decide (y19.2.2 = 0))) && ((((((decide (y3.1.Lo = 100)) && (decide (y3.1.Hi = 150))) && (decide (y5.1 = 2))) && y21) && ((decide (y9.1.Lo = 50)) && (decide (y9.1.Hi = 150)))) && y23)) && y25) && y27) && y29) && y19.1) && (decide (((y19.2.1.length : Nat) : Int) = 201))) = true → (0 ≤ (0 : Int) ∧ (0 : Int) < ((y19.2.1.length : Nat) : Int)))) <| some ((((((((((((((((decide (y3.2 = 0)) && (decide (y5.2 = 0))) && (decide (y7.2 = 0))) && (decide (y9.2 = 0))) && (decide (y11.2 = 0))) && (decide (y13.2 = 0))) && (decide (y15.2 = 0))) && (decide (y17.2 = 0))) && (decide (y19.2.2 = 0))) && ((((((decide (y3.1.Lo = 100)) && (decide (y3.1.Hi = 150))) && (decide (y5.1 = 2))) && y21) && ((decide (y9.1.Lo = 50)) && (decide (y9.1.Hi = 150)))) && y23)) && y25) && y27) && y29) && y19.1) && (decide (((y19.2.1.length : Nat) : Int) = 201))) && (decide ((y19.2.1.getD 0 default) = 400)))
def gasolierlaw05_moment (p0 : Int) : Option Int :=
 bindO (gasolierref05_Mod p0 1440) fun y1 => must (inI (4320 + y1)) <| some (4320 + y1)
def slices_BinarySearchFunc_Report (fuel : Nat) (p0 : (List Report)) (p1 : Report) (p2 : Report → Report → Option Int) : Option (Int × Bool) :=
 (loopGo (fun (s1 : Int × Int) k1 => (bif (decide (s1.2 < s1.1)) then must (inI (s1.2 + s1.1)) <| must (inU (s1.2 + s1.1)) <| must (inI (Int.fdiv (s1.2 + s1.1) (2 ^ (1 : Int).toNat))) <| must (0 ≤ ((Int.fdiv (s1.2 + s1.1) (2 ^ (1 : Int).toNat)) : Int) ∧ ((Int.fdiv (s1.2 + s1.1) (2 ^ (1 : Int).toNat)) : Int) < ((p0.length : Nat) : Int)) <| bindO (p2 (p0.getD ((Int.fdiv (s1.2 + s1.1) (2 ^ (1 : Int).toNat))).toNat default) p1) fun y7 => (bif (decide (y7 < 0)) then must (inI ((Int.fdiv (s1.2 + s1.1) (2 ^ (1 : Int).toNat)) + 1)) <| k1 (s1.1, ((Int.fdiv (s1.2 + s1.1) (2 ^ (1 : Int).toNat)) + 1)) else k1 ((Int.fdiv (s1.2 + s1.1) (2 ^ (1 : Int).toNat)), s1.2)) else must (((decide (s1.2 < ((p0.length : Nat) : Int))) = true → (0 ≤ (s1.2 : Int) ∧ (s1.2 : Int) < ((p0.length : Nat) : Int)))) <| bindO ((bif (decide (s1.2 < ((p0.length : Nat) : Int))) then p2 (p0.getD (s1.2).toNat default) p1 else some default)) fun y12 => some (s1.2, ((decide (s1.2 < ((p0.length : Nat) : Int))) && (decide (y12 = 0)))))) fuel (((p0.length : Nat) : Int), 0))
def slices_Insert_Report (p0 : List Report) (p1 : Int) (p2 : Report) : Option (List Report) :=
 must (0 ≤ p1 ∧ p1 ≤ (p0.length : Int)) <| must (room (p0.length + 1) 72) <| some (p0.take p1.toNat ++ [p2] ++ p0.drop p1.toNat)
def fog_Add (fuel : Nat) (p0 : (List Report)) (p1 : Report) : Option ((List Report) × Int) :=
 bindO (fog_Check p0) fun y1 => (bif (!decide (y1 = 0)) then some ([], y1) else bindO (slices_BinarySearchFunc_Report fuel p0 p1 (fun x0 x1 => some (fog_compare x0 x1))) fun y4 => (bif ((!decide ((fog_CheckReport p1) = 0)) || y4.2) then some ([], 50) else (bif (decide (((p0.length : Nat) : Int) = 60)) then some ([], 2) else bindO (slices_Clone_Report p0) fun y8 => bindO (slices_Insert_Report y8 y4.1 p1) fun y10 => some (y10, 0))))
def gasolierref05_SameReports (fuel : Nat) (p0 : (List Report)) (p1 : (List Report)) : Option Bool :=
 (bif (!decide (((p0.length : Nat) : Int) = ((p1.length : Nat) : Int))) then some false else (loopGo (fun (s2 : Int) k2 => (bif (decide (s2 < ((p0.length : Nat) : Int))) then must (0 ≤ (s2 : Int) ∧ (s2 : Int) < ((p0.length : Nat) : Int)) <| must (0 ≤ (s2 : Int) ∧ (s2 : Int) < ((p1.length : Nat) : Int)) <| (bif (!((decide ((p0.getD (s2).toNat default).Source = (p1.getD (s2).toNat default).Source)) && ((decide ((p0.getD (s2).toNat default).District = (p1.getD (s2).toNat default).District)) && ((decide ((p0.getD (s2).toNat default).Night = (p1.getD (s2).toNat default).Night)) && ((decide ((p0.getD (s2).toNat default).From = (p1.getD (s2).toNat default).From)) && ((decide ((p0.getD (s2).toNat default).To = (p1.getD (s2).toNat default).To)) && (((decide ((p0.getD (s2).toNat default).Sight.Lo = (p1.getD (s2).toNat default).Sight.Lo)) && (decide ((p0.getD (s2).toNat default).Sight.Hi = (p1.getD (s2).toNat default).Sight.Hi))) && ((decide ((p0.getD (s2).toNat default).Known = (p1.getD (s2).toNat default).Known)) && (decide ((p0.getD (s2).toNat default).Until = (p1.getD (s2).toNat default).Until)))))))))) then some false else must (inI (s2 + 1)) <| k2 (s2 + 1)) else some true)) fuel 0))
def gasolierlaw05_FogJoins (fuel : Nat) (p0 : (List (Arr7 Int))) (p1 : (List Int)) (p2 : (Arr3 Int)) : Option Bool :=
 bindO (gasolierref05_Made fuel p0 p1) fun y1 => must (room (([] : List Report) ++ y1).length 72) <| (loopGo (fun (s4 : Int × (List Report) × (List Report)) k4 => (bif (decide (0 < ((s4.2.1.length : Nat) : Int))) then bindO (gasolierref05_Num p1 s4.1) fun y6 => bindO (gasolierref05_Mod y6 ((s4.2.1.length : Nat) : Int)) fun y8 => must (0 ≤ (y8 : Int) ∧ (y8 : Int) < ((s4.2.1.length : Nat) : Int)) <| bindO (fog_Add fuel s4.2.2 (s4.2.1.getD (y8).toNat default)) fun y11 => (bif (!decide (y11.2 = 0)) then some false else must ((0 : Int) ≤ y8 ∧ (y8 : Int) ≤ ((s4.2.1.length : Nat) : Int)) <| must (room (([] : List Report) ++ (s4.2.1.take (y8).toNat)).length 72) <| must (inI (y8 + 1)) <| must ((0 : Int) ≤ (y8 + 1) ∧ ((y8 + 1) : Int) ≤ ((s4.2.1.length : Nat) : Int)) <| must (room ((([] : List Report) ++ (s4.2.1.take (y8).toNat)) ++ (s4.2.1.drop ((y8 + 1)).toNat)).length 72) <| must (inI (s4.1 + 1)) <| k4 ((s4.1 + 1), ((([] : List Report) ++ (s4.2.1.take (y8).toNat)) ++ (s4.2.1.drop ((y8 + 1)).toNat)), y11.1)) else bindO (gasolierref05_SameReports fuel s4.2.2 y1) fun y20 => (bif (!y20) then some false else bindO (gasolierref05_Mod p2.x0 3) fun y23 => must (inI (1 + y23)) <| (loopGo (fun (s26 : Int × (List Report)) k26 => (bif (decide (s26.1 < ((y1.length : Nat) : Int))) then must (0 ≤ (s26.1 : Int) ∧ (s26.1 : Int) < ((y1.length : Nat) : Int)) <| must (((decide ((y1.getD (s26.1).toNat default).District = (1 + y23))) = true → (0 ≤ (s26.1 : Int) ∧ (s26.1 : Int) < ((y1.length : Nat) : Int)))) <| (bif ((decide ((y1.getD (s26.1).toNat default).District = (1 + y23))) && (decide ((y1.getD (s26.1).toNat default).Night = 3))) then must (0 ≤ (s26.1 : Int) ∧ (s26.1 : Int) < ((y1.length : Nat) : Int)) <| must (room (s26.2 ++ ([(y1.getD (s26.1).toNat default)] : List Report)).length 72) <| must (inI (s26.1 + 1)) <| k26 ((s26.1 + 1), (s26.2 ++ ([(y1.getD (s26.1).toNat default)] : List Report))) else must (inI (s26.1 + 1)) <| k26 ((s26.1 + 1), s26.2)) else bindO (gasolierref05_Mod p2.x1 1440) fun y35 => bindO (gasolierlaw05_moment p2.x2) fun y37 => bindO (fog_Sight fuel y1 (1 + y23) 3 y35 y37) fun y39 => bindO (gasolierlaw05_moment p2.x2) fun y41 => bindO (fog_Sight fuel s26.2 (1 + y23) 3 y35 y41) fun y43 => bindO ((bif (((decide (y39.1.Lo = y43.1.Lo)) && (decide (y39.1.Hi = y43.1.Hi))) && (decide (y39.2 = y43.2))) then gasolierlaw05_sane 20000 else some default)) fun y45 => some ((((decide (y39.1.Lo = y43.1.Lo)) && (decide (y39.1.Hi = y43.1.Hi))) && (decide (y39.2 = y43.2))) && y45))) fuel (0, ([] : List Report)))))) fuel (0, (([] : List Report) ++ y1), []))
end Go.Sp
end
