/- Texts of the framework, or of the plain law, one behind another. -/
import Derived.Test.YtjndodbdfmfjhaaFr1
/- Printed by gen.py. -/
section
set_option linter.all false
set_option linter.unusedVariables false
namespace Go.Sp
open Go.Av
structure gasoliertop_Mist where
 Sights : (List Int)
 Reports : (List (Arr4 Int))
 Law : (Arr3 Int)
 Limit : Int
 deriving Inhabited, DecidableEq
structure Range where
 Lo : Int
 Hi : Int
 deriving Inhabited, DecidableEq
structure Night where
 No : Int
 Set : Range
 Rise : Range
 Light : Range
 Fog : Int
 deriving Inhabited, DecidableEq
structure Version where
 Source : Int
 Class : Int
 From : Int
 On : Range
 Off : Range
 Moon : Int
 Fog : Int
 Known : Int
 Until : Int
 deriving Inhabited, DecidableEq
structure Street where
 Id : Int
 Class : Int
 District : Int
 First : Int
 Many : Int
 deriving Inhabited, DecidableEq
structure Bylaw where
 Versions : (List Version)
 Streets : (List Street)
 deriving Inhabited, DecidableEq
structure Truth where
 Set : Int
 Rise : Int
 Light : Int
 Fog : Bool
 deriving Inhabited, DecidableEq
structure Times where
 On : Int
 Off : Int
 deriving Inhabited, DecidableEq
structure Duty where
 Lit : Int
 On : Range
 Off : Range
 deriving Inhabited, DecidableEq
structure Report where
 Source : Int
 District : Int
 Night : Int
 From : Int
 To : Int
 Sight : Range
 Known : Int
 Until : Int
 deriving Inhabited, DecidableEq
structure fog_query where
 district : Int
 night : Int
 moment : Int
 minute : Int
 time : Range
 limit : Int
 deriving Inhabited, DecidableEq
structure bylaw_window where
 v : Version
 n : Night
 deriving Inhabited, DecidableEq
def fog_within (p0 : Int) (p1 : Int) (p2 : Int) : Bool :=
 ((decide (p1 ≤ p0)) && (decide (p0 ≤ p2)))
def fog_isDistrict (p0 : Int) : Bool :=
 (fog_within p0 1 9)
def fog_isNight (p0 : Int) : Bool :=
 (fog_within p0 0 100000)
def fog_isRange (p0 : Range) (p1 : Int) : Bool :=
 (((decide (0 ≤ p0.Lo)) && (decide (p0.Lo ≤ p0.Hi))) && (decide (p0.Hi ≤ p1)))
def fog_isMoment (p0 : Int) : Bool :=
 (fog_within p0 0 144001439)
def fog_CheckReport (p0 : Report) : Int :=
 (bif (((((((!(fog_within p0.Source 1 99999)) || (!(fog_isDistrict p0.District))) || (!(fog_isNight p0.Night))) || (!(fog_isRange (⟨p0.From, p0.To⟩ : Range) 1439))) || (!(fog_isRange p0.Sight 5000))) || (!(fog_isMoment p0.Known))) || ((!decide (p0.Until = 0)) && ((decide (p0.Until ≤ p0.Known)) || (!(fog_isMoment p0.Until))))) then 50 else 0)
def cmp_isNaN_int (p0 : Int) : Bool :=
 (!decide (p0 = p0))
def cmp_Compare_int (p0 : Int) (p1 : Int) : Int :=
 (bif (cmp_isNaN_int p0) then (bif (cmp_isNaN_int p1) then 0 else (-1)) else (bif (cmp_isNaN_int p1) then 1 else (bif (decide (p0 < p1)) then (-1) else (bif (decide (p1 < p0)) then 1 else 0))))
def fog_compare (p0 : Report) (p1 : Report) : Int :=
 (cmp_Compare_int p0.Source p1.Source)
def fog_Check (p0 : (List Report)) : Option Int :=
 (bif (decide (60 < ((p0.length : Nat) : Int))) then some 51 else (rangeGo (fun i2 (s2 : Unit) k2 => must ((((!(!decide ((fog_CheckReport (p0.getD i2 default)) = 0))) && (decide (0 < (i2 : Int)))) = true → (inI ((i2 : Int) - 1)))) <| must ((((!(!decide ((fog_CheckReport (p0.getD i2 default)) = 0))) && (decide (0 < (i2 : Int)))) = true → (0 ≤ (((i2 : Int) - 1) : Int) ∧ (((i2 : Int) - 1) : Int) < ((p0.length : Nat) : Int)))) <| (bif ((!decide ((fog_CheckReport (p0.getD i2 default)) = 0)) || ((decide (0 < (i2 : Int))) && (decide (0 ≤ (fog_compare (p0.getD (((i2 : Int) - 1)).toNat default) (p0.getD i2 default)))))) then some 51 else k2 ())) (fun (s2 : Unit) => some 0) p0.length 0 ()))
def fog_isMinute (p0 : Int) : Bool :=
 (fog_within p0 0 1439)
def slices_Clone_Report (p0 : (List Report)) : Option (List Report) :=
 must (room (([] : List Report) ++ p0).length 72) <| some (([] : List Report) ++ p0)
def slices_IndexFunc_Report (p0 : (List Report)) (p1 : Report → Option Bool) : Option Int :=
 (rangeGo (fun i1 (s1 : Unit) k1 => bindO (p1 (p0.getD i1 default)) fun y3 => (bif y3 then some (i1 : Int) else k1 ())) (fun (s1 : Unit) => some (-1)) p0.length 0 ())
def slices_DeleteFunc_Report (fuel : Nat) (p0 : (List Report)) (p1 : Report → Option Bool) : Option (List Report) :=
 bindO (slices_IndexFunc_Report p0 p1) fun y1 => (bif (decide (y1 = (-1))) then some p0 else must (inI (y1 + 1)) <| (loopGo (fun (s5 : Int × Int × (List Report)) k5 => (bif (decide (s5.2.1 < ((s5.2.2.length : Nat) : Int))) then must (0 ≤ (s5.2.1 : Int) ∧ (s5.2.1 : Int) < ((s5.2.2.length : Nat) : Int)) <| bindO (p1 (s5.2.2.getD (s5.2.1).toNat default)) fun y8 => (bif (!y8) then must (0 ≤ (s5.1 : Int) ∧ (s5.1 : Int) < ((s5.2.2.length : Nat) : Int)) <| must (inI (s5.1 + 1)) <| must (inI (s5.2.1 + 1)) <| k5 ((s5.1 + 1), (s5.2.1 + 1), (s5.2.2.set (s5.1).toNat (s5.2.2.getD (s5.2.1).toNat default))) else must (inI (s5.2.1 + 1)) <| k5 (s5.1, (s5.2.1 + 1), s5.2.2)) else must (0 < s5.2.2.length ∧ 0 ≤ (s5.1 : Int) ∧ (s5.1 : Int) ≤ ((s5.2.2.length : Nat) : Int)) <| must (0 < (copyAt s5.2.2 ((s5.1).toNat) (s5.2.2.length - (s5.1).toNat) (fun _ => (⟨0, 0, 0, 0, 0, (⟨0, 0⟩ : Range), 0, 0⟩ : Report))).length ∧ 0 ≤ (s5.1 : Int) ∧ (s5.1 : Int) ≤ (((copyAt s5.2.2 ((s5.1).toNat) (s5.2.2.length - (s5.1).toNat) (fun _ => (⟨0, 0, 0, 0, 0, (⟨0, 0⟩ : Range), 0, 0⟩ : Report))).length : Nat) : Int)) <| some ((copyAt s5.2.2 ((s5.1).toNat) (s5.2.2.length - (s5.1).toNat) (fun _ => (⟨0, 0, 0, 0, 0, (⟨0, 0⟩ : Range), 0, 0⟩ : Report))).take ((s5.1).toNat)))) fuel (y1, (y1 + 1), p0)))
def fog_counts (p0 : Report) (p1 : Int) : Bool :=
 ((decide (p0.Known ≤ p1)) && ((decide (p0.Until = 0)) || (decide (p1 < p0.Until))))
def fog_see_1 (p0 : Report) (c0 : Int) (c1 : Int) (c2 : Int) : Bool :=
 (((!decide (p0.District = c0)) || (!decide (p0.Night = c1))) || (!(fog_counts p0 c2)))
def fog_see (fuel : Nat) (p0 : (List Report)) (p1 : Int) (p2 : Int) (p3 : Int) : Option (List Report) :=
 bindO (slices_Clone_Report p0) fun y1 => bindO (slices_DeleteFunc_Report fuel y1 (fun x0 => some (fog_see_1 x0 p1 p2 p3))) fun y3 => some y3
def fog_query__view (fuel : Nat) (p0 : fog_query) (p1 : (List Report)) : Option ((List Report) × Int) :=
 bindO (fog_Check p1) fun y1 => (bif (!decide (y1 = 0)) then some ([], 51) else (bif ((((!(fog_isDistrict p0.district)) || (!(fog_isMinute p0.minute))) || (!(fog_isRange p0.time 1439))) || (!(fog_within p0.limit 1 5000))) then some ([], 1) else (bif ((!(fog_isNight p0.night)) || (!(fog_isMoment p0.moment))) then some ([], 6) else bindO (fog_see fuel p1 p0.district p0.night p0.moment) fun y6 => some (y6, 0))))
def fog_clash (p0 : Report) (p1 : Report) : Bool :=
 (((decide (p0.From ≤ p1.To)) && (decide (p1.From ≤ p0.To))) && ((decide (p1.Sight.Hi < p0.Sight.Lo)) || (decide (p0.Sight.Hi < p1.Sight.Lo))))
def fog_view__pair (p0 : (List Report)) : Option ((List Int) × Bool) :=
 (rangeGo (fun i1 (s1 : Unit) k1 => must ((0 : Int) ≤ ((i1 : Int) + 1) ∧ (((i1 : Int) + 1) : Int) ≤ ((p0.length : Nat) : Int)) <| (rangeGo (fun i4 (s4 : Unit) k4 => (bif (fog_clash (p0.getD i1 default) ((p0.drop (((i1 : Int) + 1)).toNat).getD i4 default)) then some (([(p0.getD i1 default).Source, ((p0.drop (((i1 : Int) + 1)).toNat).getD i4 default).Source] : List Int), true) else k4 ())) (fun (s4 : Unit) => k1 ()) ((p0.drop (((i1 : Int) + 1)).toNat).length) 0 ())) (fun (s1 : Unit) => some ([], false)) p0.length 0 ())
def fog_query__clear (fuel : Nat) (p0 : fog_query) (p1 : (List Report)) : Option ((List Report) × Int) :=
 bindO (fog_query__view fuel p0 p1) fun y1 => (bif (!decide (y1.2 = 0)) then some ([], y1.2) else bindO (fog_view__pair y1.1) fun y4 => (bif y4.2 then some ([], 52) else some (y1.1, 0)))
def fog_view__of_1 (c0 : (List Report)) (c1 : Int) : Option (List (Report)) :=
 (rangeGo (fun i1 (s1 : Unit) k1 => emitIf (fog_within c1 ((c0.getD i1 default).From) ((c0.getD i1 default).To)) (c0.getD i1 default) <| k1 ()) (fun (s1 : Unit) => some []) c0.length 0 ())
def fog_view__sight (p0 : (List Report)) (p1 : Int) : Option Range :=
 bindO (fog_view__of_1 p0 p1) fun it1 => (listGo (fun (x1 : Report) (s2 : Range) k2 => k2 (⟨(max s2.Lo x1.Sight.Lo), (min s2.Hi x1.Sight.Hi)⟩ : Range)) (fun (s2 : Range) => some s2) it1 (⟨0, 5000⟩ : Range))
def fog_below (p0 : Range) (p1 : Int) : Int :=
 (bif (decide (p0.Hi < p1)) then 1 else (bif (decide (p1 ≤ p0.Lo)) then 0 else 2))
def fog_Foggy (fuel : Nat) (p0 : (List Report)) (p1 : Int) (p2 : Int) (p3 : Range) (p4 : Int) (p5 : Int) : Option (Int × Int) :=
 bindO (fog_query__clear fuel (⟨p1, p2, p5, 0, p3, p4⟩ : fog_query) p0) fun y1 => (bif (!decide (y1.2 = 0)) then some (0, y1.2) else (joinK (fun (k4 : Int → _) => (loopGo (fun (s5 : Int × Int) k5 => (bif (decide (s5.2 ≤ p3.Hi)) then bindO (fog_view__sight y1.1 s5.2) fun y7 => (bif (decide ((fog_below y7 p4) = 1)) then k4 1 else (bif (decide ((fog_below y7 p4) = 2)) then must (inI (s5.2 + 1)) <| k5 (2, (s5.2 + 1)) else must (inI (s5.2 + 1)) <| k5 (s5.1, (s5.2 + 1)))) else k4 s5.1)) fuel (0, p3.Lo))) (fun (s4 : Int) => some (s4, 0))))
def fog_Sight (fuel : Nat) (p0 : (List Report)) (p1 : Int) (p2 : Int) (p3 : Int) (p4 : Int) : Option (Range × Int) :=
 bindO (fog_query__clear fuel (⟨p1, p2, p4, p3, (⟨0, 0⟩ : Range), 1⟩ : fog_query) p0) fun y1 => (bif (!decide (y1.2 = 0)) then some ((⟨0, 0⟩ : Range), y1.2) else bindO (fog_view__sight y1.1 p3) fun y4 => some (y4, 0))
def gasoliertop_dims (fuel : Nat) : Option Bool :=
 bindO (fog_Foggy fuel ([(⟨1, 1, 7, 300, 400, (⟨0, 150⟩ : Range), 0, 0⟩ : Report), (⟨2, 1, 7, 350, 500, (⟨100, 900⟩ : Range), 0, 0⟩ : Report)] : List Report) 1 7 (⟨300, 500⟩ : Range) 200 9) fun y1 => bindO (fog_Sight fuel ([(⟨1, 1, 7, 300, 400, (⟨0, 150⟩ : Range), 0, 0⟩ : Report), (⟨2, 1, 7, 350, 500, (⟨100, 900⟩ : Range), 0, 0⟩ : Report)] : List Report) 1 7 360 9) fun y3 => bindO (fog_Foggy fuel ([(⟨1, 1, 7, 300, 400, (⟨0, 150⟩ : Range), 0, 0⟩ : Report), (⟨2, 1, 7, 350, 500, (⟨100, 900⟩ : Range), 0, 0⟩ : Report)] : List Report) 1 7 (⟨401, 500⟩ : Range) 200 9) fun y5 => some ((((((decide (y1.2 = 0)) && (decide (y3.2 = 0))) && (decide (y5.2 = 0))) && (decide (y1.1 = 1))) && (decide (y5.1 = 2))) && ((decide (y3.1.Lo = 100)) && (decide (y3.1.Hi = 150))))
def gasolierref01_Mod (p0 : Int) (p1 : Int) : Option Int :=
 must ((p1 : Int) ≠ 0) <| must (inI ((Int.tmod p0 p1) + p1)) <| must ((p1 : Int) ≠ 0) <| some (Int.tmod ((Int.tmod p0 p1) + p1) p1)
def gasolierref01_Pick (p0 : (List Int)) (p1 : Int) : Option Int :=
 (bif (decide (((p0.length : Nat) : Int) = 0)) then some 0 else bindO (gasolierref01_Mod p1 ((p0.length : Nat) : Int)) fun y2 => must (0 ≤ (y2 : Int) ∧ (y2 : Int) < ((p0.length : Nat) : Int)) <| some (p0.getD (y2).toNat default))
def gasoliertop_sightOf (p0 : gasoliertop_Mist) (p1 : Int) : Option Int :=
 must ((10 : Int) ≠ 0 ∧ inI (Int.tdiv p1 10)) <| bindO (gasolierref01_Pick p0.Sights (Int.tdiv p1 10)) fun y2 => bindO (gasolierref01_Mod y2 400) fun y4 => some y4
def gasoliertop_reportsOf (fuel : Nat) (p0 : gasoliertop_Mist) : Option (List Report) :=
 (loopGo (fun (s1 : Int × (List Report)) k1 => (bif ((decide (s1.1 < ((p0.Reports.length : Nat) : Int))) && (decide (s1.1 < 8))) then must (0 ≤ (s1.1 : Int) ∧ (s1.1 : Int) < ((p0.Reports.length : Nat) : Int)) <| must (inI (1 + s1.1)) <| bindO (gasolierref01_Mod ((p0.Reports.getD (s1.1).toNat default).x0) 800) fun y5 => must (inI (250 + y5)) <| bindO (gasolierref01_Mod ((p0.Reports.getD (s1.1).toNat default).x1) 60) fun y8 => must (inI ((250 + y5) + y8)) <| (loopGo (fun (s11 : Int × Report) k11 => (bif (decide (s11.1 ≤ s11.2.To)) then bindO (gasoliertop_sightOf p0 s11.1) fun y13 => must (inI (s11.1 + 1)) <| k11 ((s11.1 + 1), (⟨s11.2.Source, s11.2.District, s11.2.Night, s11.2.From, s11.2.To, (⟨(min s11.2.Sight.Lo y13), (max s11.2.Sight.Hi y13)⟩ : Range), s11.2.Known, s11.2.Until⟩ : Report)) else bindO (gasolierref01_Mod ((p0.Reports.getD (s1.1).toNat default).x2) 90) fun y16 => must (inI (s11.2.Sight.Lo - y16)) <| bindO (gasolierref01_Mod ((p0.Reports.getD (s1.1).toNat default).x3) 90) fun y19 => must (inI (s11.2.Sight.Hi + y19)) <| must (room (s1.2 ++ ([(⟨s11.2.Source, s11.2.District, s11.2.Night, s11.2.From, s11.2.To, (⟨(max 0 (s11.2.Sight.Lo - y16)), (s11.2.Sight.Hi + y19)⟩ : Range), s11.2.Known, s11.2.Until⟩ : Report)] : List Report)).length 72) <| must (inI (s1.1 + 1)) <| k1 ((s1.1 + 1), (s1.2 ++ ([(⟨s11.2.Source, s11.2.District, s11.2.Night, s11.2.From, s11.2.To, (⟨(max 0 (s11.2.Sight.Lo - y16)), (s11.2.Sight.Hi + y19)⟩ : Range), s11.2.Known, s11.2.Until⟩ : Report)] : List Report))))) fuel ((250 + y5), (⟨(1 + s1.1), 1, 7, (250 + y5), ((250 + y5) + y8), (⟨5000, 0⟩ : Range), 0, 0⟩ : Report))) else some s1.2)) fuel (0, ([] : List Report)))
def fog_Worst (fuel : Nat) (p0 : (List Report)) (p1 : Int) (p2 : Int) (p3 : Range) (p4 : Int) : Option (Range × Int) :=
 bindO (fog_query__clear fuel (⟨p1, p2, p4, 0, p3, 1⟩ : fog_query) p0) fun y1 => (bif (!decide (y1.2 = 0)) then some ((⟨0, 0⟩ : Range), y1.2) else bindO (fog_view__sight y1.1 p3.Lo) fun y4 => must (inI (p3.Lo + 1)) <| (loopGo (fun (s7 : Int × Range) k7 => (bif (decide (s7.1 ≤ p3.Hi)) then bindO (fog_view__sight y1.1 s7.1) fun y9 => must (inI (s7.1 + 1)) <| k7 ((s7.1 + 1), (⟨(min s7.2.Lo y9.Lo), (min s7.2.Hi y9.Hi)⟩ : Range)) else some (s7.2, 0))) fuel ((p3.Lo + 1), y4)))
def bylaw_areAll_Version (p0 : (List Version)) (p1 : Int) (p2 : Version → Option Int) (p3 : Version → Option Int) : Option Bool :=
 (rangeGo (fun i1 (s1 : Unit) k1 => bindO (p2 (p0.getD i1 default)) fun y3 => must ((((!(!decide (y3 = 0))) && (decide (0 < (i1 : Int)))) = true → (inI ((i1 : Int) - 1)))) <| must ((((!(!decide (y3 = 0))) && (decide (0 < (i1 : Int)))) = true → (0 ≤ (((i1 : Int) - 1) : Int) ∧ (((i1 : Int) - 1) : Int) < ((p0.length : Nat) : Int)))) <| bindO ((bif ((!(!decide (y3 = 0))) && (decide (0 < (i1 : Int)))) then p3 (p0.getD (((i1 : Int) - 1)).toNat default) else some default)) fun y7 => bindO ((bif ((!(!decide (y3 = 0))) && (decide (0 < (i1 : Int)))) then p3 (p0.getD i1 default) else some default)) fun y9 => (bif ((!decide (y3 = 0)) || ((decide (0 < (i1 : Int))) && (decide (y9 ≤ y7)))) then some false else k1 ())) (fun (s1 : Unit) => some (decide (((p0.length : Nat) : Int) ≤ p1))) p0.length 0 ())
def bylaw_in (p0 : Int) (p1 : Int) (p2 : Int) : Bool :=
 ((decide (p1 ≤ p0)) && (decide (p0 ≤ p2)))
def bylaw_isNight (p0 : Int) : Bool :=
 (bylaw_in p0 0 100000)
def bylaw_isRange (p0 : Range) (p1 : Int) : Bool :=
 (((decide (0 ≤ p0.Lo)) && (decide (p0.Lo ≤ p0.Hi))) && (decide (p0.Hi ≤ p1)))
def bylaw_CheckVersion (p0 : Version) : Option Int :=
 must ((((!((((((((!(bylaw_in p0.Source 1 99999)) || (!(bylaw_in p0.Class 1 9))) || (!(bylaw_isNight p0.From))) || (!(bylaw_isRange p0.On 600))) || (!(bylaw_isRange p0.Off 600))) || (!(bylaw_in p0.Moon 0 1001))) || (!(bylaw_in p0.Fog 0 600))) || (!(bylaw_isNight p0.Known)))) && (!decide (p0.Until = 0))) = true → (inI (p0.Known + 1)))) <| (bif (((((((((!(bylaw_in p0.Source 1 99999)) || (!(bylaw_in p0.Class 1 9))) || (!(bylaw_isNight p0.From))) || (!(bylaw_isRange p0.On 600))) || (!(bylaw_isRange p0.Off 600))) || (!(bylaw_in p0.Moon 0 1001))) || (!(bylaw_in p0.Fog 0 600))) || (!(bylaw_isNight p0.Known))) || ((!decide (p0.Until = 0)) && (!(bylaw_in p0.Until (p0.Known + 1) 100000)))) then some 10 else some 0)
def bylaw_sourceOf (p0 : Version) : Int :=
 p0.Source
def bylaw_areAll_Street (p0 : (List Street)) (p1 : Int) (p2 : Street → Option Int) (p3 : Street → Option Int) : Option Bool :=
 (rangeGo (fun i1 (s1 : Unit) k1 => bindO (p2 (p0.getD i1 default)) fun y3 => must ((((!(!decide (y3 = 0))) && (decide (0 < (i1 : Int)))) = true → (inI ((i1 : Int) - 1)))) <| must ((((!(!decide (y3 = 0))) && (decide (0 < (i1 : Int)))) = true → (0 ≤ (((i1 : Int) - 1) : Int) ∧ (((i1 : Int) - 1) : Int) < ((p0.length : Nat) : Int)))) <| bindO ((bif ((!(!decide (y3 = 0))) && (decide (0 < (i1 : Int)))) then p3 (p0.getD (((i1 : Int) - 1)).toNat default) else some default)) fun y7 => bindO ((bif ((!(!decide (y3 = 0))) && (decide (0 < (i1 : Int)))) then p3 (p0.getD i1 default) else some default)) fun y9 => (bif ((!decide (y3 = 0)) || ((decide (0 < (i1 : Int))) && (decide (y9 ≤ y7)))) then some false else k1 ())) (fun (s1 : Unit) => some (decide (((p0.length : Nat) : Int) ≤ p1))) p0.length 0 ())
def bylaw_CheckStreet (p0 : Street) : Option Int :=
 must (((!(((((!(bylaw_in p0.Id 1 99)) || (!(bylaw_in p0.Class 1 9))) || (!(bylaw_in p0.District 1 9))) || (!(bylaw_in p0.First 1 999))) || (!(bylaw_in p0.Many 1 200)))) = true → (inI (p0.First + p0.Many)))) <| must (((!(((((!(bylaw_in p0.Id 1 99)) || (!(bylaw_in p0.Class 1 9))) || (!(bylaw_in p0.District 1 9))) || (!(bylaw_in p0.First 1 999))) || (!(bylaw_in p0.Many 1 200)))) = true → (inI ((p0.First + p0.Many) - 1)))) <| (bif ((((((!(bylaw_in p0.Id 1 99)) || (!(bylaw_in p0.Class 1 9))) || (!(bylaw_in p0.District 1 9))) || (!(bylaw_in p0.First 1 999))) || (!(bylaw_in p0.Many 1 200))) || (decide (999 < ((p0.First + p0.Many) - 1)))) then some 11 else some 0)
def bylaw_idOf (p0 : Street) : Int :=
 p0.Id
def bylaw_has (p0 : Street) (p1 : Int) : Option Bool :=
 must (inI (p0.First + p0.Many)) <| must (inI ((p0.First + p0.Many) - 1)) <| some (bylaw_in p1 p0.First ((p0.First + p0.Many) - 1))
def bylaw_Check (p0 : Bylaw) : Option Int :=
 bindO (bylaw_areAll_Version p0.Versions 60 (fun x0 => bylaw_CheckVersion x0) (fun x0 => some (bylaw_sourceOf x0))) fun y1 => bindO ((bif (!(!y1)) then bylaw_areAll_Street p0.Streets 20 (fun x0 => bylaw_CheckStreet x0) (fun x0 => some (bylaw_idOf x0)) else some default)) fun y3 => (bif ((!y1) || (!y3)) then some 13 else (rangeGo (fun i6 (s6 : Unit) k6 => must ((0 : Int) ≤ (i6 : Int) ∧ ((i6 : Int) : Int) ≤ ((p0.Streets.length : Nat) : Int)) <| (rangeGo (fun i9 (s9 : Unit) k9 => bindO (bylaw_has (p0.Streets.getD i6 default) (((p0.Streets.take i6).getD i9 default).First)) fun y11 => bindO ((bif (!y11) then bylaw_has ((p0.Streets.take i6).getD i9 default) ((p0.Streets.getD i6 default).First) else some default)) fun y13 => (bif (y11 || y13) then some 13 else k9 ())) (fun (s9 : Unit) => k6 ()) ((p0.Streets.take i6).length) 0 ())) (fun (s6 : Unit) => some 0) p0.Streets.length 0 ()))
def bylaw_isTruth (p0 : Truth) : Bool :=
 ((((decide (0 ≤ p0.Set)) && (decide (p0.Set ≤ p0.Rise))) && (decide (p0.Rise ≤ 1439))) && (bylaw_in p0.Light 0 1000))
def bylaw_areTimes (p0 : Times) : Bool :=
 (((decide (p0.On = (-1))) && (decide (p0.Off = (-1)))) || (((decide (0 ≤ p0.On)) && (decide (p0.On ≤ p0.Off))) && (decide (p0.Off ≤ 1439))))
def slices_IndexFunc_Street (p0 : (List Street)) (p1 : Street → Option Bool) : Option Int :=
 (rangeGo (fun i1 (s1 : Unit) k1 => bindO (p1 (p0.getD i1 default)) fun y3 => (bif y3 then some (i1 : Int) else k1 ())) (fun (s1 : Unit) => some (-1)) p0.length 0 ())
def bylaw_streetOf_1 (p0 : Street) (c0 : Int) : Option Bool :=
 bindO (bylaw_has p0 c0) fun y1 => some y1
def bylaw_streetOf (p0 : Bylaw) (p1 : Int) : Option (Street × Int) :=
 bindO (slices_IndexFunc_Street p0.Streets (fun x0 => bylaw_streetOf_1 x0 p1)) fun y1 => (bif (decide (y1 < 0)) then some ((⟨0, 0, 0, 0, 0⟩ : Street), 15) else must (0 ≤ (y1 : Int) ∧ (y1 : Int) < ((p0.Streets.length : Nat) : Int)) <| some ((p0.Streets.getD (y1).toNat default), 0))
def bylaw_inForce (p0 : Bylaw) (p1 : Int) (p2 : Int) (p3 : Int) : Option (Version × Int) :=
 (rangeGo (fun i1 (s1 : Version) k1 => (bif (((((decide ((p0.Versions.getD i1 default).Class = p1)) && (decide ((p0.Versions.getD i1 default).From ≤ p2))) && (decide ((p0.Versions.getD i1 default).Known ≤ p3))) && ((decide ((p0.Versions.getD i1 default).Until = 0)) || (decide (p3 < (p0.Versions.getD i1 default).Until)))) && (decide (s1.From ≤ (p0.Versions.getD i1 default).From))) then k1 (p0.Versions.getD i1 default) else k1 s1)) (fun (s1 : Version) => (bif ((decide (s1.Source = 0)) && ((decide (s1.Class = 0)) && ((decide (s1.From = 0)) && (((decide (s1.On.Lo = 0)) && (decide (s1.On.Hi = 0))) && (((decide (s1.Off.Lo = 0)) && (decide (s1.Off.Hi = 0))) && ((decide (s1.Moon = 0)) && ((decide (s1.Fog = 0)) && ((decide (s1.Known = 0)) && (decide (s1.Until = 0)))))))))) then some (s1, 14) else some (s1, 0))) p0.Versions.length 0 (⟨0, 0, 0, (⟨0, 0⟩ : Range), (⟨0, 0⟩ : Range), 0, 0, 0, 0⟩ : Version))
def bylaw_known (p0 : Bylaw) (p1 : Int) (p2 : Night) (p3 : Int) : Option (bylaw_window × Int) :=
 bindO (bylaw_streetOf p0 p1) fun y1 => (bif (!decide (y1.2 = 0)) then some ((⟨(⟨0, 0, 0, (⟨0, 0⟩ : Range), (⟨0, 0⟩ : Range), 0, 0, 0, 0⟩ : Version), (⟨0, (⟨0, 0⟩ : Range), (⟨0, 0⟩ : Range), (⟨0, 0⟩ : Range), 0⟩ : Night)⟩ : bylaw_window), y1.2) else bindO (bylaw_inForce p0 y1.1.Class p2.No p3) fun y4 => some ((⟨y4.1, p2⟩ : bylaw_window), y4.2))
def bylaw_lawful (p0 : Version) (p1 : Truth) (p2 : Times) : Option Bool :=
 (bif ((!p1.Fog) && (decide (p0.Moon ≤ p1.Light))) then some true else (joinK (fun (k2 : Int → _) => (bif p1.Fog then k2 p0.Fog else k2 0)) (fun (s2 : Int) => must (((decide (0 ≤ p2.On)) = true → (inI (p1.Set + p0.On.Lo)))) <| must (((decide (0 ≤ p2.On)) = true → (inI ((p1.Set + p0.On.Lo) - s2)))) <| must (((decide (0 ≤ p2.On)) = true → (inI (p1.Set + p0.On.Hi)))) <| must (((decide (0 ≤ p2.On)) = true → (inI ((p1.Set + p0.On.Hi) - s2)))) <| must ((((decide (0 ≤ p2.On)) && (bylaw_in p2.On ((p1.Set + p0.On.Lo) - s2) ((p1.Set + p0.On.Hi) - s2))) = true → (inI (p1.Rise - p0.Off.Hi)))) <| must ((((decide (0 ≤ p2.On)) && (bylaw_in p2.On ((p1.Set + p0.On.Lo) - s2) ((p1.Set + p0.On.Hi) - s2))) = true → (inI (p1.Rise - p0.Off.Lo)))) <| some (((decide (0 ≤ p2.On)) && (bylaw_in p2.On ((p1.Set + p0.On.Lo) - s2) ((p1.Set + p0.On.Hi) - s2))) && (bylaw_in p2.Off (p1.Rise - p0.Off.Hi) (p1.Rise - p0.Off.Lo))))))
def bylaw_True (p0 : Bylaw) (p1 : Int) (p2 : Int) (p3 : Truth) (p4 : Times) (p5 : Int) : Option (Bool × Int) :=
 bindO (bylaw_Check p0) fun y1 => (bif (!decide (y1 = 0)) then some (false, y1) else (bif (!(bylaw_isTruth p3)) then some (false, 12) else (bif (!(bylaw_areTimes p4)) then some (false, 1) else (bif ((!(bylaw_isNight p2)) || (!(bylaw_isNight p5))) then some (false, 6) else bindO (bylaw_known p0 p1 (⟨p2, (⟨0, 0⟩ : Range), (⟨0, 0⟩ : Range), (⟨0, 0⟩ : Range), 0⟩ : Night) p5) fun y7 => (bif (!decide (y7.2 = 0)) then some (false, y7.2) else bindO (bylaw_lawful y7.1.v p3 p4) fun y10 => some (y10, 0))))))
def bylaw_CheckNight (p0 : Night) : Int :=
 (bif ((((((!(bylaw_isNight p0.No)) || (!(bylaw_isRange p0.Set 1439))) || (!(bylaw_isRange p0.Rise 1439))) || (decide (p0.Rise.Lo < p0.Set.Hi))) || (!(bylaw_isRange p0.Light 1000))) || (!(bylaw_in p0.Fog 0 2))) then 12 else 0)
def bylaw_look (p0 : Bylaw) (p1 : Int) (p2 : Night) (p3 : Int) : Option (bylaw_window × Int) :=
 bindO (bylaw_Check p0) fun y1 => (bif (!decide (y1 = 0)) then some ((⟨(⟨0, 0, 0, (⟨0, 0⟩ : Range), (⟨0, 0⟩ : Range), 0, 0, 0, 0⟩ : Version), (⟨0, (⟨0, 0⟩ : Range), (⟨0, 0⟩ : Range), (⟨0, 0⟩ : Range), 0⟩ : Night)⟩ : bylaw_window), y1) else (bif (!decide ((bylaw_CheckNight p2) = 0)) then some ((⟨(⟨0, 0, 0, (⟨0, 0⟩ : Range), (⟨0, 0⟩ : Range), 0, 0, 0, 0⟩ : Version), (⟨0, (⟨0, 0⟩ : Range), (⟨0, 0⟩ : Range), (⟨0, 0⟩ : Range), 0⟩ : Night)⟩ : bylaw_window), (bylaw_CheckNight p2)) else (bif (!(bylaw_isNight p3)) then some ((⟨(⟨0, 0, 0, (⟨0, 0⟩ : Range), (⟨0, 0⟩ : Range), 0, 0, 0, 0⟩ : Version), (⟨0, (⟨0, 0⟩ : Range), (⟨0, 0⟩ : Range), (⟨0, 0⟩ : Range), 0⟩ : Night)⟩ : bylaw_window), 6) else bindO (bylaw_known p0 p1 p2 p3) fun y6 => some (y6.1, y6.2))))
def bylaw_window__lit (p0 : bylaw_window) : Int :=
 (bif ((decide (p0.n.Fog = 1)) || (decide (p0.n.Light.Hi < p0.v.Moon))) then 1 else (bif ((decide (p0.n.Fog = 0)) && (decide (p0.v.Moon ≤ p0.n.Light.Lo))) then 0 else 2))
def bylaw_Lit (p0 : Bylaw) (p1 : Int) (p2 : Night) (p3 : Int) : Option (Int × Int) :=
 bindO (bylaw_look p0 p1 p2 p3) fun y1 => (bif (!decide (y1.2 = 0)) then some (0, y1.2) else some ((bylaw_window__lit y1.1), 0))
def bylaw_window__minutes (p0 : bylaw_window) (p1 : Option Range) : Option (Range × Int) :=
 (bif (decide ((bylaw_window__lit p0) = 0)) then some ((⟨0, 0⟩ : Range), 18) else bindO (p1 ) fun y2 => (bif (decide (y2.Hi < y2.Lo)) then some ((⟨0, 0⟩ : Range), 16) else some (y2, 0)))
def bylaw_window__fog (p0 : bylaw_window) (p1 : (List Int)) : Option Int :=
 (rangeGo (fun i1 (s1 : Unit) k1 => (bif (decide (p0.n.Fog = (p1.getD i1 default))) then some p0.v.Fog else k1 ())) (fun (s1 : Unit) => some 0) p1.length 0 ())
def bylaw_clip (p0 : Int) (p1 : Int) : Range :=
 (⟨(max p0 0), (min p1 1439)⟩ : Range)
def bylaw_window__on (p0 : bylaw_window) : Option Range :=
 must (inI (p0.n.Set.Hi + p0.v.On.Lo)) <| bindO (bylaw_window__fog p0 ([1] : List Int)) fun y2 => must (inI ((p0.n.Set.Hi + p0.v.On.Lo) - y2)) <| must (inI (p0.n.Set.Lo + p0.v.On.Hi)) <| bindO (bylaw_window__fog p0 ([1, 2] : List Int)) fun y6 => must (inI ((p0.n.Set.Lo + p0.v.On.Hi) - y6)) <| some (bylaw_clip ((p0.n.Set.Hi + p0.v.On.Lo) - y2) ((p0.n.Set.Lo + p0.v.On.Hi) - y6))
def bylaw_window__off (p0 : bylaw_window) : Option Range :=
 must (inI (p0.n.Rise.Hi - p0.v.Off.Hi)) <| must (inI (p0.n.Rise.Lo - p0.v.Off.Lo)) <| some (bylaw_clip (p0.n.Rise.Hi - p0.v.Off.Hi) (p0.n.Rise.Lo - p0.v.Off.Lo))
def bylaw_window__duty (p0 : bylaw_window) : Option (Duty × Int) :=
 (bif (decide ((bylaw_window__lit p0) = 0)) then some ((⟨0, (⟨0, 0⟩ : Range), (⟨0, 0⟩ : Range)⟩ : Duty), 0) else bindO (bylaw_window__minutes p0 (bylaw_window__on p0)) fun y2 => (bif (!decide (y2.2 = 0)) then some ((⟨0, (⟨0, 0⟩ : Range), (⟨0, 0⟩ : Range)⟩ : Duty), y2.2) else bindO (bylaw_window__minutes p0 (bylaw_window__off p0)) fun y5 => (bif (!decide (y5.2 = 0)) then some ((⟨0, (⟨0, 0⟩ : Range), (⟨0, 0⟩ : Range)⟩ : Duty), y5.2) else some ((⟨(bylaw_window__lit p0), y2.1, y5.1⟩ : Duty), 0))))
def bylaw_Duty (p0 : Bylaw) (p1 : Int) (p2 : Night) (p3 : Int) : Option (Duty × Int) :=
 bindO (bylaw_look p0 p1 p2 p3) fun y1 => (bif (!decide (y1.2 = 0)) then some ((⟨0, (⟨0, 0⟩ : Range), (⟨0, 0⟩ : Range)⟩ : Duty), y1.2) else bindO (bylaw_window__duty y1.1) fun y4 => some (y4.1, y4.2))
def bylaw_On (p0 : Bylaw) (p1 : Int) (p2 : Night) (p3 : Int) : Option (Range × Int) :=
 bindO (bylaw_look p0 p1 p2 p3) fun y1 => (bif (!decide (y1.2 = 0)) then some ((⟨0, 0⟩ : Range), y1.2) else bindO (bylaw_window__minutes y1.1 (bylaw_window__on y1.1)) fun y4 => some (y4.1, y4.2))
def gasoliertop_TopFog (fuel : Nat) (p0 : gasoliertop_Mist) : Option Bool :=
 bindO (gasoliertop_dims fuel) fun y1 => bindO (gasoliertop_reportsOf fuel p0) fun y3 => bindO (gasolierref01_Mod p0.Limit 399) fun y5 => must (inI (1 + y5)) <| bindO (fog_Foggy fuel y3 1 7 (⟨300, 705⟩ : Range) (1 + y5) 99) fun y8 => bindO (fog_Worst fuel y3 1 7 (⟨300, 705⟩ : Range) 99) fun y10 => bindO ((bif (!(!y1)) then fog_Check y3 else some default)) fun y12 => (bif ((((!y1) || (!decide (y12 = 0))) || (!decide (y8.2 = 0))) || (!decide (y10.2 = 0))) then some false else (loopGo (fun (s15 : Int × Int) k15 => (bif (decide (s15.2 ≤ 705)) then bindO (gasoliertop_sightOf p0 s15.2) fun y17 => bindO (fog_Sight fuel y3 1 7 s15.2 99) fun y19 => (bif (((!decide (y19.2 = 0)) || (decide (y17 < y19.1.Lo))) || (decide (y19.1.Hi < y17))) then some false else must (inI (s15.2 + 1)) <| k15 ((min s15.1 y17), (s15.2 + 1))) else (bif (((((decide (y8.1 = 1)) && (!(decide (s15.1 < (1 + y5))))) || ((decide (y8.1 = 0)) && (decide (s15.1 < (1 + y5))))) || (decide (s15.1 < y10.1.Lo))) || (decide (y10.1.Hi < s15.1))) then some false else bindO (gasolierref01_Mod p0.Law.x0 60) fun y24 => must (inI (10 + y24)) <| bindO (gasolierref01_Mod p0.Law.x1 2) fun y27 => must (inI (y27 * 1001)) <| bindO (gasolierref01_Mod p0.Law.x2 40) fun y30 => bindO (gasolierref01_Mod p0.Law.x0 5) fun y32 => must (inI (300 + y32)) <| bindO (gasolierref01_Mod p0.Law.x2 6) fun y35 => must (inI (700 + y35)) <| bindO (bylaw_True (⟨([(⟨1, 1, 0, (⟨5, (10 + y24)⟩ : Range), (⟨5, 50⟩ : Range), (y27 * 1001), y30, 0, 0⟩ : Version)] : List Version), ([(⟨1, 1, 1, 1, 1⟩ : Street)] : List Street)⟩ : Bylaw) 1 7 (⟨(300 + y32), (700 + y35), 0, (decide (s15.1 < (1 + y5)))⟩ : Truth) (⟨(-1), (-1)⟩ : Times) 9) fun y38 => bindO (bylaw_Lit (⟨([(⟨1, 1, 0, (⟨5, (10 + y24)⟩ : Range), (⟨5, 50⟩ : Range), (y27 * 1001), y30, 0, 0⟩ : Version)] : List Version), ([(⟨1, 1, 1, 1, 1⟩ : Street)] : List Street)⟩ : Bylaw) 1 (⟨7, (⟨300, 304⟩ : Range), (⟨700, 705⟩ : Range), (⟨0, 0⟩ : Range), y8.1⟩ : Night) 9) fun y40 => (bif ((((!decide (y38.2 = 0)) || (!decide (y40.2 = 0))) || ((decide (y40.1 = 1)) && y38.1)) || ((decide (y40.1 = 0)) && (!y38.1))) then some false else bindO (bylaw_Duty (⟨([(⟨1, 1, 0, (⟨5, (10 + y24)⟩ : Range), (⟨5, 50⟩ : Range), (y27 * 1001), y30, 0, 0⟩ : Version)] : List Version), ([(⟨1, 1, 1, 1, 1⟩ : Street)] : List Street)⟩ : Bylaw) 1 (⟨7, (⟨300, 304⟩ : Range), (⟨700, 705⟩ : Range), (⟨0, 0⟩ : Range), y8.1⟩ : Night) 9) fun y43 => (bif ((!decide (y43.2 = 0)) || (decide (y43.1.Lit = 0))) then some ((decide (y43.2 = 0)) || (decide (y43.2 = 16))) else bindO (bylaw_True (⟨([(⟨1, 1, 0, (⟨5, (10 + y24)⟩ : Range), (⟨5, 50⟩ : Range), (y27 * 1001), y30, 0, 0⟩ : Version)] : List Version), ([(⟨1, 1, 1, 1, 1⟩ : Street)] : List Street)⟩ : Bylaw) 1 7 (⟨(300 + y32), (700 + y35), 0, (decide (s15.1 < (1 + y5)))⟩ : Truth) (⟨y43.1.On.Hi, y43.1.Off.Lo⟩ : Times) 9) fun y46 => (bif ((!decide (y46.2 = 0)) || (!y46.1)) then some false else (bif (decide (((y3.length : Nat) : Int) = 0)) then some true else must ((0 : Int) ≤ 1 ∧ (1 : Int) ≤ ((y3.length : Nat) : Int)) <| bindO (fog_Foggy fuel (y3.drop 1) 1 7 (⟨300, 705⟩ : Range) (1 + y5) 99) fun y51 => bindO (bylaw_On (⟨([(⟨1, 1, 0, (⟨5, (10 + y24)⟩ : Range), (⟨5, 50⟩ : Range), (y27 * 1001), y30, 0, 0⟩ : Version)] : List Version), ([(⟨1, 1, 1, 1, 1⟩ : Street)] : List Street)⟩ : Bylaw) 1 (⟨7, (⟨300, 304⟩ : Range), (⟨700, 705⟩ : Range), (⟨0, 0⟩ : Range), y51.1⟩ : Night) 9) fun y53 => (bif ((!decide (y51.2 = 0)) || ((!decide (y51.1 = y8.1)) && (!decide (y51.1 = 2)))) then some false else some ((((decide (y53.2 = 0)) && (decide (y43.1.On.Lo ≤ y53.1.Lo))) && (decide (y53.1.Hi ≤ y43.1.On.Hi))) || (decide (y53.2 = 16))))))))))) fuel (5000, 300)))
end Go.Sp
end
