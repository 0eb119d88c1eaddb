/- Texts of the framework, or of the plain law, one behind another. -/
import Derived.Test.YtnaodipmfaglfaaGreatPr1
import Derived.WalkKit
/- Plain laws, crew: the document's Assign and Short; CrewHands. No program in sight. -/
section
set_option linter.all false
namespace Go.Sp
open Go.Av
set_option maxRecDepth 100000
section
variable {c : Crew} {ls : List (List Int)}
theorem Firsts.unique {n : Nat} {g g' : Nat → Nat} (H : Firsts c ls n g) (H' : Firsts c ls n g') : ∀ k, k < n → g k = g' k := by
 intro k
 induction k using Nat.strongRecOn with
 | ind k ih =>
   intro hk
   obtain ⟨G, G1, G2⟩ := H.ext
   obtain ⟨G', G1', G2'⟩ := H'.ext
   rcases Nat.lt_trichotomy (g k) (g' k) with h | h | h
   · exact absurd ⟨G, G1, fun q hq => by rw [G2 q (by omega), ih q hq (by omega)], G2 k hk⟩ (H'.first k hk (g k) h)
   · exact h
   · exact absurd ⟨G', G1', fun q hq => by rw [G2' q (by omega), ← ih q hq (by omega)], G2' k hk⟩ (H.first k hk (g' k) h)
theorem rest_iff {i h : Nat} {g : Nat → Nat} {may : List Bool} (hm : may.length = c.Hands.length) (hi : i < ls.length) (hh : h < c.Hands.length) (hab : abl c (rd ls i) h = true) (hmh : may.getD h default = true)
   (hmay : ∀ q, q < c.Hands.length → (may.getD q default = true ↔ ∀ k, k < i → g k ≠ q)) (hg : ∃ g', Given c ls g' ∧ ∀ k, k < i → g' k = g k) :
   InjN (madj c (ls.drop (i + 1)) (may.set h false)) c.Hands.length (fun k => k < (ls.drop (i + 1)).length) ↔ ∃ g2, Given c ls g2 ∧ (∀ k, k < i → g2 k = g k) ∧ g2 i = h := by
 have hset : ∀ q, (may.set h false).getD q default = if q = h then false else may.getD q default := fun q => getD_set _ _ _ _ _ (by omega)
 have hrd : ∀ k, rd (ls.drop (i + 1)) k = rd ls (i + 1 + k) := fun k => getD_drop _ _ _ _
 have hdl : (ls.drop (i + 1)).length = ls.length - (i + 1) := List.length_drop
 constructor
 · rintro ⟨g0, h1, h2⟩
   obtain ⟨g', G, hgg⟩ := hg
   have hv : ∀ k, i < k → k < ls.length → g0 (k - (i + 1)) < c.Hands.length ∧ abl c (rd ls k) (g0 (k - (i + 1))) = true ∧ g0 (k - (i + 1)) ≠ h ∧ ∀ q, q < i → g q ≠ g0 (k - (i + 1)) := fun k h3 h4 => by
     obtain ⟨a, b1, b2⟩ := h1 (k - (i + 1)) (by dsimp only; omega)
     rw [hrd, show i + 1 + (k - (i + 1)) = k by omega] at b1
     rw [hset] at b2
     by_cases e : g0 (k - (i + 1)) = h
     · rw [if_pos e] at b2; cases b2
     · rw [if_neg e] at b2
       exact ⟨a, b1, e, (hmay _ a).1 b2⟩
   have hgh : ∀ q, q < i → g q ≠ h := (hmay h hh).1 hmh
   refine ⟨fun k => if k < i then g k else if k = i then h else g0 (k - (i + 1)), ⟨fun k hk => ?_, fun k k' hk hk' e => ?_⟩, fun k hk => if_pos hk, by dsimp only; rw [if_neg (by omega), if_pos rfl]⟩
   · by_cases e1 : k < i
     · rw [if_pos e1, ← hgg k e1]; exact G.ok k hk
     · rw [if_neg e1]
       by_cases e2 : k = i
       · rw [if_pos e2, e2]; exact ⟨hh, hab⟩
       · rw [if_neg e2]
         obtain ⟨a, b, _⟩ := hv k (by omega) hk
         exact ⟨a, b⟩
   · by_cases a1 : k < i
     · rw [if_pos a1] at e
       by_cases b1 : k' < i
       · rw [if_pos b1, ← hgg k a1, ← hgg k' b1] at e
         exact G.inj k k' hk hk' e
       · rw [if_neg b1] at e
         by_cases b2 : k' = i
         · rw [if_pos b2] at e; exact absurd e (hgh k a1)
         · rw [if_neg b2] at e; exact absurd e ((hv k' (by omega) hk').2.2.2 k a1)
     · rw [if_neg a1] at e
       by_cases a2 : k = i
       · rw [if_pos a2] at e
         by_cases b1 : k' < i
         · rw [if_pos b1] at e; exact absurd e.symm (hgh k' b1)
         · rw [if_neg b1] at e
           by_cases b2 : k' = i
           · omega
           · rw [if_neg b2] at e; exact absurd e.symm (hv k' (by omega) hk').2.2.1
       · rw [if_neg a2] at e
         by_cases b1 : k' < i
         · rw [if_pos b1] at e; exact absurd e.symm ((hv k (by omega) hk).2.2.2 k' b1)
         · rw [if_neg b1] at e
           by_cases b2 : k' = i
           · rw [if_pos b2] at e; exact absurd e (hv k (by omega) hk).2.2.1
           · rw [if_neg b2] at e
             have := h2 (k - (i + 1)) (k' - (i + 1)) (by dsimp only; omega) (by dsimp only; omega) e
             omega
 · rintro ⟨g2, G, e1, e2⟩
   refine ⟨fun k => g2 (i + 1 + k), fun k hk => ?_, fun k k' hk hk' e => ?_⟩
   · have hk : k < (ls.drop (i + 1)).length := hk
     obtain ⟨a, b⟩ := G.ok (i + 1 + k) (by omega)
     refine ⟨a, by rw [hrd]; exact b, ?_⟩
     rw [hset, if_neg (fun e => by
       have := G.inj (i + 1 + k) i (by omega) hi (by rw [e2]; exact e)
       omega)]
     refine (hmay _ a).2 (fun q hq e => ?_)
     have := G.inj q (i + 1 + k) (by omega) (by omega) (by rw [e1 q hq]; exact e)
     omega
   · have hk : k < (ls.drop (i + 1)).length := hk
     have hk' : k' < (ls.drop (i + 1)).length := hk'
     have := G.inj (i + 1 + k) (i + 1 + k') (by omega) (by omega) e
     omega
theorem all_iff : InjN (madj c ls (List.replicate c.Hands.length true)) c.Hands.length (fun k => k < ls.length) ↔ ∃ g, Given c ls g := by
 have hr : ∀ h, h < c.Hands.length → (List.replicate c.Hands.length true).getD h default = true := fun h hh => by rw [List.getD_eq_getElem?_getD, List.getElem?_replicate, if_pos hh]; rfl
 constructor
 · rintro ⟨g, h1, h2⟩
   exact ⟨g, fun k hk => ⟨(h1 k hk).1, (h1 k hk).2.1⟩, fun k k' hk hk' e => h2 k k' hk hk' e⟩
 · rintro ⟨g, G⟩
   exact ⟨g, fun k hk => ⟨(G.ok k hk).1, (G.ok k hk).2, hr _ (G.ok k hk).1⟩, fun k k' hk hk' e => G.inj k k' hk hk' e⟩
theorem rassign_wp (V : Valid c) (hF : Fit ls) (A : AreRounds (fol c Range.Hi) c.Tasks.length ls) (hls : ls.length ≤ 24) {fuel : Nat} (hf : 30 ≤ fuel) :
   Wp (gasolierref04_Assign fuel c ls) (fun r => ((¬ ∃ g, Given c ls g) ∧ r = ([], 45)) ∨ ∃ g, Firsts c ls ls.length g ∧ r = ((List.range ls.length).map (fun k => (hd c (g k)).Id), 0)) := by
 have hH := V.hands
 unfold gasolierref04_Assign
 refine wp_bindE (rcheckRounds_eq c ls hF) ?_
 rw [ckR_zero.2 ⟨V, A⟩]
 refine wp_false rfl (wp_bindE (all_eq V) (wp_bind (can_wp V A.round (by omega) (by simp) hf) (fun y hy => ?_)))
 rw [all_iff] at hy
 cases y with
 | false => exact wp_true rfl (wp_some (.inl ⟨fun h => (by have := hy.2 h; cases this), rfl⟩))
 | true =>
   refine wp_false rfl ?_
   refine wp_range (fun i s => ∃ g, Firsts c ls i g ∧ s.1.length = c.Hands.length ∧ (∀ q, q < c.Hands.length → (s.1.getD q default = true ↔ ∀ k, k < i → g k ≠ q)) ∧ s.2 = (List.range i).map (fun k => (hd c (g k)).Id))
     ⟨fun _ => 0, ⟨by obtain ⟨g, hg⟩ := hy.1 rfl; exact ⟨g, hg, fun k hk => by omega⟩, fun k hk => by omega⟩, by simp, fun q hq => ⟨fun _ k hk => by omega, fun _ => by dsimp only; rw [List.getD_eq_getElem?_getD, List.getElem?_replicate, if_pos hq]; rfl⟩, rfl⟩ (fun i s K hi hI hK => ?_) (fun s hI => ?_)
   · obtain ⟨may, out⟩ := s
     obtain ⟨g, hG, hml, hmay, hout⟩ := hI
     dsimp only at hml hmay hout hK ⊢
     have er : ls.getD i default = rd ls i := rfl
     obtain ⟨g', hg', hgg⟩ := hG.ext
     refine wp_must (by omega) ?_
     refine wp_range (fun h s => (s = (false, may, out) ∧ ∀ q, q < h → ¬ ∃ g'', Given c ls g'' ∧ (∀ k, k < i → g'' k = g k) ∧ g'' i = q) ∨ (s.1 = true ∧ ∃ g1, Firsts c ls (i + 1) g1 ∧ s.2.1.length = c.Hands.length ∧ (∀ q, q < c.Hands.length → (s.2.1.getD q default = true ↔ ∀ k, k < i + 1 → g1 k ≠ q)) ∧ s.2.2 = (List.range (i + 1)).map (fun k => (hd c (g1 k)).Id)))
       (.inl ⟨rfl, fun q hq => by omega⟩) (fun h s K2 hh hI2 hK2 => ?_) (fun s hI2 => ?_)
     · rcases hI2 with ⟨rfl, hnone⟩ | ⟨hd1, g1, hrest⟩
       · dsimp only
         rw [er]
         refine wp_must (fun _ => by omega) ?_
         refine wp_on (Q := fun r => r = abl c (rd ls i) h) (fun _ => Wp.of_eq (rable_abl V (A.round i hi) h) rfl) (fun y hy => ?_)
         refine wp_bif (fun hb => hK2 _ (.inl ⟨rfl, fun q hq => ?_⟩)) (fun hb => ?_)
         · by_cases e : q = h
           · subst e
             rintro ⟨g'', G'', e1, e2⟩
             obtain ⟨a, b⟩ := G''.ok i hi
             rw [e2] at a b
             have hmq : may.getD q default = true := (hmay q a).2 (fun k hk ek => by
               have := G''.inj k i (by omega) hi (by rw [e1 k hk, ek, e2]); omega)
             rw [hmq] at hb hy
             have := hy rfl
             subst this
             rw [b] at hb; cases hb
           · exact hnone q (by omega)
         · simp only [Bool.or_eq_false_iff, Bool.not_eq_false', Bool.false_or] at hb
           have hy := hy (by rw [hb.1]; rfl)
           rw [hy] at hb
           have hri := rest_iff hml hi hh hb.2 hb.1 hmay ⟨g', hg', hgg⟩
           have e1 : (((i : Int) + 1)).toNat = i + 1 := by omega
           refine wp_must (by omega) (wp_must (by omega) ?_)
           rw [e1]
           refine wp_bind (can_wp V (L := ls.drop (i + 1)) (fun k hk => ?_) (by rw [List.length_drop]; omega) (by rw [List.length_set]; exact hml) hf) (fun z hz => ?_)
           · rw [List.length_drop] at hk
             have : rd (ls.drop (i + 1)) k = rd ls (i + 1 + k) := getD_drop _ _ _ _
             rw [this]; exact A.round _ (by omega)
           rw [hri] at hz
           cases z with
           | true =>
             obtain ⟨g2, G2, f1, f2⟩ := hz.1 rfl
             have hlo : out.length ≤ 24 := by rw [hout, List.length_map, List.length_range]; omega
             refine wp_true rfl (wp_must (by rw [List.length_append]; exact room8 (by simp only [List.length_cons, List.length_nil]; omega)) (hK2 _ (.inr ⟨rfl, g2, ⟨⟨g2, G2, fun _ _ => rfl⟩, fun k hk q hq => ?_⟩, by rw [List.length_set]; exact hml, fun q hq => ?_, ?_⟩)))
             · by_cases e : k = i
               · subst e
                 rw [f2] at hq
                 rintro ⟨g3, G3, e2, e3⟩
                 exact hnone q hq ⟨g3, G3, fun k' hk' => by rw [e2 k' hk', f1 k' hk'], e3⟩
               · rw [f1 k (by omega)] at hq
                 rintro ⟨g3, G3, e2, e3⟩
                 exact hG.first k (by omega) q hq ⟨g3, G3, fun k' hk' => by rw [e2 k' hk', f1 k' (by omega)], e3⟩
             · dsimp only
               rw [getD_set _ _ _ _ _ (by omega)]
               by_cases e : q = h
               · subst e
                 rw [if_pos rfl]
                 exact ⟨fun h => (by cases h), fun h => absurd f2 (h i (by omega))⟩
               · rw [if_neg e, hmay q hq]
                 constructor
                 · intro h3 k hk
                   by_cases e2 : k = i
                   · rw [e2, f2]; exact fun e' => e e'.symm
                   · rw [f1 k (by omega)]; exact h3 k (by omega)
                 · intro h3 k hk
                   rw [← f1 k hk]; exact h3 k (by omega)
             · dsimp only
               rw [List.range_succ, List.map_append, hout]
               congr 1
               · exact List.map_congr_left (fun k hk => by rw [f1 k (List.mem_range.1 hk)])
               · show [_] = [(hd c (g2 i)).Id]; rw [f2]; rfl
           | false =>
             have eback : (may.set h false).set h true = may := by
               rw [List.set_set]
               refine ext_getD (by rw [List.length_set]) (fun q hq => ?_)
               rw [getD_set _ _ _ _ _ (by omega)]
               by_cases e : q = h
               · rw [if_pos e, e]; exact hb.1.symm
               · rw [if_neg e]
             refine wp_false rfl (wp_must (by rw [List.length_set]; omega) ?_)
             rw [eback]
             refine hK2 _ (.inl ⟨rfl, fun q hq => ?_⟩)
             by_cases e : q = h
             · subst e
               intro hx
               have := hz.2 hx
               cases this
             · exact hnone q (by omega)
       · obtain ⟨b, may1, out1⟩ := s
         dsimp only at hd1 hrest ⊢
         subst hd1
         refine wp_must (fun h => by cases h) (wp_offE rfl rfl (wp_true rfl (hK2 _ (.inr ⟨rfl, g1, hrest⟩))))
     · rcases hI2 with ⟨rfl, hnone⟩ | ⟨_, g1, h1, h2, h3, h4⟩
       · exact absurd ⟨g', hg', hgg, rfl⟩ (hnone (g' i) (hg'.ok i hi).1)
       · exact hK _ ⟨g1, h1, h2, h3, h4⟩
   · obtain ⟨g, hG, _, _, hout⟩ := hI
     exact wp_some (.inr ⟨g, hG, by rw [hout]⟩)
theorem assign_same (c : Crew) (ls : List (List Int)) (hF : Fit ls) {fuel : Nat} (hf : 30 ≤ fuel) : ∃ y, crew_Assign fuel c ls = some y ∧ gasolierref04_Assign fuel c ls = some y ∧ y.1.length ≤ 100 := by
 by_cases h : ckR c ls = 0
 · obtain ⟨V, A⟩ := ckR_zero.1 h
   have hls : ls.length ≤ 24 := Nat.le_trans A.len_le V.tasks
   obtain ⟨y, e1, h1⟩ := assign_wp V hF A hls hf
   obtain ⟨z, e2, h2⟩ := rassign_wp V hF A hls hf
   rcases h1 with ⟨p1, rfl⟩ | ⟨g, hg, rfl⟩
   · rcases h2 with ⟨_, rfl⟩ | ⟨g', hg', _⟩
     · exact ⟨_, e1, e2, by simp⟩
     · obtain ⟨G, G1, _⟩ := hg'.ext; exact absurd ⟨G, G1⟩ p1
   · rcases h2 with ⟨p1, _⟩ | ⟨g', hg', rfl⟩
     · obtain ⟨G, G1, _⟩ := hg.ext; exact absurd ⟨G, G1⟩ p1
     · refine ⟨_, e1, ?_, by simp; omega⟩
       rw [e2]
       congr 2
       exact List.map_congr_left (fun k hk => by rw [hg.unique hg' k (List.mem_range.1 hk)])
 · refine ⟨([], ckR c ls), ?_, ?_, by simp⟩
   · unfold crew_Assign
     obtain ⟨y, e, hy⟩ := asked_wp c ls hF
     rw [e]
     have e2 : y.2 = ckR c ls := by
       rcases hy with ⟨h1, rfl⟩ | ⟨h1, h2, rfl⟩ | ⟨h1, h2, p, rfl, _⟩
       · exact (ck_neg h1 _ _).symm
       · exact ((ck_pos h1 _ _).trans (ck_neg h2 _ _)).symm
       · exact absurd (ckR_zero.2 ⟨h1, h2⟩) h
     show (bif (!decide (y.2 = 0)) then _ else _) = _
     rw [e2, decide_eq_false h]; rfl
   · unfold gasolierref04_Assign
     rw [rcheckRounds_eq c ls hF]
     show (bif (!decide (ckR c ls = 0)) then _ else _) = _
     rw [decide_eq_false h]; rfl
end
end Go.Sp
end
/- Plain laws, crew: the document's Short; CrewHands. No program in sight. -/
section
set_option linter.all false
namespace Go.Sp
open Go.Av
set_option maxRecDepth 100000
section
variable {c : Crew} {ls : List (List Int)}
noncomputable def shl (c : Crew) (ls : List (List Int)) : Nat → List Int → List Int
 | 0, S => S
 | k + 1, S => shl c ls k (@ite _ (CanF c ls (S.take k ++ S.drop (k + 1))) (Classical.propDecidable _) S (S.take k ++ S.drop (k + 1)))
theorem shl_yes {k : Nat} {S : List Int} (h : CanF c ls (S.take k ++ S.drop (k + 1))) : shl c ls (k + 1) S = shl c ls k S := by
 exact congrArg (shl c ls k) (@if_pos _ (Classical.propDecidable _) h _ _ _)
theorem shl_no {k : Nat} {S : List Int} (h : ¬ CanF c ls (S.take k ++ S.drop (k + 1))) : shl c ls (k + 1) S = shl c ls k (S.take k ++ S.drop (k + 1)) := by
 exact congrArg (shl c ls k) (@if_neg _ (Classical.propDecidable _) h _ _ _)
theorem shl_len (k : Nat) : ∀ (S : List Int), (shl c ls k S).length ≤ S.length := by
 induction k with
 | zero => intro S; exact Nat.le_refl _
 | succ k ih =>
   intro S
   by_cases h : CanF c ls (S.take k ++ S.drop (k + 1))
   · rw [shl_yes h]; exact ih S
   · rw [shl_no h]
     refine Nat.le_trans (ih _) ?_
     rw [List.length_append, List.length_take, List.length_drop]; omega
theorem some_iff {S : List Int} (B : By ls.length S) : InjN (madj c (S.map (fun k => rd ls k.toNat)) (List.replicate c.Hands.length true)) c.Hands.length (fun k => k < (S.map (fun k => rd ls k.toNat)).length) ↔ CanF c ls S := by
 have hr : ∀ h, h < c.Hands.length → (List.replicate c.Hands.length true).getD h default = true := fun h hh => by rw [List.getD_eq_getElem?_getD, List.getElem?_replicate, if_pos hh]; rfl
 have hl : (S.map (fun k => rd ls k.toNat)).length = S.length := List.length_map ..
 have eg : ∀ m, m < S.length → rd (S.map (fun k => rd ls k.toNat)) m = rd ls (S.getD m default).toNat := fun m hm => by
   show (S.map (fun k => rd ls k.toNat)).getD m default = _
   rw [List.getD_eq_getElem?_getD, List.getElem?_map, List.getElem?_eq_getElem hm, List.getD_eq_getElem?_getD, List.getElem?_eq_getElem hm]; rfl
 rw [hl]
 constructor
 · rintro ⟨g, h1, h2⟩
   have : ∀ k : Nat, ∃ j : Nat, (k : Int) ∈ S → j < S.length ∧ S.getD j default = (k : Int) := fun k => by
     by_cases hk : (k : Int) ∈ S
     · obtain ⟨j, hj, e⟩ := mem_getD hk; exact ⟨j, fun _ => ⟨hj, e⟩⟩
     · exact ⟨0, fun h => absurd h hk⟩
   refine ⟨fun k => g (this k).choose, fun k hk => ?_, fun k k' hk hk' e => ?_⟩
   · obtain ⟨a, b⟩ := (this k).choose_spec hk
     obtain ⟨q1, q2, _⟩ := h1 _ a
     rw [eg _ a, b, Int.toNat_natCast] at q2
     exact ⟨q1, q2⟩
   · obtain ⟨a, b⟩ := (this k).choose_spec hk
     obtain ⟨a', b'⟩ := (this k').choose_spec hk'
     have := h2 _ _ a a' e
     rw [this, b'] at b
     omega
 · rintro ⟨g, h1, h2⟩
   have hin : ∀ j, j < S.length → (((S.getD j default).toNat : Nat) : Int) = S.getD j default ∧ (((S.getD j default).toNat : Nat) : Int) ∈ S := fun j hj => by
     have := B.rng j hj
     have e : (((S.getD j default).toNat : Nat) : Int) = S.getD j default := by omega
     exact ⟨e, by rw [e]; exact getD_mem hj⟩
   refine ⟨fun j => g (S.getD j default).toNat, fun j hj => ?_, fun j j' hj hj' e => ?_⟩
   · obtain ⟨q1, q2⟩ := h1 _ (hin j hj).2
     exact ⟨q1, by rw [eg j hj]; exact q2, hr _ q1⟩
   · have := h2 _ _ (hin j hj).2 (hin j' hj').2 e
     have e1 := (hin j hj).1
     have e2 := (hin j' hj').1
     exact nodup_getD B.nd hj hj' (by omega)
theorem short2_wp (V : Valid c) (hF : Fit ls) (A : AreRounds (fol c Range.Hi) c.Tasks.length ls) (hls : ls.length ≤ 24) {fuel : Nat} (hf : 30 ≤ fuel) :
   Wp (crew_Short fuel c ls) (fun r => ((∃ g, Given c ls g) ∧ r = ([], 3)) ∨ ((¬ ∃ g, Given c ls g) ∧ r = (shl c ls ls.length (upto ls.length), 0))) := by
 unfold crew_Short
 obtain ⟨p, ea, hp, IP⟩ := asked_ok V hF A
 refine wp_bindE ea (wp_false rfl ?_)
 dsimp only
 have hul : (upto ls.length).length = ls.length := by unfold upto; rw [List.length_map, List.length_range]
 have allF : ∀ {S : List Int}, (By ls.length S) → Wp (crew_shift__all fuel ⟨some p, ls⟩ S (List.replicate ls.length (-1))) (fun r => r = true ↔ CanF c ls S) := fun {S} B =>
   (all_wp V hp A.round (by omega) B (fx_free B) (by omega)).mono (fun r hr => by rw [can_free B] at hr; exact hr)
 refine wp_bindE (indices_eq (by omega)) (wp_bindE (free_eq (by omega)) (wp_bind (allF (by_all _)) (fun y hy => ?_)))
 rw [canF_all] at hy
 cases y with
 | true => exact wp_true rfl (wp_some (.inl ⟨hy.1 rfl, rfl⟩))
 | false =>
   have hno : ¬ ∃ g, Given c ls g := fun h => by have := hy.2 h; cases this
   refine wp_false rfl (wp_mustI (by omega) ?_)
   refine wp_loop (fun s => -1 ≤ s.1 ∧ s.1 < s.2.length ∧ s.2.length ≤ ls.length ∧ (∀ x ∈ s.2, 0 ≤ x ∧ x < ls.length) ∧ s.2.Pairwise (· < ·) ∧ shl c ls (s.1 + 1).toNat s.2 = shl c ls ls.length (upto ls.length)) (fun s => (s.1 + 1).toNat) (by dsimp only; omega)
     ⟨by dsimp only; omega, by dsimp only; omega, by dsimp only; omega, fun x hx => mem_upto.1 hx, upto_asc _, by dsimp only; rw [hul, show (((ls.length : Nat) : Int) - 1 + 1).toNat = ls.length by omega]⟩ (fun s K hI hK => ?_)
   obtain ⟨i, S⟩ := s
   obtain ⟨h1, h2, h3, h4, h5, h6⟩ := hI
   dsimp only at h1 h2 h3 h4 h5 h6 hK ⊢
   refine wp_ifd (fun h0 => ?_) (fun h0 => ?_)
   · obtain ⟨k, rfl⟩ := Int.eq_ofNat_of_zero_le h0
     refine wp_bindE (clone_eq _ (by omega)) (wp_mustI (by omega) (wp_bindE (delete_eq _ _ (by omega) (by omega)) ?_))
     have B : By ls.length (S.take k ++ S.drop (k + 1)) := By.of_asc (cut_asc h5 k) (fun x hx => h4 x (cut_mem hx))
     refine wp_bindE (free_eq (by omega)) (wp_bind (allF B) (fun z hz => ?_))
     have hcl := cut_len (S := S) (k := k) (by omega)
     have ek : ((k : Int) + 1).toNat = k + 1 := by omega
     have ek2 : ((k : Int) - 1 + 1).toNat = k := by omega
     rw [ek] at h6
     cases z with
     | false =>
       refine wp_true rfl (wp_mustI (by omega) (hK _ ⟨by dsimp only; omega, by dsimp only; omega, by dsimp only; omega, fun x hx => h4 x (cut_mem hx), cut_asc h5 k, ?_⟩ (by dsimp only; omega)))
       dsimp only
       rw [ek2, ← h6, shl_no (fun h => by have := hz.2 h; cases this)]
     | true =>
       refine wp_false rfl (wp_mustI (by omega) (hK _ ⟨by dsimp only; omega, by dsimp only; omega, by dsimp only; omega, h4, h5, ?_⟩ (by dsimp only; omega)))
       dsimp only
       rw [ek2, ← h6, shl_yes (hz.1 rfl)]
   · rw [show (i + 1).toNat = 0 by omega] at h6
     exact wp_some (.inr ⟨hno, by rw [← h6]; rfl⟩)
theorem rless_eq (l : List Int) (k : Nat) (h : k < l.length) (hl : l.length ≤ 100) : gasolierref04_less l (k : Int) = some (l.take k ++ l.drop (k + 1)) := by
 refine Wp.eq ?_
 unfold gasolierref04_less
 have e0 : ((k : Int)).toNat = k := rfl
 have e1 : ((k : Int) + 1).toNat = k + 1 := by omega
 rw [e0, e1]
 have r1 : ∀ {L : List Int}, L.length ≤ 200 → room L.length 8 := fun {L} h => by unfold room; omega
 refine wp_must (by omega) (wp_must (r1 (by rw [List.length_append, List.length_take]; simp only [List.length_nil]; omega)) (wp_mustI (by omega) (wp_must (by omega) (wp_must (r1 ?_) (wp_some rfl)))))
 rw [List.length_append, List.length_append, List.length_take, List.length_drop]; simp only [List.length_nil]; omega
theorem rshort_wp (V : Valid c) (hF : Fit ls) (A : AreRounds (fol c Range.Hi) c.Tasks.length ls) (hls : ls.length ≤ 24) {fuel : Nat} (hf : 30 ≤ fuel) :
   Wp (gasolierref04_Short fuel c ls) (fun r => ((∃ g, Given c ls g) ∧ r = ([], 3)) ∨ ((¬ ∃ g, Given c ls g) ∧ r = (shl c ls ls.length (upto ls.length), 0))) := by
 unfold gasolierref04_Short
 have hul : (upto ls.length).length = ls.length := by unfold upto; rw [List.length_map, List.length_range]
 refine wp_bindE (rcheckRounds_eq c ls hF) ?_
 rw [ckR_zero.2 ⟨V, A⟩]
 refine wp_false rfl (wp_bindE (all_eq V) (wp_bind (can_wp V A.round (by omega) (by simp) hf) (fun y hy => ?_)))
 rw [all_iff] at hy
 cases y with
 | true => exact wp_true rfl (wp_some (.inl ⟨hy.1 rfl, rfl⟩))
 | false =>
   have hno : ¬ ∃ g, Given c ls g := fun h => by have := hy.2 h; cases this
   refine wp_false rfl ?_
   refine wp_range (fun i s => s = upto i) (by rfl) (fun i s K hi hI hK => ?_) (fun s hI => ?_)
   · subst hI
     have hl : (upto i).length = i := by unfold upto; rw [List.length_map, List.length_range]
     refine wp_must (room8 ?_) (hK _ ?_)
     · rw [List.length_append]; simp only [List.length_cons, List.length_nil]; omega
     · unfold upto; rw [List.range_succ, List.map_append]; rfl
   subst hI
   refine wp_mustI (by omega) ?_
   refine wp_loop (fun s => -1 ≤ s.1 ∧ s.1 < s.2.length ∧ s.2.length ≤ ls.length ∧ (∀ x ∈ s.2, 0 ≤ x ∧ x < ls.length) ∧ s.2.Pairwise (· < ·) ∧ shl c ls (s.1 + 1).toNat s.2 = shl c ls ls.length (upto ls.length)) (fun s => (s.1 + 1).toNat) (by dsimp only; omega)
     ⟨by dsimp only; omega, by dsimp only; omega, by dsimp only; omega, fun x hx => mem_upto.1 hx, upto_asc _, by dsimp only; rw [show (((ls.length : Nat) : Int) - 1 + 1).toNat = ls.length by omega]⟩ (fun s K hI hK => ?_)
   obtain ⟨i, S⟩ := s
   obtain ⟨h1, h2, h3, h4, h5, h6⟩ := hI
   dsimp only at h1 h2 h3 h4 h5 h6 hK ⊢
   refine wp_ifd (fun h0 => ?_) (fun h0 => ?_)
   · obtain ⟨k, rfl⟩ := Int.eq_ofNat_of_zero_le h0
     have B : By ls.length (S.take k ++ S.drop (k + 1)) := By.of_asc (cut_asc h5 k) (fun x hx => h4 x (cut_mem hx))
     have hcl := cut_len (S := S) (k := k) (by omega)
     have hrd : ∀ m, m < ((S.take k ++ S.drop (k + 1)).map (fun k => rd ls k.toNat)).length → IsRound (fol c Range.Hi) c.Tasks.length (rd ((S.take k ++ S.drop (k + 1)).map (fun k => rd ls k.toNat)) m) := fun m hm => by
       rw [List.length_map] at hm
       have e : rd ((S.take k ++ S.drop (k + 1)).map (fun k => rd ls k.toNat)) m = rd ls ((S.take k ++ S.drop (k + 1)).getD m default).toNat := by
         show (List.map _ _).getD m default = _
         rw [List.getD_eq_getElem?_getD, List.getElem?_map, List.getElem?_eq_getElem hm, List.getD_eq_getElem?_getD, List.getElem?_eq_getElem hm]; rfl
       have := B.rng m hm
       rw [e]; exact A.round _ (by omega)
     refine wp_bindE (rless_eq _ _ (by omega) (by omega)) (wp_bindE (some_eq B.rng (by omega)) (wp_bindE (all_eq V) (wp_bind (can_wp V hrd (by rw [List.length_map]; omega) (by simp) hf) (fun z hz => ?_))))
     rw [some_iff B] at hz
     have ek : ((k : Int) + 1).toNat = k + 1 := by omega
     have ek2 : ((k : Int) - 1 + 1).toNat = k := by omega
     rw [ek] at h6
     cases z with
     | false =>
       refine wp_true rfl (wp_mustI (by omega) (hK _ ⟨by dsimp only; omega, by dsimp only; omega, by dsimp only; omega, fun x hx => h4 x (cut_mem hx), cut_asc h5 k, ?_⟩ (by dsimp only; omega)))
       dsimp only
       rw [ek2, ← h6, shl_no (fun h => by have := hz.2 h; cases this)]
     | true =>
       refine wp_false rfl (wp_mustI (by omega) (hK _ ⟨by dsimp only; omega, by dsimp only; omega, by dsimp only; omega, h4, h5, ?_⟩ (by dsimp only; omega)))
       dsimp only
       rw [ek2, ← h6, shl_yes (hz.1 rfl)]
   · rw [show (i + 1).toNat = 0 by omega] at h6
     exact wp_some (.inr ⟨hno, by rw [← h6]; rfl⟩)
theorem short_same (c : Crew) (ls : List (List Int)) (hF : Fit ls) {fuel : Nat} (hf : 30 ≤ fuel) : ∃ y, crew_Short fuel c ls = some y ∧ gasolierref04_Short fuel c ls = some y ∧ y.1.length ≤ 100 := by
 by_cases h : ckR c ls = 0
 · obtain ⟨V, A⟩ := ckR_zero.1 h
   have hls : ls.length ≤ 24 := Nat.le_trans A.len_le V.tasks
   obtain ⟨y, e1, h1⟩ := short2_wp V hF A hls hf
   obtain ⟨z, e2, h2⟩ := rshort_wp V hF A hls hf
   rcases h1 with ⟨p1, rfl⟩ | ⟨p1, rfl⟩
   · rcases h2 with ⟨_, rfl⟩ | ⟨q1, _⟩
     · exact ⟨_, e1, e2, by simp⟩
     · exact absurd p1 q1
   · rcases h2 with ⟨q1, _⟩ | ⟨_, rfl⟩
     · exact absurd q1 p1
     · refine ⟨_, e1, e2, ?_⟩
       have := shl_len (c := c) (ls := ls) ls.length (upto ls.length)
       have hul : (upto ls.length).length = ls.length := by unfold upto; rw [List.length_map, List.length_range]
       dsimp only; omega
 · refine ⟨([], ckR c ls), ?_, ?_, by simp⟩
   · unfold crew_Short
     obtain ⟨y, e, hy⟩ := asked_wp c ls hF
     rw [e]
     have e2 : y.2 = ckR c ls := by
       rcases hy with ⟨h1, rfl⟩ | ⟨h1, h2, rfl⟩ | ⟨h1, h2, p, rfl, _⟩
       · exact (ck_neg h1 _ _).symm
       · exact ((ck_pos h1 _ _).trans (ck_neg h2 _ _)).symm
       · exact absurd (ckR_zero.2 ⟨h1, h2⟩) h
     show (bif (!decide (y.2 = 0)) then _ else _) = _
     rw [e2, decide_eq_false h]; rfl
   · unfold gasolierref04_Short
     rw [rcheckRounds_eq c ls hF]
     show (bif (!decide (ckR c ls = 0)) then _ else _) = _
     rw [decide_eq_false h]; rfl
theorem crewHands_true (c : Crew) (pl : gasolierlaw04_Plan) (r : List Int) (hR : Fit pl.Rounds) (hC : pl.Cut.length ≤ 9223372036854775807) (hr : r.length ≤ 9223372036854775807) : gasolierlaw04_CrewHands 20000 c pl r = some true := by
 refine Wp.eq ?_
 unfold gasolierlaw04_CrewHands
 obtain ⟨y1, a1, b1, l1⟩ := able_same c hr
 obtain ⟨y2, a2, b2, l2⟩ := assign_same c pl.Rounds hR (fuel := 20000) (by omega)
 obtain ⟨y3, a3, b3, l3⟩ := short_same c pl.Rounds hR (fuel := 20000) (by omega)
 obtain ⟨y4, a4, b4, l4⟩ := moved_same c (fuel := 20000) (by omega)
 obtain ⟨z1, d1, f1⟩ := rcheckAssign_gen c pl.Rounds hR (fuel := 20000) (by omega) pl.Hands
 obtain ⟨z2, d2, f2⟩ := rcheckShort_gen c pl.Rounds hR pl.Cut hC
 have S : ∀ {l : List Int}, l.length ≤ 100 → gasolierref01_Same l l = some true := fun {l} h => by rw [same_eq l l (by omega), decide_eq_true rfl]
 refine wp_bindE a1 (wp_bindE b1 (wp_bindE a2 (wp_bindE b2 (wp_bindE a3 (wp_bindE b3 (wp_bindE a4 (wp_bindE b4 (wp_bindE (S l1) ?_))))))))
 rw [decide_eq_true (rfl : y1.2 = y1.2), decide_eq_true (rfl : y2.2 = y2.2), decide_eq_true (rfl : y3.2 = y3.2), decide_eq_true (rfl : y4.2 = y4.2)]
 refine wp_onE rfl (S l2) (wp_onE rfl (S l3) (wp_onE rfl (S l4) (wp_false rfl (wp_bindE d1 (wp_bindE f1 ?_)))))
 rw [decide_eq_true (rfl : z1 = z1)]
 refine wp_onE rfl d2 (wp_onE rfl f2 ?_)
 rw [decide_eq_true (rfl : z2 = z2)]
 exact wp_onE rfl sane4 (wp_some rfl)
end
end Go.Sp
end
/- Plain laws, crew: what is known of the arguments. No program in sight. -/
section
set_option linter.all false
namespace Go.Sp
open Go.Av
theorem fit_of {l : List (List Int)} (h : l.length ≤ 140737488351232 ∧ ∀ x ∈ l, x.length ≤ 140737488351232 ∧ ∀ y ∈ x, inI y) : Fit l :=
 ⟨by have := h.1; omega, fun k hk => by have := (h.2 _ (getD_mem hk)).1; exact Nat.le_trans this (by omega)⟩
theorem len_of {T : Type} {l : List T} {p : T → Prop} (h : l.length ≤ 140737488351232 ∧ ∀ x ∈ l, p x) : l.length ≤ 9223372036854775807 := by
 have := h.1; omega
end Go.Sp
end
