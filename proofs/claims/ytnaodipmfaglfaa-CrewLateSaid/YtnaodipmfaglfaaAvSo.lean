/- slices.Sort at []int, whose contract the library has, as a function that a slice is lent to. -/
import Derived.Test.YtnaodipmfaglfaaAvFz
import Derived.Test.YtnaodipmfaglfaaAvIs
import Derived.Shelf.Sort.Plain
import Derived.Shelf.Slices.In.SortNone
import Derived.Sort.OwnSortedInts
set_option linter.all false
namespace Go.Av
open Go Go.Sort Go.Proofs
theorem sort_ctr {P : Program} {f : FuncId} (hent : Enters P f)
    (hC : ∀ (blk off cap : Nat) (zs : List Int) (w : World), Holds (Value.int .i64) w blk off zs.toArray → blk < w.heap.size → zs.length < 4611686018427387904 →
      Calls P f #[.slice (some ⟨blk, off, none⟩) zs.length cap] w fun e w' => e = .returned (.tuple #[]) ∧ ∃ n os, w' = grow (putRow (Value.int .i64) (Sort.ahead w n) blk off (zs.mergeSort fun x y => decide (x ≤ y)).toArray) os)
    (hN : ∀ (p : Option Addr) (cap : Nat) (w : World), Calls P f #[.slice p 0 cap] w fun e w' => e = .returned (.tuple #[]) ∧ w' = w)
    (ty : Nat) (l : List Int) {r : List Int} (H : Sp.slices_Sort_int_l l = some r) :
    CtrO P f [.buf 90000 l.length] [(90000, bufL ty 1 (fun x => [.int .i64 x]) l)] (.tup []) [(90000, bufL ty 1 (fun x => [.int .i64 x]) r)] := by
  unfold Sp.slices_Sort_int_l at H
  obtain ⟨hlen, H⟩ := Sp.of_must H
  cases H
  refine ⟨hent, fun h w ρ vs hR hp O => ?_⟩
  obtain ⟨hl, hg⟩ := hR
  match vs, hl with
  | [v], _ =>
  have hv := hg 0 _ v rfl rfl
  obtain ⟨v0, xs, b1, b2, b3, b4, b5⟩ := O.blk 90000 _ rfl
  have : v = v0 := by
    generalize hn : l.length = n at hv
    cases hv with
    | buf _ _ _ n2 sz2 _ v' hb hle h1 he => rw [b1] at hb; cases hb; exact he hn.symm
  subst this
  have wide : ∀ {R : Ending → World → Prop} {args : Array Value}, Calls P f args w R → CallsIn (Fw none) 0 P f args w R := fun hc => callsIn_wide.2 hc
  have hxs : xs = l.map (Value.int .i64) := by
    have hlx : xs.length = l.length := by have := b2.1; omega
    refine List.ext_getElem (by simp [hlx]) (fun i h1 h2 => ?_)
    have := b5 i 0 (.int .i64 (l.getD i default)) xs[i] (by omega) rfl (by rw [Nat.mul_one, Nat.add_zero]; exact List.getElem?_eq_getElem h1)
    generalize xs[i] = v at this ⊢
    cases this
    rw [List.getElem_map, List.getD_eq_getElem?_getD, List.getElem?_eq_getElem (by omega)]; rfl
  rcases b2.2 with ⟨hnil, hl0⟩ | ⟨g, cap, cur, rfl, hg0, hcur, q1, q2, q3, q4⟩
  · subst hnil
    have e0 : l = [] := List.length_eq_zero_iff.1 hl0
    subst e0
    refine (wide (hN none 0 w)).mono (fun en w' he => ?_)
    obtain ⟨rfl, rfl⟩ := he
    exact ⟨h, ρ, rfl, rfl, rfl, Nat.le_refl _, fun k _ _ => rfl, fun b o hb => hb, fun b o hb => .inl hb, .tup _ _ [] rfl (fun i c v hc => by simp at hc), ⟨O.blk, O.dom, O.own, O.inj⟩, fun id li b q1 q2 => .inl ⟨id, li, q1, q2⟩, fun id li li' q1 q2 => by rw [q1] at q2; cases q2; exact LI.le_refl _⟩
  · have hgs : g < w.heap.size := heap_lt hcur
    rw [Nat.mul_one] at q3 q4
    have hold := holds_of_blockI (ss := l) hcur (by rw [q4, hxs])
    have hc := hC g 0 cap l w hold hgs hlen
    refine (wide hc).mono (fun en w' he => ?_)
    obtain ⟨rfl, n, os, rfl⟩ := he
    rw [Sp.merge_isort]
    obtain ⟨s1, s2, s3, s4, s5⟩ := grownBy_sortedI (w := w) (g := g) (n := n) (os := os) (Sp.isort l).toArray
    have hin : ownSet ρ g := ⟨90000, _, b1, rfl⟩
    refine ⟨h, ρ, s1, s2, s3, s4, fun k hk hn => s5 k hk (fun e => hn (by cases e; exact hin)), fun b o hb => hb, fun b o hb => .inl hb, .tup _ _ [] rfl (fun i c v hc => by simp at hc), ⟨fun id x hx => ?_, fun id hid => ?_, fun id li b q1 q2 => ⟨(O.own id li b q1 q2).1, Nat.lt_of_lt_of_le (O.own id li b q1 q2).2 s4⟩, O.inj⟩, fun id li b q1 q2 => .inl ⟨id, li, q1, q2⟩, fun id li li' q1 q2 => by rw [q1] at q2; cases q2; exact LI.le_refl _⟩
    · have hid : id = 90000 := by
        by_cases e : id = 90000
        · exact e
        · simp only [mm] at hx; rw [upd_other _ _ e] at hx; cases hx
      subst hid
      simp only [mm] at hx; rw [upd_same] at hx; cases hx
      have own := ownsRow_sortedI (w := w) (base := 0) (g := g) (cap := cap) (n := n) (os := os) (ss := l) (ts := Sp.isort l) (Sp.isort_length l) hg0 hcur q1 q2 (by rw [q3, Nat.mul_one])
      refine ⟨_, (Sp.isort l).map (Value.int .i64), by rw [Sp.isort_length]; exact b1, by rw [Sp.isort_length]; exact own, fun i _ => rfl, fun x hx => ?_, fun i j c x hi hc hx => ?_⟩
      · obtain ⟨z, _, rfl⟩ := List.mem_map.1 hx; rfl
      · cases j with
        | succ j => simp at hc
        | zero =>
          have hc : AV.int .i64 ((Sp.isort l).getD i default) = c := by simpa using hc
          subst hc
          rw [Nat.mul_one, Nat.add_zero, List.getElem?_map, List.getElem?_eq_getElem hi] at hx
          cases hx
          rw [List.getD_eq_getElem?_getD, List.getElem?_eq_getElem hi]
          exact .int _ _ _
    · refine O.dom id ?_
      by_cases e : id = 90000
      · subst e; simp only [mm] at hid; rw [upd_same] at hid; cases hid
      · simp only [mm]; rw [upd_other _ _ e]
end Go.Av
