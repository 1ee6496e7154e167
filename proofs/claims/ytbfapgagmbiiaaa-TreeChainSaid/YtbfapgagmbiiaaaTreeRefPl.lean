/- Plain: the reference's own way to the parents. -/
import Derived.Test.YtbfapgagmbiiaaaTreePlace
namespace Gl.Tree
open Gl

/-- The reference's way round: is all so far above i, and where is it? -/
def refGo (up : List Int) (i : Int) : Nat → Bool → Int → Bool × Int
  | 0, b, k => (b, k)
  | n + 1, b, k => if k < 0 then (b, k) else if k = i then (b, k) else refGo up i n (b && decide (i < k)) (up.getD k.toNat 0)
def refAt (up : List Int) (i : Nat) : Bool × Int := refGo up i up.length true (up.getD i 0)
def refHit (up : List Int) (i : Nat) : Bool := (refAt up i).2 == (i : Int) && (refAt up i).1
theorem refGo_ring {up : List Int} (hok : Ok up) {i : Int} (h0 : 0 ≤ i) : ∀ (N : Nat) (least k : Int) (b : Bool), least ≤ i → (b = true ↔ least = i) → (k = -1 ∨ In up.length k) → (climb up N k = i → ∃ j, j < N ∧ climb up j k = i) →
    (ringGo up i N least k = i ↔ (refGo up i N b k).2 = i ∧ (refGo up i N b k).1 = true) := by
  intro N
  induction N with
  | zero =>
    intro least k b h1 h2 h3 h4
    simp only [ringGo, refGo]
    constructor
    · intro e; omega
    · rintro ⟨e, _⟩
      obtain ⟨j, hj, _⟩ := h4 (by simpa [climb] using e)
      omega
  | succ N ih =>
    intro least k b h1 h2 h3 h4
    rw [ringGo, refGo]
    by_cases hk : k = -1
    · rw [if_pos hk, if_pos (show k < 0 by omega)]
      constructor
      · intro e; omega
      · rintro ⟨e, _⟩
        have e : k = i := e
        omega
    · have hin : In up.length k := by rcases h3 with h | h; exact absurd h hk; exact h
      rw [if_neg hk, if_neg (show ¬ k < 0 by have := hin.1; omega)]
      by_cases hki : k = i
      · rw [if_pos hki, if_pos hki]
        exact ⟨fun e => ⟨hki, h2.2 e⟩, fun e => h2.1 e.2⟩
      · rw [if_neg hki, if_neg hki]
        have hs : ∀ j, climb up (j + 1) k = climb up j (up.getD k.toNat 0) := fun j => by simp [climb, hk]
        refine ih (min least k) _ _ (by omega) ?_ (ok_get hok hin) ?_
        · rw [Bool.and_eq_true, decide_eq_true_eq, h2]
          omega
        · intro e
          obtain ⟨j, hj, e2⟩ := h4 (by rw [hs]; exact e)
          rcases j with _ | j
          · exact absurd e2 hki
          · exact ⟨j, by omega, by rw [← hs]; exact e2⟩
theorem ring_round {up : List Int} (hok : Ok up) {i : Int} (hi : In up.length i) (h : climb up up.length (up.getD i.toNat 0) = i) : ∃ j, j < up.length ∧ climb up j (up.getD i.toNat 0) = i := by
  generalize hx : up.getD i.toNat 0 = x at h
  have hxo : x = -1 ∨ In up.length x := by rw [← hx]; exact ok_get hok hi
  have hne : ∀ k, k ≤ up.length → climb up k x ≠ -1 := by
    intro k hk e
    have : climb up up.length x = -1 := by rw [show up.length = k + (up.length - k) by omega, climb_add, e, climb_top]
    have := hi.1
    omega
  have hxi : In up.length x := by
    rcases hxo with e | e
    · exact absurd e (hne 0 (Nat.zero_le _))
    · exact e
  have hin : ∀ k, k ≤ up.length → In up.length (climb up k x) := by
    intro k hk
    rcases climb_in hok hxi k with e | e
    · exact absurd e (hne k hk)
    · exact e
  obtain ⟨a, b, hab, hb, e⟩ := pigeon up.length (fun k => (climb up k x).toNat) (fun k hk => by
    have h1 := (hin k hk).1
    have h2 := (hin k hk).2
    show (climb up k x).toNat < up.length
    omega)
  have e1 : climb up a x = climb up b x := by
    have h1 := (hin a (by omega)).1
    have h2 := (hin b hb).1
    have e : (climb up a x).toNat = (climb up b x).toNat := e
    omega
  refine ⟨a + (up.length - b), by omega, ?_⟩
  rw [climb_add, e1, ← climb_add, show b + (up.length - b) = up.length by omega]
  exact h
theorem refHit_eq {up : List Int} (hok : Ok up) {i : Nat} (hi : i < up.length) : refHit up i = true ↔ ring up i = (i : Int) := by
  have hin : In up.length (i : Int) := ⟨by omega, by omega⟩
  have h := refGo_ring hok (i := (i : Int)) (by omega) up.length i (up.getD i 0) true (Int.le_refl _) (by simp) (by have := ok_get hok hin; rwa [Int.toNat_natCast] at this) (fun e => by have := ring_round hok hin; rw [Int.toNat_natCast] at this; exact this e)
  unfold ring
  rw [h]
  unfold refHit refAt
  rw [Bool.and_eq_true, beq_iff_eq]
theorem cutTo_ref {up : List Int} (hok : Ok up) {k : Nat} (hk : k < up.length) : cutTo up (k + 1) = if refHit up k = true then (cutTo up k).set k (-1) else cutTo up k := by
  by_cases h : refHit up k = true
  · rw [if_pos h, cutTo_hit ((refHit_eq hok hk).1 h)]
  · rw [if_neg h]
    exact (cutTo_miss (fun e => h ((refHit_eq hok hk).2 e))).symm
/-- From the last place down: the least that hits so far. -/
def namedFrom (l : List SSpan) (i k : Nat) : Int := match (List.range l.length).find? (fun j => decide (k ≤ j) && hits l i j) with
  | some j => (j : Int)
  | none => -1
theorem namedFrom_zero (l : List SSpan) (i : Nat) : namedFrom l i 0 = named l i := by
  have e : (fun j => decide (0 ≤ j) && hits l i j) = hits l i := by funext j; simp
  unfold namedFrom named
  rw [e]
  rfl
theorem namedFrom_end (l : List SSpan) (i : Nat) : namedFrom l i l.length = -1 := by
  unfold namedFrom
  have : (List.range l.length).find? (fun j => decide (l.length ≤ j) && hits l i j) = none := by
    rw [List.find?_eq_none]
    intro j hj
    have := List.mem_range.1 hj
    simp
    intro h
    omega
  rw [this]
theorem namedFrom_hit {l : List SSpan} {i k : Nat} (hk : k < l.length) (h : hits l i k = true) : namedFrom l i k = (k : Int) := by
  unfold namedFrom
  have : (List.range l.length).find? (fun j => decide (k ≤ j) && hits l i j) = some k := by
    rw [List.find?_range_eq_some]
    refine ⟨by simp [h], by simpa using hk, fun j hj => ?_⟩
    have : ¬ k ≤ j := by omega
    simp [this]
  rw [this]
theorem namedFrom_miss {l : List SSpan} {i k : Nat} (h : hits l i k = false) : namedFrom l i k = namedFrom l i (k + 1) := by
  unfold namedFrom
  congr 2
  funext j
  by_cases e : j = k
  · subst e
    simp [h]
  · have : (k ≤ j) ↔ (k + 1 ≤ j) := by omega
    simp [this]
end Gl.Tree
