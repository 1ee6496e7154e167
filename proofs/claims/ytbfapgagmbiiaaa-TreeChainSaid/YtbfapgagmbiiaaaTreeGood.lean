/- The walk from the top ends and comes nowhere twice, whatever the spans. -/
import Derived.Test.YtbfapgagmbiiaaaTreeTop
import Derived.Test.YtbfapgagmbiiaaaTreeDown
namespace Go.Proofs.Ytbfapgagmbiiaaa
open Gl
set_option linter.unusedVariables false
set_option linter.unusedSimpArgs false

theorem kid_eq (l : List SSpan) {i : Nat} (hi : i < l.length + 1) : Tree.kid (Tree.kids l) (i : Int) = Sort.isort (ltOf (cfOf l)) (Tree.rowOf (Tree.parents l) l.length l.length i) := by
  unfold Tree.kid Tree.kids
  rw [Int.toNat_natCast, List.getD_eq_getElem?_getD]
  simp [Tree.sortedTo, Tree.rows_get hi, hi]
theorem mem_rowOf {p : List Int} {n k q : Nat} {j : Int} : j ∈ Tree.rowOf p n k q ↔ Tree.In k j ∧ Tree.spot n (p.getD j.toNat 0) = q := by
  unfold Tree.rowOf
  rw [List.mem_map]
  constructor
  · rintro ⟨a, ha, rfl⟩
    obtain ⟨h1, h2⟩ := List.mem_filter.1 ha
    have h3 := List.mem_range.1 h1
    have h4 : Tree.spot n (p.getD a 0) = q := by simpa using h2
    exact ⟨⟨Int.natCast_nonneg _, by have : ((a : Int)) < k := by omega
                                     exact this⟩, h4⟩
  · rintro ⟨⟨h1, h2⟩, h3⟩
    refine ⟨j.toNat, List.mem_filter.2 ⟨List.mem_range.2 (by omega), by simpa using h3⟩, Int.toNat_of_nonneg h1⟩
theorem rowOf_nodup (p : List Int) (n k q : Nat) : (Tree.rowOf p n k q).Nodup := by
  unfold Tree.rowOf
  refine List.pairwise_map.2 ((List.Pairwise.filter _ List.nodup_range).imp ?_)
  intro a b hab e
  exact hab (Int.ofNat.inj e)
theorem kids_ok (l : List SSpan) : Tree.KidsOk (Tree.kids l) l := by
  have hsp : ∀ j, Tree.In l.length j → (parentsAt : Int) → parentsAt = (Tree.parents l).getD j.toNat 0 → parentsAt = -1 ∨ Tree.In l.length parentsAt := by
    intro j hj x hx
    have h := Tree.ok_get (Tree.parents_ok l) (i := j) (by rw [Tree.parents_length]; exact hj)
    rw [Tree.parents_length, ← hx] at h
    exact h
  constructor
  · intro i hi j
    obtain ⟨a, rfl⟩ := Int.eq_ofNat_of_zero_le hi.1
    have ha : a < l.length := by have := hi.2; omega
    rw [kid_eq l (by omega), (Sort.isort_perm _ _).mem_iff, mem_rowOf]
    refine and_congr_right (fun hj => ?_)
    have h := hsp j hj _ rfl
    unfold Tree.spot
    constructor
    · intro e
      split at e
      · omega
      · rcases h with h | h
        · rename_i hq; exact absurd h hq
        · have := h.1; omega
    · intro e
      rw [e, if_neg (by omega), Int.toNat_natCast]
  · intro j
    rw [kid_eq l (by omega), (Sort.isort_perm _ _).mem_iff, mem_rowOf]
    refine and_congr_right (fun hj => ?_)
    have h := hsp j hj _ rfl
    unfold Tree.spot
    constructor
    · intro e
      split at e
      · assumption
      · rcases h with h | h
        · exact h
        · have := h.1; have := h.2; omega
    · intro e
      rw [if_pos e]
  · intro i hi
    obtain ⟨a, rfl, ha⟩ : ∃ a : Nat, i = (a : Int) ∧ a < l.length + 1 := by
      rcases hi with hi | rfl
      · exact ⟨i.toNat, (Int.toNat_of_nonneg hi.1).symm, by have := hi.1; have := hi.2; omega⟩
      · exact ⟨l.length, rfl, by omega⟩
    rw [kid_eq l ha]
    exact (Sort.isort_perm _ _).nodup_iff.2 (rowOf_nodup _ _ _ _)
theorem good (l : List SSpan) : Tree.Good l := Tree.good_of (kids_ok l)
end Go.Proofs.Ytbfapgagmbiiaaa
