/- Plain: the rows of children. -/
import Derived.Test.YtbfapgagmbiiaaaTreePl
import Derived.Test.YtbfapgagmbiiaaaSortPl
namespace Gl.Tree
open Gl

/-- Where a place whose parent is x is kept: none: behind the last. -/
def spot (n : Nat) (x : Int) : Nat := if x = -1 then n else x.toNat
/-- The places below k that are kept at p. -/
def rowOf (up : List Int) (n k p : Nat) : List Int := ((List.range k).filter (fun i => spot n (up.getD i 0) == p)).map Int.ofNat
def rows (up : List Int) (n m k : Nat) : List (List Int) := (List.range m).map (rowOf up n k)
theorem rows_length (up : List Int) (n m k : Nat) : (rows up n m k).length = m := by simp [rows]
theorem rows_zero (up : List Int) (n m : Nat) : rows up n m 0 = List.replicate m [] := by
  apply List.ext_getElem?
  intro i
  simp only [rows, List.getElem?_map, List.getElem?_replicate]
  by_cases h : i < m
  · simp [h, rowOf]
  · simp [h]
theorem rowOf_succ (up : List Int) (n k p : Nat) : rowOf up n (k + 1) p = if spot n (up.getD k 0) = p then rowOf up n k p ++ [(k : Int)] else rowOf up n k p := by
  unfold rowOf
  rw [List.range_succ, List.filter_append, List.map_append]
  by_cases h : spot n (up.getD k 0) = p
  · have e : (spot n (up.getD k 0) == p) = true := by simpa using h
    rw [if_pos h, List.filter_cons, if_pos e]
    rfl
  · have e : ¬ (spot n (up.getD k 0) == p) = true := by simpa using h
    rw [if_neg h, List.filter_cons, if_neg e]
    simp
theorem rows_get {up : List Int} {n m k p : Nat} (hp : p < m) : (rows up n m k)[p]? = some (rowOf up n k p) := by simp [rows, hp]
theorem rows_set {up : List Int} {n m k p : Nat} (hp : p < m) (h : spot n (up.getD k 0) = p) : (rows up n m k).set p (rowOf up n k p ++ [(k : Int)]) = rows up n m (k + 1) := by
  apply List.ext_getElem?
  intro i
  by_cases hi : i < m
  · by_cases e : p = i
    · subst e
      rw [List.getElem?_set_self (by rw [rows_length]; exact hp), rows_get hp, rowOf_succ, if_pos h]
    · rw [List.getElem?_set_ne e, rows_get hi, rows_get hi, rowOf_succ, if_neg (by omega)]
  · rw [List.getElem?_eq_none (by rw [List.length_set, rows_length]; omega), List.getElem?_eq_none (by rw [rows_length]; omega)]
theorem rowOf_mem {up : List Int} {n k p : Nat} {y : Int} (h : y ∈ rowOf up n k p) : 0 ≤ y ∧ y < k := by
  unfold rowOf at h
  obtain ⟨i, hi, rfl⟩ := List.mem_map.1 h
  have := List.mem_range.1 (List.mem_filter.1 hi).1
  exact ⟨by simp, by simpa using this⟩
theorem rowOf_length (up : List Int) (n k p : Nat) : (rowOf up n k p).length ≤ k := by
  unfold rowOf
  rw [List.length_map]
  exact Nat.le_trans (List.length_filter_le _ _) (by simp)
/-- The first j rows are in order. -/
def sortedTo (lt : Int → Int → Bool) (R : List (List Int)) (j : Nat) : List (List Int) := R.mapIdx fun i r => if i < j then Sort.isort lt r else r
theorem sortedTo_length (lt : Int → Int → Bool) (R : List (List Int)) (j : Nat) : (sortedTo lt R j).length = R.length := by simp [sortedTo]
theorem sortedTo_zero (lt : Int → Int → Bool) (R : List (List Int)) : sortedTo lt R 0 = R := by
  apply List.ext_getElem?
  intro i
  simp [sortedTo]
theorem sortedTo_get {lt : Int → Int → Bool} {R : List (List Int)} {j : Nat} {r : List Int} (h : R[j]? = some r) : (sortedTo lt R j)[j]? = some r := by simp [sortedTo, h]
theorem sortedTo_set {lt : Int → Int → Bool} {R : List (List Int)} {j : Nat} {r : List Int} (h : R[j]? = some r) : (sortedTo lt R j).set j (Sort.isort lt r) = sortedTo lt R (j + 1) := by
  have hj := (List.getElem?_eq_some_iff.1 h).1
  apply List.ext_getElem?
  intro i
  by_cases e : j = i
  · subst e
    rw [List.getElem?_set_self (by rw [sortedTo_length]; exact hj)]
    simp [sortedTo, h]
  · rw [List.getElem?_set_ne e]
    have : (i < j) ↔ (i < j + 1) := by omega
    simp [sortedTo, this]
theorem sortedTo_skip {lt : Int → Int → Bool} {R : List (List Int)} {j : Nat} (h : R[j]? = some []) (h0 : Sort.isort lt [] = []) : sortedTo lt R j = sortedTo lt R (j + 1) := by
  apply List.ext_getElem?
  intro i
  by_cases e : j = i
  · subst e
    simp [sortedTo, h, h0]
  · have : (i < j) ↔ (i < j + 1) := by omega
    simp [sortedTo, this]
end Gl.Tree
