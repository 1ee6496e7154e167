/- Plain: who is whose parent. -/
import Derived.Test.YtbfapgagmbiiaaaPl
namespace Gl.Tree
open Gl

/-- Is k another place whose Id is i's Parent? -/
def hits (l : List SSpan) (i k : Nat) : Bool := k != i && (l[k]?.map (·.f1)) == (l[i]?.map (·.f2))
def named (l : List SSpan) (i : Nat) : Int := match (List.range l.length).find? (hits l i) with
  | some k => (k : Int)
  | none => -1
theorem named_hit {l : List SSpan} {i k : Nat} (hk : k < l.length) (h : hits l i k = true) (h0 : ∀ j, j < k → hits l i j = false) : named l i = (k : Int) := by
  unfold named
  have : (List.range l.length).find? (hits l i) = some k := by
    rw [List.find?_range_eq_some]
    exact ⟨h, by simpa using hk, fun j hj => by simp [h0 j hj]⟩
  rw [this]
theorem named_miss {l : List SSpan} {i : Nat} (h0 : ∀ j, j < l.length → hits l i j = false) : named l i = -1 := by
  unfold named
  have : (List.range l.length).find? (hits l i) = none := by
    rw [List.find?_eq_none]
    intro j hj
    simp [h0 j (by simpa using hj)]
  rw [this]

/-- From k on, fuel steps at most: does it come to i again? -/
def ringGo (up : List Int) (i : Int) : Nat → Int → Int → Int
  | 0, _, _ => -1
  | n + 1, least, k => if k = -1 then -1 else if k = i then least else ringGo up i n (min least k) (up.getD k.toNat 0)
def ring (up : List Int) (i : Nat) : Int := ringGo up i up.length i (up.getD i 0)
/-- Each is none, or a place. -/
def Ok (up : List Int) : Prop := ∀ x ∈ up, x = -1 ∨ (0 ≤ x ∧ x < up.length)
def ups (l : List SSpan) : List Int := (List.range l.length).map (named l)
/-- The first k places have been looked at. -/
def cutTo (up : List Int) (k : Nat) : List Int := up.mapIdx fun i x => if i < k ∧ ring up i = (i : Int) then -1 else x
def parents (l : List SSpan) : List Int := cutTo (ups l) l.length
theorem ups_length (l : List SSpan) : (ups l).length = l.length := by simp [ups]
theorem cutTo_length (up : List Int) (k : Nat) : (cutTo up k).length = up.length := by simp [cutTo]
theorem parents_length (l : List SSpan) : (parents l).length = l.length := by simp [parents, cutTo_length, ups_length]
theorem cutTo_zero (up : List Int) : cutTo up 0 = up := by
  unfold cutTo
  apply List.ext_getElem?
  intro i
  simp
theorem cutTo_hit {up : List Int} {k : Nat} (h : ring up k = (k : Int)) : (cutTo up k).set k (-1) = cutTo up (k + 1) := by
  apply List.ext_getElem?
  intro i
  by_cases hi : i < up.length
  · by_cases e : k = i
    · subst e
      simp [cutTo, hi, h]
    · simp [cutTo, e]
      have : (i < k) ↔ (i < k + 1) := by omega
      simp [this]
  · rw [List.getElem?_eq_none (by simp [cutTo_length]; omega), List.getElem?_eq_none (by simp [cutTo_length]; omega)]
theorem cutTo_miss {up : List Int} {k : Nat} (h : ¬ ring up k = (k : Int)) : cutTo up k = cutTo up (k + 1) := by
  apply List.ext_getElem?
  intro i
  by_cases e : k = i
  · subst e
    simp [cutTo, h]
  · have : (i < k) ↔ (i < k + 1) := by omega
    simp [cutTo, this]
theorem ups_snoc (l : List SSpan) (k : Nat) : (List.range k).map (named l) ++ [named l k] = (List.range (k + 1)).map (named l) := by
  simp [List.range_succ]
theorem named_ok (l : List SSpan) (i : Nat) : named l i = -1 ∨ (0 ≤ named l i ∧ named l i < l.length) := by
  unfold named
  split
  · rename_i k hk
    have := List.mem_of_find?_eq_some hk
    simp at this
    exact .inr ⟨by omega, by omega⟩
  · exact .inl rfl
theorem ups_ok (l : List SSpan) : Ok (ups l) := by
  intro x hx
  rw [ups_length]
  obtain ⟨i, _, rfl⟩ := List.mem_map.1 hx
  exact named_ok l i
theorem parents_ok (l : List SSpan) : Ok (parents l) := by
  intro x hx
  rw [parents_length]
  obtain ⟨i, hi, rfl⟩ := List.mem_iff_getElem.1 hx
  simp only [parents, cutTo, List.getElem_mapIdx]
  split
  · exact .inl rfl
  · have := ups_ok l _ (List.getElem_mem (h := by simpa [parents, cutTo] using hi))
    have e := ups_length l
    rcases this with h | h
    · exact .inl h
    · exact .inr ⟨h.1, by have := h.2; omega⟩
end Gl.Tree
