/- Plain: what hangs below the top: it ends, it comes nowhere twice, it comes everywhere. -/
import Derived.Test.YtbfapgagmbiiaaaTreeGoodPl
namespace Gl.Tree
open Gl

/-- The rows of children are the children. -/
structure KidsOk (K : List (List Int)) (l : List SSpan) : Prop where
  mem : ∀ i, In l.length i → ∀ j, j ∈ kid K i ↔ In l.length j ∧ (parents l).getD j.toNat 0 = i
  top : ∀ j, j ∈ kid K (l.length : Int) ↔ In l.length j ∧ (parents l).getD j.toNat 0 = -1
  nodup : ∀ i, In l.length i ∨ i = (l.length : Int) → (kid K i).Nodup
theorem fits_of {K : List (List Int)} {l : List SSpan} (h : KidsOk K l) : ∀ (f k : Nat) (i : Int), In l.length i → climb (parents l) k i ≠ -1 → l.length ≤ k + f → fits K l.length f i := by
  intro f
  induction f with
  | zero =>
    intro k i hi hne hk
    apply hne
    rw [show k = l.length + (k - l.length) by omega, climb_add, climb_ends l hi, climb_top]
  | succ f ih =>
    intro k i hi hne hk
    refine ⟨hi, fun j hj => ?_⟩
    obtain ⟨hj1, hj2⟩ := (h.mem i hi j).1 hj
    have hjn : j ≠ -1 := by have := hj1.1; omega
    refine ih (k + 1) j hj1 ?_ (by omega)
    rw [Nat.add_comm, climb_add, climb_one hjn, hj2]
    exact hne
theorem mem_tree {K : List (List Int)} {l : List SSpan} (h : KidsOk K l) : ∀ (f : Nat) (i d : Int) (q : Int × Int), In l.length i → q ∈ tree K f i d → In l.length q.1 ∧ ∃ k, climb (parents l) k q.1 = i := by
  intro f
  induction f with
  | zero => intro i d q _ hq; cases hq
  | succ f ih =>
    intro i d q hi hq
    rw [tree_succ] at hq
    rcases List.mem_cons.1 hq with rfl | hq
    · exact ⟨hi, 0, rfl⟩
    · obtain ⟨j, hj, hq⟩ := List.mem_flatMap.1 hq
      obtain ⟨hj1, hj2⟩ := (h.mem i hi j).1 hj
      obtain ⟨h1, k, h2⟩ := ih j _ q hj1 hq
      exact ⟨h1, k + 1, by rw [climb_succ, h2, climb_one (by have := hj1.1; omega), hj2]⟩
theorem nodup_flatMap {α β : Type} {g : α → List β} : ∀ {ids : List α}, ids.Nodup → (∀ j ∈ ids, (g j).Nodup) → (∀ j ∈ ids, ∀ j' ∈ ids, j ≠ j' → ∀ y, y ∈ g j → y ∈ g j' → False) → (ids.flatMap g).Nodup := by
  intro ids
  induction ids with
  | nil => intro _ _ _; simp
  | cons j ids ih =>
    intro h1 h2 h3
    rw [List.flatMap_cons, List.nodup_append]
    rw [List.nodup_cons] at h1
    refine ⟨h2 j (by simp), ih h1.2 (fun x hx => h2 x (by simp [hx])) (fun x hx x' hx' => h3 x (by simp [hx]) x' (by simp [hx'])), fun a ha b hb e => ?_⟩
    obtain ⟨x, hx, hb⟩ := List.mem_flatMap.1 hb
    exact h3 j (by simp) x (by simp [hx]) (fun e2 => h1.1 (e2 ▸ hx)) a ha (e ▸ hb)
/-- Two children of one parent have nothing below them in common. -/
theorem apart_kids {l : List SSpan} {v j j' y : Int} (hv : v = -1 ∨ In l.length v) (hj : In l.length j ∧ (parents l).getD j.toNat 0 = v) (hj' : In l.length j' ∧ (parents l).getD j'.toNat 0 = v) (hne : j ≠ j') {k k' : Nat} (h : climb (parents l) k y = j) (h' : climb (parents l) k' y = j') : False := by
  have key : ∀ {j j' : Int} {k k' : Nat}, In l.length j ∧ (parents l).getD j.toNat 0 = v → In l.length j' ∧ (parents l).getD j'.toNat 0 = v → j ≠ j' → climb (parents l) k y = j → climb (parents l) k' y = j' → k ≤ k' → False := by
    intro j j' k k' hj hj' hne h h' hle
    rcases Nat.eq_or_lt_of_le hle with rfl | hlt
    · exact hne (by rw [← h, h'])
    · have e : climb (parents l) (k' - k) j = j' := by
        rw [← h, ← climb_add, show k + (k' - k) = k' by omega]
        exact h'
      obtain ⟨d, hd⟩ : ∃ d, k' - k = 1 + d := ⟨k' - k - 1, by omega⟩
      rw [hd, climb_add, climb_one (by have := hj.1.1; omega), hj.2] at e
      rcases hv with rfl | hv
      · rw [climb_top] at e
        have := hj'.1.1
        omega
      · have e2 : climb (parents l) (d + 1) v = v := by rw [climb_succ, e, climb_one (by have := hj'.1.1; omega), hj'.2]
        exact climb_no_ring l hv (by omega) e2
  rcases Nat.le_total k k' with h1 | h1
  · exact key hj hj' hne h h' h1
  · exact key hj' hj (Ne.symm hne) h' h h1
theorem map_forest (K : List (List Int)) (f : Nat) (ids : List Int) (d : Int) : (forest K f ids d).map (·.1) = ids.flatMap (fun j => (tree K f j d).map (·.1)) := by
  unfold forest
  rw [List.map_flatMap]
theorem tree_nodup {K : List (List Int)} {l : List SSpan} (h : KidsOk K l) : ∀ (f : Nat) (i d : Int), In l.length i → ((tree K f i d).map (·.1)).Nodup := by
  intro f
  induction f with
  | zero => intro i d _; simp [tree]
  | succ f ih =>
    intro i d hi
    rw [tree_succ, List.map_cons, List.nodup_cons, map_forest]
    constructor
    · intro hm
      obtain ⟨j, hj, hm⟩ := List.mem_flatMap.1 hm
      obtain ⟨q, hq, e⟩ := List.mem_map.1 hm
      obtain ⟨hj1, hj2⟩ := (h.mem i hi j).1 hj
      obtain ⟨-, k, hk⟩ := mem_tree h f j _ q hj1 hq
      simp only at e
      rw [e] at hk
      exact climb_no_ring l hi (d := k + 1) (by omega) (by rw [climb_succ, hk, climb_one (by have := hj1.1; omega), hj2])
    · refine nodup_flatMap (h.nodup i (.inl hi)) (fun j hj => ih j _ ((h.mem i hi j).1 hj).1) (fun j hj j' hj' hne y hy hy' => ?_)
      obtain ⟨q, hq, rfl⟩ := List.mem_map.1 hy
      obtain ⟨q', hq', e⟩ := List.mem_map.1 hy'
      have a := (h.mem i hi j).1 hj
      have a' := (h.mem i hi j').1 hj'
      obtain ⟨-, k, hk⟩ := mem_tree h f j _ q a.1 hq
      obtain ⟨-, k', hk'⟩ := mem_tree h f j' _ q' a'.1 hq'
      rw [e] at hk'
      exact apart_kids (.inr hi) a a' hne hk hk'
theorem nodup_len {n : Nat} {L : List Int} (h : L.Nodup) (hin : ∀ y ∈ L, In n y) : L.length ≤ n := by
  rcases Nat.lt_or_ge n L.length with hl | hl
  · obtain ⟨a, b, hab, hb, e⟩ := pigeon n (fun k => (L.getD k 0).toNat) (fun k hk => by
      have hk2 : k < L.length := by omega
      have h1 := hin (L.getD k 0) (by rw [List.getD_eq_getElem?_getD, List.getElem?_eq_getElem hk2]; exact List.getElem_mem hk2)
      have := h1.1
      have := h1.2
      show (L.getD k 0).toNat < n
      omega)
    have e : (L.getD a 0).toNat = (L.getD b 0).toNat := e
    have ha2 : a < L.length := by omega
    have hb2 : b < L.length := by omega
    rw [List.getD_eq_getElem?_getD, List.getElem?_eq_getElem ha2, List.getD_eq_getElem?_getD, List.getElem?_eq_getElem hb2] at e
    simp only [Option.getD_some] at e
    have h1 := (hin _ (List.getElem_mem ha2)).1
    have h2 := (hin _ (List.getElem_mem hb2)).1
    exact absurd (by omega) (List.pairwise_iff_getElem.1 h a b ha2 hb2 hab)
  · exact hl
def top (K : List (List Int)) (n : Nat) : List (Int × Int) := forest K (n + 1) (kid K n) 0
theorem top_nodup {K : List (List Int)} {l : List SSpan} (h : KidsOk K l) : ((top K l.length).map (·.1)).Nodup := by
  unfold top
  rw [map_forest]
  refine nodup_flatMap (h.nodup _ (.inr rfl)) (fun j hj => tree_nodup h _ j _ ((h.top j).1 hj).1) (fun j hj j' hj' hne y hy hy' => ?_)
  obtain ⟨q, hq, rfl⟩ := List.mem_map.1 hy
  obtain ⟨q', hq', e⟩ := List.mem_map.1 hy'
  have a := (h.top j).1 hj
  have a' := (h.top j').1 hj'
  obtain ⟨-, k, hk⟩ := mem_tree h _ j _ q a.1 hq
  obtain ⟨-, k', hk'⟩ := mem_tree h _ j' _ q' a'.1 hq'
  rw [e] at hk'
  exact apart_kids (.inl rfl) a a' hne hk hk'
theorem top_in {K : List (List Int)} {l : List SSpan} (h : KidsOk K l) : ∀ y ∈ (top K l.length).map (·.1), In l.length y := by
  intro y hy
  obtain ⟨q, hq, rfl⟩ := List.mem_map.1 hy
  obtain ⟨j, hj, hq⟩ := List.mem_flatMap.1 hq
  exact (mem_tree h _ j _ q ((h.top j).1 hj).1 hq).1
theorem good_of {K : List (List Int)} {l : List SSpan} (h : KidsOk K l) : (∀ i ∈ kid K l.length, fits K l.length (l.length + 1) i) ∧ (top K l.length).length ≤ l.length := by
  refine ⟨fun i hi => ?_, ?_⟩
  · have a := ((h.top i).1 hi).1
    exact fits_of h _ 0 i a (by have := a.1; simp only [climb]; omega) (by omega)
  · have := nodup_len (top_nodup h) (top_in h)
    rwa [List.length_map] at this
end Gl.Tree
