/- Plain: whoever climbs from parent to parent comes to an end; so the walk from the top ends, and comes nowhere twice. -/
import Derived.Test.YtbfapgagmbiiaaaTreeWalkPl
namespace Gl.Tree
open Gl

theorem pigeon : ∀ (n : Nat) (f : Nat → Nat), (∀ k, k ≤ n → f k < n) → ∃ a b, a < b ∧ b ≤ n ∧ f a = f b := by
  intro n
  induction n with
  | zero => intro f h; exact absurd (h 0 (Nat.le_refl _)) (by omega)
  | succ n ih =>
    intro f h
    by_cases hx : ∃ k, k ≤ n ∧ f k = f (n + 1)
    · obtain ⟨k, hk, e⟩ := hx
      exact ⟨k, n + 1, by omega, Nat.le_refl _, e⟩
    · have hne : ∀ k, k ≤ n → f k ≠ f (n + 1) := fun k hk e => hx ⟨k, hk, e⟩
      obtain ⟨a, b, hab, hb, e⟩ := ih (fun k => if f (n + 1) < f k then f k - 1 else f k) (fun k hk => by
        have h1 := h k (by omega)
        have h2 := h (n + 1) (Nat.le_refl _)
        have h3 := hne k hk
        show (if f (n + 1) < f k then f k - 1 else f k) < n
        split <;> omega)
      refine ⟨a, b, hab, by omega, ?_⟩
      have h3 := hne a (by omega)
      have h4 := hne b hb
      have e : (if f (n + 1) < f a then f a - 1 else f a) = (if f (n + 1) < f b then f b - 1 else f b) := e
      split at e <;> split at e <;> omega
/-- k steps up; behind the top: -1. -/
def climb (p : List Int) : Nat → Int → Int
  | 0, i => i
  | k + 1, i => if i = -1 then -1 else climb p k (p.getD i.toNat 0)
theorem climb_top (p : List Int) (k : Nat) : climb p k (-1) = -1 := by cases k <;> simp [climb]
theorem climb_add (p : List Int) (a b : Nat) (i : Int) : climb p (a + b) i = climb p b (climb p a i) := by
  induction a generalizing i with
  | zero => simp [climb]
  | succ a ih =>
    rw [show a + 1 + b = (a + b) + 1 by omega]
    by_cases h : i = -1
    · subst h; rw [climb_top, climb_top, climb_top]
    · simp only [climb, if_neg h]
      exact ih _
theorem climb_one {p : List Int} {i : Int} (h : i ≠ -1) : climb p 1 i = p.getD i.toNat 0 := by simp [climb, h]
theorem climb_succ (p : List Int) (k : Nat) (i : Int) : climb p (k + 1) i = climb p 1 (climb p k i) := climb_add p k 1 i
/-- A place. -/
def In (n : Nat) (i : Int) : Prop := 0 ≤ i ∧ i < n
theorem ok_get {p : List Int} (h : Ok p) {i : Int} (hi : In p.length i) : p.getD i.toNat 0 = -1 ∨ In p.length (p.getD i.toNat 0) := by
  have hl : i.toNat < p.length := by have := hi.1; have := hi.2; omega
  rw [List.getD_eq_getElem?_getD, List.getElem?_eq_getElem hl]
  exact h _ (List.getElem_mem hl)
theorem climb_in {p : List Int} (h : Ok p) {i : Int} (hi : In p.length i) (k : Nat) : climb p k i = -1 ∨ In p.length (climb p k i) := by
  induction k with
  | zero => exact .inr hi
  | succ k ih =>
    rw [climb_succ]
    rcases ih with e | e
    · rw [e]; exact .inl (climb_top p 1)
    · rw [climb_one (by have := e.1; omega)]
      exact ok_get h e
/-- A ring's least: what the search for it comes to. -/
theorem ringGo_least {up : List Int} {m : Int} : ∀ (N : Nat) (k : Int) (c : Nat), c < N → climb up c k = m → (∀ j, j < c → climb up j k ≠ m) → (∀ j, j ≤ c → m ≤ climb up j k ∧ climb up j k ≠ -1) → ringGo up m N m k = m := by
  intro N
  induction N with
  | zero => intro k c hc; omega
  | succ N ih =>
    intro k c hc he hn hm
    have h0 := hm 0 (Nat.zero_le _)
    simp only [climb] at h0
    unfold ringGo
    rw [if_neg h0.2]
    by_cases hk : k = m
    · rw [if_pos hk]
    · rw [if_neg hk]
      obtain ⟨c, rfl⟩ : ∃ c', c = c' + 1 := by
        rcases c with _ | c
        · exact absurd he hk
        · exact ⟨c, rfl⟩
      have hs : ∀ j, climb up (j + 1) k = climb up j (up.getD k.toNat 0) := fun j => by simp [climb, h0.2]
      rw [show min m k = m by omega]
      exact ih _ c (by omega) (by rw [← hs]; exact he) (fun j hj => by rw [← hs]; exact hn (j + 1) (by omega)) (fun j hj => by rw [← hs]; exact hm (j + 1) (by omega))
theorem least_nat (P : Nat → Prop) : ∀ c, P c → ∃ c', c' ≤ c ∧ P c' ∧ ∀ j, j < c' → ¬ P j := by
  intro c
  induction c using Nat.strongRecOn with
  | ind c ih =>
    intro hc
    by_cases h : ∃ j, j < c ∧ P j
    · obtain ⟨j, hj, hp⟩ := h
      obtain ⟨c', h1, h2, h3⟩ := ih j hj hp
      exact ⟨c', by omega, h2, h3⟩
    · exact ⟨c, Nat.le_refl _, hc, fun j hj hp => h ⟨j, hj, hp⟩⟩
theorem least_of (f : Nat → Int) : ∀ c, 0 < c → ∃ a, a < c ∧ ∀ j, j < c → f a ≤ f j := by
  intro c
  induction c with
  | zero => intro h; omega
  | succ c ih =>
    intro _
    rcases Nat.eq_zero_or_pos c with rfl | hc
    · exact ⟨0, by omega, fun j hj => by
        obtain rfl : j = 0 := by omega
        exact Int.le_refl _⟩
    · obtain ⟨a, ha, h⟩ := ih hc
      by_cases hl : f a ≤ f c
      · exact ⟨a, by omega, fun j hj => by
          rcases Nat.lt_or_ge j c with h1 | h1
          · exact h j h1
          · obtain rfl : j = c := by omega
            exact hl⟩
      · exact ⟨c, by omega, fun j hj => by
          rcases Nat.lt_or_ge j c with h1 | h1
          · have := h j h1; omega
          · obtain rfl : j = c := by omega
            exact Int.le_refl _⟩
/-- On every ring there is a place that is its own ring's least. -/
theorem ring_least {up : List Int} (hok : Ok up) {x : Int} (hx : In up.length x) {c : Nat} (hc : 0 < c) (hcn : c ≤ up.length) (he : climb up c x = x) (hne : ∀ j, j ≤ c → climb up j x ≠ -1) : ∃ a, a < c ∧ ring up (climb up a x).toNat = climb up a x := by
  obtain ⟨a, ha, hmin⟩ := least_of (fun j => climb up j x) c hc
  refine ⟨a, ha, ?_⟩
  generalize hm : climb up a x = m
  have hmin : ∀ j, j < c → climb up a x ≤ climb up j x := hmin
  rw [hm] at hmin
  have hin : In up.length m := by
    rcases climb_in hok hx a with h | h
    · exact absurd h (hne a (by omega))
    · rwa [hm] at h
  have hon : ∀ j, j ≤ c → m ≤ climb up j m ∧ climb up j m ≠ -1 := by
    intro j hj
    rw [← hm, ← climb_add]
    rcases Nat.lt_or_ge (a + j) c with h | h
    · exact ⟨by rw [hm]; exact hmin _ h, hne _ (by omega)⟩
    · have e : climb up (a + j) x = climb up (a + j - c) x := by
        conv => lhs; rw [show a + j = c + (a + j - c) by omega, climb_add, he]
      rw [e]
      exact ⟨by rw [hm]; exact hmin _ (by omega), hne _ (by omega)⟩
  have hback : climb up c m = m := by
    rw [← hm, ← climb_add, Nat.add_comm, climb_add, he]
  have hm1 : m ≠ -1 := by have := hin.1; omega
  have hs : ∀ j, climb up (j + 1) m = climb up j (up.getD m.toNat 0) := fun j => by simp [climb, hm1]
  obtain ⟨c', h1, h2, h3⟩ := least_nat (fun j => climb up j (up.getD m.toNat 0) = m) (c - 1) (by rw [← hs, show c - 1 + 1 = c by omega]; exact hback)
  unfold ring
  have hcast : ((m.toNat : Nat) : Int) = m := Int.toNat_of_nonneg hin.1
  rw [hcast]
  exact ringGo_least up.length _ c' (by omega) h2 h3 (fun j hj => by rw [← hs]; exact hon (j + 1) (by omega))
theorem parents_up (l : List SSpan) {y : Int} (hy : In l.length y) (h : (parents l).getD y.toNat 0 ≠ -1) : (parents l).getD y.toNat 0 = (ups l).getD y.toNat 0 ∧ ring (ups l) y.toNat ≠ y := by
  have hl : y.toNat < (ups l).length := by rw [ups_length]; have := hy.1; have := hy.2; omega
  have hl2 : y.toNat < (parents l).length := by rw [parents_length]; have := hy.1; have := hy.2; omega
  rw [List.getD_eq_getElem?_getD, List.getElem?_eq_getElem hl2] at h ⊢
  rw [List.getD_eq_getElem?_getD, List.getElem?_eq_getElem hl]
  simp only [Option.getD_some] at h ⊢
  simp only [parents, cutTo, List.getElem_mapIdx] at h ⊢
  have hcast : ((y.toNat : Nat) : Int) = y := Int.toNat_of_nonneg hy.1
  rw [hcast] at h ⊢
  split at h
  · exact absurd rfl h
  · rename_i hq
    refine ⟨by rw [if_neg hq], fun e => hq ⟨by have := hy.1; have := hy.2; omega, e⟩⟩
/-- Whoever climbs comes to an end within n steps. -/
theorem climb_ends (l : List SSpan) {i : Int} (hi : In l.length i) : climb (parents l) l.length i = -1 := by
  refine Classical.byContradiction fun hend => ?_
  have hokp := parents_ok l
  have hip : In (parents l).length i := by rw [parents_length]; exact hi
  have hne : ∀ k, k ≤ l.length → climb (parents l) k i ≠ -1 := by
    intro k hk e
    apply hend
    rw [show l.length = k + (l.length - k) by omega, climb_add, e, climb_top]
  have hin : ∀ k, k ≤ l.length → In l.length (climb (parents l) k i) := by
    intro k hk
    rcases climb_in hokp hip k with h | h
    · exact absurd h (hne k hk)
    · rwa [parents_length] at h
  obtain ⟨a, b, hab, hb, e⟩ := pigeon l.length (fun k => (climb (parents l) k i).toNat) (fun k hk => by
    have h1 := (hin k hk).1
    have h2 := (hin k hk).2
    show (climb (parents l) k i).toNat < l.length
    omega)
  have e1 : climb (parents l) a i = climb (parents l) b i := by
    have h1 := (hin a (by omega)).1
    have h2 := (hin b hb).1
    have e : (climb (parents l) a i).toNat = (climb (parents l) b i).toNat := e
    omega
  generalize hx : climb (parents l) a i = x at e1
  have hxin : In l.length x := by rw [← hx]; exact hin a (by omega)
  have hxne : ∀ j, j ≤ b - a → climb (parents l) j x ≠ -1 := by
    intro j hj
    rw [← hx, ← climb_add]
    exact hne _ (by omega)
  have hxi : ∀ j, j ≤ b - a → In l.length (climb (parents l) j x) := by
    intro j hj
    rw [← hx, ← climb_add]
    exact hin _ (by omega)
  have hself : climb (parents l) (b - a) x = x := by
    conv => lhs; rw [← hx]
    rw [← climb_add, show a + (b - a) = b by omega, ← e1]
  have hsame : ∀ j, j ≤ b - a → climb (ups l) j x = climb (parents l) j x := by
    intro j
    induction j with
    | zero => intro _; rfl
    | succ j ih =>
      intro hj
      have h1 := ih (by omega)
      have h2 := hxi j (by omega)
      have h3 := hxne (j + 1) hj
      have hn1 : climb (parents l) j x ≠ -1 := by have := h2.1; omega
      rw [climb_succ, climb_one hn1] at h3
      rw [climb_succ, h1, climb_one hn1, climb_succ, climb_one hn1]
      exact (parents_up l h2 h3).1.symm
  obtain ⟨a', ha', hr⟩ := ring_least (ups_ok l) (x := x) (by rw [ups_length]; exact hxin) (c := b - a) (by omega) (by rw [ups_length]; omega) (by rw [hsame _ (Nat.le_refl _)]; exact hself) (fun j hj => by rw [hsame j hj]; exact hxne j hj)
  rw [hsame a' (by omega)] at hr
  have h2 := hxi a' (by omega)
  have h3 := hxne (a' + 1) (by omega)
  have hn1 : climb (parents l) a' x ≠ -1 := by have := h2.1; omega
  rw [climb_succ, climb_one hn1] at h3
  exact (parents_up l h2 h3).2 hr
/-- No place is above itself. -/
theorem climb_no_ring (l : List SSpan) {i : Int} (hi : In l.length i) {d : Nat} (hd : 0 < d) : climb (parents l) d i ≠ i := by
  intro e
  have hmul : ∀ k, climb (parents l) (k * d) i = i := by
    intro k
    induction k with
    | zero => rw [Nat.zero_mul]; rfl
    | succ k ih => rw [Nat.succ_mul, climb_add, ih, e]
  have h1 := hmul l.length
  have h2 := climb_ends l hi
  have h3 : l.length ≤ l.length * d := Nat.le_mul_of_pos_right _ hd
  rw [show l.length * d = l.length + (l.length * d - l.length) by omega, climb_add, h2, climb_top] at h1
  have := hi.1
  omega
end Gl.Tree
