/- slices.IndexFunc at edges; the two tests of edges.count. -/
import Derived.Test.YtbfapgagmbiiaaaEdgeCmp
namespace Go.Proofs.Ytbfapgagmbiiaaa
open Gl Go.RowKit Go.Proofs.YtbfapgagmbiiaaaW.PrintWords
set_option linter.unusedVariables false
set_option linter.unusedSimpArgs false

/-- An edge whose services have one-letter names. -/
def ed (q : Nat × Nat × Int × Int) : SEdge := ⟨nm q.1, nm q.2.1, q.2.2.1, q.2.2.2⟩
abbrev edV (x : SEdge) : Value := .agg #[.string x.f0, .string x.f1, .int .i64 x.f2, .int .i64 x.f3]
def edCells (x : SEdge) : Array Value := #[.string x.f0, .string x.f1, .int .i64 x.f2, .int .i64 x.f3]
set_option maxHeartbeats 1000000 in
theorem same_key.calls (x y : Nat × Nat × Int × Int) (hx : x.1 < 4 ∧ x.2.1 < 4) (hy : y.1 < 4 ∧ y.2.1 < 4) (kb : Nat) (w : World) (hk : w.heap[kb]? = some (.cells (edCells (ed y)) 36 (0, 0))) :
    Calls Try.prog 35 #[edV (ed x), .pointer (some ⟨kb, 0, none⟩)] w fun e w' => e = .returned (.bool (cmpE x.1 x.2.1 y.1 y.2.1 == 0)) ∧ Below w.heap.size w w' := by
  obtain ⟨i, j, c, e⟩ := x
  obtain ⟨i', j', c', e'⟩ := y
  have k0 : w.cell? ⟨kb, 0, none⟩ = some (.string (nm i')) := by rw [cell_of_row _ _ _ _ _ _ hk]; rfl
  have k1 : w.cell? ⟨kb, 1, none⟩ = some (.string (nm j')) := by rw [cell_of_row _ _ _ _ _ _ hk]; rfl
  have k2 : w.cell? ⟨kb, 2, none⟩ = some (.int .i64 c') := by rw [cell_of_row _ _ _ _ _ _ hk]; rfl
  have k3 : w.cell? ⟨kb, 3, none⟩ = some (.int .i64 e') := by rw [cell_of_row _ _ _ _ _ _ hk]; rfl
  have z0 := cell_al k0
  have z1 := cell_al k1
  have z2 := cell_al k2
  have z3 := cell_al k3
  have hc := fun W => compare.calls i j i' j' c e c' e' hx.1 hx.2 hy.1 hy.2 W
  simp only [ed, edV, edgeV] at *
  clear hk hx hy
  have B0 := Aside0.mk (below_alloc (Below.refl w.heap.size w) (.cells #[.string (nm i), .string (nm j), .int .i64 c, .int .i64 e] 36))
  go_enter Try.func35, Try.ntmps35
  go_wp2_with (go_at_call 36; refine (hc _).mono ?_; rintro e w2 ⟨rfl, hb2⟩)
  go_ret
  exact ⟨rfl, below_then B0.out (by simp) hb2⟩
set_option maxHeartbeats 1000000 in
theorem past_key.calls (x y : Nat × Nat × Int × Int) (hx : x.1 < 4 ∧ x.2.1 < 4) (hy : y.1 < 4 ∧ y.2.1 < 4) (kb : Nat) (w : World) (hk : w.heap[kb]? = some (.cells (edCells (ed y)) 36 (0, 0))) :
    Calls Try.prog 37 #[edV (ed x), .pointer (some ⟨kb, 0, none⟩)] w fun e w' => e = .returned (.bool (decide (0 < cmpE x.1 x.2.1 y.1 y.2.1))) ∧ Below w.heap.size w w' := by
  obtain ⟨i, j, c, e⟩ := x
  obtain ⟨i', j', c', e'⟩ := y
  have k0 : w.cell? ⟨kb, 0, none⟩ = some (.string (nm i')) := by rw [cell_of_row _ _ _ _ _ _ hk]; rfl
  have k1 : w.cell? ⟨kb, 1, none⟩ = some (.string (nm j')) := by rw [cell_of_row _ _ _ _ _ _ hk]; rfl
  have k2 : w.cell? ⟨kb, 2, none⟩ = some (.int .i64 c') := by rw [cell_of_row _ _ _ _ _ _ hk]; rfl
  have k3 : w.cell? ⟨kb, 3, none⟩ = some (.int .i64 e') := by rw [cell_of_row _ _ _ _ _ _ hk]; rfl
  have z0 := cell_al k0
  have z1 := cell_al k1
  have z2 := cell_al k2
  have z3 := cell_al k3
  have hc := fun W => compare.calls i j i' j' c e c' e' hx.1 hx.2 hy.1 hy.2 W
  simp only [ed, edV, edgeV] at *
  clear hk hx hy
  have B0 := Aside0.mk (below_alloc (Below.refl w.heap.size w) (.cells #[.string (nm i), .string (nm j), .int .i64 c, .int .i64 e] 36))
  go_enter Try.func37, Try.ntmps37
  go_wp2_with (go_at_call 36; refine (hc _).mono ?_; rintro e w2 ⟨rfl, hb2⟩)
  go_ret
  exact ⟨rfl, below_then B0.out (by simp) hb2⟩
abbrev Quad : Type := Nat × Nat × Int × Int
def idxI (xs : List Quad) (p : Quad → Bool) : Int := match xs.findIdx? p with
  | some i => (i : Int)
  | none => -1
theorem idxI_none {xs : List Quad} {p : Quad → Bool} (h : ∀ (j : Nat) x, xs[j]? = some x → p x = false) : idxI xs p = -1 := by
  unfold idxI
  have : xs.findIdx? p = none := by
    rw [List.findIdx?_eq_none_iff]
    intro x hx
    obtain ⟨j, hj, e⟩ := List.mem_iff_getElem.1 hx
    exact h j x (by rw [List.getElem?_eq_getElem hj, e])
  rw [this]
theorem idxI_some {xs : List Quad} {p : Quad → Bool} {k : Nat} {y : Quad} (hk : xs[k]? = some y) (hy : p y = true) (h : ∀ (j : Nat) x, j < k → xs[j]? = some x → p x = false) : idxI xs p = (k : Int) := by
  unfold idxI
  obtain ⟨hkl, e⟩ := List.getElem?_eq_some_iff.1 hk
  have : xs.findIdx? p = some k := by
    rw [List.findIdx?_eq_some_iff_getElem]
    exact ⟨hkl, by rw [e]; exact hy, fun j hj => by rw [h j _ hj (List.getElem?_eq_getElem (by omega))]; simp⟩
  rw [this]
set_option maxHeartbeats 1000000 in
theorem IndexFunc_same.calls (A : Option Addr) (n c : Nat) (xs : List Quad) (kb : Nat) (p : Quad → Bool) (w : World) (hr : Kd.C kEdge w A n (xs.map ed))
    (hf : ∀ W, Below w.heap.size w W → ∀ x ∈ xs, Calls Try.prog 35 #[edV (ed x), .pointer (some ⟨kb, 0, none⟩)] W fun e w' => e = .returned (.bool (p x)) ∧ Below W.heap.size W w') :
    Calls Try.prog 34 #[.slice A n c, .func (.func 35) #[] #[.pointer (some ⟨kb, 0, none⟩)]] w fun e w' => e = .returned (.int .i64 (idxI xs p)) ∧ Below w.heap.size w w' := by
  obtain rfl : xs.length = n := by have := hr.1; rwa [List.length_map] at this
  have hm : (xs.length : Int) ≤ 9223372036854775807 := by have := hr.2.1; omega
  have HR := Aside0.mk hr
  have HF := Aside0.mk hf
  clear hr hf
  go_enter Try.func34, Try.ntmps34
  go_wp2
  go_loopg [8] xs.length (fun gg s8 wr => ∃ k : Nat, k ≤ xs.length ∧ xs.length - k ≤ gg ∧ s8 = .int .i64 k ∧ Aside0 (∀ (j : Nat) x, j < k → xs[j]? = some x → p x = false) ∧ Aside0 (Below w.heap.size w wr))
  case atStart => exact ⟨0, Nat.zero_le _, Nat.le_refl _, rfl, ⟨fun j x hj => absurd hj (Nat.not_lt_zero _)⟩, ⟨Below.refl _ _⟩⟩
  case round =>
    obtain ⟨k, hk, hg, rfl, HN, B1⟩ := hrel
    by_cases hlt : k < xs.length
    · obtain ⟨x, hx⟩ : ∃ x, xs[k]? = some x := ⟨_, List.getElem?_eq_getElem hlt⟩
      obtain ⟨ad, rfl, x0, x1, x2, x3⟩ := atN_Edge (Kd.C_below HR.out B1.out) k (show (xs.map ed)[k]? = some (ed x) by rw [List.getElem?_map, hx]; rfl)
      have hk1 : (k : Int) < (xs.length : Int) := by omega
      have hc := HF.out wr B1.out x (List.mem_of_getElem? hx)
      have HX := Aside0.mk hx
      clear hx
      generalize hp : p x = b at hc
      generalize ed x = X at x0 x1 x2 x3 hc
      have HP := Aside0.mk hp
      clear hp
      go_wp2_with (go_at_call 35; refine hc.mono ?_; rintro e w2 ⟨rfl, hb2⟩; cases b)
      · go_roundg (xs.length - (k + 1))
        case measure => omega
        case rel => exact ⟨k + 1, by omega, by omega, by go_num, ⟨fun j y hj hy => by
          rcases Nat.lt_or_ge j k with h | h
          · exact HN.out j y h hy
          · obtain rfl : j = k := by omega
            rw [HX.out] at hy
            injection hy with hy
            rw [← hy]
            exact HP.out⟩, ⟨below_then B1.out B1.out.size hb2⟩⟩
      · go_ret
        exact ⟨ret_int (idxI_some HX.out HP.out HN.out).symm, below_then B1.out B1.out.size hb2⟩
    · obtain rfl : k = xs.length := by omega
      have hd : decide ((xs.length : Int) < (xs.length : Int)) = false := by simp
      go_wp2
      go_ret
      exact ⟨ret_int (idxI_none (fun j x hj => HN.out j x (List.getElem?_eq_some_iff.1 hj).1 hj)).symm, B1.out⟩
set_option maxHeartbeats 1000000 in
theorem IndexFunc_past.calls (A : Option Addr) (n c : Nat) (xs : List Quad) (kb : Nat) (p : Quad → Bool) (w : World) (hr : Kd.C kEdge w A n (xs.map ed))
    (hf : ∀ W, Below w.heap.size w W → ∀ x ∈ xs, Calls Try.prog 37 #[edV (ed x), .pointer (some ⟨kb, 0, none⟩)] W fun e w' => e = .returned (.bool (p x)) ∧ Below W.heap.size W w') :
    Calls Try.prog 34 #[.slice A n c, .func (.func 37) #[] #[.pointer (some ⟨kb, 0, none⟩)]] w fun e w' => e = .returned (.int .i64 (idxI xs p)) ∧ Below w.heap.size w w' := by
  obtain rfl : xs.length = n := by have := hr.1; rwa [List.length_map] at this
  have hm : (xs.length : Int) ≤ 9223372036854775807 := by have := hr.2.1; omega
  have HR := Aside0.mk hr
  have HF := Aside0.mk hf
  clear hr hf
  go_enter Try.func34, Try.ntmps34
  go_wp2
  go_loopg [8] xs.length (fun gg s8 wr => ∃ k : Nat, k ≤ xs.length ∧ xs.length - k ≤ gg ∧ s8 = .int .i64 k ∧ Aside0 (∀ (j : Nat) x, j < k → xs[j]? = some x → p x = false) ∧ Aside0 (Below w.heap.size w wr))
  case atStart => exact ⟨0, Nat.zero_le _, Nat.le_refl _, rfl, ⟨fun j x hj => absurd hj (Nat.not_lt_zero _)⟩, ⟨Below.refl _ _⟩⟩
  case round =>
    obtain ⟨k, hk, hg, rfl, HN, B1⟩ := hrel
    by_cases hlt : k < xs.length
    · obtain ⟨x, hx⟩ : ∃ x, xs[k]? = some x := ⟨_, List.getElem?_eq_getElem hlt⟩
      obtain ⟨ad, rfl, x0, x1, x2, x3⟩ := atN_Edge (Kd.C_below HR.out B1.out) k (show (xs.map ed)[k]? = some (ed x) by rw [List.getElem?_map, hx]; rfl)
      have hk1 : (k : Int) < (xs.length : Int) := by omega
      have hc := HF.out wr B1.out x (List.mem_of_getElem? hx)
      have HX := Aside0.mk hx
      clear hx
      generalize hp : p x = b at hc
      generalize ed x = X at x0 x1 x2 x3 hc
      have HP := Aside0.mk hp
      clear hp
      go_wp2_with (go_at_call 37; refine hc.mono ?_; rintro e w2 ⟨rfl, hb2⟩; cases b)
      · go_roundg (xs.length - (k + 1))
        case measure => omega
        case rel => exact ⟨k + 1, by omega, by omega, by go_num, ⟨fun j y hj hy => by
          rcases Nat.lt_or_ge j k with h | h
          · exact HN.out j y h hy
          · obtain rfl : j = k := by omega
            rw [HX.out] at hy
            injection hy with hy
            rw [← hy]
            exact HP.out⟩, ⟨below_then B1.out B1.out.size hb2⟩⟩
      · go_ret
        exact ⟨ret_int (idxI_some HX.out HP.out HN.out).symm, below_then B1.out B1.out.size hb2⟩
    · obtain rfl : k = xs.length := by omega
      have hd : decide ((xs.length : Int) < (xs.length : Int)) = false := by simp
      go_wp2
      go_ret
      exact ⟨ret_int (idxI_none (fun j x hj => HN.out j x (List.getElem?_eq_some_iff.1 hj).1 hj)).symm, B1.out⟩
end Go.Proofs.Ytbfapgagmbiiaaa
