/- An argument that is a slice of spans: it is a row of plain spans. -/
import Derived.Test.YtbfapgagmbiiaaaK
import Derived.Deep.Slices
import Derived.ChangeArms
namespace Go.Proofs.Ytbfapgagmbiiaaa
open Gl Go.RowKit Go.Deep Go.Proofs.YtbfapgagmbiiaaaW.PrintWords
set_option linter.unusedVariables false
set_option linter.unusedSimpArgs false

theorem cells_33 : Try.prog.cellsOf 33 = 10 := by kernel_rfl
theorem cells_30 : Try.prog.cellsOf 30 = 2 := by kernel_rfl
theorem cells_28 : Try.prog.cellsOf 28 = 1 := by kernel_rfl
theorem cells_9 : Try.prog.cellsOf 9 = 1 := by kernel_rfl
theorem cells_3 : Try.prog.cellsOf 3 = 1 := by kernel_rfl
theorem cells_4 : Try.prog.cellsOf 4 = 1 := by kernel_rfl
theorem cells_31 : Try.prog.cellsOf 31 = 1 := by kernel_rfl
theorem cells_69 : Try.prog.cellsOf 69 = 2 := by kernel_rfl
def Opens {α : Type} (P : Program) (d : Kd α) (t : TypeId) : Prop := ∀ {H : Type} {enc : TypeId × Value → H} {w : World} {base : Nat} {spare : Nat → Bool} {held : Bool} {fuel : Nat} {cs : List Value} {x : DataW H × List MemPlace}, DataW.trod enc P w base spare held fuel t cs = some x → ∃ y, d.K w y cs
theorem opens_int {P : Program} {k : IntKind} {t : TypeId} (ht : P.underlying t = some (.int k)) : Opens P (Kd.int k) t := fun h => by
  obtain ⟨n, rfl, -⟩ := DataW.trod_int ht h
  exact ⟨n, rfl⟩
theorem opens_bool {P : Program} {t : TypeId} (ht : P.underlying t = some .bool) : Opens P Kd.bool t := fun h => by
  obtain ⟨n, rfl, -⟩ := DataW.trod_bool ht h
  exact ⟨n, rfl⟩
theorem opens_string {P : Program} {t : TypeId} (ht : P.underlying t = some .string) : Opens P Kd.string t := fun h => by
  obtain ⟨n, rfl, -⟩ := DataW.trod_string ht h
  exact ⟨n, rfl⟩
theorem list_of {α : Type} {p : Nat → α → Prop} : ∀ (n : Nat), (∀ i, i < n → ∃ x, p i x) → ∃ xs : List α, xs.length = n ∧ ∀ i x, xs[i]? = some x → p i x := by
  intro n
  induction n with
  | zero => intro _; exact ⟨[], rfl, fun i x h => by simp at h⟩
  | succ n ih =>
    intro h
    obtain ⟨xs, h1, h2⟩ := ih (fun i hi => h i (by omega))
    obtain ⟨y, hy⟩ := h n (by omega)
    refine ⟨xs ++ [y], by simp [h1], fun i x hx => ?_⟩
    rcases Nat.lt_or_ge i n with hi | hi
    · rw [List.getElem?_append_left (by omega)] at hx
      exact h2 i x hx
    · rw [List.getElem?_append_right (by omega)] at hx
      have : i = n := by
        have := (List.getElem?_eq_some_iff.1 hx).1
        simp at this
        omega
      subst this
      rw [h1, Nat.sub_self] at hx
      injection hx with hx
      rw [← hx]
      exact hy
theorem opens_slice {α : Type} {P : Program} {d : Kd α} {t e : TypeId} (e' : Nat) (ht : P.underlying t = some (.slice e)) (hc : P.cellsOf e = d.sz) (h : Opens P d e) : Opens P (Kd.slice e' d) t := fun {H enc w base spare held fuel cs x} hx => by
  rcases open_slice ht hx with ⟨rfl, -⟩ | ⟨a, len, cap, m, n, D, Pl, rfl, -, hl, hm, hmm, -, hi⟩
  · exact ⟨[], none, 0, rfl, Nat.le_refl _, Kd.C_nil _ _⟩
  · have hlm : len ≤ m := by rw [hmm]; split <;> omega
    obtain ⟨xs, h1, h2⟩ := list_of (α := α) (p := fun i y => ∃ cs', cs'.length = d.sz ∧ d.K w y cs' ∧ ∀ j u, cs'[j]? = some u → w.cell? (a.add (i * d.sz + j)) = some u) len (fun i hil => by
      obtain ⟨cs', hcs, ht2⟩ := hi i (by omega)
      obtain ⟨y, hy⟩ := h ht2
      rw [hc] at hcs
      obtain ⟨-, hlen, hcell⟩ := World.cells?_some hcs
      refine ⟨y, cs', hlen, hy, fun j u hu => ?_⟩
      have hj := (List.getElem?_eq_some_iff.1 hu).1
      rw [← Go.Deep.add_add, hcell j (by omega)]
      exact hu)
    subst h1
    refine ⟨xs, some a, cap, rfl, hl, rfl, ?_, fun _ => ⟨a, rfl, h2⟩⟩
    simp only [maxLen] at hm
    omega
theorem fld {H : Type} {enc : TypeId × Value → H} {P : Program} {w : World} {base : Nat} {spare : Nat → Bool} {held : Bool} {fs : Array Field} {cs : List Value} {xs : List (DataW H × List MemPlace)} {n k : Nat}
    (hf : ∀ (i : Nat) (f : Field), fs[i]? = some f → DataW.trod enc P w base spare held n f.type ((cs.drop f.offset).take (P.cellsOf f.type)) = xs[i]?) (hlen : xs.length = k) (i : Nat) (t : TypeId) (off cn : Nat) (hi : i < k)
    (hfi : (fs[i]?).map (fun f => (f.type, f.offset)) = some (t, off)) (hc : P.cellsOf t = cn) : ∃ y, DataW.trod enc P w base spare held n t ((cs.drop off).take cn) = some y := by
  obtain ⟨f, h1, h2⟩ := Option.map_eq_some_iff.1 hfi
  injection h2 with h3 h4
  have h := hf i f h1
  rw [h3, h4, hc, List.getElem?_eq_getElem (by omega)] at h
  exact ⟨_, h⟩
theorem opens_Trace : Opens Try.prog kTrace 30 := fun {H enc w base spare held fuel cs x} h => by
  obtain ⟨xs, n, -, -, hl, hlen, hf⟩ := DataW.trod_struct Try.underlying30 h
  have hlen : xs.length = 2 := hlen
  rw [cells_30] at hl
  obtain ⟨_, h0⟩ := fld hf hlen 0 28 0 1 (by omega) rfl cells_28
  obtain ⟨_, h1⟩ := fld hf hlen 1 28 1 1 (by omega) rfl cells_28
  match cs, hl with
  | [c0, c1], _ =>
    obtain ⟨y0, e0⟩ := opens_int Try.underlying28 h0
    obtain ⟨y1, e1⟩ := opens_int Try.underlying28 h1
    injection e0 with e0
    injection e1 with e1
    subst e0 e1
    exact ⟨⟨y0, y1⟩, kTrace_mk _ _⟩
theorem opens_Attr : Opens Try.prog kAttr 69 := fun {H enc w base spare held fuel cs x} h => by
  obtain ⟨xs, n, -, -, hl, hlen, hf⟩ := DataW.trod_struct Try.underlying69 h
  have hlen : xs.length = 2 := hlen
  rw [cells_69] at hl
  obtain ⟨_, h0⟩ := fld hf hlen 0 9 0 1 (by omega) rfl cells_9
  obtain ⟨_, h1⟩ := fld hf hlen 1 9 1 1 (by omega) rfl cells_9
  match cs, hl with
  | [c0, c1], _ =>
    obtain ⟨y0, e0⟩ := opens_string Try.underlying9 h0
    obtain ⟨y1, e1⟩ := opens_string Try.underlying9 h1
    injection e0 with e0
    injection e1 with e1
    subst e0 e1
    exact ⟨⟨y0, y1⟩, kAttr_mk _ _⟩
theorem opens_Span : Opens Try.prog kSpan 33 := fun {H enc w base spare held fuel cs x} h => by
  obtain ⟨xs, n, -, -, hl, hlen, hf⟩ := DataW.trod_struct Try.underlying33 h
  have hlen : xs.length = 9 := hlen
  rw [cells_33] at hl
  obtain ⟨_, h0⟩ := fld hf hlen 0 30 0 2 (by omega) rfl cells_30
  obtain ⟨_, h1⟩ := fld hf hlen 1 28 2 1 (by omega) rfl cells_28
  obtain ⟨_, h2⟩ := fld hf hlen 2 28 3 1 (by omega) rfl cells_28
  obtain ⟨_, h3⟩ := fld hf hlen 3 9 4 1 (by omega) rfl cells_9
  obtain ⟨_, h4⟩ := fld hf hlen 4 9 5 1 (by omega) rfl cells_9
  obtain ⟨_, h5⟩ := fld hf hlen 5 3 6 1 (by omega) rfl cells_3
  obtain ⟨_, h6⟩ := fld hf hlen 6 3 7 1 (by omega) rfl cells_3
  obtain ⟨_, h7⟩ := fld hf hlen 7 4 8 1 (by omega) rfl cells_4
  obtain ⟨_, h8⟩ := fld hf hlen 8 31 9 1 (by omega) rfl cells_31
  match cs, hl with
  | [c0, c1, c2, c3, c4, c5, c6, c7, c8, c9], _ =>
    obtain ⟨y0, e0⟩ := opens_Trace h0
    obtain ⟨y1, e1⟩ := opens_int Try.underlying28 h1
    obtain ⟨y2, e2⟩ := opens_int Try.underlying28 h2
    obtain ⟨y3, e3⟩ := opens_string Try.underlying9 h3
    obtain ⟨y4, e4⟩ := opens_string Try.underlying9 h4
    obtain ⟨y5, e5⟩ := opens_int Try.underlying3 h5
    obtain ⟨y6, e6⟩ := opens_int Try.underlying3 h6
    obtain ⟨y7, e7⟩ := opens_bool Try.underlying4 h7
    obtain ⟨y8, A9, k9, e8, l9, g9⟩ := opens_slice 69 Try.underlying31 cells_69 opens_Attr h8
    have e0 := kTrace_open e0
    injection e0 with a0 e0
    injection e0 with a1 _
    injection e1 with e1
    injection e2 with e2
    injection e3 with e3
    injection e4 with e4
    injection e5 with e5
    injection e6 with e6
    injection e7 with e7
    injection e8 with e8
    subst a0 a1 e1 e2 e3 e4 e5 e6 e7 e8
    exact ⟨⟨y0, y1, y2, y3, y4, y5, y6, y7, y8⟩, kSpan_mk _ ⟨y0, y1, y2, y3, y4, y5, y6, y7, y8⟩ l9 g9⟩
/-- The argument itself. -/
theorem opens_Spans {H : Type} {enc : TypeId × Value → H} {w : World} {base : Nat} {spare : Nat → Bool} {held : Bool} {fuel : Nat} {v : Value} {x : DataW H × List MemPlace} (h : DataW.trod enc Try.prog w base spare held fuel 25 [v] = some x) : ∃ A n c l, v = .slice A n c ∧ Kd.C kSpan w A n l := by
  obtain ⟨l, A, c, e, -, hC⟩ := opens_slice 33 Try.underlying25 cells_33 opens_Span h
  injection e with e
  exact ⟨A, l.length, c, l, e, hC⟩
end Go.Proofs.Ytbfapgagmbiiaaa
