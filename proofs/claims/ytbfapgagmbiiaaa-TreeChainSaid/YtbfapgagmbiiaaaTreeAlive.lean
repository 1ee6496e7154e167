/- gleaninglaw29.alive. -/
import Derived.Test.YtbfapgagmbiiaaaTreeTop
namespace Go.Proofs.Ytbfapgagmbiiaaa
open Gl Go.RowKit Go.Proofs.YtbfapgagmbiiaaaW.PrintWords
set_option linter.unusedVariables false
set_option linter.unusedSimpArgs false

def zzSpan (a b : Int) : SSpan := ⟨zTrace, a, b, (⟨#[]⟩ : ByteArray), (⟨#[]⟩ : ByteArray), 0, 0, false, []⟩
theorem good_nil : Tree.Good [] := by
  refine ⟨?_, by decide⟩
  intro i hi
  have e : Tree.kid (Tree.kids []) ([] : List SSpan).length = [] := by decide
  rw [e] at hi
  cases hi
theorem two_C (w : World) : Kd.C kSpan (w.alloc (.cells #[.int .u64 0, .int .u64 0, .int .u64 1, .int .u64 9, .string ⟨#[]⟩, .string ⟨#[]⟩, .int .i64 0, .int .i64 0, .bool false, .slice none 0 0, .int .u64 0, .int .u64 0, .int .u64 2, .int .u64 1, .string ⟨#[]⟩, .string ⟨#[]⟩, .int .i64 0, .int .i64 0, .bool false, .slice none 0 0] 33)) (some ⟨w.heap.size, 0, none⟩) 2 [zzSpan 1 9, zzSpan 2 1] := by
  refine ⟨rfl, by omega, fun _ => ⟨_, rfl, fun j x hx => ?_⟩⟩
  rcases j with _ | _ | j
  · injection hx with hx
    subst hx
    refine ⟨_, rfl, kSpan_mk _ (zzSpan 1 9) (A9 := none) (c9 := 0) (Nat.le_refl _) (Kd.C_nil _ _), fun i u hu => ?_⟩
    rw [add_plain, cell_of_row _ _ _ _ _ _ (heap_alloc_new w _)]
    rcases i with _ | _ | _ | _ | _ | _ | _ | _ | _ | _ | i <;> first | exact hu | (simp at hu)
  · injection hx with hx
    subst hx
    refine ⟨_, rfl, kSpan_mk _ (zzSpan 2 1) (A9 := none) (c9 := 0) (Nat.le_refl _) (Kd.C_nil _ _), fun i u hu => ?_⟩
    rw [add_plain, cell_of_row _ _ _ _ _ _ (heap_alloc_new w _)]
    rcases i with _ | _ | _ | _ | _ | _ | _ | _ | _ | _ | i <;> first | exact hu | (simp at hu)
  · simp at hx
set_option maxHeartbeats 1000000 in
theorem alive.calls (w : World) : Calls Try.prog 11 #[] w fun e w' => e = .returned (.bool true) ∧ Below w.heap.size w w' := by
  have hp := Parents.calls _ 2 2 _ _ (two_C w) (by omega)
  have e1 : Tree.parents [zzSpan 1 9, zzSpan 2 1] = [-1, 0] := by decide +kernel
  rw [e1] at hp
  have ho : ∀ W, Calls Try.prog 17 #[.slice none 0 0] W fun e w' => ∃ v, e = .returned v ∧ RI w' W.heap.size v (Tree.order []) ∧ Below W.heap.size W w' := fun W => Order.calls none 0 0 [] W (Kd.C_nil _ _) (by omega) good_nil
  have e2 : Tree.order [] = [] := by decide +kernel
  rw [e2] at ho
  have HO := Aside0.mk ho
  have HB0 : Aside0 (Below w.heap.size w (w.alloc (.cells #[.int .u64 0, .int .u64 0, .int .u64 1, .int .u64 9, .string ⟨#[]⟩, .string ⟨#[]⟩, .int .i64 0, .int .i64 0, .bool false, .slice none 0 0, .int .u64 0, .int .u64 0, .int .u64 2, .int .u64 1, .string ⟨#[]⟩, .string ⟨#[]⟩, .int .i64 0, .int .i64 0, .bool false, .slice none 0 0] 33))) := ⟨below_alloc (Below.refl _ _) _⟩
  clear ho e1 e2
  go_enter Try.func11, Try.ntmps11
  go_upto_region 2 with (go_at_call 12; refine hp.mono ?_; rintro e w1 ⟨v, rfl, h1, hb1⟩)
  have hz1 : w.heap.size ≤ w1.heap.size := by have := hb1.size; simp at this; omega
  have HB1 := Aside0.mk (below_then HB0.out (by simp) hb1)
  obtain ⟨g, c, rfl, -⟩ := R_formN (n := 2) h1 rfl (by omega)
  have KC : Aside0 (∀ W, Below w1.heap.size w1 W → W.cell? ⟨g, 0, none⟩ = some (.int .i64 (-1)) ∧ W.cell? ⟨g, 1, none⟩ = some (.int .i64 0)) := ⟨fun W hW => by
    obtain ⟨x1, e1, y1, -⟩ := cell_i64 (Kd.R_below h1 hW) 0 (by omega)
    obtain ⟨x2, e2, y2, -⟩ := cell_i64 (Kd.R_below h1 hW) 1 (by omega)
    cases e1
    cases e2
    exact ⟨y1, y2⟩⟩
  clear hp HB0 hb1 h1
  go_wp2_with (go_at_call 17; refine (HO.out _).mono ?_; rintro e w2 ⟨v2, rfl, h2, hb2⟩; obtain ⟨A2, c2, rfl, -, -⟩ := R_readsN (n := 0) h2 rfl; obtain ⟨k0, k1⟩ := KC.out _ hb2)
  go_ret
  exact ⟨rfl, below_then HB1.out hz1 hb2⟩
end Go.Proofs.Ytbfapgagmbiiaaa
