/- gleaningref1.SameEdges at two rows of the same edges; gleaninglaw11.alive. -/
import Derived.Test.YtbfapgagmbiiaaaEdgeAdd
namespace Go.Proofs.Ytbfapgagmbiiaaa
open Gl Go.RowKit Go.Proofs.YtbfapgagmbiiaaaW.PrintWords
set_option linter.unusedVariables false
set_option linter.unusedSimpArgs false

set_option maxHeartbeats 1000000 in
theorem SameEdges.calls (A B : Option Addr) (n c d : Nat) (l : List SEdge) (w : World) (ha : Kd.C kEdge w A n l) (hb : Kd.C kEdge w B n l) :
    Calls Try.prog 9 #[.slice A n c, .slice B n d] w fun e w' => e = .returned (.bool true) ∧ ∃ q, w.drewN q = w' := by
  obtain rfl : l.length = n := ha.1
  have hm : (l.length : Int) ≤ 9223372036854775807 := by have := ha.2.1; omega
  have HA := Aside0.mk ha
  have HB := Aside0.mk hb
  clear ha hb
  go_enter Try.func9, Try.ntmps9
  go_wp2
  go_loopg [5] l.length (fun gg s5 wr => ∃ k : Nat, k ≤ l.length ∧ l.length - k ≤ gg ∧ s5 = .int .i64 k ∧ ∃ q, w.drewN q = wr)
  case atStart => exact ⟨0, Nat.zero_le _, Nat.le_refl _, rfl, 0, rfl⟩
  case round =>
    obtain ⟨k, hk, hg, rfl, q, rfl⟩ := hrel
    by_cases hlt : k < l.length
    · obtain ⟨x, hx⟩ : ∃ x, l[k]? = some x := ⟨_, List.getElem?_eq_getElem hlt⟩
      obtain ⟨ad, rfl, a0, a1, a2, a3⟩ := atN_Edge HA.out k hx
      obtain ⟨bd, rfl, b0, b1, b2, b3⟩ := atN_Edge HB.out k hx
      have hk1 : (k : Int) < (l.length : Int) := by omega
      clear hx
      go_wp2
      go_quiet (fail)
      go_wp2
      go_roundg (l.length - (k + 1))
      case measure => omega
      case rel => exact ⟨k + 1, by omega, by omega, by go_num, _, rfl⟩
    · obtain rfl : k = l.length := by omega
      have hd : decide ((l.length : Int) < (l.length : Int)) = false := by simp
      go_wp2
      go_ret
      exact ⟨rfl, _, rfl⟩
theorem ab_C (w : World) : Kd.C kSpan (w.alloc (.cells #[.int .u64 0, .int .u64 0, .int .u64 1, .int .u64 0, .string ⟨#[97]⟩, .string ⟨#[120]⟩, .int .i64 0, .int .i64 0, .bool false, .slice none 0 0, .int .u64 0, .int .u64 0, .int .u64 2, .int .u64 1, .string ⟨#[98]⟩, .string ⟨#[120]⟩, .int .i64 0, .int .i64 0, .bool true, .slice none 0 0] 33)) (some ⟨w.heap.size, 0, none⟩) 2 (chainL ⟨#[120]⟩ [0, 1] [false, true] 2) := by
  refine ⟨rfl, by omega, fun _ => ⟨_, rfl, fun j x hx => ?_⟩⟩
  rcases j with _ | _ | j
  · injection hx with hx
    subst hx
    refine ⟨_, rfl, kSpan_mk _ (chainSp ⟨#[120]⟩ [0, 1] [false, true] 0) (A9 := none) (c9 := 0) (Nat.le_refl _) (Kd.C_nil _ _), fun i u hu => ?_⟩
    rw [add_plain, cell_of_row _ _ _ _ _ _ (heap_alloc_new w _)]
    rcases i with _ | _ | _ | _ | _ | _ | _ | _ | _ | _ | i <;> first | exact hu | (simp at hu)
  · injection hx with hx
    subst hx
    refine ⟨_, rfl, kSpan_mk _ (chainSp ⟨#[120]⟩ [0, 1] [false, true] 1) (A9 := none) (c9 := 0) (Nat.le_refl _) (Kd.C_nil _ _), fun i u hu => ?_⟩
    rw [add_plain, cell_of_row _ _ _ _ _ _ (heap_alloc_new w _)]
    rcases i with _ | _ | _ | _ | _ | _ | _ | _ | _ | _ | i <;> first | exact hu | (simp at hu)
  · simp [chainL] at hx
set_option maxHeartbeats 1000000 in
theorem edgesAlive.calls (w : World) : Calls Try.prog 8 #[] w fun e w' => e = .returned (.bool true) ∧ Below w.heap.size w w' := by
  have h1 := Add.calls _ 2 2 ⟨#[120]⟩ [0, 1] [false, true] 9 _ (ab_C w) (by decide) (by decide) (fun i => by rcases i with _ | _ | i <;> simp) (by omega) (by omega) (by omega)
  have e1 : edgesOf (cnt [0, 1] [false, true] 2) = [(0, 1, 1, 1)] := by decide +kernel
  rw [e1] at h1
  have h2 : ∀ W, Calls Try.prog 10 #[.slice none 0 0, .slice none 0 0, .int .i64 9] W (AddEnd W []) := fun W => by
    have h := Add.calls none 0 0 ⟨#[120]⟩ [] [] 9 W (Kd.C_nil _ _) (by decide) (by decide) (fun i => by simp) (by omega) (by omega) (by omega)
    have e : edgesOf (cnt [] [] 0) = [] := by decide +kernel
    rwa [e] at h
  have B0 := Aside0.mk (below_alloc (Below.refl w.heap.size w) (.cells #[.int .u64 0, .int .u64 0, .int .u64 1, .int .u64 0, .string ⟨#[97]⟩, .string ⟨#[120]⟩, .int .i64 0, .int .i64 0, .bool false, .slice none 0 0, .int .u64 0, .int .u64 0, .int .u64 2, .int .u64 1, .string ⟨#[98]⟩, .string ⟨#[120]⟩, .int .i64 0, .int .i64 0, .bool true, .slice none 0 0] 33))
  clear e1
  go_enter Try.func8, Try.ntmps8
  go_upto_region 2 with (go_at_call 10; refine h1.mono ?_; rintro e w1 ⟨v, rfl, r1, hb1⟩)
  have B1 := Aside0.mk (below_then B0.out (by simp) hb1)
  obtain ⟨g, c, rfl, -⟩ := R_formN (n := 1) r1 rfl (by omega)
  have KC : Aside0 (∀ W, Below w1.heap.size w1 W → W.cell? ⟨g, 0, none⟩ = some (.string ⟨#[97]⟩) ∧ W.cell? ⟨g, 1, none⟩ = some (.string ⟨#[98]⟩) ∧ W.cell? ⟨g, 2, none⟩ = some (.int .i64 1) ∧ W.cell? ⟨g, 3, none⟩ = some (.int .i64 1)) := ⟨fun W hW => by
    obtain ⟨-, hrd⟩ := Kd.R_reads' (Kd.R_below r1 hW)
    obtain ⟨ad, e0, x0, x1, x2, x3⟩ := atN_Edge hrd.2 0 rfl
    cases e0
    simp only [add_plain] at x0 x1 x2 x3
    exact ⟨x0, x1, x2, x3⟩⟩
  clear h1 hb1 r1 B0
  go_wp2_with (go_at_call 10; refine (h2 _).mono ?_; rintro e w2 ⟨v2, rfl, r2, hb2⟩; obtain ⟨A2, c2, rfl, -, -⟩ := R_readsN (n := 0) r2 rfl; obtain ⟨k0, k1, k2, k3⟩ := KC.out _ hb2)
  go_ret
  exact ⟨rfl, below_then B1.out B1.out.size hb2⟩
end Go.Proofs.Ytbfapgagmbiiaaa
