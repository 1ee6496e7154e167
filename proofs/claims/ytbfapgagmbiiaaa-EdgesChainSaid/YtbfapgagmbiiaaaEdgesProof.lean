/-
  gleaninglaw11.EdgesChain returns true at every slice of numbers and every slice of truth values, and its arguments read as they did. No condition.
-/
import Derived.Test.YtbfapgagmbiiaaaRows
import Derived.Test.YtbfapgagmbiiaaaEdgesLaw
import Derived.Test.YtbfapgagmbiiaaaOpen
import Derived.WalkKit
import Derived.ProofKit
import Derived.OpenShut
import Derived.ChangeOld
import Derived.Below
namespace Go.Proofs.Ytbfapgagmbiiaaa.edgesChain
open Go.ChangeShapes Go.WideShapes Go.ChangeAt Go.RowKit Gl Go.Proofs.YtbfapgagmbiiaaaW.PrintWords
set_option linter.unusedVariables false

theorem opens_ints {H : Type} {enc : TypeId × Value → H} {w : World} {base : Nat} {spare : Nat → Bool} {held : Bool} {fuel : Nat} {v : Value} {x : DataW H × List MemPlace} (h : DataW.trod enc Try.prog w base spare held fuel 22 [v] = some x) : ∃ A n c l, v = .slice A n c ∧ Kd.C (Kd.int .i64) w A n l := by
  obtain ⟨l, A, c, e, -, hC⟩ := opens_slice 3 Try.underlying22 cells_3 (opens_int Try.underlying3) h
  injection e with e
  exact ⟨A, l.length, c, l, e, hC⟩
theorem opens_bools {H : Type} {enc : TypeId × Value → H} {w : World} {base : Nat} {spare : Nat → Bool} {held : Bool} {fuel : Nat} {v : Value} {x : DataW H × List MemPlace} (h : DataW.trod enc Try.prog w base spare held fuel 23 [v] = some x) : ∃ A n c l, v = .slice A n c ∧ Kd.C Kd.bool w A n l := by
  obtain ⟨l, A, c, e, -, hC⟩ := opens_slice 4 Try.underlying23 cells_4 (opens_bool Try.underlying4) h
  injection e with e
  exact ⟨A, l.length, c, l, e, hC⟩
theorem own : ownKnob Try.prog.godebug = none := by kernel_rfl
theorem laidOut : laidOutB Try.prog = true := by kernel_rfl
set_option maxRecDepth 100000 in
theorem lifted (os : Os) (started : os.Started) (H : Type) (enc : TypeId × Value → H) :
    ReturnsInHanded {} Try.checked os 3 .any (Rows.edgesChainSpec.pre6 enc Try.prog Try.f3 Rows.edgesChainRow.domain false) (Rows.edgesChainSpec.post enc Try.prog Try.f3 false true false false) := by
  refine returnsInHanded_of_change (C := Try.checked) own started (by kernel_rfl) Try.func3
    (ChangeSpec.witness6 (enc := enc) (C := Try.checked) false ⟨#[], #[.slice none 0 0, .slice none 0 0], []⟩ 8 (by kernel_rfl) (by kernel_rfl) (by kernel_rfl) (by kernel_rfl)) ?_
  intro W base args ds gs before hval0 hW hcnd _
  have hval : ∀ (j : Nat) t v, Try.f3.params[j]? = some t → args[j]? = some v → Value.okWide Try.prog W .any base t v := hval0
  have hW' := hW
  obtain ⟨p, q, hA0, hV, rfl, hfz, hnd⟩ := hW
  have hA : DataW.TrodAll enc Try.prog W 0 (fun _ => true) true Try.f3.params.toList args.toList ds p := hA0
  rw [Try.params3] at hA hval
  obtain ⟨v0, vs0, d0, ds0, p0, q0, hargs, rfl, rfl, h0, r0⟩ := trodAll_cons hA
  obtain ⟨v1, vs1, d1, ds1, p1, q1, rfl, rfl, rfl, h1, r1⟩ := trodAll_cons r0
  obtain ⟨rfl, rfl, rfl⟩ := trodAll_nil r1
  obtain rfl : args = #[v0, v1] := by cases args; simp_all
  obtain ⟨rfl, rfl⟩ := trodVars_none hV
  obtain ⟨a0, len0, cap0, rfl⟩ := okWide_slice Try.underlying22 (hval 0 22 v0 rfl rfl)
  obtain ⟨a1, len1, cap1, rfl⟩ := okWide_slice Try.underlying23 (hval 1 23 v1 rfl rfl)
  have k0 := h0
  have k1 := h1
  have lt0 : ∀ x ∈ p0, x.block < W.heap.size := by
    obtain ⟨m, hm⟩ := k0
    exact DataW.trod_lt m _ _ _ hm
  have lt1 : ∀ x ∈ p1, x.block < W.heap.size := by
    obtain ⟨m, hm⟩ := k1
    exact DataW.trod_lt m _ _ _ hm
  obtain ⟨l, hr⟩ : ∃ l, Kd.C (Kd.int .i64) W a0 len0 l := by
    obtain ⟨fuel, hf⟩ := h0
    obtain ⟨A, n, c, l, e, hC⟩ := opens_ints (v := .slice a0 len0 cap0) hf
    injection e with e1 e2 e3
    subst e1 e2
    exact ⟨l, hC⟩
  obtain ⟨l1, hr1⟩ : ∃ l, Kd.C Kd.bool W a1 len1 l := by
    obtain ⟨fuel, hf⟩ := h1
    obtain ⟨A, n, c, l, e, hC⟩ := opens_bools (v := .slice a1 len1 cap1) hf
    injection e with e1 e2 e3
    subst e1 e2
    exact ⟨l, hC⟩
  clear hA0 hval0
  refine (EdgesChain.calls a0 a1 len0 len1 cap0 cap1 l l1 W hr hr1).mono fun e W' ⟨he, bel⟩ => ?_
  subst he
  exact ⟨_, rfl, ⟨_, _, _, [], _, [], hW', trodAll_mk1 (shut_bool Try.underlying4 _), (trodAll_cons_mk (Below.trod laidOut (by kernel_rfl) (of_decide_eq_true (by kernel_rfl)) k0 bel lt0) (trodAll_cons_mk (Below.trod laidOut (by kernel_rfl) (of_decide_eq_true (by kernel_rfl)) k1 bel lt1) trodAll_mk0)), rfl, bel.frame _, fun h => by cases h⟩⟩

theorem over : Rows.edgesChainRow.holds Try.pinned (OpenSpec.ofChange Rows.edgesChainSpec) :=
  OpenClaim.holds_of_wide 3 Try.f3 rfl rfl rfl rfl rfl rfl rfl ⟨rfl, rfl, rfl, rfl, rfl⟩ rfl rfl rfl rfl rfl (by kernel_rfl) Try.func3 (by kernel_rfl)
    (of_decide_eq_true (by kernel_rfl)) (by unfold Func.isWrapper; first | (rw [if_pos (by decide +kernel)]; kernel_rfl) | (rw [if_neg (by decide +kernel)]; exact ⟨rfl, rfl⟩))
    (fun os started H enc _ => lifted os started H enc)

theorem proved : Rows.EdgesChainSaid :=
  over
#print axioms proved
end Go.Proofs.Ytbfapgagmbiiaaa.edgesChain
