/- slices.swapRangeCmpFunc, rotateCmpFunc at int. -/
import Derived.Test.YtbfapgagmbiiaaaSortIns
namespace Go.Proofs.Ytbfapgagmbiiaaa
open Gl Go.RowKit Go.Proofs.YtbfapgagmbiiaaaW.PrintWords
set_option linter.unusedVariables false
set_option linter.unusedSimpArgs false

theorem swap_two {U W V : List Int} {x y : Int} {i j : Nat} (hi : U.length = i) (hj : i + 1 + W.length = j) : ((U ++ x :: (W ++ y :: V)).set i y).set j x = U ++ y :: (W ++ x :: V) := by
  subst hi hj
  simp [List.set_append, Nat.add_assoc, Nat.add_comm 1]
theorem two_at {U W V : List Int} {x y : Int} {i j : Nat} (hi : U.length = i) (hj : i + 1 + W.length = j) : (U ++ x :: (W ++ y :: V))[j]? = some y := by
  have : U ++ x :: (W ++ y :: V) = (U ++ x :: W) ++ y :: V := by simp
  rw [this]
  exact at_mid (by simp; omega)

set_option maxHeartbeats 4000000 in
theorem swapRange.calls (fv : Value) (w0 w : World) (g cap n : Nat)
    (P X Q Y R : List Int) (a b k : Nat) (ha : P.length = a) (hb : a + X.length + Q.length = b) (hX : X.length = k) (hY : Y.length = k) (hO : Own w0 w g cap n (P ++ (X ++ (Q ++ (Y ++ R))))) (hn : n ≤ 4611686018427387904) :
    Calls Try.prog 61 #[.slice (some ⟨g, 0, none⟩) n cap, .int .i64 a, .int .i64 b, .int .i64 k, fv] w fun e w' => e = .returned (.tuple #[]) ∧ Own w0 w' g cap n (P ++ (Y ++ (Q ++ (X ++ R)))) := by
  have HA := Aside0.mk ha
  have HB := Aside0.mk hb
  have HX := Aside0.mk hX
  have HY := Aside0.mk hY
  have hbn : b + k ≤ n := by have := hO.len; simp at this; omega
  have hab : a + k ≤ b := by omega
  have HS := Aside0.mk hO
  clear hO ha hb hX hY
  go_enter Try.func61, Try.ntmps61
  go_wp2
  go_loopg [10] k (fun gg s10 wr => ∃ (i : Nat) (X1 X2 Y1 Y2 : List Int), i ≤ k ∧ k - i ≤ gg ∧ s10 = .int .i64 i ∧ Aside0 (X = X1 ++ X2 ∧ Y = Y1 ++ Y2 ∧ X1.length = i ∧ Y1.length = i) ∧ Aside0 (Own w0 wr g cap n (P ++ (Y1 ++ (X2 ++ (Q ++ (X1 ++ (Y2 ++ R))))))))
  case atStart => exact ⟨0, [], X, [], Y, Nat.zero_le _, Nat.le_refl _, rfl, ⟨rfl, rfl, rfl, rfl⟩, HS⟩
  case round =>
    clear HS
    obtain ⟨i, X1, X2, Y1, Y2, hik, hg, rfl, HL, HO⟩ := hrel
    by_cases hlt : i < k
    · obtain ⟨x, X2', hX2⟩ : ∃ x X2', X2 = x :: X2' := by
        rcases X2 with _ | ⟨x, X2'⟩
        · exfalso; have h1 := congrArg List.length HL.out.1; have h2 := HX.out; have h3 := HL.out.2.2.1; simp only [List.length_append, List.length_nil] at h1; omega
        · exact ⟨x, X2', rfl⟩
      obtain ⟨y, Y2', hY2⟩ : ∃ y Y2', Y2 = y :: Y2' := by
        rcases Y2 with _ | ⟨y, Y2'⟩
        · exfalso; have h1 := congrArg List.length HL.out.2.1; have h2 := HY.out; have h3 := HL.out.2.2.2; simp only [List.length_append, List.length_nil] at h1; omega
        · exact ⟨y, Y2', rfl⟩
      subst hX2 hY2
      have e0 : P ++ (Y1 ++ (x :: X2' ++ (Q ++ (X1 ++ (y :: Y2' ++ R))))) = (P ++ Y1) ++ x :: ((X2' ++ (Q ++ X1)) ++ y :: (Y2' ++ R)) := by simp
      have hO1 := HO.out
      rw [e0] at hO1
      have hi1 : (P ++ Y1).length = a + i := by have := HA.out; have := HL.out.2.2.2; simp; omega
      have hi2 : a + i + 1 + (X2' ++ (Q ++ X1)).length = b + i := by
        have h1 := HB.out; have h2 := HL.out.1; have h3 := HX.out; have h4 := HL.out.2.2.1; have := congrArg List.length h2; simp at *; omega
      obtain ⟨c1, f1⟩ := hO1.cell (a + i) (at_mid hi1)
      obtain ⟨c2, f2⟩ := hO1.cell (b + i) (two_at hi1 hi2)
      have hO4 := Aside0.mk ((hO1.set (a + i) y).set (b + i) x)
      rw [swap_two hi1 hi2] at hO4
      have HL' : Aside0 (X = (X1 ++ [x]) ++ X2' ∧ Y = (Y1 ++ [y]) ++ Y2' ∧ (X1 ++ [x]).length = i + 1 ∧ (Y1 ++ [y]).length = i + 1) := ⟨by have := HL.out; simp [this]⟩
      have q1 : (0 : Int) ≤ (a : Int) + i := by omega
      have q2 : (a : Int) + i < (n : Int) := by omega
      have q3 : (0 : Int) ≤ (b : Int) + i := by omega
      have q4 : (b : Int) + i < (n : Int) := by omega
      have q5 : ((a : Int) + i).toNat = a + i := by omega
      have q6 : ((b : Int) + i).toNat = b + i := by omega
      have q7 : a + i ≠ b + i := by omega
      clear hO1 e0 hi1 hi2 HO HL
      go_wp2
      go_region
      go_wp2
      go_roundg (k - (i + 1))
      case measure => omega
      case rel => exact ⟨i + 1, X1 ++ [x], X2', Y1 ++ [y], Y2', by omega, by omega, by go_num, HL', ⟨by have := hO4.out.drew; simpa using this⟩⟩
    · have hd : decide ((i : Int) < (k : Int)) = false := by simp; omega
      have HF : Aside0 (Own w0 wr g cap n (P ++ (Y ++ (Q ++ (X ++ R))))) := by
        refine ⟨?_⟩
        have h := HO.out
        obtain ⟨h1, h2, h3, h4⟩ := HL.out
        have e1 : X2 = [] := List.length_eq_zero_iff.1 (by have e := congrArg List.length h1; have e2 := HX.out; rw [List.length_append] at e; omega)
        have e2 : Y2 = [] := List.length_eq_zero_iff.1 (by have e := congrArg List.length h2; have e2 := HY.out; rw [List.length_append] at e; omega)
        subst e1 e2
        rw [h1, h2]
        simpa using h
      go_wp2
      go_end0
      exact ⟨rfl, HF.out⟩
end Go.Proofs.Ytbfapgagmbiiaaa
