/- cmp.Compare at int; the comparison that tree.Kids hands to the sort. -/
import Derived.Test.YtbfapgagmbiiaaaSortStable
import Derived.Test.YtbfapgagmbiiaaaTreePl
namespace Go.Proofs.Ytbfapgagmbiiaaa
open Gl Go.RowKit Go.Proofs.YtbfapgagmbiiaaaW.PrintWords
set_option linter.unusedVariables false
set_option linter.unusedSimpArgs false

theorem isNaN_int.calls (x : Int) (w : World) : Calls Try.prog 56 #[.int .i64 x] w fun e w' => e = .returned (.bool false) ∧ w = w' := by
  go_enter Try.func56, Try.ntmps56
  go_wp2
  go_ret
  exact ⟨by simp, rfl⟩
def cmpInt (x y : Int) : Int := if x < y then -1 else if y < x then 1 else 0
theorem Compare_int.calls (x y : Int) (w : World) : Calls Try.prog 51 #[.int .i64 x, .int .i64 y] w fun e w' => e = .returned (.int .i64 (cmpInt x y)) ∧ w = w' := by
  rcases Int.lt_trichotomy x y with h | h | h
  · have e1 : cmpInt x y = -1 := by simp [cmpInt, h]
    rw [e1]
    go_enter Try.func51, Try.ntmps51
    go_wp2_with (go_at_call 56; refine (isNaN_int.calls _ _).mono ?_; rintro e w2 ⟨rfl, rfl⟩)
    go_ret
    exact ⟨rfl, rfl⟩
  · have e1 : cmpInt x y = 0 := by simp [cmpInt, h]
    subst h
    rw [e1]
    have n1 : ¬ x < x := Int.lt_irrefl x
    go_enter Try.func51, Try.ntmps51
    go_wp2_with (go_at_call 56; refine (isNaN_int.calls _ _).mono ?_; rintro e w2 ⟨rfl, rfl⟩)
    go_ret
    exact ⟨rfl, rfl⟩
  · have e1 : cmpInt x y = 1 := by simp [cmpInt, h]; omega
    rw [e1]
    have n1 : ¬ x < y := by omega
    go_enter Try.func51, Try.ntmps51
    go_wp2_with (go_at_call 56; refine (isNaN_int.calls _ _).mono ?_; rintro e w2 ⟨rfl, rfl⟩)
    go_ret
    exact ⟨rfl, rfl⟩
def startOf (l : List SSpan) (a : Int) : Int := match l[a.toNat]? with
  | some x => x.f5
  | none => 0
def cfOf (l : List SSpan) (a b : Int) : Int := cmpInt (startOf l a) (startOf l b)
theorem ltOf_cfOf (l : List SSpan) (a b : Int) : ltOf (cfOf l) a b = decide (startOf l a < startOf l b) := by
  unfold ltOf cfOf cmpInt
  split
  · simp_all
  · split <;> simp_all
theorem swo_start (l : List SSpan) (S : Int → Prop) : Sort.Swo (ltOf (cfOf l)) S := by
  constructor
  · intro x _; rw [ltOf_cfOf]; simp
  · intro x y z _ _ _ h1 h2
    rw [ltOf_cfOf] at *
    simp at *
    omega
  · intro x y _ _ h
    rw [ltOf_cfOf] at *
    simp at *
    omega

set_option maxHeartbeats 2000000 in
theorem Kids_cmp.calls (A : Option Addr) (n c : Nat) (l : List SSpan) (bx : Nat) (w : World) (hr : Kd.C kSpan w A n l) (hn : n ≤ 9223372036854775807) (hbx : w.cell? ⟨bx, 0, none⟩ = some (.slice A n c)) (a b : Int) (ha : 0 ≤ a ∧ a < n) (hb : 0 ≤ b ∧ b < n) :
    Calls Try.prog 50 #[.int .i64 a, .int .i64 b, .pointer (some ⟨bx, 0, none⟩)] w fun e w' => e = .returned (.int .i64 (cfOf l a b)) ∧ ∃ q, w' = w.drewN q := by
  obtain ⟨i, rfl⟩ := Int.eq_ofNat_of_zero_le ha.1
  obtain ⟨j, rfl⟩ := Int.eq_ofNat_of_zero_le hb.1
  have hl := hr.1
  obtain ⟨x, hx⟩ : ∃ x, l[i]? = some x := ⟨_, List.getElem?_eq_getElem (by omega)⟩
  obtain ⟨y, hy⟩ : ∃ y, l[j]? = some y := ⟨_, List.getElem?_eq_getElem (by omega)⟩
  obtain ⟨ad, B9, d9, rfl, -, -, -, -, -, -, x5, -⟩ := atN_Span hr i hx
  obtain ⟨ad', C9, f9, e, -, -, -, -, -, -, y5, -⟩ := atN_Span hr j hy
  cases e
  have hcf : cfOf l i j = cmpInt x.f5 y.f5 := by unfold cfOf startOf; rw [Int.toNat_natCast, Int.toNat_natCast, hx, hy]
  rw [hcf]
  have h1 : (i : Int) < (n : Int) := ha.2
  have h2 : (j : Int) < (n : Int) := hb.2
  clear hcf hx hy hr ha hb hl
  generalize x.f5 = p at x5 ⊢
  generalize y.f5 = q at y5 ⊢
  go_enter Try.func50, Try.ntmps50
  go_wp2_with fail
  go_quiet ((go_at_call 51; exact Calls.quiet_of ((Compare_int.calls p q _).mono fun _ _ h => ⟨h.1, 0, h.2.symm⟩)))
  go_wp2_with fail
  go_ret
  exact ⟨rfl, _, rfl⟩
end Go.Proofs.Ytbfapgagmbiiaaa
