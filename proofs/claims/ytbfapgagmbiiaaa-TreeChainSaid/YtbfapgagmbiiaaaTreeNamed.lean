/- tree.named comes to its plain function. -/
import Derived.Test.YtbfapgagmbiiaaaBase
import Derived.Test.YtbfapgagmbiiaaaTreePl
namespace Go.Proofs.Ytbfapgagmbiiaaa
open Gl Go.RowKit Go.Proofs.YtbfapgagmbiiaaaW.PrintWords
set_option linter.unusedVariables false
set_option linter.unusedSimpArgs false

set_option maxHeartbeats 2000000 in
theorem named.calls (A : Option Addr) (n c : Nat) (l : List SSpan) (i : Nat) (hi : i < n) (w : World) (hr : Kd.C kSpan w A n l) (hl : n ≤ 9223372036854775807) :
    Calls Try.prog 26 #[.slice A n c, .int .i64 i] w fun e w' => e = .returned (.int .i64 (Tree.named l i)) ∧ Below w.heap.size w w' := by
  obtain rfl : l.length = n := hr.1
  obtain ⟨y, hy⟩ : ∃ y, l[i]? = some y := ⟨_, List.getElem?_eq_getElem hi⟩
  obtain ⟨ad, B9, d9, rfl, -, -, -, y3, -⟩ := atN_Span hr i hy
  have HR := Aside0.mk hr
  have HY := Aside0.mk hy
  clear hr hy
  generalize hres : Tree.named l i = res
  have HRES := Aside0.mk hres
  clear hres
  go_enter Try.func26, Try.ntmps26
  go_wp2
  go_loopg [9] l.length (fun gg s9 wr => ∃ k : Nat, k ≤ l.length ∧ l.length - k ≤ gg ∧ s9 = .int .i64 k ∧ Aside0 (Below w.heap.size w wr) ∧ Aside0 (∀ j, j < k → Tree.hits l i j = false))
  case atStart => exact ⟨0, Nat.zero_le _, by omega, rfl, ⟨Below.refl _ w⟩, ⟨fun j hj => absurd hj (Nat.not_lt_zero _)⟩⟩
  case round =>
    obtain ⟨k, hk, hg, rfl, BW, AH⟩ := hrel
    by_cases hlt : k < l.length
    · obtain ⟨x, hx⟩ : ∃ x, l[k]? = some x := ⟨_, List.getElem?_eq_getElem hlt⟩
      obtain ⟨ad', B9', d9', e, x0, x1, x2, x3, x4, x5, x6, x7, x8, x9, -⟩ := atN_Span HR.out k hx
      cases e
      have HX := Aside0.mk hx
      clear hx
      replace x0 := pw_cell_below BW.out x0
      replace x1 := pw_cell_below BW.out x1
      replace x2 := pw_cell_below BW.out x2
      replace x3 := pw_cell_below BW.out x3
      replace x4 := pw_cell_below BW.out x4
      replace x5 := pw_cell_below BW.out x5
      replace x6 := pw_cell_below BW.out x6
      replace x7 := pw_cell_below BW.out x7
      replace x8 := pw_cell_below BW.out x8
      replace x9 := pw_cell_below BW.out x9
      have z3 := cell_al (pw_cell_below BW.out y3)
      have hi1 : (i : Int) < (l.length : Int) := by omega
      by_cases hki : k = i
      · have hd : ((k : Int) != (i : Int)) = false := by simp [hki]
        have hh : Aside0 (Tree.hits l i k = false) := ⟨by unfold Tree.hits; simp [hki]⟩
        clear hki
        go_wp2
        go_quiet (fail)
        go_wp2
        go_roundg (l.length - (k + 1))
        case measure => omega
        case rel => exact ⟨k + 1, by omega, by omega, by go_num, ⟨pw_below_drewN (below_alloc BW.out _) _⟩, ⟨fun j hj => if e : j = k then e ▸ hh.out else AH.out j (by omega)⟩⟩
      · have hd : ((k : Int) != (i : Int)) = true := by simp; omega
        by_cases hm : x.f1 = y.f2
        · have hm1 : (x.f1 == y.f2) = true := by simpa using hm
          have hh : Aside0 (Tree.hits l i k = true) := ⟨by unfold Tree.hits; rw [HX.out, HY.out]; simp [hki, hm]⟩
          clear hm
          go_wp2
          go_quiet (fail)
          go_wp2
          go_ret
          exact ⟨ret_int (by rw [← HRES.out, Tree.named_hit hlt hh.out AH.out]), pw_below_drewN (below_alloc BW.out _) _⟩
        · have hm1 : (x.f1 == y.f2) = false := by simpa using hm
          have hh : Aside0 (Tree.hits l i k = false) := ⟨by unfold Tree.hits; rw [HX.out, HY.out]; simp [hm]⟩
          go_wp2
          go_quiet (fail)
          go_wp2
          go_roundg (l.length - (k + 1))
          case measure => omega
          case rel => exact ⟨k + 1, by omega, by omega, by go_num, ⟨pw_below_drewN (below_alloc BW.out _) _⟩, ⟨fun j hj => if e : j = k then e ▸ hh.out else AH.out j (by omega)⟩⟩
    · have hd : decide ((k : Int) < (l.length : Int)) = false := by simp; omega
      go_wp2
      go_ret
      obtain rfl : k = l.length := by omega
      exact ⟨ret_int (by rw [← HRES.out, Tree.named_miss AH.out]), BW.out⟩
end Go.Proofs.Ytbfapgagmbiiaaa
