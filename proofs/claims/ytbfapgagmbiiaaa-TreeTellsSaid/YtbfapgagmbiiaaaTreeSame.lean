/- The laws' 'same': two rows of the same numbers. -/
import Derived.Test.YtbfapgagmbiiaaaBase
namespace Go.Proofs.Ytbfapgagmbiiaaa
open Gl Go.RowKit Go.Proofs.YtbfapgagmbiiaaaW.PrintWords
set_option linter.unusedVariables false
set_option linter.unusedSimpArgs false

set_option maxHeartbeats 1000000 in
theorem same.calls (A B : Option Addr) (n c d : Nat) (l : List Int) (w : World) (ha : Kd.C (Kd.int .i64) w A n l) (hb : Kd.C (Kd.int .i64) w B n l) :
    Calls Try.prog 15 #[.slice A n c, .slice B n d] w fun e w' => e = .returned (.bool true) ∧ ∃ q, w.drewN q = w' := by
  obtain rfl : l.length = n := ha.1
  have hm : (l.length : Int) ≤ 9223372036854775807 := by have := ha.2.1; omega
  have HA := Aside0.mk ha
  have HB := Aside0.mk hb
  clear ha hb
  go_enter Try.func15, Try.ntmps15
  go_wp2
  go_loopg [5] l.length (fun gg s5 wr => ∃ k : Nat, k ≤ l.length ∧ l.length - k ≤ gg ∧ s5 = .int .i64 k ∧ ∃ q, w.drewN q = wr)
  case atStart => exact ⟨0, Nat.zero_le _, Nat.le_refl _, rfl, 0, rfl⟩
  case round =>
    obtain ⟨k, hk, hg, rfl, q, rfl⟩ := hrel
    by_cases hlt : k < l.length
    · obtain ⟨x, hx⟩ : ∃ x, l[k]? = some x := ⟨_, List.getElem?_eq_getElem hlt⟩
      obtain ⟨ad, rfl, hc1⟩ := atN_int HA.out k hx
      obtain ⟨bd, rfl, hc2⟩ := atN_int HB.out k hx
      have hk1 : (k : Int) < (l.length : Int) := by omega
      clear hx
      go_wp2
      go_quiet (fail)
      go_wp2
      go_roundg (l.length - (k + 1))
      case measure => omega
      case rel => exact ⟨k + 1, by omega, by omega, by go_num, _, rfl⟩
    · obtain rfl : k = l.length := by omega
      have hd : decide ((l.length : Int) < (l.length : Int)) = false := by simp
      go_wp2
      go_ret
      exact ⟨rfl, _, rfl⟩
end Go.Proofs.Ytbfapgagmbiiaaa
