/- gleaninglaw3.FewAll; the laws' 'same'. -/
import Derived.Test.YtbfapgagmbiiaaaTreeFew
namespace Go.Proofs.Ytbfapgagmbiiaaa
open Gl Go.RowKit Go.Proofs.YtbfapgagmbiiaaaW.PrintWords
set_option linter.unusedVariables false
set_option linter.unusedSimpArgs false

def TellsFew (n : Nat) (w : World) (e : Ending) (w' : World) : Prop := ∃ b, e = .returned (.bool b) ∧ (b = true → n ≤ 60) ∧ Below w.heap.size w w'
set_option maxHeartbeats 4000000 in
theorem FewAll.calls (A : Option Addr) (n c : Nat) (l : List SSpan) (w : World) (hr : Kd.C kSpan w A n l) : Calls Try.prog 14 #[.slice A n c] w (TellsFew n w) := by
  obtain rfl : l.length = n := hr.1
  have hm : (l.length : Int) ≤ 9223372036854775807 := by have := hr.2.1; omega
  have HR := Aside0.mk hr
  clear hr
  by_cases h60 : 60 < l.length
  · have h61 : (60 : Int) < (l.length : Int) := by omega
    go_enter Try.func14, Try.ntmps14
    go_wp2
    go_ret
    exact ⟨_, rfl, (fun h => by cases h), Below.refl _ _⟩
  · have h61 : (l.length : Int) ≤ 60 := by omega
    have h62 : l.length ≤ 60 := by omega
    go_enter Try.func14, Try.ntmps14
    go_wp2
    go_loopg [3] l.length (fun gg s3 wr => ∃ k : Nat, k ≤ l.length ∧ l.length - k ≤ gg ∧ s3 = .int .i64 k ∧ Aside0 (Below w.heap.size w wr))
    case atStart => exact ⟨0, Nat.zero_le _, Nat.le_refl _, rfl, ⟨Below.refl _ _⟩⟩
    case round =>
      obtain ⟨k, hk, hg, rfl, HB⟩ := hrel
      by_cases hlt : k < l.length
      · obtain ⟨x, hx⟩ : ∃ x, l[k]? = some x := ⟨_, List.getElem?_eq_getElem hlt⟩
        obtain ⟨ad, A9, c9, rfl, x0, x1, x2, x3, x4, x5, x6, x7, x8, x9, l9, g9⟩ := atN_Span (Kd.C_below HR.out HB.out) k hx
        have hk1 : (k : Int) < (l.length : Int) := by omega
        have hf := Few.calls x A9 x.f8.length c9 wr g9
        have hz := HB.out.size
        clear g9 l9 hx
        go_wp2_with (go_at_call 30; refine hf.mono ?_; rintro e w1 ⟨b, rfl, hb1⟩; cases b)
        · go_ret
          exact ⟨_, rfl, (fun h => by cases h), below_then HB.out hz hb1⟩
        · go_roundg (l.length - (k + 1))
          case measure => omega
          case rel => exact ⟨k + 1, by omega, by omega, by go_num, ⟨below_then HB.out hz hb1⟩⟩
      · obtain rfl : k = l.length := by omega
        have hd : decide ((l.length : Int) < (l.length : Int)) = false := by simp
        go_wp2
        go_ret
        exact ⟨_, rfl, fun _ => h62, HB.out⟩
end Go.Proofs.Ytbfapgagmbiiaaa
