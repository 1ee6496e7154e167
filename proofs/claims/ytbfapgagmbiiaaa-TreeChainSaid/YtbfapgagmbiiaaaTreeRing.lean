/- tree.ring comes to its plain function. -/
import Derived.Test.YtbfapgagmbiiaaaBase
import Derived.Test.YtbfapgagmbiiaaaTreePl
namespace Go.Proofs.Ytbfapgagmbiiaaa
open Gl Go.RowKit Go.Proofs.YtbfapgagmbiiaaaW.PrintWords
set_option linter.unusedVariables false
set_option linter.unusedSimpArgs false

set_option maxHeartbeats 2000000 in
theorem ring.calls (A : Option Addr) (n c : Nat) (l : List Int) (i : Nat) (hi : i < n) (w : World) (hr : Kd.C (Kd.int .i64) w A n l) (hl : n ≤ 4611686018427387904) (hok : Tree.Ok l) :
    Calls Try.prog 28 #[.slice A n c, .int .i64 i] w fun e w' => e = .returned (.int .i64 (Tree.ring l i)) ∧ w = w' := by
  obtain rfl : l.length = n := hr.1
  obtain ⟨y, hy⟩ : ∃ y, l[i]? = some y := ⟨_, List.getElem?_eq_getElem hi⟩
  obtain ⟨ad, rfl, y0⟩ := atN_int hr i hy
  have HR := Aside0.mk hr
  have HOK := Aside0.mk hok
  have hy' : l.getD i 0 = y := by rw [List.getD_eq_getElem?_getD, hy]; rfl
  have hyo := hok y (List.mem_of_getElem? hy)
  clear hr hok
  generalize hres : Tree.ring l i = res
  have HRES : Aside0 (Tree.ringGo l i l.length i y = res) := ⟨by rw [← hres, Tree.ring, hy']⟩
  clear hres hy' hy
  go_enter Try.func28, Try.ntmps28
  go_wp2
  go_loopg [5, 6, 7] l.length (fun gg s5 s6 s7 wr => ∃ (least k : Int) (n : Nat), n ≤ l.length ∧ l.length - n = gg ∧ s5 = .int .i64 least ∧ s6 = .int .i64 k ∧ s7 = .int .i64 n ∧ Aside0 (k = -1 ∨ (0 ≤ k ∧ k < l.length)) ∧ Aside0 (Tree.ringGo l i gg least k = res) ∧ w = wr)
  case atStart => exact ⟨_, _, 0, Nat.zero_le _, rfl, rfl, rfl, rfl, ⟨hyo⟩, HRES, rfl⟩
  case round =>
    obtain ⟨least, k, n, hn, hg, rfl, rfl, rfl, hk, HG, rfl⟩ := hrel
    by_cases h1 : k = -1
    · have HG' : Aside0 (-1 = res) := ⟨by rw [← HG.out]; cases gk <;> simp [Tree.ringGo, h1]⟩
      have hd : (k != -1) = false := by simp [h1]
      clear h1
      go_wp2
      go_ret
      exact ⟨ret_int HG'.out, rfl⟩
    · have hd : (k != -1) = true := by simpa using h1
      have hk2 : 0 ≤ k ∧ k < (l.length : Int) := by rcases hk.out with h | h; exact absurd h h1; exact h
      obtain ⟨hk0, hkl⟩ := hk2
      by_cases h2 : n < l.length
      · obtain ⟨g, rfl⟩ : ∃ g, gk = g + 1 := ⟨gk - 1, by omega⟩
        have h2' : (n : Int) < (l.length : Int) := by omega
        by_cases h3 : k = (i : Int)
        · have HG' : Aside0 (least = res) := ⟨by rw [← HG.out, Tree.ringGo, if_neg h1, if_pos h3]⟩
          have hd3 : (k == (i : Int)) = true := by simpa using h3
          clear h1 h3
          go_wp2
          go_ret
          exact ⟨ret_int HG'.out, rfl⟩
        · obtain ⟨m, rfl⟩ := Int.eq_ofNat_of_zero_le hk0
          obtain ⟨z, hz⟩ : ∃ z, l[m]? = some z := ⟨_, List.getElem?_eq_getElem (by omega)⟩
          obtain ⟨ad', e, z0⟩ := atN_int HR.out m hz
          cases e
          have HG' : Aside0 (Tree.ringGo l i g (min least m) z = res) := ⟨by rw [← HG.out, Tree.ringGo, if_neg h1, if_neg h3, Int.toNat_natCast, List.getD_eq_getElem?_getD, hz]; rfl⟩
          have HZ := Aside0.mk (HOK.out z (List.mem_of_getElem? hz))
          have hd3 : (((m : Nat) : Int) == (i : Int)) = false := by simpa using h3
          clear h1 h3 hz
          go_wp2
          all_goals
            go_roundg g
            case measure => omega
            case rel => exact ⟨_, _, n + 1, by omega, by omega, rfl, rfl, by go_num, HZ, ⟨by have h' := HG'.out; first | (rw [Int.min_eq_left (by omega)] at h'; exact h') | (rw [Int.min_eq_right (by omega)] at h'; exact h')⟩, rfl⟩
      · have HG' : Aside0 (-1 = res) := ⟨by rw [← HG.out, show gk = 0 by omega]; rfl⟩
        have h2' : decide ((n : Int) < (l.length : Int)) = false := by simp; omega
        clear h1
        go_wp2
        go_ret
        exact ⟨ret_int HG'.out, rfl⟩
end Go.Proofs.Ytbfapgagmbiiaaa
