/- slices.rotateCmpFunc at int. -/
import Derived.Test.YtbfapgagmbiiaaaSortSwap
namespace Go.Proofs.Ytbfapgagmbiiaaa
open Gl Go.RowKit Go.Proofs.YtbfapgagmbiiaaaW.PrintWords
set_option linter.unusedVariables false
set_option linter.unusedSimpArgs false

theorem split_at {α : Type} (l : List α) (k : Nat) (h : k ≤ l.length) : ∃ l1 l2, l = l1 ++ l2 ∧ l1.length = k ∧ l2.length = l.length - k :=
  ⟨l.take k, l.drop k, (List.take_append_drop k l).symm, by simp; omega, by simp⟩

set_option maxHeartbeats 4000000 in
theorem rotate.calls (fv : Value) (w0 w : World) (g cap n : Nat)
    (P U V R : List Int) (a m b : Nat) (ha : P.length = a) (hm : a + U.length = m) (hb : m + V.length = b) (hU : 0 < U.length) (hV : 0 < V.length) (hO : Own w0 w g cap n (P ++ (U ++ (V ++ R)))) (hn : n ≤ 4611686018427387904) :
    Calls Try.prog 60 #[.slice (some ⟨g, 0, none⟩) n cap, .int .i64 a, .int .i64 m, .int .i64 b, fv] w fun e w' => e = .returned (.tuple #[]) ∧ Own w0 w' g cap n (P ++ (V ++ (U ++ R))) := by
  have hbn : b ≤ n := by have := hO.len; simp at this; omega
  have hab : a ≤ m := by omega
  have hmb : m ≤ b := by omega
  have q1 : (m : Int) - (a : Int) = (U.length : Int) := by omega
  have q2 : (b : Int) - (m : Int) = (V.length : Int) := by omega
  have HS := Aside0.mk hO
  have hm1 := Aside0.mk hm
  have ha1 := Aside0.mk ha
  have hUm : U.length ≤ m := by omega
  have hVb : V.length ≤ b := by omega
  have hmV : m + V.length ≤ n := by omega
  clear hO ha hm hb
  go_enter Try.func60, Try.ntmps60
  go_wp2
  clear q1 q2
  go_loopg [10, 11] (U.length + V.length) (fun gg s10 s11 wr => ∃ (i j p : Nat) (P' U' V' R' : List Int), 0 < i ∧ 0 < j ∧ i + j ≤ gg ∧ p + i = m ∧ m + j ≤ n ∧ s10 = .int .i64 i ∧ s11 = .int .i64 j ∧ Aside0 (P'.length = p ∧ U'.length = i ∧ V'.length = j ∧ P ++ (V ++ (U ++ R)) = P' ++ (V' ++ (U' ++ R'))) ∧ Aside0 (Own w0 wr g cap n (P' ++ (U' ++ (V' ++ R')))))
  case atStart => exact ⟨U.length, V.length, a, P, U, V, R, hU, hV, Nat.le_refl _, by have := hm1.out; omega, by omega, rfl, rfl, ⟨ha1.out, rfl, rfl, rfl⟩, HS⟩
  case round =>
    clear HS
    obtain ⟨i, j, p, P', U', V', R', hi, hj, hg, hp, hmn, rfl, rfl, HL, HO⟩ := hrel
    have q1 : (m : Int) - (i : Int) = (p : Int) := by omega
    have HP := Aside0.mk hp
    have hpm : p ≤ m := by omega
    have him : i ≤ m := by omega
    clear hp
    by_cases hne : i = j
    · subst hne
      have hd : ((i : Int) != (i : Int)) = false := by simp
      obtain ⟨h1, h2, h3, h4⟩ := HL.out
      have hc := swapRange.calls fv w0 wr g cap n P' U' [] V' R' p m i h1 (by have := HP.out; simp; omega) h2 h3 (by simpa using HO.out) hn
      have HE := Aside0.mk h4
      clear h1 h2 h3 h4 HL
      go_wp2_with (go_at_call 61; refine hc.mono ?_; rintro e w2 ⟨rfl, hO2⟩)
      go_end0
      exact ⟨rfl, by rw [HE.out]; simpa using hO2⟩
    · have hd : ((i : Int) != (j : Int)) = true := by simp; omega
      by_cases hgt : j < i
      · obtain ⟨h1, h2, h3, h4⟩ := HL.out
        obtain ⟨U1, U2, hU', hU1, hU2⟩ := split_at U' j (by omega)
        have hO1 := HO.out
        rw [hU', List.append_assoc] at hO1
        have hc := swapRange.calls fv w0 wr g cap n P' U1 U2 V' R' p m j h1 (by have := HP.out; omega) hU1 h3 hO1 hn
        have HL' : Aside0 ((P' ++ V').length = p + j ∧ U2.length = i - j ∧ U1.length = j ∧ P ++ (V ++ (U ++ R)) = (P' ++ V') ++ (U1 ++ (U2 ++ R'))) := ⟨by simp; omega, by omega, hU1, by rw [h4, hU']; simp⟩
        have hji : j ≤ i := by omega
        clear h1 h2 h3 h4 HL hU' hU1 hU2 hO1 HO hne
        go_wp2_with (go_at_call 61; refine hc.mono ?_; rintro e w2 ⟨rfl, hO2⟩)
        go_roundg i
        case measure => omega
        case rel => exact ⟨i - j, j, p + j, P' ++ V', U2, U1, R', by omega, hj, by omega, by have := HP.out; omega, by omega, by go_num, rfl, HL', ⟨by simpa using hO2⟩⟩
      · obtain ⟨h1, h2, h3, h4⟩ := HL.out
        obtain ⟨V1, V2, hV', hV1, hV2⟩ := split_at V' (j - i) (by omega)
        have hO1 := HO.out
        rw [hV', List.append_assoc] at hO1
        have hc := swapRange.calls fv w0 wr g cap n P' U' V1 V2 R' p (m + j - i) i h1 (by have := HP.out; omega) h2 (by omega) hO1 hn
        have HL' : Aside0 (P'.length = p ∧ V2.length = i ∧ V1.length = j - i ∧ P ++ (V ++ (U ++ R)) = P' ++ (V1 ++ (V2 ++ (U' ++ R')))) := ⟨h1, by omega, hV1, by rw [h4, hV']; simp⟩
        have q3 : (m : Int) + (j : Int) - (i : Int) = ((m + j - i : Nat) : Int) := by omega
        have hij : i ≤ j := by omega
        have hng : ¬ (j : Int) < (i : Int) := by omega
        clear h1 h2 h3 h4 HL hV' hV1 hV2 hO1 HO
        go_wp2_with (go_at_call 61; refine hc.mono ?_; rintro e w2 ⟨rfl, hO2⟩)
        go_roundg j
        case measure => omega
        case rel => exact ⟨i, j - i, p, P', V2, V1, U' ++ R', hi, by omega, by omega, HP.out, by omega, rfl, by go_num, HL', ⟨hO2⟩⟩
end Go.Proofs.Ytbfapgagmbiiaaa
