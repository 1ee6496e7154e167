/- slices.symMergeCmpFunc at int where the second part is one element. -/
import Derived.Test.YtbfapgagmbiiaaaSortRot
namespace Go.Proofs.Ytbfapgagmbiiaaa
open Gl Go.RowKit Go.Proofs.YtbfapgagmbiiaaaW.PrintWords
set_option linter.unusedVariables false
set_option linter.unusedSimpArgs false

set_option maxRecDepth 100000 in
set_option maxHeartbeats 8000000 in
theorem symB.calls (f : FuncId) (lb : Array Value) (S : Int → Prop) (cf : Int → Int → Int) (w0 w : World) (g cap n : Nat) (hcmp : CmpOk f lb S cf w0 g) (eg : ∀ args w, (callFunc f args).run Try.prog w = .ok (.enter f args) w)
    (hswo : Sort.Swo (ltOf cf) S) (P A : List Int) (x : Int) (Q : List Int) (a m : Nat) (ha : P.length = a) (hm : a + A.length = m) (hA1 : 1 < A.length) (hx : S x) (hA : ∀ y ∈ A, S y) (sA : Sort.Sd (ltOf cf) A)
    (hO : Own w0 w g cap n (P ++ (A ++ x :: Q))) (hn : n ≤ 2305843009213693952) :
    Calls Try.prog 59 #[.slice (some ⟨g, 0, none⟩) n cap, .int .i64 a, .int .i64 m, .int .i64 ((m + 1 : Nat) : Int), .func (.func f) #[] lb] w fun e w' => e = .returned (.tuple #[]) ∧ Own w0 w' g cap n (P ++ Sort.isort (ltOf cf) (A ++ [x]) ++ Q) := by
  have HCMP := Aside0.mk hcmp
  have HSx := Aside0.mk hx
  have HSA := Aside0.mk hA
  have HPa := Aside0.mk ha
  have HMa := Aside0.mk hm
  have hbn : m + 1 ≤ n := by have := hO.len; simp at this; omega
  have ham : a + 1 < m := by omega
  have HM : Aside0 (∀ k, k ≤ A.length → (∀ y, 0 < k → A[k - 1]? = some y → ltOf cf x y = false) → (∀ y, A[k]? = some y → ltOf cf x y = true) → Sort.isort (ltOf cf) (A ++ [x]) = A.take k ++ x :: A.drop k) := ⟨fun k hk h1 h2 => Sort.merge_right hswo hx hA sA k hk h1 h2⟩
  have HS := Aside0.mk hO
  have t1 : ((m : Int) - (a : Int) == 1) = false := by simp; omega
  have t2 : ((m + 1 : Nat) : Int) - (m : Int) = 1 := by omega
  clear hcmp hx hA ha hm hO sA hswo hA1
  generalize hb : m + 1 = b at t2 hbn ⊢
  have HBb := Aside0.mk hb
  clear hb
  go_enter Try.func59, Try.ntmps59
  go_wp2
  go_loopg [14, 15] (m - a) (fun gg s14 s15 wr => ∃ (i j : Nat), a ≤ i ∧ i ≤ j ∧ j ≤ m ∧ j - i ≤ gg ∧ s14 = .int .i64 i ∧ s15 = .int .i64 j ∧ Aside0 (∀ y, a < i → A[i - a - 1]? = some y → ltOf cf x y = false) ∧ Aside0 (∀ y, A[j - a]? = some y → ltOf cf x y = true) ∧ Aside0 (Own w0 wr g cap n (P ++ (A ++ x :: Q))))
  case atStart => exact ⟨a, m, Nat.le_refl _, by omega, Nat.le_refl _, Nat.le_refl _, rfl, rfl, ⟨fun y h => absurd h (Nat.lt_irrefl _)⟩, ⟨fun y hy => by have := (List.getElem?_eq_some_iff.1 hy).1; have := HMa.out; omega⟩, HS⟩
  case round =>
    obtain ⟨i, j, hai, hij, hjm, hg, rfl, rfl, H1, H2, HO⟩ := hrel
    have hAl : A.length = m - a := by have := HMa.out; omega
    by_cases hlt : i < j
    · obtain ⟨h, hh⟩ : ∃ h, (i + j) / 2 = h := ⟨_, rfl⟩
      have q1 : ((i : Int) + (j : Int)) / 2 = (h : Int) := by omega
      have q2 : i ≤ h := by omega
      have q3 : h < j := by omega
      clear hh
      obtain ⟨y, hy⟩ : ∃ y, A[h - a]? = some y := ⟨_, List.getElem?_eq_getElem (by omega)⟩
      have hO1 := HO.out
      obtain ⟨c1, f1⟩ := hO1.cell m (x := x) (by rw [← List.append_assoc]; exact at_mid (by have := HPa.out; simp; omega))
      obtain ⟨c2, f2⟩ := hO1.cell h (x := y) (by
        have e : h = P.length + (h - a) := by have := HPa.out; omega
        rw [e, List.getElem?_append_right (by omega), Nat.add_sub_cancel_left, List.getElem?_append_left (by omega)]
        exact hy)
      have hSy : S y := HSA.out y (List.mem_of_getElem? hy)
      have hcall : ∀ k, Calls Try.prog f (#[.int .i64 x, .int .i64 y] ++ lb) (wr.drewN k) fun e w' => e = .returned (.int .i64 (cf x y)) ∧ ∃ q, w' = (wr.drewN k).drewN q := fun k => HCMP.out _ (hO1.drewN k).2 x y HSx.out hSy
      have HY := Aside0.mk hy
      have q4 : (h : Int) < (n : Int) := by omega
      have q5 : (m : Int) < (n : Int) := by omega
      clear hO1 hSy hy hAl
      go_wp2
      go_quiet ((go_at_fn f; exact Calls.quiet_of (hcall _)))
      go_wp2_with fail
      · have hq : (!decide (cf x y < 0)) = true := by assumption
        have hlt2 : ¬ cf x y < 0 := by simpa using hq
        have H1' : Aside0 (∀ z, a < h + 1 → A[h + 1 - a - 1]? = some z → ltOf cf x z = false) := ⟨fun z _ hz => by
          rw [show h + 1 - a - 1 = h - a by omega, HY.out] at hz
          injection hz with hz
          rw [← hz]; exact decide_eq_false hlt2⟩
        go_roundg (j - (h + 1))
        case measure => omega
        case rel => exact ⟨h + 1, j, by omega, by omega, hjm, by omega, by go_num, rfl, H1', H2, ⟨HO.out.drewN _⟩⟩
      · have hq : (!decide (cf x y < 0)) = false := by assumption
        have hlt2 : cf x y < 0 := by simpa using hq
        have H2' : Aside0 (∀ z, A[h - a]? = some z → ltOf cf x z = true) := ⟨fun z hz => by
          rw [HY.out] at hz
          injection hz with hz
          rw [← hz]; exact decide_eq_true hlt2⟩
        go_roundg (h - i)
        case measure => omega
        case rel => exact ⟨i, h, by omega, by omega, by omega, by omega, rfl, rfl, H1, H2', ⟨HO.out.drewN _⟩⟩
    · obtain rfl : i = j := by omega
      have hd : decide ((i : Int) < (i : Int)) = false := by simp
      have HE := Aside0.mk (HM.out (i - a) (by omega) (fun y h0 hy => H1.out y (by omega) hy) H2.out)
      obtain ⟨A1, A2, hA1, hA2, hA3⟩ : ∃ A1 A2, A = A1 ++ A2 ∧ A1.length = i - a ∧ Sort.isort (ltOf cf) (A ++ [x]) = A1 ++ x :: A2 := ⟨A.take (i - a), A.drop (i - a), (List.take_append_drop _ _).symm, by simp; omega, HE.out⟩
      have HA3 := Aside0.mk hA3
      have HA2 := Aside0.mk (show a + A1.length = i by omega)
      have HO1 : Aside0 (Own w0 wr g cap n (P ++ (A1 ++ (A2 ++ x :: Q)))) := ⟨by have := HO.out; rw [hA1] at this; simpa using this⟩
      have HA2l : Aside0 (i + A2.length = m) := ⟨by have := congrArg List.length hA1; rw [List.length_append] at this; omega⟩
      have him : i ≤ n := by omega
      clear hA1 hA2 hA3 HE HM H1 H2 HO HS hAl
      obtain ⟨wo, rfl⟩ : ∃ wo : World, wo = wr := ⟨_, rfl⟩
      go_wp2
      go_loopg [17] (m - i) (fun gg s17 wr => ∃ (k : Nat) (U V : List Int), i ≤ k ∧ k ≤ m ∧ k - i ≤ gg ∧ s17 = .int .i64 k ∧ Aside0 (A2 = U ++ V ∧ i + U.length = k) ∧ Aside0 (Own w0 wr g cap n (P ++ (A1 ++ (U ++ x :: (V ++ Q))))))
      case atStart => exact ⟨m, A2, [], by omega, Nat.le_refl _, Nat.le_refl _, rfl, ⟨by simp, HA2l.out⟩, HO1⟩
      case round =>
        obtain ⟨k, U, V, hik, hkm, hgk, rfl, HL, HO⟩ := hrel
        by_cases hlt3 : i < k
        · obtain ⟨U', y, hU'⟩ : ∃ U' y, U = U' ++ [y] := ⟨_, _, (List.dropLast_concat_getLast (by intro h; subst h; have := HL.out.2; simp at this; omega)).symm⟩
          subst hU'
          obtain ⟨kk, rfl⟩ : ∃ kk, k = kk + 1 := ⟨k - 1, by omega⟩
          have hU : (P ++ (A1 ++ U')).length = kk := by have h1 := HPa.out; have h2 := HL.out.2; have h3 := HA2.out; simp at *; omega
          have hO2 : Own w0 wr g cap n ((P ++ (A1 ++ U')) ++ y :: x :: (V ++ Q)) := by have := HO.out; simpa using this
          obtain ⟨c1, f1⟩ := hO2.cell kk (at_mid hU)
          obtain ⟨c2, f2⟩ := hO2.cell (kk + 1) (x := x) (by rw [List.append_cons]; exact at_mid (by simp at *; omega))
          have hO4 := Aside0.mk ((hO2.set (kk + 1) y).set kk x)
          rw [swap_mid hU] at hO4
          have HL' : Aside0 (A2 = U' ++ (y :: V) ∧ i + U'.length = kk) := ⟨by have := HL.out; simp at this; simp [this]; omega⟩
          have q1 : (i : Int) < (kk : Int) + 1 := by omega
          have q2 : (kk : Int) + 1 < (n : Int) := by omega
          clear hU hO2 HO HL
          go_wp2
          go_region
          go_wp2
          go_roundg (kk - i)
          case measure => omega
          case rel => exact ⟨kk, U', y :: V, by omega, by omega, by omega, by go_num, HL', ⟨by have := hO4.out.drew; simpa using this⟩⟩
        · have hd3 : decide ((i : Int) < (k : Int)) = false := by simp; omega
          have HF : Aside0 (Own w0 wr g cap n (P ++ Sort.isort (ltOf cf) (A ++ [x]) ++ Q)) := by
            refine ⟨?_⟩
            obtain ⟨h1, h2⟩ := HL.out
            have e : U = [] := List.length_eq_zero_iff.1 (by omega)
            subst e
            have := HO.out
            rw [HA3.out, h1]
            simpa using this
          go_wp2
          first | go_end0 | ((try simp only [Exit.inBlock, Exit.then]); refine bodyPost_ret (results_none rfl _ _ _) rfl ?_)
          exact ⟨rfl, HF.out⟩
end Go.Proofs.Ytbfapgagmbiiaaa
