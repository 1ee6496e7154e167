/- slices.symMergeCmpFunc at int where the first part is one element. -/
import Derived.Test.YtbfapgagmbiiaaaSortRot
namespace Go.Proofs.Ytbfapgagmbiiaaa
open Gl Go.RowKit Go.Proofs.YtbfapgagmbiiaaaW.PrintWords
set_option linter.unusedVariables false
set_option linter.unusedSimpArgs false

theorem bubble_mid {U V : List Int} {x y : Int} {j : Nat} (h : U.length = j) : ((U ++ x :: y :: V).set j y).set (j + 1) x = U ++ y :: x :: V := by
  subst h
  simp [List.set_append]

set_option maxRecDepth 100000 in
set_option maxHeartbeats 8000000 in
theorem symA.calls (f : FuncId) (lb : Array Value) (S : Int → Prop) (cf : Int → Int → Int) (w0 w : World) (g cap n : Nat) (hcmp : CmpOk f lb S cf w0 g) (eg : ∀ args w, (callFunc f args).run Try.prog w = .ok (.enter f args) w)
    (hswo : Sort.Swo (ltOf cf) S) (P : List Int) (x : Int) (B Q : List Int) (a b : Nat) (ha : P.length = a) (hb : a + 1 + B.length = b) (hx : S x) (hB : ∀ y ∈ B, S y) (sB : Sort.Sd (ltOf cf) B)
    (hO : Own w0 w g cap n (P ++ x :: (B ++ Q))) (hn : n ≤ 2305843009213693952) :
    Calls Try.prog 59 #[.slice (some ⟨g, 0, none⟩) n cap, .int .i64 a, .int .i64 ((a + 1 : Nat) : Int), .int .i64 b, .func (.func f) #[] lb] w fun e w' => e = .returned (.tuple #[]) ∧ Own w0 w' g cap n (P ++ Sort.isort (ltOf cf) (x :: B) ++ Q) := by
  have HCMP := Aside0.mk hcmp
  have HSx := Aside0.mk hx
  have HSB := Aside0.mk hB
  have HPa := Aside0.mk ha
  have HBb := Aside0.mk hb
  have hbn : b ≤ n := by have := hO.len; simp at this; omega
  have hab : a + 1 ≤ b := by omega
  have HM : Aside0 (∀ k, k ≤ B.length → (∀ y, 0 < k → B[k - 1]? = some y → ltOf cf y x = true) → (∀ y, B[k]? = some y → ltOf cf y x = false) → Sort.isort (ltOf cf) (x :: B) = B.take k ++ x :: B.drop k) := ⟨fun k hk h1 h2 => Sort.merge_left hswo hx hB sB k hk h1 h2⟩
  have HS := Aside0.mk hO
  have t1 : ((a + 1 : Nat) : Int) - (a : Int) = 1 := by omega
  clear hcmp hx hB ha hb hO sB hswo
  generalize hm : a + 1 = m at t1 ⊢
  have HMa := Aside0.mk hm
  clear hm
  go_enter Try.func59, Try.ntmps59
  go_wp2
  go_loopg [10, 11] (b - m) (fun gg s10 s11 wr => ∃ (i j : Nat), m ≤ i ∧ i ≤ j ∧ j ≤ b ∧ j - i ≤ gg ∧ s10 = .int .i64 i ∧ s11 = .int .i64 j ∧ Aside0 (∀ y, m < i → B[i - m - 1]? = some y → ltOf cf y x = true) ∧ Aside0 (∀ y, B[j - m]? = some y → ltOf cf y x = false) ∧ Aside0 (Own w0 wr g cap n (P ++ x :: (B ++ Q))))
  case atStart => exact ⟨m, b, Nat.le_refl _, by have := HMa.out; omega, Nat.le_refl _, Nat.le_refl _, rfl, rfl, ⟨fun y h => absurd h (Nat.lt_irrefl _)⟩, ⟨fun y hy => by have := (List.getElem?_eq_some_iff.1 hy).1; have := HBb.out; have := HMa.out; omega⟩, HS⟩
  case round =>
    obtain ⟨i, j, hmi, hij, hjb, hg, rfl, rfl, H1, H2, HO⟩ := hrel
    by_cases hlt : i < j
    · obtain ⟨h, hh⟩ : ∃ h, (i + j) / 2 = h := ⟨_, rfl⟩
      have q1 : ((i : Int) + (j : Int)) / 2 = (h : Int) := by omega
      have q2 : i ≤ h := by omega
      have q3 : h < j := by omega
      clear hh
      have hBl : B.length = b - m := by have := HBb.out; have := HMa.out; omega
      obtain ⟨y, hy⟩ : ∃ y, B[h - m]? = some y := ⟨_, List.getElem?_eq_getElem (by omega)⟩
      have hO1 := HO.out
      obtain ⟨c1, f1⟩ := hO1.cell a (at_mid HPa.out)
      obtain ⟨c2, f2⟩ := hO1.cell h (x := y) (by
        have e : h = P.length + (h - m + 1) := by have := HPa.out; have := HMa.out; omega
        rw [e, List.getElem?_append_right (by omega), Nat.add_sub_cancel_left, List.getElem?_cons_succ, List.getElem?_append_left (by omega)]
        exact hy)
      have hSy : S y := HSB.out y (List.mem_of_getElem? hy)
      have hcall : ∀ k, Calls Try.prog f (#[.int .i64 y, .int .i64 x] ++ lb) (wr.drewN k) fun e w' => e = .returned (.int .i64 (cf y x)) ∧ ∃ q, w' = (wr.drewN k).drewN q := fun k => HCMP.out _ (hO1.drewN k).2 y x hSy HSx.out
      have HY := Aside0.mk hy
      have q4 : (h : Int) < (n : Int) := by omega
      have q5 : (a : Int) < (n : Int) := by omega
      have q6 : m = a + 1 := HMa.out.symm
      have q7 := Aside0.mk q6
      clear hO1 hSy hy q6 hBl
      go_wp2
      go_quiet ((go_at_fn f; exact Calls.quiet_of (hcall _)))
      by_cases hlt2 : cf y x < 0
      · have H1' : Aside0 (∀ z, m < h + 1 → B[h + 1 - m - 1]? = some z → ltOf cf z x = true) := ⟨fun z _ hz => by
          rw [show h + 1 - m - 1 = h - m by omega, HY.out] at hz
          injection hz with hz
          rw [← hz]; exact decide_eq_true hlt2⟩
        go_wp2_with fail
        go_roundg (j - (h + 1))
        case measure => omega
        case rel => exact ⟨h + 1, j, by omega, by omega, hjb, by omega, by go_num, rfl, H1', H2, ⟨HO.out.drewN _⟩⟩
      · have H2' : Aside0 (∀ z, B[h - m]? = some z → ltOf cf z x = false) := ⟨fun z hz => by
          rw [HY.out] at hz
          injection hz with hz
          rw [← hz]; exact decide_eq_false hlt2⟩
        go_wp2_with fail
        go_roundg (h - i)
        case measure => omega
        case rel => exact ⟨i, h, by omega, by omega, by omega, by omega, rfl, rfl, H1, H2', ⟨HO.out.drewN _⟩⟩
    · obtain rfl : i = j := by omega
      have hd : decide ((i : Int) < (i : Int)) = false := by simp
      have hBl : B.length = b - m := by have := HBb.out; have := HMa.out; omega
      have HE := Aside0.mk (HM.out (i - m) (by omega) (fun y h0 hy => H1.out y (by omega) hy) H2.out)
      obtain ⟨B1, B2, hB1, hB2, hB3⟩ : ∃ B1 B2, B = B1 ++ B2 ∧ B1.length = i - m ∧ Sort.isort (ltOf cf) (x :: B) = B1 ++ x :: B2 := ⟨B.take (i - m), B.drop (i - m), (List.take_append_drop _ _).symm, by simp; omega, HE.out⟩
      have HB3 := Aside0.mk hB3
      have HB2 := Aside0.mk hB2
      have HO1 : Aside0 (Own w0 wr g cap n (P ++ x :: (B1 ++ (B2 ++ Q)))) := ⟨by have := HO.out; rw [hB1] at this; simpa using this⟩
      have him : i ≤ n := by omega
      have hma : a < m := by have := HMa.out; omega
      clear hB1 hB2 hB3 HE HM H1 H2 HO HS hBl
      obtain ⟨wo, rfl⟩ : ∃ wo : World, wo = wr := ⟨_, rfl⟩
      go_wp2
      go_loopg [13] (i - m) (fun gg s13 wr => ∃ (k : Nat) (U V : List Int), a ≤ k ∧ k + 1 ≤ i ∧ i - 1 - k ≤ gg ∧ s13 = .int .i64 k ∧ Aside0 (B1 = U ++ V ∧ a + U.length = k) ∧ Aside0 (Own w0 wr g cap n (P ++ (U ++ x :: (V ++ (B2 ++ Q))))))
      case atStart => exact ⟨a, [], B1, Nat.le_refl _, by omega, by have := HMa.out; omega, rfl, ⟨rfl, rfl⟩, HO1⟩
      case round =>
        obtain ⟨k, U, V, hak, hki, hgk, rfl, HL, HO⟩ := hrel
        by_cases hlt3 : k + 1 < i
        · obtain ⟨y, V', hV⟩ : ∃ y V', V = y :: V' := by
            rcases V with _ | ⟨y, V'⟩
            · exfalso
              have h1 := congrArg List.length HL.out.1
              have h2 := HB2.out
              have h3 := HL.out.2
              have h4 := HMa.out
              simp only [List.length_append, List.length_nil] at h1
              omega
            · exact ⟨y, V', rfl⟩
          subst hV
          have hU : (P ++ U).length = k := by have := HPa.out; have := HL.out.2; simp; omega
          have hO1 := HO.out
          rw [← List.append_assoc] at hO1
          have hO2 : Own w0 wr g cap n ((P ++ U) ++ x :: y :: (V' ++ (B2 ++ Q))) := hO1
          obtain ⟨c1, f1⟩ := hO2.cell k (at_mid hU)
          obtain ⟨c2, f2⟩ := hO2.cell (k + 1) (x := y) (by rw [List.append_cons]; exact at_mid (by simp at *; omega))
          have hO4 := Aside0.mk ((hO2.set k y).set (k + 1) x)
          rw [bubble_mid hU] at hO4
          have HL' : Aside0 (B1 = (U ++ [y]) ++ V' ∧ a + (U ++ [y]).length = k + 1) := ⟨by have := HL.out; simp [this]; omega⟩
          have q1 : (k : Int) < (i : Int) - 1 := by omega
          have q2 : (k : Int) + 1 < (n : Int) := by omega
          clear hU hO1 hO2 HO HL
          go_wp2
          go_region
          go_wp2
          go_roundg (i - 1 - (k + 1))
          case measure => omega
          case rel => exact ⟨k + 1, U ++ [y], V', by omega, by omega, by omega, by go_num, HL', ⟨by have := hO4.out.drew; simpa using this⟩⟩
        · have hd3 : decide ((k : Int) < (i : Int) - 1) = false := by simp; omega
          have HF : Aside0 (Own w0 wr g cap n (P ++ Sort.isort (ltOf cf) (x :: B) ++ Q)) := by
            refine ⟨?_⟩
            obtain ⟨h1, h2⟩ := HL.out
            have e : V = [] := List.length_eq_zero_iff.1 (by
              have h3 := congrArg List.length h1
              have h4 := HB2.out
              have h5 := HMa.out
              rw [List.length_append] at h3
              omega)
            subst e
            have := HO.out
            rw [HB3.out, h1]
            simpa using this
          go_wp2
          first | go_end0 | ((try simp only [Exit.inBlock, Exit.then]); refine bodyPost_ret (results_none rfl _ _ _) rfl ?_)
          exact ⟨rfl, HF.out⟩
end Go.Proofs.Ytbfapgagmbiiaaa
