/- slices.insertionSortCmpFunc at int. -/
import Derived.Test.YtbfapgagmbiiaaaBase
import Derived.Test.YtbfapgagmbiiaaaSortPl
import Derived.BigRegion
import Derived.Shelf.Abstract
namespace Go.Proofs.Ytbfapgagmbiiaaa
open Gl Go.RowKit Go.Proofs.YtbfapgagmbiiaaaW.PrintWords
set_option linter.unusedVariables false
set_option linter.unusedSimpArgs false

def ltOf (cf : Int → Int → Int) (x y : Int) : Bool := decide (cf x y < 0)
theorem at_mid {U V : List Int} {x : Int} {j : Nat} (h : U.length = j) : (U ++ x :: V)[j]? = some x := by
  subst h; simp
theorem swap_mid {U V : List Int} {x y : Int} {j : Nat} (h : U.length = j) : ((U ++ y :: x :: V).set (j + 1) y).set j x = U ++ x :: y :: V := by
  subst h
  simp [List.set_append]

set_option maxHeartbeats 4000000 in
theorem insertionSort.calls (f : FuncId) (lb : Array Value) (S : Int → Prop) (cf : Int → Int → Int) (w0 w : World) (g cap n : Nat) (hcmp : CmpOk f lb S cf w0 g) (eg : ∀ args w, (callFunc f args).run Try.prog w = .ok (.enter f args) w)
    (P M Q : List Int) (a b : Nat) (ha : P.length = a) (hb : a + M.length = b) (hM : ∀ x ∈ M, S x) (hO : Own w0 w g cap n (P ++ M ++ Q)) (hn : n ≤ 4611686018427387904) :
    Calls Try.prog 58 #[.slice (some ⟨g, 0, none⟩) n cap, .int .i64 a, .int .i64 b, .func (.func f) #[] lb] w fun e w' => e = .returned (.tuple #[]) ∧ Own w0 w' g cap n (P ++ Sort.isort (ltOf cf) M ++ Q) := by
  have HCMP := Aside0.mk hcmp
  have HM := Aside0.mk hM
  have HA := Aside0.mk ha
  have HB := Aside0.mk hb
  have hbn : b ≤ n := by have := hO.len; simp at this; omega
  have han : a ≤ n := by omega
  clear hcmp hM
  have HS : Aside0 (Own w0 w g cap n (P ++ Sort.isort (ltOf cf) (M.take 1) ++ M.drop 1 ++ Q)) := by
    refine ⟨?_⟩
    have : Sort.isort (ltOf cf) (M.take 1) = M.take 1 := by rcases M with _ | ⟨x, M⟩ <;> rfl
    rw [this, List.append_assoc P, List.take_append_drop]
    exact hO
  clear hO ha hb
  go_enter Try.func58, Try.ntmps58
  go_wp2
  go_loopg [8] (b - a) (fun gg s8 wr => ∃ i : Nat, a < i ∧ (i ≤ b ∨ i = a + 1) ∧ b - i ≤ gg ∧ s8 = .int .i64 i ∧ Aside0 (Own w0 wr g cap n (P ++ Sort.isort (ltOf cf) (M.take (i - a)) ++ M.drop (i - a) ++ Q)))
  case atStart => exact ⟨a + 1, by omega, .inr rfl, by omega, by go_num, by rw [Nat.add_sub_cancel_left]; exact HS⟩
  case round =>
    clear HS
    obtain ⟨i, hai, hib, hg, rfl, HO⟩ := hrel
    by_cases hlt : i < b
    · obtain ⟨x, hx⟩ : ∃ x, M[i - a]? = some x := ⟨_, List.getElem?_eq_getElem (by have := HB.out; omega)⟩
      have hrest : M.drop (i - a) = x :: M.drop (i - a + 1) := by
        rw [List.drop_eq_getElem_cons (by have := HB.out; omega)]
        congr 1
        rw [List.getElem?_eq_getElem (by have := HB.out; omega)] at hx
        injection hx
      have HX := Aside0.mk hx
      have hSx := Aside0.mk (HM.out x (List.mem_of_getElem? hx))
      have HO' : Aside0 (Own w0 wr g cap n (P ++ Sort.isort (ltOf cf) (M.take (i - a)) ++ x :: (M.drop (i - a + 1) ++ Q))) := ⟨by have h := HO.out; rw [hrest] at h; simpa using h⟩
      have HSL : Aside0 (∀ y ∈ Sort.isort (ltOf cf) (M.take (i - a)), S y) := ⟨fun y hy => HM.out y (List.mem_of_mem_take ((Sort.isort_perm _ _).mem_iff.1 hy))⟩
      have HLL : Aside0 ((Sort.isort (ltOf cf) (M.take (i - a))).length = i - a) := ⟨by rw [Sort.isort_length, List.length_take]; have := HB.out; omega⟩
      have HN : Aside0 (∀ L1 L2 : List Int, Sort.isort (ltOf cf) (M.take (i - a)) = L1 ++ L2 → (∀ y ∈ L2, ltOf cf x y = true) → (∀ y, L1.getLast? = some y → ltOf cf x y = false) → P ++ L1 ++ x :: (L2 ++ (M.drop (i - a + 1) ++ Q)) = P ++ Sort.isort (ltOf cf) (M.take (i + 1 - a)) ++ M.drop (i + 1 - a) ++ Q) := by
        refine ⟨fun L1 L2 hL h2 h1 => ?_⟩
        have e1 : i + 1 - a = i - a + 1 := by omega
        have e2 : M.take (i - a + 1) = M.take (i - a) ++ [x] := by rw [List.take_add_one, hx]; rfl
        rw [e1, e2, Sort.isort_snoc, hL, Sort.ins_eq h2 h1]
        simp
      clear hx hrest
      generalize Sort.isort (ltOf cf) (M.take (i - a)) = L at HO' HSL HLL HN
      generalize M.drop (i - a + 1) ++ Q = R at HO' HN
      clear HO
      obtain ⟨wo, rfl⟩ : ∃ wo : World, wo = wr := ⟨_, rfl⟩
      go_wp2
      go_loopg [9] (i - a) (fun gg s9 wr => ∃ (j : Nat) (L1 L2 : List Int), a ≤ j ∧ j ≤ i ∧ j - a ≤ gg ∧ s9 = .int .i64 j ∧ Aside0 (L = L1 ++ L2) ∧ Aside0 (a + L1.length = j) ∧ Aside0 (∀ y ∈ L2, ltOf cf x y = true) ∧ Aside0 (Own w0 wr g cap n (P ++ L1 ++ x :: (L2 ++ R))))
      case atStart => exact ⟨i, L, [], by omega, Nat.le_refl _, Nat.le_refl _, rfl, ⟨by simp⟩, ⟨by have := HLL.out; omega⟩, ⟨by simp⟩, HO'⟩
      case round =>
        obtain ⟨j, L1, L2, haj, hji, hgj, rfl, HL, HL1, H2, HO⟩ := hrel
        by_cases hja : a < j
        · obtain ⟨L1', y, hL1'⟩ : ∃ L1' y, L1 = L1' ++ [y] := ⟨_, _, (List.dropLast_concat_getLast (by intro h; subst h; have := HL1.out; simp at this; omega)).symm⟩
          subst hL1'
          have hU : (P ++ L1').length + 1 = j := by have := HL1.out; have := HA.out; simp at *; omega
          have hO1 : Own w0 wr g cap n (P ++ L1' ++ y :: x :: (L2 ++ R)) := by have := HO.out; simpa using this
          obtain ⟨jj, rfl⟩ : ∃ jj, j = jj + 1 := ⟨(P ++ L1').length, hU.symm⟩
          have hUj : (P ++ L1').length = jj := by omega
          have hjn : jj + 1 < n := by have := hO1.len; simp at *; omega
          obtain ⟨c1, f1⟩ := hO1.cell jj (at_mid hUj)
          obtain ⟨c2, f2⟩ := hO1.cell (jj + 1) (x := x) (by rw [List.append_cons]; exact at_mid (by simp at *; omega))
          have hSy : S y := HSL.out y (by rw [HL.out]; simp)
          have hcall : ∀ m, Calls Try.prog f (#[.int .i64 x, .int .i64 y] ++ lb) (wr.drewN m) fun e w' => e = .returned (.int .i64 (cf x y)) ∧ ∃ q, w' = (wr.drewN m).drewN q := fun m => HCMP.out _ (hO1.drewN m).2 x y hSx.out hSy
          have hd : decide ((a : Int) < (jj : Int) + 1) = true := by simp; omega
          have hO2 := Aside0.mk hO1
          have HUj := Aside0.mk hUj
          have H0 : (0 : Int) ≤ (jj : Int) := by omega
          have H1 : (jj : Int) + 1 < (n : Int) := by omega
          clear hO1 hU hSy HO hUj
          go_wp2_with fail
          go_quiet ((go_at_fn f; exact Calls.quiet_of (hcall _)))
          by_cases hlt2 : cf x y < 0
          · have H2' : Aside0 (∀ z ∈ y :: L2, ltOf cf x z = true) := ⟨fun z hz => by rcases List.mem_cons.1 hz with rfl | hz; exact decide_eq_true hlt2; exact H2.out z hz⟩
            have HL' : Aside0 (L = L1' ++ (y :: L2)) := ⟨by rw [HL.out]; simp⟩
            have HL1' : Aside0 (a + L1'.length = jj) := ⟨by have := HL1.out; simp at this; omega⟩
            go_wp2_with fail
            have hO3 := hO2.out.drewN nq
            clear hO2 c1 f1 c2 f2 hcall
            generalize wr.drewN nq = wq at hO3 ⊢
            obtain ⟨c1, f1⟩ := hO3.cell jj (at_mid HUj.out)
            obtain ⟨c2, f2⟩ := hO3.cell (jj + 1) (x := x) (by rw [List.append_cons]; exact at_mid (by have := HUj.out; simp at *; omega))
            have hO4 := Aside0.mk ((hO3.set (jj + 1) y).set jj x)
            rw [swap_mid HUj.out] at hO4
            clear hO3 HL HL1 H2
            go_region
            go_wp2
            go_roundg (jj - a)
            case measure => omega
            case rel => exact ⟨jj, L1', y :: L2, by omega, by omega, by omega, by go_num, HL', HL1', H2', ⟨hO4.out.drew⟩⟩
          · have H1' : Aside0 (ltOf cf x y = false) := ⟨decide_eq_false hlt2⟩
            go_wp2_with fail
            go_roundg (b - (i + 1))
            case measure => omega
            case rel =>
              refine ⟨i + 1, by omega, .inl (by omega), by omega, by go_num, ⟨?_⟩⟩
              rw [← HN.out (L1' ++ [y]) L2 HL.out H2.out (fun z hz => by simp at hz; rw [← hz]; exact H1'.out)]
              have := hO2.out.drewN nq
              simpa using this
        · have hd : decide ((a : Int) < (j : Int)) = false := by simp; omega
          have HF : Aside0 (Own w0 wr g cap n (P ++ Sort.isort (ltOf cf) (M.take (i + 1 - a)) ++ M.drop (i + 1 - a) ++ Q)) := by
            refine ⟨?_⟩
            rw [← HN.out L1 L2 HL.out H2.out (fun y hy => by have h0 : L1 = [] := List.length_eq_zero_iff.1 (by have := HL1.out; omega); rw [h0] at hy; cases hy)]
            exact HO.out
          clear HO
          go_wp2_with fail
          go_quiet (fail)
          go_wp2_with fail
          go_roundg (b - (i + 1))
          case measure => omega
          case rel => exact ⟨i + 1, by omega, .inl (by omega), by omega, by go_num, ⟨HF.out.drewN _⟩⟩
    · have hd : decide ((i : Int) < (b : Int)) = false := by simp; omega
      have HF : Aside0 (Own w0 wr g cap n (P ++ Sort.isort (ltOf cf) M ++ Q)) := by
        refine ⟨?_⟩
        have h := HO.out
        have hl : M.length ≤ i - a := by have := HB.out; omega
        rw [List.take_of_length_le hl, List.drop_of_length_le hl, List.append_nil] at h
        exact h
      go_wp2
      go_end0
      exact ⟨rfl, HF.out⟩
end Go.Proofs.Ytbfapgagmbiiaaa
