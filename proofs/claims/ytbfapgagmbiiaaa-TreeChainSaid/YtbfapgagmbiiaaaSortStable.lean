/- slices.SortStableFunc at int. -/
import Derived.Test.YtbfapgagmbiiaaaSortSym
namespace Go.Proofs.Ytbfapgagmbiiaaa
open Gl Go.RowKit Go.Proofs.YtbfapgagmbiiaaaW.PrintWords
set_option linter.unusedVariables false
set_option linter.unusedSimpArgs false

theorem sym.calls (f : FuncId) (lb : Array Value) (S : Int → Prop) (cf : Int → Int → Int) (w0 : World) (g cap n : Nat) (hcmp : CmpOk f lb S cf w0 g) (eg : ∀ args w, (callFunc f args).run Try.prog w = .ok (.enter f args) w)
    (hswo : Sort.Swo (ltOf cf) S) (hn : n ≤ 2305843009213693952) : ∀ N, SymOk f lb S cf w0 g cap n N := by
  intro N
  induction N with
  | zero => intro w P A B Q a m b ha hm hb h1 h2 hN; omega
  | succ N ih =>
    intro w P A B Q a m b ha hm hb h1 h2 hN hA hB sA sB hO
    rcases Nat.lt_or_ge 1 A.length with h3 | h3
    · rcases Nat.lt_or_ge 1 B.length with h4 | h4
      · exact sym.step f lb S cf w0 g cap n hcmp eg hswo hn N ih w P A B Q a m b ha hm hb h3 h4 hN hA hB sA sB hO
      · obtain ⟨x, rfl⟩ : ∃ x, B = [x] := by
          match B, h2, h4 with
          | [x], _, _ => exact ⟨x, rfl⟩
        obtain rfl : m + 1 = b := by simpa using hb
        exact symB.calls f lb S cf w0 w g cap n hcmp eg hswo P A x Q a m ha hm h3 (hB x (by simp)) hA sA (by simpa using hO) hn
    · obtain ⟨x, rfl⟩ : ∃ x, A = [x] := by
        match A, h1, h3 with
        | [x], _, _ => exact ⟨x, rfl⟩
      obtain rfl : a + 1 = m := by simpa using hm
      exact symA.calls f lb S cf w0 w g cap n hcmp eg hswo P x B Q a b ha hb (hA x (by simp)) hB sB (by simpa using hO) hn

set_option maxHeartbeats 8000000 in
theorem stable.calls (f : FuncId) (lb : Array Value) (S : Int → Prop) (cf : Int → Int → Int) (w0 w : World) (g cap n : Nat) (hcmp : CmpOk f lb S cf w0 g) (eg : ∀ args w, (callFunc f args).run Try.prog w = .ok (.enter f args) w)
    (hswo : Sort.Swo (ltOf cf) S) (hn : n ≤ 1152921504606846976) (xs : List Int) (hS : ∀ y ∈ xs, S y) (hO : Own w0 w g cap n xs) :
    Calls Try.prog 55 #[.slice (some ⟨g, 0, none⟩) n cap, .int .i64 n, .func (.func f) #[] lb] w fun e w' => e = .returned (.tuple #[]) ∧ Own w0 w' g cap n (Sort.isort (ltOf cf) xs) := by
  have HSYM := Aside0.mk (sym.calls f lb S cf w0 g cap n hcmp eg hswo (by omega))
  have HCMP := Aside0.mk hcmp
  have HSW := Aside0.mk hswo
  have HSX := Aside0.mk hS
  have HLEN := Aside0.mk hO.len
  have HS := Aside0.mk hO
  clear hcmp hswo hS hO
  go_enter Try.func55, Try.ntmps55
  go_wp2
  go_loopg [7, 8] n (fun gg s7 s8 wr => ∃ (a b : Nat) (D : List Int), a ≤ n ∧ n - a ≤ gg ∧ s7 = .int .i64 a ∧ s8 = .int .i64 b ∧ Aside0 (b = a + 20) ∧ b ≤ n + 20 ∧ Aside0 (D.length = a ∧ Sort.cs (ltOf cf) 20 xs = D ++ Sort.cs (ltOf cf) 20 (xs.drop a)) ∧ Aside0 (Own w0 wr g cap n (D ++ xs.drop a)))
  case atStart => exact ⟨0, 20, [], Nat.zero_le _, Nat.le_refl _, rfl, rfl, ⟨rfl⟩, by omega, ⟨rfl, rfl⟩, HS⟩
  case round =>
    clear HS
    obtain ⟨a, b, D, han, hg, rfl, rfl, HB, hbn, HD, HO⟩ := hrel
    by_cases hle : b ≤ n
    · have hc := insertionSort.calls f lb S cf w0 wr g cap n HCMP.out eg D ((xs.drop a).take 20) ((xs.drop a).drop 20) a b HD.out.1 (by have := HLEN.out; have := HB.out; simp; omega) (fun y hy => HSX.out y (List.mem_of_mem_drop (List.mem_of_mem_take hy))) (by rw [List.append_assoc, List.take_append_drop]; exact HO.out) (by omega)
      have HD' : Aside0 ((D ++ Sort.isort (ltOf cf) ((xs.drop a).take 20)).length = b ∧ Sort.cs (ltOf cf) 20 xs = (D ++ Sort.isort (ltOf cf) ((xs.drop a).take 20)) ++ Sort.cs (ltOf cf) 20 (xs.drop b)) := by
        have h1 := HB.out
        have h2 := HLEN.out
        refine ⟨by rw [List.length_append, Sort.isort_length, HD.out.1]; simp; omega, ?_⟩
        rw [HD.out.2, Sort.cs_ge (l := xs.drop a) (by omega) (by simp; omega), List.drop_drop, h1, List.append_assoc]
      have HE : Aside0 ((xs.drop a).drop 20 = xs.drop b) := ⟨by rw [List.drop_drop, HB.out]⟩
      have hbg : n - b < n - a ∨ True := .inr trivial
      have hab : a < b := by have := HB.out; omega
      go_wp2_with (go_at_call 58; refine hc.mono ?_; rintro e w2 ⟨rfl, hO2⟩)
      go_roundg (n - b)
      case measure => omega
      case rel => exact ⟨b, b + 20, _, hle, by omega, rfl, by go_num, ⟨rfl⟩, by omega, HD', ⟨by rw [← HE.out]; exact hO2⟩⟩
    · have hc := insertionSort.calls f lb S cf w0 wr g cap n HCMP.out eg D (xs.drop a) [] a n HD.out.1 (by have := HLEN.out; simp; omega) (fun y hy => HSX.out y (List.mem_of_mem_drop hy)) (by rw [List.append_nil]; exact HO.out) (by omega)
      have HE : Aside0 (D ++ Sort.isort (ltOf cf) (xs.drop a) ++ [] = Sort.cs (ltOf cf) 20 xs) := ⟨by rw [HD.out.2, Sort.cs_le (l := xs.drop a) (by have := HLEN.out; have := HB.out; simp; omega), List.append_nil]⟩
      clear HO HD
      go_wp2_with (go_at_call 58; refine hc.mono ?_; rintro e w2 ⟨rfl, hO2⟩)
      rw [HE.out] at hO2
      have HO2 := Aside0.mk hO2
      clear hO2 HE hc
      go_loopg [6, 7, 8, 9] (2 * n) (fun gg s6 s7 s8 s9 wr => ∃ bs : Nat, 0 < bs ∧ bs ≤ 2 * n + 40 ∧ 2 * n - bs ≤ gg ∧ s6 = .int .i64 bs ∧ Aside0 (Own w0 wr g cap n (Sort.cs (ltOf cf) bs xs)))
      case atStart => exact ⟨20, by omega, by omega, by omega, rfl, HO2⟩
      case round =>
        clear HO2
        obtain ⟨bs, hb0, hb1, hg2, rfl, HO⟩ := hrel
        by_cases hbs : bs < n
        · obtain ⟨wo, rfl⟩ : ∃ wo : World, wo = wr := ⟨_, rfl⟩
          go_wp2
          go_loopg [7, 8] n (fun gg s7 s8 wr => ∃ (a b : Nat) (D : List Int), a ≤ n ∧ n - a ≤ gg ∧ s7 = .int .i64 a ∧ s8 = .int .i64 b ∧ Aside0 (b = a + 2 * bs) ∧ b ≤ n + 2 * bs ∧ Aside0 (D.length = a ∧ Sort.cs (ltOf cf) (2 * bs) xs = D ++ Sort.cs (ltOf cf) (2 * bs) (xs.drop a)) ∧ Aside0 (Own w0 wr g cap n (D ++ Sort.cs (ltOf cf) bs (xs.drop a))))
          case atStart => exact ⟨0, 2 * bs, [], Nat.zero_le _, Nat.le_refl _, rfl, by go_num, ⟨by omega⟩, by omega, ⟨rfl, rfl⟩, HO⟩
          case round =>
            clear HO
            obtain ⟨a, b, D, han, hg, rfl, rfl, HB, hbn, HD, HO⟩ := hrel
            have hab : a < b := by have := HB.out; omega
            by_cases hle : b ≤ n
            · have hx1 : ∀ y ∈ (xs.drop a).take bs, S y := fun y hy => HSX.out y (List.mem_of_mem_drop (List.mem_of_mem_take hy))
              have hx2 : ∀ y ∈ ((xs.drop a).drop bs).take bs, S y := fun y hy => HSX.out y (List.mem_of_mem_drop (List.mem_of_mem_drop (List.mem_of_mem_take hy)))
              have hsplit : Sort.cs (ltOf cf) bs (xs.drop a) = Sort.isort (ltOf cf) ((xs.drop a).take bs) ++ (Sort.isort (ltOf cf) (((xs.drop a).drop bs).take bs) ++ Sort.cs (ltOf cf) bs (xs.drop b)) := by
                have h1 := HB.out
                have h2 := HLEN.out
                rw [Sort.cs_ge (l := xs.drop a) hb0 (by simp; omega), Sort.cs_ge (l := (xs.drop a).drop bs) hb0 (by simp; omega), List.drop_drop, List.drop_drop, show a + bs + bs = b by omega]
              have hl1 : ((xs.drop a).take bs).length = bs := by have h1 := HB.out; have h2 := HLEN.out; simp; omega
              have hl2 : (((xs.drop a).drop bs).take bs).length = bs := by have h1 := HB.out; have h2 := HLEN.out; simp; omega
              have hc := HSYM.out n wr D (Sort.isort (ltOf cf) ((xs.drop a).take bs)) (Sort.isort (ltOf cf) (((xs.drop a).drop bs).take bs)) (Sort.cs (ltOf cf) bs (xs.drop b)) a (a + bs) b HD.out.1 (by rw [Sort.isort_length, hl1]) (by rw [Sort.isort_length, hl2]; have := HB.out; omega) (by rw [Sort.isort_length, hl1]; exact hb0) (by rw [Sort.isort_length, hl2]; exact hb0) (by omega)
                (fun y hy => hx1 y ((Sort.isort_perm _ _).mem_iff.1 hy)) (fun y hy => hx2 y ((Sort.isort_perm _ _).mem_iff.1 hy)) (Sort.isort_sd HSW.out hx1) (Sort.isort_sd HSW.out hx2) (by rw [← hsplit]; exact HO.out)
              rw [Sort.isort_halves HSW.out hx1 hx2] at hc
              have hjoin : (xs.drop a).take bs ++ ((xs.drop a).drop bs).take bs = (xs.drop a).take (2 * bs) := by rw [show 2 * bs = bs + bs by omega, List.take_add]
              rw [hjoin] at hc
              have HD' : Aside0 ((D ++ Sort.isort (ltOf cf) ((xs.drop a).take (2 * bs))).length = b ∧ Sort.cs (ltOf cf) (2 * bs) xs = (D ++ Sort.isort (ltOf cf) ((xs.drop a).take (2 * bs))) ++ Sort.cs (ltOf cf) (2 * bs) (xs.drop b)) := by
                have h1 := HB.out
                have h2 := HLEN.out
                refine ⟨by rw [List.length_append, Sort.isort_length, HD.out.1]; simp; omega, ?_⟩
                rw [HD.out.2, Sort.cs_ge (k := 2 * bs) (l := xs.drop a) (by omega) (by simp; omega), List.drop_drop, h1, List.append_assoc]
              clear hx1 hx2 hsplit hl1 hl2 hjoin HO HD
              go_wp2_with (go_at_call 59; refine hc.mono ?_; rintro e w2 ⟨rfl, hO2⟩)
              go_roundg (n - b)
              case measure => omega
              case rel => exact ⟨b, b + 2 * bs, _, hle, by omega, rfl, by go_num, ⟨rfl⟩, by omega, HD', ⟨hO2⟩⟩
            · have hl0 : (xs.drop a).length = n - a := by have h2 := HLEN.out; simp; omega
              have hE : Aside0 (D ++ Sort.isort (ltOf cf) (xs.drop a) = Sort.cs (ltOf cf) (2 * bs) xs) := ⟨by rw [HD.out.2, Sort.cs_le (l := xs.drop a) (by have := HB.out; omega)]⟩
              by_cases hm : a + bs < n
              · have hx1 : ∀ y ∈ (xs.drop a).take bs, S y := fun y hy => HSX.out y (List.mem_of_mem_drop (List.mem_of_mem_take hy))
                have hx2 : ∀ y ∈ (xs.drop a).drop bs, S y := fun y hy => HSX.out y (List.mem_of_mem_drop (List.mem_of_mem_drop hy))
                have hsplit : Sort.cs (ltOf cf) bs (xs.drop a) = Sort.isort (ltOf cf) ((xs.drop a).take bs) ++ Sort.isort (ltOf cf) ((xs.drop a).drop bs) := by
                  rw [Sort.cs_ge (l := xs.drop a) hb0 (by omega), Sort.cs_le (l := (xs.drop a).drop bs) (by rw [List.length_drop]; have := HB.out; omega)]
                have hl1 : ((xs.drop a).take bs).length = bs := by rw [List.length_take]; omega
                have hl2 : ((xs.drop a).drop bs).length = n - a - bs := by rw [List.length_drop]; omega
                have hc := HSYM.out n wr D (Sort.isort (ltOf cf) ((xs.drop a).take bs)) (Sort.isort (ltOf cf) ((xs.drop a).drop bs)) [] a (a + bs) n HD.out.1 (by rw [Sort.isort_length, hl1]) (by rw [Sort.isort_length, hl2]; omega) (by rw [Sort.isort_length, hl1]; exact hb0) (by rw [Sort.isort_length, hl2]; omega) (by omega)
                  (fun y hy => hx1 y ((Sort.isort_perm _ _).mem_iff.1 hy)) (fun y hy => hx2 y ((Sort.isort_perm _ _).mem_iff.1 hy)) (Sort.isort_sd HSW.out hx1) (Sort.isort_sd HSW.out hx2) (by rw [List.append_nil, ← hsplit]; exact HO.out)
                rw [Sort.isort_halves HSW.out hx1 hx2, List.take_append_drop, List.append_nil, hE.out] at hc
                clear hx1 hx2 hsplit hl1 hl2 HO HD hl0
                go_wp2_with (go_at_call 59; refine hc.mono ?_; rintro e w2 ⟨rfl, hO2⟩)
                go_roundg (2 * n - 2 * bs)
                case measure => omega
                case rel => exact ⟨2 * bs, by omega, by omega, Nat.le_refl _, by go_num, ⟨hO2⟩⟩
              · have hd : decide ((a : Int) + (bs : Int) < (n : Int)) = false := by simp; omega
                have HF : Aside0 (Own w0 wr g cap n (Sort.cs (ltOf cf) (2 * bs) xs)) := ⟨by rw [← hE.out, ← Sort.cs_le (k := bs) (l := xs.drop a) (by omega)]; exact HO.out⟩
                clear hl0 HO HD
                go_wp2
                go_roundg (2 * n - 2 * bs)
                case measure => omega
                case rel => exact ⟨2 * bs, by omega, by omega, Nat.le_refl _, by go_num, HF⟩
        · have hd : decide ((bs : Int) < (n : Int)) = false := by simp; omega
          have HF : Aside0 (Own w0 wr g cap n (Sort.isort (ltOf cf) xs)) := ⟨by rw [← Sort.cs_le (k := bs) (by have := HLEN.out; omega)]; exact HO.out⟩
          go_wp2
          go_end0
          exact ⟨rfl, HF.out⟩

set_option maxHeartbeats 1000000 in
theorem SortStable_int.calls (f : FuncId) (lb : Array Value) (S : Int → Prop) (cf : Int → Int → Int) (w0 w : World) (g cap n : Nat) (hcmp : CmpOk f lb S cf w0 g) (eg : ∀ args w, (callFunc f args).run Try.prog w = .ok (.enter f args) w)
    (hswo : Sort.Swo (ltOf cf) S) (hn : n ≤ 1152921504606846976) (xs : List Int) (hS : ∀ y ∈ xs, S y) (hO : Own w0 w g cap n xs) :
    Calls Try.prog 49 #[.slice (some ⟨g, 0, none⟩) n cap, .func (.func f) #[] lb] w fun e w' => e = .returned (.tuple #[]) ∧ Own w0 w' g cap n (Sort.isort (ltOf cf) xs) := by
  have hc := stable.calls f lb S cf w0 w g cap n hcmp eg hswo hn xs hS hO
  clear hcmp hswo hS hO
  go_enter Try.func49, Try.ntmps49
  go_wp2_with (go_at_call 55; refine hc.mono ?_; rintro e w2 ⟨rfl, hO2⟩)
  go_end0
  exact ⟨rfl, hO2⟩
end Go.Proofs.Ytbfapgagmbiiaaa
