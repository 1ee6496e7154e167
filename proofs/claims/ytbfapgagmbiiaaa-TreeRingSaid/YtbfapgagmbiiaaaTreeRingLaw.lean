/- gleaninglaw29.TreeRing answers true. -/
import Derived.Test.YtbfapgagmbiiaaaTreeRingPl
namespace Go.Proofs.Ytbfapgagmbiiaaa
open Gl Go.RowKit Go.Proofs.YtbfapgagmbiiaaaW.PrintWords
set_option linter.unusedVariables false
set_option linter.unusedSimpArgs false

abbrev RS (W : World) (base : Nat) (v : Value) (k : List SSpan) : Prop := Kd.R kSpan 33 W base (fun _ => True) v k
theorem app_span {ops : Array Oper} {rest : List Oper} {o : Oper} {a : Act} {Q : Exit → Act → World → Prop} {W : World} (hgd : o.guard = none) (s x : Operand)
    (ho : o.op = .call { callee := .builtin .append, args := #[s, x], argTypes := #[25, 25] }) (v : Value) (xs : List SSpan) (i p : Int) (hs : a.eval s = v) (hx : a.eval x = .slice (some ⟨W.heap.size, 0, none⟩) 1 1)
    (base : Nat) (HO : RS W base v xs) (hbase : base ≤ W.heap.size) (hl : (xs.length + 1) * 112 ≤ 140737488355328)
    (h : ∀ v1 w1, RS w1 base v1 (xs ++ [zzSpan i p]) → W.grownBy w1 v.ownBlock → (v1.ownBlock = v.ownBlock ∨ ∃ b, v1.ownBlock = some b ∧ W.heap.size ≤ b) → wpList Try.prog ops Q rest (a.put o.dst v1) w1) :
    wpList Try.prog ops Q (o :: rest) a (W.alloc (.cells #[.int .u64 0, .int .u64 0, .int .u64 i, .int .u64 p, .string ⟨#[]⟩, .string ⟨#[]⟩, .int .i64 0, .int .i64 0, .bool false, .slice none 0 0] 33)) :=
  Kd.R_append kSpan (w0 := W) base hgd s x 25 33 _ 112 ho Try.underlying25 info33 rfl (by decide) (by decide) v xs (zzSpan i p) _ (fun _ => True) (fun _ => False) hs hx (kSpan_mkM W base _ (zzSpan i p) (v9 := .slice none 0 0) (Kd.R_nil _ _ _ _ _)) (fun _ hk => hk.elim) (fun _ _ => trivial) HO (Below.refl _ _) hbase hl
    fun v1 w1 h1 _ hg hat => h v1 w1 h1 hg hat

set_option maxHeartbeats 8000000 in
set_option maxRecDepth 100000 in
theorem TreeRing.calls (n m : Int) (w : World) (hn0 : -9223372036854775808 ≤ n ∧ n ≤ 9223372036854775807) (hm0 : -9223372036854775808 ≤ m ∧ m ≤ 9223372036854775807) :
    Calls Try.prog 4 #[.int .i64 n, .int .i64 m] w fun e w' => e = .returned (.bool true) ∧ Below w.heap.size w w' := by
  have hal := alive.calls w
  by_cases hn1 : n < 1
  · go_enter Try.func4, Try.ntmps4
    go_wp2_with (go_at_call 11; refine hal.mono ?_; rintro e w1 ⟨rfl, hb1⟩)
    go_ret
    exact ⟨rfl, hb1⟩
  by_cases hn2 : 20 < n
  · go_enter Try.func4, Try.ntmps4
    go_wp2_with (go_at_call 11; refine hal.mono ?_; rintro e w1 ⟨rfl, hb1⟩)
    go_ret
    exact ⟨rfl, hb1⟩
  by_cases hm1 : m < 0
  · go_enter Try.func4, Try.ntmps4
    go_wp2_with (go_at_call 11; refine hal.mono ?_; rintro e w1 ⟨rfl, hb1⟩)
    go_ret
    exact ⟨rfl, hb1⟩
  by_cases hm2 : 10 < m
  · go_enter Try.func4, Try.ntmps4
    go_wp2_with (go_at_call 11; refine hal.mono ?_; rintro e w1 ⟨rfl, hb1⟩)
    go_ret
    exact ⟨rfl, hb1⟩
  obtain ⟨N, rfl⟩ := Int.eq_ofNat_of_zero_le (show 0 ≤ n by omega)
  obtain ⟨M, rfl⟩ := Int.eq_ofNat_of_zero_le (show 0 ≤ m by omega)
  have hN1 : 1 ≤ N := by omega
  have hN2 : N ≤ 20 := by omega
  have hM2 : M ≤ 10 := by omega
  go_enter Try.func4, Try.ntmps4
  go_wp2_with (go_at_call 11; refine hal.mono ?_; rintro e w1 ⟨rfl, hb1⟩)
  have B1 := Aside0.mk hb1
  clear hb1 hal
  go_loopg [6, 7] N (fun gg s6 s7 wr => ∃ (k : Nat) (v : Value), k ≤ N ∧ N - k ≤ gg ∧ s7 = .int .i64 k ∧ v = s6 ∧ Aside0 (RS wr w.heap.size v ((List.range k).map (ringSpan N))) ∧ Aside0 (Below w.heap.size w wr))
  case atStart => exact ⟨0, _, Nat.zero_le _, Nat.le_refl _, rfl, rfl, ⟨Kd.R_nil _ _ _ _ _⟩, B1⟩
  case round =>
    clear B1
    obtain ⟨k, s6, hk, hg, rfl, rfl, HO, B1⟩ := hrel
    by_cases hlt : k < N
    · have hrem : Int.tmod ((k : Int) + 1) (N : Int) = (((k + 1) % N : Nat) : Int) := by
        rw [show (k : Int) + 1 = ((k + 1 : Nat) : Int) by omega]
        exact Int.ofNat_tmod _ _ |>.symm
      have hmod : (k + 1) % N < N := Nat.mod_lt _ (by omega)
      have hlen : Aside0 ((((List.range k).map (ringSpan N)).length + 1) * 112 ≤ 140737488355328) := ⟨by simp; omega⟩
      have hz := B1.out.size
      have HO1 := HO.out
      generalize hq : (k + 1) % N = q at hrem hmod
      have hnext : Aside0 ((List.range k).map (ringSpan N) ++ [zzSpan (k : Int) (q : Int)] = (List.range (k + 1)).map (ringSpan N)) := ⟨by rw [List.range_succ, List.map_append, List.map_singleton, ← hq]; rfl⟩
      clear hq
      go_wp2_with (at_builtin; refine app_span rfl (.tmp 41) (.tmp 50) rfl _ _ (k : Int) (q : Int) rfl rfl w.heap.size HO1 hz hlen.out ?_; intro v2 w2 h2 hg2 hat2)
      rw [hnext.out] at h2
      go_roundg (N - (k + 1))
      case measure => omega
      case rel => exact ⟨k + 1, _, by omega, by omega, by go_num, rfl, ⟨h2⟩, ⟨below_app B1.out HO.out hg2⟩⟩
    · obtain rfl : k = N := by omega
      have hd : decide ((k : Int) < (k : Int)) = false := by simp
      clear hn1 hn2 hm1 hm2 hn0 hm0
      go_wp2
      obtain ⟨wo, rfl⟩ : ∃ wo : World, wo = wr := ⟨_, rfl⟩
      have HO0 : Aside0 (RS wo w.heap.size s6 ((List.range k).map (ringSpan k) ++ (List.range 0).map (hangSpan k))) := ⟨by simpa using HO.out⟩
      clear HO
      go_loopg [6, 8] M (fun gg s6 s8 wr => ∃ (j : Nat) (v : Value), j ≤ M ∧ M - j ≤ gg ∧ s8 = .int .i64 j ∧ v = s6 ∧ Aside0 (RS wr w.heap.size v ((List.range k).map (ringSpan k) ++ (List.range j).map (hangSpan k))) ∧ Aside0 (Below w.heap.size w wr))
      case atStart => exact ⟨0, _, Nat.zero_le _, Nat.le_refl _, rfl, rfl, HO0, B1⟩
      case round =>
        clear B1 HO0
        obtain ⟨j, s6, hj, hg, rfl, rfl, HO, B1⟩ := hrel
        by_cases hlt : j < M
        · have hlen : Aside0 ((((List.range k).map (ringSpan k) ++ (List.range j).map (hangSpan k)).length + 1) * 112 ≤ 140737488355328) := ⟨by simp; omega⟩
          have hz := B1.out.size
          have HO1 := HO.out
          have hnext : Aside0 (((List.range k).map (ringSpan k) ++ (List.range j).map (hangSpan k)) ++ [zzSpan ((100 : Int) + (j : Int)) ((k : Int) - 1)] = (List.range k).map (ringSpan k) ++ (List.range (j + 1)).map (hangSpan k)) := ⟨by
            have q1 : (k : Int) - 1 = ((k - 1 : Nat) : Int) := by omega
            have q2 : (100 : Int) + (j : Int) = ((100 + j : Nat) : Int) := by omega
            rw [List.range_succ (n := j), List.map_append, List.map_singleton, List.append_assoc, q1, q2]; rfl⟩
          have b1 : (j : Int) ≤ 10 := by omega
          have b2 : (1 : Int) ≤ (k : Int) := by omega
          have b3 : (k : Int) ≤ 20 := by omega
          go_wp2_with (at_builtin; refine app_span rfl (.tmp 57) (.tmp 65) rfl _ _ ((100 : Int) + (j : Int)) ((k : Int) - 1) rfl rfl w.heap.size HO1 hz hlen.out ?_; intro v2 w2 h2 hg2 hat2)
          rw [hnext.out] at h2
          go_roundg (M - (j + 1))
          case measure => omega
          case rel => exact ⟨j + 1, _, by omega, by omega, by go_num, rfl, ⟨h2⟩, ⟨below_app B1.out HO.out hg2⟩⟩
        · obtain rfl : j = M := by omega
          have hd : decide ((j : Int) < (j : Int)) = false := by simp
          obtain ⟨A, c, rfl, hcl, hr⟩ := R_readsN (n := k + j) HO.out (by simp)
          obtain ⟨LG, LP, LD⟩ := ring_law hN1 hN2 hM2
          have HR0 := Aside0.mk hr
          have hpc := Parents.calls A (k + j) c (ringList k j) wr hr (by omega)
          rw [LP] at hpc
          have hdc : Aside0 (∀ W, Below wr.heap.size wr W → Calls Try.prog 13 #[.slice A (k + j) c] W fun e w' => ∃ v, e = .returned v ∧ RI w' W.heap.size v (wantD k j) ∧ Below W.heap.size W w') := ⟨fun W hW => by
            have h := Depths.calls A (k + j) c (ringList k j) W (Kd.C_below hr hW) (by omega) LG
            rwa [LD] at h⟩
          clear LG LP LD hr HO
          have hz := B1.out.size
          go_upto_region 15 with (first | (go_at_call 12; refine hpc.mono ?_; rintro e w2 ⟨v2, rfl, h2, hb2⟩) | (go_at_call 13; refine (hdc.out _ hb2).mono ?_; rintro e w3 ⟨v3, rfl, h3, hb3⟩))
          have B3 := Aside0.mk (below_then (below_then B1.out hz hb2) (by have := hb2.size; omega) hb3)
          have H2 := Aside0.mk (Kd.R_below h2 hb3)
          obtain ⟨g2, c2, rfl, -⟩ := R_formN (n := k + j) h2 (wantP_length k j) (by omega)
          obtain ⟨g3, c3, rfl, -⟩ := R_formN (n := k + j) h3 (wantD_length k j) (by omega)
          have CP : Aside0 (∀ i x, (wantP k j)[i]? = some x → w3.cell? ⟨g2, i, none⟩ = some (.int .i64 x)) := ⟨fun i x hx => by
            obtain ⟨y, e, h, -⟩ := cell_i64 H2.out i (by have := (List.getElem?_eq_some_iff.1 hx).1; rw [wantP_length] at this; exact this)
            rw [hx] at e
            cases e
            exact h⟩
          have CD : Aside0 (∀ i x, (wantD k j)[i]? = some x → w3.cell? ⟨g3, i, none⟩ = some (.int .i64 x)) := ⟨fun i x hx => by
            obtain ⟨y, e, h, -⟩ := cell_i64 h3 i (by have := (List.getElem?_eq_some_iff.1 hx).1; rw [wantD_length] at this; exact this)
            rw [hx] at e
            cases e
            exact h⟩
          clear hpc hdc h2 h3 hb2 hb3 H2 HR0 B1
          go_wp2
          go_loopg [11] k (fun gg s11 wq => ∃ i : Nat, i ≤ k ∧ k - i ≤ gg ∧ s11 = .int .i64 i ∧ w3 = wq)
          case atStart => exact ⟨0, Nat.zero_le _, Nat.le_refl _, rfl, rfl⟩
          case round =>
            obtain ⟨i, hi, hgi, rfl, rfl⟩ := hrel
            by_cases hik : i < k
            · have cp := CP.out i _ (wantP_ring hik)
              have cd := CD.out i _ (wantD_ring hik)
              have i1 : (i : Int) < (k : Int) + (j : Int) := by omega
              have i2 : (i : Int) < ((k + j : Nat) : Int) := by omega
              have i3 : (i : Int) < (k : Int) := by omega
              have i4 : (k : Int) ≤ 20 := by omega
              by_cases i0 : i = 0
              · subst i0
                rw [if_pos rfl] at cp cd
                by_cases hk1 : k = 1
                · have i8 : ((0 : Int) == (k : Int) - 1) = true := by simp; omega
                  clear hk1
                  go_wp2
                  go_roundg (k - (0 + 1))
                  case measure => omega
                  case rel => exact ⟨0 + 1, by omega, by omega, by go_num, rfl⟩
                · have i8 : ((0 : Int) == (k : Int) - 1) = false := by simp; omega
                  clear hk1
                  go_wp2
                  go_roundg (k - (0 + 1))
                  case measure => omega
                  case rel => exact ⟨0 + 1, by omega, by omega, by go_num, rfl⟩
              · rw [if_neg i0] at cp cd
                have i5 : (i == 0) = false := by simpa using i0
                have i6 : ((i : Int) == 0) = false := by simpa using i0
                have i7 : (0 : Int) < (i : Int) := by omega
                have i9 : ((k - i : Nat) : Int) = (k : Int) - (i : Int) := by omega
                rw [i9] at cd
                by_cases ie : i = k - 1
                · rw [if_pos ie] at cp
                  have i8 : (k : Int) - 1 = (i : Int) := by omega
                  clear i9 i5 ie i0
                  go_wp2
                  go_roundg (k - (i + 1))
                  case measure => omega
                  case rel => exact ⟨i + 1, by omega, by omega, by go_num, rfl⟩
                · rw [if_neg ie] at cp
                  have i8 : ((i : Int) == (k : Int) - 1) = false := by simp; omega
                  have i10 : ((i + 1 : Nat) : Int) = (i : Int) + 1 := by omega
                  rw [i10] at cp
                  clear i9 i10 i5 ie i0
                  go_wp2
                  go_roundg (k - (i + 1))
                  case measure => omega
                  case rel => exact ⟨i + 1, by omega, by omega, by go_num, rfl⟩
            · obtain rfl : i = k := by omega
              have hd : decide ((i : Int) < (i : Int)) = false := by simp
              clear hik hgi hi
              go_wp2
              go_loopg [14] j (fun gg s14 wq => ∃ t : Nat, t ≤ j ∧ j - t ≤ gg ∧ s14 = .int .i64 ((i : Int) + (t : Int)) ∧ w3 = wq)
              case atStart => exact ⟨0, Nat.zero_le _, Nat.le_refl _, by go_num, rfl⟩
              case round =>
                obtain ⟨t, ht, hgt, rfl, rfl⟩ := hrel
                have q1 : (i : Int) + (t : Int) = ((i + t : Nat) : Int) := by omega
                rw [q1]
                by_cases htj : t < j
                · have cp := CP.out (i + t) _ (wantP_hang (by omega) (by omega))
                  have cd := CD.out (i + t) _ (wantD_hang (by omega) (by omega))
                  have q2 : ((i - 1 : Nat) : Int) = (i : Int) - 1 := by omega
                  rw [q2] at cp
                  have hs1 : Aside0 (((i + t : Nat) : Int) + 1 = (i : Int) + ((t + 1 : Nat) : Int)) := ⟨by omega⟩
                  have z1 : ((i + t : Nat) : Int) < (i : Int) + (j : Int) := by omega
                  have z2 : ((i + t : Nat) : Int) < ((i + j : Nat) : Int) := by omega
                  generalize i + t = z at cp cd hs1 z1 z2 ⊢
                  have z3 : (i : Int) ≤ 20 := by omega
                  have z4 : (j : Int) ≤ 10 := by omega
                  by_cases hk1 : i = 1
                  · rw [if_pos hk1] at cd
                    have i8 : ((i : Int) == 1) = true := by simp; omega
                    clear hk1 q1 q2
                    go_wp2
                    go_roundg (j - (t + 1))
                    case measure => omega
                    case rel => exact ⟨t + 1, by omega, by omega, by rw [← hs1.out], rfl⟩
                  · rw [if_neg hk1] at cd
                    have i8 : ((i : Int) == 1) = false := by simp; omega
                    clear hk1 q1 q2
                    go_wp2
                    go_roundg (j - (t + 1))
                    case measure => omega
                    case rel => exact ⟨t + 1, by omega, by omega, by rw [← hs1.out], rfl⟩
                · obtain rfl : t = j := by omega
                  have hd : decide (((i + t : Nat) : Int) < ((i + t : Nat) : Int)) = false := by simp
                  clear q1
                  go_wp2
                  go_ret
                  exact ⟨rfl, B3.out⟩
end Go.Proofs.Ytbfapgagmbiiaaa
