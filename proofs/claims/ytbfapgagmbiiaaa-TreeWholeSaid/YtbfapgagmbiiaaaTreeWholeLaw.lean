/- gleaninglaw29.TreeWhole answers true. -/
import Derived.Test.YtbfapgagmbiiaaaTreeWholePl
import Derived.Test.YtbfapgagmbiiaaaTreeAlive
import Derived.Test.YtbfapgagmbiiaaaTreeFewAll
namespace Go.Proofs.Ytbfapgagmbiiaaa
open Gl Go.RowKit Go.Proofs.YtbfapgagmbiiaaaW.PrintWords
set_option linter.unusedVariables false
set_option linter.unusedSimpArgs false

abbrev RB (W : World) (base : Nat) (v : Value) (k : List Bool) : Prop := Kd.bool.R 4 W base (fun _ => True) v k
theorem cell_bool {W : World} {base g n cap : Nat} {xs : List Bool} (h : RB W base (.slice (some ⟨g, 0, none⟩) n cap) xs) (i : Nat) (hi : i < n) : ∃ x, xs[i]? = some x ∧ W.cell? ⟨g, i, none⟩ = some (.bool x) ∧ W.frozen? ⟨g, i, none⟩ = false := by
  obtain ⟨h1, h2⟩ := Kd.R_celln (false : Bool) h (i : Int) (by omega) (by omega)
  rw [Int.toNat_natCast] at h1 h2
  have hl := (Kd.R_reads' h).1
  refine ⟨_, List.getElem?_eq_getElem (by omega), ?_, h2⟩
  rw [h1, rdOf, Int.toNat_natCast, List.getD_eq_getElem?_getD, List.getElem?_eq_getElem (by omega)]
  rfl
theorem put_bool {W : World} {base g n cap : Nat} {xs : List Bool} (h : RB W base (.slice (some ⟨g, 0, none⟩) n cap) xs) (i : Nat) (x : Bool) : RB (W.setCell ⟨g, i, none⟩ (.bool x)) base (.slice (some ⟨g, 0, none⟩) n cap) (xs.set i x) := by
  have h1 := Kd.R_putn h (i : Int) x
  rwa [Int.toNat_natCast] at h1
theorem RB_made {W : World} {B n b : Nat} (hb : b = W.heap.size) (hB : B ≤ W.heap.size) (hn : n ≤ 500000) : RB (W.alloc (.cells (madeCells #[.bool false] n) 4)) B (.slice (some ⟨b, 0, none⟩) n n) (List.replicate n false) := by
  subst hb
  have h := World.ownsRow_lit (base := B) (e := 4) (size := 1) W (madeCells #[.bool false] n) n hB (by simp [maxLen]; omega) (by simp [size_madeCells])
  have hr := Kd.reps_made (R := fun (x : Bool) cs => Kd.bool.M (W.alloc (.cells (madeCells #[.bool false] n) 4)) B (fun _ => True ∧ True) x cs) (z := .bool false) (size := 1) (z0 := false) rfl (by omega) rfl n
  refine ⟨fun _ _ => trivial, (madeCells #[.bool false] n).toList, by rw [List.length_replicate]; exact h, ?_⟩
  have e : madeCells (Value.bool false).cells (n * 1) = madeCells #[.bool false] n := by rw [Nat.mul_one]; rfl
  rw [e] at hr
  exact hr
theorem RB_move {W W1 : World} {base : Nat} {v : Value} {k : List Bool} (h : RB W base v k) (hm : ∀ b, v.ownBlock = some b → b < W.heap.size → W1.heap[b]? = W.heap[b]?) : RB W1 base v k :=
  Kd.R_mono (Kd.R_step (Kd.R_tight rfl h) (fun b hb hl => hm b hb.symm hl)) (fun _ _ => trivial)
set_option maxHeartbeats 8000000 in
set_option maxRecDepth 100000 in
theorem TreeWhole.calls (A : Option Addr) (n c : Nat) (l : List SSpan) (w : World) (hr : Kd.C kSpan w A n l) :
    Calls Try.prog 6 #[.slice A n c] w fun e w' => e = .returned (.bool true) ∧ Below w.heap.size w w' := by
  obtain rfl : l.length = n := hr.1
  have HR := Aside0.mk hr
  have hal := Aside0.mk (alive.calls w)
  have hfew : Aside0 (∀ W, Below w.heap.size w W → Calls Try.prog 14 #[.slice A l.length c] W (TellsFew l.length W)) := ⟨fun W hW => FewAll.calls A l.length c l W (Kd.C_below hr hW)⟩
  clear hr
  by_cases h60 : 60 < l.length
  · go_enter Try.func6, Try.ntmps6
    go_wp2_with (first | (go_at_call 11; refine hal.out.mono ?_; rintro e w1 ⟨rfl, hb1⟩) | (go_at_call 14; refine (hfew.out _ hb1).mono ?_; rintro e w2 ⟨b, rfl, hb, hb2⟩; obtain rfl : b = false := (by cases b with | false => rfl | true => exact absurd (hb rfl) (by omega))))
    go_ret
    exact ⟨rfl, below_then hb1 hb1.size hb2⟩
  have hn : l.length ≤ 60 := by omega
  have hn1 : (l.length : Int) ≤ 60 := by omega
  have HPC : Aside0 (∀ W, Below w.heap.size w W → Calls Try.prog 12 #[.slice A l.length c] W fun e w' => ∃ v, e = .returned v ∧ RI w' W.heap.size v (Tree.parents l) ∧ Below W.heap.size W w') := ⟨fun W hW => Parents.calls A l.length c l W (Kd.C_below HR.out hW) (by omega)⟩
  have HOC : Aside0 (∀ W, Below w.heap.size w W → Calls Try.prog 17 #[.slice A l.length c] W fun e w' => ∃ v, e = .returned v ∧ RI w' W.heap.size v (Tree.order l) ∧ Below W.heap.size W w') := ⟨fun W hW => Order.calls A l.length c l W (Kd.C_below HR.out hW) (by omega) (good l)⟩
  have HDC : Aside0 (∀ W, Below w.heap.size w W → Calls Try.prog 13 #[.slice A l.length c] W fun e w' => ∃ v, e = .returned v ∧ RI w' W.heap.size v (Tree.depths l) ∧ Below W.heap.size W w') := ⟨fun W hW => Depths.calls A l.length c l W (Kd.C_below HR.out hW) (by omega) (good l)⟩
  have HSC : Aside0 (∀ W, Below w.heap.size w W → Calls Try.prog 20 #[.slice A l.length c] W fun e w' => ∃ v, e = .returned v ∧ RI w' W.heap.size v (Tree.sizes l) ∧ Below W.heap.size W w') := ⟨fun W hW => Sizes.calls A l.length c l W (Kd.C_below HR.out hW) (by omega) (good l)⟩
  go_enter Try.func6, Try.ntmps6
  go_upto_region 4 with (first | (go_at_call 11; refine hal.out.mono ?_; rintro e w1 ⟨rfl, hb1⟩) | (go_at_call 14; refine (hfew.out _ hb1).mono ?_; rintro e w2 ⟨b, rfl, hb, hb2⟩; have hbb := below_then hb1 hb1.size hb2; cases b))
  · go_ret
    exact ⟨rfl, hbb⟩
  have B2 := Aside0.mk hbb
  clear hal hfew hb hbb hb1 hb2
  go_upto_region 5 with (go_at_call 12; refine (HPC.out _ B2.out).mono ?_; rintro e w4 ⟨v4, rfl, h4, hb4⟩)
  have B4 := Aside0.mk (below_then B2.out B2.out.size hb4)
  go_upto_region 6 with (go_at_call 17; refine (HOC.out _ B4.out).mono ?_; rintro e w5 ⟨v5, rfl, h5, hb5⟩)
  have B5 := Aside0.mk (below_then B4.out B4.out.size hb5)
  go_upto_region 7 with (go_at_call 13; refine (HDC.out _ B5.out).mono ?_; rintro e w6 ⟨v6, rfl, h6, hb6⟩)
  have B6 := Aside0.mk (below_then B5.out B5.out.size hb6)
  go_upto_region 8 with (go_at_call 20; refine (HSC.out _ B6.out).mono ?_; rintro e w7 ⟨v7, rfl, h7, hb7⟩)
  have B7 := Aside0.mk (below_then B6.out B6.out.size hb7)
  have R4 := Kd.R_below (Kd.R_below (Kd.R_below h4 hb5) hb6) hb7
  have R5 := Kd.R_below (Kd.R_below h5 hb6) hb7
  have R6 := Kd.R_below h6 hb7
  obtain ⟨A4, c4, rfl, hc4, f4⟩ := R_readsN (n := l.length) h4 (Tree.parents_length l)
  obtain ⟨A5, c5, rfl, hc5, f5⟩ := R_readsN (n := l.length) h5 (order_length l)
  obtain ⟨A6, c6, rfl, hc6, f6⟩ := R_readsN (n := l.length) h6 (depths_length l)
  obtain ⟨A7, c7, rfl, hc7, f7⟩ := R_readsN (n := l.length) h7 (sizes_length l)
  have F4 := Aside0.mk (Kd.F_mono (Kd.F_bound (Kd.R_F R4)) (fun k h => h.2))
  have F5 := Aside0.mk (Kd.F_mono (Kd.F_bound (Kd.R_F R5)) (fun k h => h.2))
  have F6 := Aside0.mk (Kd.F_mono (Kd.F_bound (Kd.R_F R6)) (fun k h => h.2))
  have F7 := Aside0.mk (Kd.F_mono (Kd.F_bound (Kd.R_F h7)) (fun k h => h.2))
  clear HPC HOC HDC HSC h4 h5 h6 h7 hb4 hb5 hb6 hb7 B2 B4 B5 B6 f4 f5 f6 f7 R4 R5 R6
  have hmk := run_make_row' (P := Try.prog) 22 3 (.int .i64 0) 8 Try.underlying22 info3 rfl .i64 .i64 l.length (by omega) (by omega)
  have hmb := run_make_row' (P := Try.prog) 23 4 (.bool false) 1 Try.underlying23 info4 rfl .i64 .i64 l.length (by omega) (by omega)
  go_wp2
  have P0 : Aside0 (RI ((w7.alloc (.cells (madeCells #[.int .i64 0] l.length) 3)).alloc (.cells (madeCells #[.bool false] l.length) 4)) w7.heap.size (.slice (some ⟨w7.heap.size, 0, none⟩) l.length l.length) (posns l 0)) := ⟨RI_alloc (RI_made rfl (Nat.le_refl _) (by omega)) _⟩
  have S0 : Aside0 (RB ((w7.alloc (.cells (madeCells #[.int .i64 0] l.length) 3)).alloc (.cells (madeCells #[.bool false] l.length) 4)) w7.heap.size (.slice (some ⟨w7.heap.size + 1, 0, none⟩) l.length l.length) (seens l 0)) := ⟨by rw [seens_zero]; exact RB_made (by simp) (by simp) (by omega)⟩
  have BB : Aside0 (Below w7.heap.size w7 ((w7.alloc (.cells (madeCells #[.int .i64 0] l.length) 3)).alloc (.cells (madeCells #[.bool false] l.length) 4))) := ⟨below_alloc (below_alloc (Below.refl _ _) _) _⟩
  clear hmk hmb
  go_loopg [10] l.length (fun gg s10 wr => ∃ k : Nat, k ≤ l.length ∧ l.length - k ≤ gg ∧ s10 = .int .i64 k ∧ Aside0 (RI wr w7.heap.size (.slice (some ⟨w7.heap.size, 0, none⟩) l.length l.length) (posns l k)) ∧ Aside0 (RB wr w7.heap.size (.slice (some ⟨w7.heap.size + 1, 0, none⟩) l.length l.length) (seens l k)) ∧ Aside0 (Below w7.heap.size w7 wr))
  case atStart => exact ⟨0, Nat.zero_le _, Nat.le_refl _, rfl, P0, S0, BB⟩
  case round =>
    clear P0 S0 BB
    obtain ⟨k, hk, hg, rfl, P1, S1, B1⟩ := hrel
    by_cases hlt : k < l.length
    · as_aux_lemma =>
        obtain ⟨x, hx⟩ : ∃ x, (Tree.order l)[k]? = some x := ⟨_, List.getElem?_eq_getElem (by rw [order_length]; exact hlt)⟩
        obtain ⟨hx0, hx1⟩ := order_in l x (List.mem_of_getElem? hx)
        obtain ⟨ad, rfl, hcx⟩ := atN_int (Kd.F_now (Kd.F_step F5.out (fun j hj _ => B1.out.block j hj))) k hx
        obtain ⟨q, rfl⟩ := Int.eq_ofNat_of_zero_le hx0
        have hfr := seens_fresh l hx
        have hps := posns_step l hx
        have hss := seens_step l hx
        rw [Int.toNat_natCast] at hfr hps hss
        have hql : q < l.length := by omega
        obtain ⟨y, hy, hyc, hyf⟩ := cell_bool S1.out q hql
        rw [hfr] at hy
        cases hy
        obtain ⟨z, hz, hzc, hzf⟩ := cell_i64 P1.out q hql
        have hk1 : (k : Int) < (l.length : Int) := by omega
        have W2 : Aside0 (RI ((wr.setCell ⟨w7.heap.size + 1, q, none⟩ (.bool true)).setCell ⟨w7.heap.size, q, none⟩ (.int .i64 k)) w7.heap.size (.slice (some ⟨w7.heap.size, 0, none⟩) l.length l.length) (posns l (k + 1))) := ⟨by
          rw [← hps]
          exact put_i64 (RI_move P1.out (fun b hb _ => Below.heap_setCell _ _ _ _ (fun e => by rw [e] at hb; simp [Value.ownBlock] at hb))) q k⟩
        have W3 : Aside0 (RB ((wr.setCell ⟨w7.heap.size + 1, q, none⟩ (.bool true)).setCell ⟨w7.heap.size, q, none⟩ (.int .i64 k)) w7.heap.size (.slice (some ⟨w7.heap.size + 1, 0, none⟩) l.length l.length) (seens l (k + 1))) := ⟨by
          rw [← hss]
          exact RB_move (put_bool S1.out q true) (fun b hb _ => Below.heap_setCell _ _ _ _ (fun e => by rw [e] at hb; simp [Value.ownBlock] at hb))⟩
        have W4 : Aside0 (Below w7.heap.size w7 ((wr.setCell ⟨w7.heap.size + 1, q, none⟩ (.bool true)).setCell ⟨w7.heap.size, q, none⟩ (.int .i64 k))) := ⟨(B1.out.setCell (by simp) _).setCell (by simp) _⟩
        have hcx2 : (wr.setCell ⟨w7.heap.size + 1, q, none⟩ (.bool true)).cell? (ad.add k) = some (.int .i64 q) := by
          obtain ⟨ad2, e2, h2⟩ := atN_int (Kd.F_now (Kd.F_step F5.out (fun j hj _ => (B1.out.setCell (p := ⟨w7.heap.size + 1, q, none⟩) (by simp) (.bool true)).block j hj))) k hx
          cases e2
          exact h2
        have hzc2 : (wr.setCell ⟨w7.heap.size + 1, q, none⟩ (.bool true)).cell? ⟨w7.heap.size, q, none⟩ = some (.int .i64 z) ∧ (wr.setCell ⟨w7.heap.size + 1, q, none⟩ (.bool true)).frozen? ⟨w7.heap.size, q, none⟩ = false := by
          obtain ⟨z2, hz2, a, b⟩ := cell_i64 (RI_move (W1 := wr.setCell ⟨w7.heap.size + 1, q, none⟩ (.bool true)) P1.out (fun b hb _ => Below.heap_setCell _ _ _ _ (fun e => by rw [e] at hb; simp [Value.ownBlock] at hb))) q hql
          rw [hz] at hz2
          cases hz2
          exact ⟨a, b⟩
        obtain ⟨hzc3, hzf3⟩ := hzc2
        clear P1 S1 B1 hfr hps hss hx hz
        go_wp2
        go_roundg (l.length - (k + 1))
        case measure => omega
        case rel => exact ⟨k + 1, by omega, by omega, by go_num, W2, W3, W4⟩
    · obtain rfl : k = l.length := by omega
      have hd : decide ((l.length : Int) < (l.length : Int)) = false := by simp
      go_wp2
      obtain ⟨wo, rfl⟩ : ∃ wo : World, wo = wr := ⟨_, rfl⟩
      have BW := Aside0.mk (below_then B7.out B7.out.size B1.out)
      have RD4 : Aside0 (∀ j x, (Tree.parents l)[j]? = some x → ∃ ad, A4 = some ad ∧ wo.cell? (ad.add j) = some (.int .i64 x)) := ⟨fun j x hx => atN_int (Kd.F_now (Kd.F_step F4.out (fun j hj _ => B1.out.block j hj))) j hx⟩
      have RD6 : Aside0 (∀ j x, (Tree.depths l)[j]? = some x → ∃ ad, A6 = some ad ∧ wo.cell? (ad.add j) = some (.int .i64 x)) := ⟨fun j x hx => atN_int (Kd.F_now (Kd.F_step F6.out (fun j hj _ => B1.out.block j hj))) j hx⟩
      have RD7 : Aside0 (∀ j x, (Tree.sizes l)[j]? = some x → ∃ ad, A7 = some ad ∧ wo.cell? (ad.add j) = some (.int .i64 x)) := ⟨fun j x hx => atN_int (Kd.F_now (Kd.F_step F7.out (fun j hj _ => B1.out.block j hj))) j hx⟩
      have RDP : Aside0 (∀ j x, (posns l l.length)[j]? = some x → wo.cell? ⟨w7.heap.size, j, none⟩ = some (.int .i64 x)) := ⟨fun j x hx => by
        obtain ⟨y, hy, h, -⟩ := cell_i64 P1.out j (by have := (List.getElem?_eq_some_iff.1 hx).1; rw [posns_length] at this; exact this)
        rw [hx] at hy
        cases hy
        exact h⟩
      have RDL : Aside0 (∀ (j : Nat) (x : SSpan), l[j]? = some x → ∃ ad, A = some ad ∧ wo.cell? ⟨(ad.add (j * 10)).block, (ad.add (j * 10)).off + 2, none⟩ = some (.int .u64 x.f1) ∧ wo.cell? ⟨(ad.add (j * 10)).block, (ad.add (j * 10)).off + 3, none⟩ = some (.int .u64 x.f2)) := ⟨fun j x hx => by
        obtain ⟨ad, A9, c9, e, -, -, x2, x3, -⟩ := atN_Span (Kd.C_below HR.out BW.out) j hx
        exact ⟨ad, e, x2, x3⟩⟩
      clear F4 F5 F6 F7 HR B7 B1 P1 S1
      go_loopg [11, 12] l.length (fun gg s11 s12 wr => ∃ i : Nat, i ≤ l.length ∧ l.length - i ≤ gg ∧ s12 = .int .i64 i ∧ s11 = .int .i64 (rootLen l i) ∧ ∃ q, wo.drewN q = wr)
      case atStart => exact ⟨0, Nat.zero_le _, Nat.le_refl _, rfl, rfl, 0, rfl⟩
      case round =>
        obtain ⟨i, hi, hg, rfl, rfl, q, rfl⟩ := hrel
        by_cases hlt : i < l.length
        · have hi1 : (i : Int) < (l.length : Int) := by omega
          obtain ⟨x, hx⟩ : ∃ x, (Tree.parents l)[i]? = some x := ⟨_, List.getElem?_eq_getElem (by rw [Tree.parents_length]; exact hlt)⟩
          have hok := Tree.parents_ok l x (List.mem_of_getElem? hx)
          by_cases hx1 : x = -1
          · as_aux_lemma =>
              subst hx1
              obtain ⟨hd0, si, hsi, hse⟩ := root_facts l hlt hx
              have hstep := rootLen_root l hx
              have hle := rootLen_le l (i + 1) (by omega)
              have hle2 : (rootLen l i : Int) + (si : Int) ≤ 60 := by omega
              have hst : Aside0 ((rootLen l (i + 1) : Int) = (rootLen l i : Int) + (si : Int)) := ⟨by omega⟩
              obtain ⟨a4, rfl, h4⟩ := RD4.out i _ hx
              obtain ⟨a6, rfl, h6⟩ := RD6.out i _ hd0
              obtain ⟨a7, rfl, h7⟩ := RD7.out i _ hsi
              generalize rootLen l i = t at hle2 hst ⊢
              clear hx hd0 hsi hse hstep hle hok
              go_wp2
              go_roundg (l.length - (i + 1))
              case measure => omega
              case rel => exact ⟨i + 1, by omega, by omega, by go_num, by rw [hst.out], _, rfl⟩
          · as_aux_lemma =>
              obtain ⟨u, rfl⟩ : ∃ u : Nat, x = (u : Int) := ⟨x.toNat, by omega⟩
              obtain ⟨hu, hid, pu, pi, du, su, si, gpu, gpi, gdu, gdi, gsu, gsi, r1, r2, r3, r4, r5, r6⟩ := child_facts l hlt hx
              have hst : Aside0 ((rootLen l (i + 1) : Int) = (rootLen l i : Int)) := ⟨by rw [rootLen_child l hx]⟩
              obtain ⟨yu, hyu⟩ : ∃ y, l[u]? = some y := ⟨_, List.getElem?_eq_getElem hu⟩
              obtain ⟨yi, hyi⟩ : ∃ y, l[i]? = some y := ⟨_, List.getElem?_eq_getElem hlt⟩
              rw [hyu, hyi] at hid
              injection hid with hid
              have hid : yu.f1 = yi.f2 := hid
              obtain ⟨a4, rfl, h4⟩ := RD4.out i _ hx
              obtain ⟨a6, rfl, h6i⟩ := RD6.out i _ gdi
              obtain ⟨a6', e6, h6u⟩ := RD6.out u _ gdu
              cases e6
              obtain ⟨a7, rfl, h7i⟩ := RD7.out i _ gsi
              obtain ⟨a7', e7, h7u⟩ := RD7.out u _ gsu
              cases e7
              have hpi := RDP.out i _ gpi
              have hpu := RDP.out u _ gpu
              obtain ⟨a0, rfl, h0i, h0p⟩ := RDL.out i _ hyi
              obtain ⟨a0', e0, h0u, -⟩ := RDL.out u _ hyu
              cases e0
              rw [hid] at h0u
              generalize yi.f2 = z at h0p h0u
              clear h0i hid hyi hyu gpu gpi gdu gdi gsu gsi hok
              have i1 : (u : Int) < (l.length : Int) := by omega
              have i2 : (pu : Int) < (pi : Int) := by omega
              have i3 : (pi : Int) < (pu : Int) + (su : Int) := by omega
              have i4 : (si : Int) < (su : Int) := by omega
              have i5 : (du : Int) ≤ 60 := by omega
              have i6 : (pu : Int) + (su : Int) ≤ 120 := by omega
              have d1 : decide ((l.length : Int) ≤ (u : Int)) = false := by simp; omega
              have d2 : decide ((pi : Int) ≤ (pu : Int)) = false := by simp; omega
              have d3 : decide ((pu : Int) + (su : Int) ≤ (pi : Int)) = false := by simp; omega
              have d4 : decide ((su : Int) ≤ (si : Int)) = false := by simp; omega
              have e1 : decide (l.length ≤ u) = false := by simp; omega
              have e2 : decide (pi ≤ pu) = false := by simp; omega
              have e3 : decide (pu + su ≤ pi) = false := by simp; omega
              have e4 : decide (su ≤ si) = false := by simp; omega
              generalize rootLen l i = t at hst ⊢
              clear r1 r2 r3 r4 r5 r6
              have hw1 : IntKind.i64.wrap ((du : Int) + 1) = (du : Int) + 1 := IntWalk.i64_in _ (by omega)
              have hw2 : IntKind.i64.wrap ((pu : Int) + (su : Int)) = (pu : Int) + (su : Int) := IntWalk.i64_in _ (by clear hw1; omega)
              go_upto_region 27 with (fail)
              as_aux_lemma =>
                go_quiet (fail)
                as_aux_lemma =>
                  clear hw1 hw2
                  go_wp2
                  go_roundg (l.length - (i + 1))
                  case measure => omega
                  case rel => exact ⟨i + 1, by omega, by omega, by go_num, by rw [hst.out], _, rfl⟩
        · obtain rfl : i = l.length := by omega
          have hd : decide ((l.length : Int) < (l.length : Int)) = false := by simp
          rw [rootLen_all]
          go_wp2
          go_ret
          exact ⟨rfl, pw_below_drewN BW.out q⟩
end Go.Proofs.Ytbfapgagmbiiaaa
