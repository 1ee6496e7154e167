/- gleaninglaw29.TreeChain answers true. -/
import Derived.Test.YtbfapgagmbiiaaaTreeChainPl
import Derived.Test.YtbfapgagmbiiaaaTreeBools
import Derived.Test.YtbfapgagmbiiaaaTreeRefPar
import Derived.Test.YtbfapgagmbiiaaaTreeRingPl
import Derived.Deep.CutBlock
import Derived.Laws.BitsLemmas
namespace Go.Proofs.Ytbfapgagmbiiaaa
open Gl Go.RowKit Go.Proofs.YtbfapgagmbiiaaaW.PrintWords
set_option linter.unusedVariables false
set_option linter.unusedSimpArgs false

abbrev RSp (W : World) (base : Nat) (v : Value) (k : List SSpan) : Prop := Kd.R kSpan 33 W base (fun _ => True) v k
def hadOf (n : Nat) (wh : List Nat) : List Bool := (List.range n).map fun k => decide (k ∈ wh)
theorem hadOf_length (n : Nat) (wh : List Nat) : (hadOf n wh).length = n := by simp [hadOf]
theorem hadOf_nil (n : Nat) : hadOf n [] = List.replicate n false := by
  apply List.ext_getElem?
  intro i
  by_cases h : i < n <;> simp [hadOf, h]
theorem hadOf_get {n : Nat} {wh : List Nat} {k : Nat} (hk : k < n) : (hadOf n wh)[k]? = some (decide (k ∈ wh)) := by simp [hadOf, hk]
theorem hadOf_set {n : Nat} {wh : List Nat} {k : Nat} (hk : k < n) : (hadOf n wh).set k true = hadOf n (wh ++ [k]) := by
  apply List.ext_getElem?
  intro i
  by_cases hi : i < n
  · by_cases e : k = i
    · subst e
      rw [List.getElem?_set_self (by rw [hadOf_length]; exact hk), hadOf_get hk]
      simp
    · rw [List.getElem?_set_ne e, hadOf_get hi, hadOf_get hi]
      congr 1
      have : ¬ i = k := fun h => e h.symm
      simp [this]
  · rw [List.getElem?_eq_none (by rw [List.length_set, hadOf_length]; omega), List.getElem?_eq_none (by rw [hadOf_length]; omega)]
def whI (n : Nat) (wh : List Nat) : List Int := wh.map Int.ofNat ++ List.replicate (n - wh.length) 0
theorem whI_nil (n : Nat) : whI n [] = List.replicate n 0 := by simp [whI]
theorem whI_set {n : Nat} {wh : List Nat} {k : Nat} (hl : wh.length < n) : (whI n wh).set wh.length (k : Int) = whI n (wh ++ [k]) := by
  unfold whI
  rw [show n - wh.length = (n - (wh ++ [k]).length) + 1 by rw [List.length_append, List.length_singleton]; omega, List.replicate_succ, List.set_append, if_neg (by rw [List.length_map]; omega), List.length_map, Nat.sub_self, List.set_cons_zero, List.map_append]
  simp
theorem whI_get {n : Nat} {wh : List Nat} {t k : Nat} (h : wh[t]? = some k) : (whI n wh)[t]? = some (k : Int) := by
  have := (List.getElem?_eq_some_iff.1 h).1
  unfold whI
  rw [List.getElem?_append_left (by rw [List.length_map]; exact this), List.getElem?_map, h]
  rfl
theorem RB_made0 {W : World} {n b : Nat} (hb : b = W.heap.size) (hn : n ≤ 500000) : RB (W.alloc (.cells (madeCells #[.bool false] n) 4)) b (.slice (some ⟨b, 0, none⟩) n n) (List.replicate n false) := by
  subst hb
  exact RB_made rfl (Nat.le_refl _) hn
theorem i64_and1023 (n : Int) : bits .and .i64 n 1023 = n % 1024 := by
  have h127 : (BitVec.ofInt 64 1023).toNat = 2 ^ 10 - 1 := by decide
  have key : (BitVec.ofInt 64 n &&& BitVec.ofInt 64 1023).toNat = (n % ((2 ^ 64 : Nat) : Int)).toNat % 2 ^ 10 := by
    rw [BitVec.toNat_and, BitVec.toNat_ofInt, h127, Nat.and_two_pow_sub_one_eq_mod]
  show IntKind.i64.wrap ((BitVec.ofInt 64 n &&& BitVec.ofInt 64 1023).toNat : Nat) = n % 1024
  rw [key, IntKind.wrap_i64]
  omega
theorem first_place (x : Int) {N : Nat} (hN : 1 ≤ N) : ∃ k : Nat, k < N ∧ (bits BinOp.and IntKind.i64 x 1023).tmod (N : Int) = (k : Int) := by
  rw [i64_and1023]
  obtain ⟨y, hy⟩ := Int.eq_ofNat_of_zero_le (Int.emod_nonneg x (by decide : (1024 : Int) ≠ 0))
  rw [hy]
  exact ⟨y % N, Nat.mod_lt _ (by omega), (Int.ofNat_tmod y N).symm⟩
theorem ex_drewN' (W : World) (q n : Nat) : ∃ r, W.drewN r = (W.drewN q).drewN n := ⟨_, (World.drewN_drewN _ _ _).symm⟩
/-- How far it is from k on to place f, round and round. -/
def far (N f k : Nat) : Nat := if k ≤ f then f - k else f + N - k
theorem far_step {N f k : Nat} (hf : f < N) (hk : k < N) (hne : k ≠ f) : (k + 1) % N < N ∧ far N f ((k + 1) % N) < far N f k := by
  refine ⟨Nat.mod_lt _ (by omega), ?_⟩
  rcases Nat.lt_or_ge (k + 1) N with h | h
  · rw [Nat.mod_eq_of_lt h]
    unfold far
    split <;> split <;> omega
  · have e : k + 1 = N := by omega
    rw [e, Nat.mod_self]
    unfold far
    split <;> split <;> omega
set_option maxHeartbeats 8000000 in
set_option maxRecDepth 100000 in
theorem TreeChain.calls (n : Int) (A : Option Addr) (m c : Nat) (od : List Int) (w : World) (hn0 : -9223372036854775808 ≤ n ∧ n ≤ 9223372036854775807) (hr : Kd.C (Kd.int .i64) w A m od) :
    Calls Try.prog 7 #[.int .i64 n, .slice A m c] w fun e w' => e = .returned (.bool true) ∧ Below w.heap.size w w' := by
  have hal := alive.calls w
  have hml := hr.1
  have hmx := hr.2.1
  have hm1 : (m : Int) ≤ 9223372036854775807 := by omega
  have HR := Aside0.mk hr
  clear hr
  by_cases hn1 : n < 1
  · go_enter Try.func7, Try.ntmps7
    go_wp2_with (go_at_call 11; refine hal.mono ?_; rintro e w1 ⟨rfl, hb1⟩)
    go_ret
    exact ⟨rfl, hb1⟩
  by_cases hn2 : 40 < n
  · go_enter Try.func7, Try.ntmps7
    go_wp2_with (go_at_call 11; refine hal.mono ?_; rintro e w1 ⟨rfl, hb1⟩)
    go_ret
    exact ⟨rfl, hb1⟩
  by_cases hn3 : (m : Int) < n
  · go_enter Try.func7, Try.ntmps7
    go_wp2_with (go_at_call 11; refine hal.mono ?_; rintro e w1 ⟨rfl, hb1⟩)
    go_ret
    exact ⟨rfl, hb1⟩
  obtain ⟨N, rfl⟩ := Int.eq_ofNat_of_zero_le (show 0 ≤ n by omega)
  have hN1 : 1 ≤ N := by omega
  have hN2 : N ≤ 40 := by omega
  have hNm : N ≤ m := by omega
  have hmk := run_make_row' (P := Try.prog) 22 3 (.int .i64 0) 8 Try.underlying22 info3 rfl .i64 .i64 N (by omega) (by omega)
  have hmb := run_make_row' (P := Try.prog) 23 4 (.bool false) 1 Try.underlying23 info4 rfl .i64 .i64 N (by omega) (by omega)
  go_enter Try.func7, Try.ntmps7
  go_upto_region 4 with (go_at_call 11; refine hal.mono ?_; rintro e w1 ⟨rfl, hb1⟩)
  have B1 := Aside0.mk hb1
  clear hal hb1
  go_upto_region 5 with (at_make; refine Kd.R_make kSpan (w0 := w1) w1.heap.size 33 rfl rfl 25 (.tmp 33) (.tmp 33) rfl (N : Int) rfl rfl Try.underlying25 _ 112 info33 rfl (by decide) (by decide) (zzSpan 0 0) (ok := fun _ => True) (okp := fun _ => False) (kSpan_mkM w1 w1.heap.size _ (zzSpan 0 0) (v9 := .slice none 0 0) (Kd.R_nil _ _ _ _ _)) (fun _ h => h.elim) trivial (by omega) (by rw [Int.toNat_natCast]; omega) (Below.refl _ _) (Nat.le_refl _) ?_; intro v6 w2 h6 hb2 hg2 hown6)
  rw [Int.toNat_natCast] at h6
  go_wp2
  obtain ⟨gl, cl, rfl, hgl1, hgl2, -⟩ := R_formN (n := N) h6 (by simp) hN1
  have hz12 : w1.heap.size ≤ w2.heap.size := hb2.size
  have B2 := Aside0.mk (below_then B1.out B1.out.size hb2)
  have BW0 := Aside0.mk (below_alloc (below_alloc (Below.refl w2.heap.size w2) (.cells (madeCells #[.bool false] N) 4)) (.cells (madeCells #[.int .i64 0] N) 3))
  have H0 : Aside0 (RB ((w2.alloc (.cells (madeCells #[.bool false] N) 4)).alloc (.cells (madeCells #[.int .i64 0] N) 3)) w2.heap.size (.slice (some ⟨w2.heap.size, 0, none⟩) N N) (hadOf N [])) := ⟨by rw [hadOf_nil]; exact Kd.R_below (RB_made0 rfl (by omega)) (below_alloc (Below.refl _ _) _)⟩
  have I0 : Aside0 (RI ((w2.alloc (.cells (madeCells #[.bool false] N) 4)).alloc (.cells (madeCells #[.int .i64 0] N) 3)) (w2.heap.size + 1) (.slice (some ⟨w2.heap.size + 1, 0, none⟩) N N) (whI N [])) := ⟨by rw [whI_nil]; exact RI_made0 (by simp) (by omega)⟩
  have L0 : Aside0 (RSp ((w2.alloc (.cells (madeCells #[.bool false] N) 4)).alloc (.cells (madeCells #[.int .i64 0] N) 3)) w.heap.size (.slice (some ⟨gl, 0, none⟩) N cl) (chainTo N [])) := ⟨by rw [chainTo_nil]; exact Kd.R_lower (Kd.R_below h6 BW0.out) B1.out.size⟩
  have B3 := Aside0.mk (below_then B2.out B2.out.size BW0.out)
  generalize ((w2.alloc (.cells (madeCells #[.bool false] N) 4)).alloc (.cells (madeCells #[.int .i64 0] N) 3)) = wz at H0 I0 L0 B3 ⊢
  generalize hgb : w2.heap.size = gb at *
  have hww : w.heap.size ≤ w1.heap.size := B1.out.size
  clear hgb BW0 B1 B2 h6 hb2 hg2 hown6 hmk hmb
  go_loopg [9] N (fun gg s9 wr => ∃ (i : Nat) (wh : List Nat), i ≤ N ∧ N - i ≤ gg ∧ s9 = .int .i64 i ∧ Aside0 (Pls N wh ∧ wh.length = i) ∧ Aside0 (RSp wr w.heap.size (.slice (some ⟨gl, 0, none⟩) N cl) (chainTo N wh)) ∧ Aside0 (RB wr gb (.slice (some ⟨gb, 0, none⟩) N N) (hadOf N wh)) ∧ Aside0 (RI wr (gb + 1) (.slice (some ⟨gb + 1, 0, none⟩) N N) (whI N wh)) ∧ Aside0 (Below w.heap.size w wr))
  case atStart => exact ⟨0, [], Nat.zero_le _, Nat.le_refl _, rfl, ⟨⟨fun k hk => absurd hk List.not_mem_nil, List.nodup_nil⟩, rfl⟩, L0, H0, I0, B3⟩
  case round =>
    clear L0 H0 I0 B3
    obtain ⟨i, wh, hi, hg, rfl, HP, L1, H1, I1, B1⟩ := hrel
    obtain ⟨wo, rfl⟩ : ∃ wo : World, wo = wr := ⟨_, rfl⟩
    by_cases hlt : i < N
    · have hi1 : (i : Int) < (N : Int) := by omega
      obtain ⟨x, hx⟩ : ∃ x, od[i]? = some x := ⟨_, List.getElem?_eq_getElem (by omega)⟩
      obtain ⟨ad, rfl, hxc⟩ := atN_int (Kd.C_below HR.out B1.out) i hx
      have him : (i : Int) < (m : Int) := by omega
      clear hx
      go_upto_block 2 with (fail)
      obtain ⟨k0, hk0, e0⟩ := first_place x hN1
      rw [e0]
      clear e0
      obtain ⟨f, hf, hfm⟩ := HP.out.1.free (by have := HP.out.2; omega)
      have HF := Aside0.mk hfm
      clear hfm
      go_cut [10] from 51 to 58 (fun s10 wc => ∃ k : Nat, k < N ∧ s10 = .int .i64 k ∧ Aside0 (k ∉ wh) ∧ wo = wc)
      case first =>
        go_wp2
        go_loopg [10] (far N f k0) (fun gg s10 wr => ∃ k : Nat, k < N ∧ far N f k ≤ gg ∧ s10 = .int .i64 k ∧ wo = wr)
        case atStart => exact ⟨k0, hk0, Nat.le_refl _, rfl, rfl⟩
        case round =>
          obtain ⟨k, hk, hgk, rfl, rfl⟩ := hrel
          obtain ⟨y, hy, hyc, -⟩ := cell_bool H1.out k hk
          rw [hadOf_get hk] at hy
          have hk1 : (k : Int) < (N : Int) := by omega
          by_cases hm : k ∈ wh
          · obtain rfl : y = true := by injection hy with hy; rw [← hy]; simp [hm]
            have hne : k ≠ f := fun e => HF.out (e ▸ hm)
            have hs := far_step hf hk hne
            have hrem : Int.tmod ((k : Int) + 1) (N : Int) = (((k + 1) % N : Nat) : Int) := by
              rw [show (k : Int) + 1 = ((k + 1 : Nat) : Int) by omega]
              exact Int.ofNat_tmod _ _ |>.symm
            have hrem2 : ((k : Int) + 1) % (N : Int) = (((k + 1) % N : Nat) : Int) := by
              rw [show (k : Int) + 1 = ((k + 1 : Nat) : Int) by omega]
              exact Int.natCast_emod _ _ |>.symm
            obtain ⟨hs1, hs2⟩ := hs
            generalize (k + 1) % N = k2 at hrem hrem2 hs1 hs2
            have hs3 : far N f k2 < gk := by omega
            clear hy hm hne hs2
            go_wp2
            go_roundg (far N f k2)
            case measure => omega
            case rel => exact ⟨k2, hs1, Nat.le_refl _, rfl, rfl⟩
          · obtain rfl : y = false := by injection hy with hy; rw [← hy]; simp [hm]
            have HM := Aside0.mk hm
            clear hy hm
            go_wp2
            go_meet
            case rel => exact ⟨k, hk, rfl, HM, rfl⟩
      case rest =>
        obtain ⟨k, hk, rfl, HM, rfl⟩ := hcut
        have hk1 : (k : Int) < (N : Int) := by omega
        obtain ⟨y, -, hyc, hyf⟩ := cell_bool H1.out k hk
        have I2 : RI (wo.setCell ⟨gb, k, none⟩ (.bool true)) (gb + 1) (.slice (some ⟨gb + 1, 0, none⟩) N N) (whI N wh) := RI_move I1.out (fun b hb _ => Below.heap_setCell _ _ _ _ (fun e => by rw [e] at hb; simp [Value.ownBlock] at hb))
        obtain ⟨z, -, hzc, hzf⟩ := cell_i64 I2 i hlt
        have hlw : wh.length = i := HP.out.2
        have I3 : Aside0 (RI ((wo.setCell ⟨gb, k, none⟩ (.bool true)).setCell ⟨gb + 1, i, none⟩ (.int .i64 k)) (gb + 1) (.slice (some ⟨gb + 1, 0, none⟩) N N) (whI N (wh ++ [k]))) := ⟨by
          rw [← whI_set (by omega), hlw]
          exact put_i64 I2 i k⟩
        have H3 : Aside0 (RB ((wo.setCell ⟨gb, k, none⟩ (.bool true)).setCell ⟨gb + 1, i, none⟩ (.int .i64 k)) gb (.slice (some ⟨gb, 0, none⟩) N N) (hadOf N (wh ++ [k]))) := ⟨by
          rw [← hadOf_set hk]
          exact RB_move (put_bool H1.out k true) (fun b hb _ => Below.heap_setCell _ _ _ _ (fun e => by rw [e] at hb; simp [Value.ownBlock] at hb))⟩
        obtain ⟨cs1, hcs1⟩ := Kd.R_typed H1.out gb (by simp [Value.ownBlock])
        obtain ⟨cs2, hcs2⟩ := Kd.R_typed I2 (gb + 1) (by simp [Value.ownBlock])
        have L3 : Aside0 (RSp ((wo.setCell ⟨gb, k, none⟩ (.bool true)).setCell ⟨gb + 1, i, none⟩ (.int .i64 k)) w.heap.size (.slice (some ⟨gl, 0, none⟩) N cl) (chainTo N wh)) := ⟨Kd.R_set (Kd.R_set L1.out hcs1 (fun q hq e => by subst e; revert hq; decide) k (.bool true)) hcs2 (fun q hq e => by subst e; revert hq; decide) i (.int .i64 k)⟩
        have B3 : Aside0 (Below w.heap.size w ((wo.setCell ⟨gb, k, none⟩ (.bool true)).setCell ⟨gb + 1, i, none⟩ (.int .i64 k))) := ⟨(B1.out.setCell (by simp; omega) _).setCell (by simp; omega) _⟩
        obtain ⟨cc, hcl, -, hcc, -⟩ := Kd.R_elem L3.out (zzSpan 0 0) (k : Int) (by omega) (by omega)
        have HCC := Aside0.mk hcc
        have hcl1 : cc.length = 10 := hcl
        have HCL := Aside0.mk hcl1
        have HP2 : Aside0 (Pls N (wh ++ [k]) ∧ (wh ++ [k]).length = i + 1) := ⟨HP.out.1.snoc hk HM.out, by rw [List.length_append, List.length_singleton, hlw]⟩
        have HLS : Aside0 ((chainTo N wh).set k (zzSpan ((i : Int) + 1) (i : Int)) = chainTo N (wh ++ [k])) := ⟨by rw [← chainTo_set hk HM.out, hlw]⟩
        have hi40 : (i : Int) ≤ 40 := by omega
        clear hcc hcl hcl1 hcs1 hcs2 I2 I1 H1 L1 hlw HF HM HP
        have HM3 : Aside0 (kSpan.M ((wo.setCell ⟨gb, k, none⟩ (.bool true)).setCell ⟨gb + 1, i, none⟩ (.int .i64 k)) w.heap.size (fun _ => False) (zzSpan ((i : Int) + 1) (i : Int)) (cc.take 0 ++ [.int .u64 0, .int .u64 0, .int .u64 ((i : Int) + 1), .int .u64 i, .string ⟨#[]⟩, .string ⟨#[]⟩, .int .i64 0, .int .i64 0, .bool false, .slice none 0 0] ++ cc.drop (0 + 10))) := ⟨by
          rw [List.take_zero, List.nil_append, List.drop_eq_nil_of_le (by rw [HCL.out]; omega), List.append_nil]
          exact kSpan_mkM _ w.heap.size _ (zzSpan ((i : Int) + 1) (i : Int)) (v9 := .slice none 0 0) (Kd.R_nil _ _ _ _ _)⟩
        have HONE : Aside0 (∀ q ∈ ([.int .u64 0, .int .u64 0, .int .u64 ((i : Int) + 1), .int .u64 i, .string ⟨#[]⟩, .string ⟨#[]⟩, .int .i64 0, .int .i64 0, .bool false, .slice none 0 0] : List Value), q.oneCell' = true) := ⟨by intro q hq; simp at hq; rcases hq with rfl | rfl | rfl | rfl | rfl | rfl | rfl | rfl | rfl | rfl <;> rfl⟩
        go_wp2_with ((with_reducible refine gate_store (t := 33) (p := 74) rfl ?_); refine Kd.R_store kSpan (w0 := w) w.heap.size rfl rfl 33 (.tmp 74) (.tmp 73) rfl 33 (k : Int) 0 (chainTo N wh) (zzSpan ((i : Int) + 1) (i : Int)) (.agg #[.int .u64 0, .int .u64 0, .int .u64 ((i : Int) + 1), .int .u64 i, .string ⟨#[]⟩, .string ⟨#[]⟩, .int .i64 0, .int .i64 0, .bool false, .slice none 0 0]) [.int .u64 0, .int .u64 0, .int .u64 ((i : Int) + 1), .int .u64 i, .string ⟨#[]⟩, .string ⟨#[]⟩, .int .i64 0, .int .i64 0, .bool false, .slice none 0 0] cc (fun _ => True) (fun _ => False) rfl (by simp; rfl) rfl rfl (by kernel_rfl) HONE.out L3.out (by omega) (by omega) HCL.out HCC.out (Nat.le_refl _) HM3.out (fun _ h => h.elim) B3.out ?_; intro w4 h4 hb4 hg4)
        have hgg : gl < gb := hgl2
        have L5 : Aside0 (RSp w4 w.heap.size (.slice (some ⟨gl, 0, none⟩) N cl) (chainTo N (wh ++ [k]))) := ⟨by rw [Int.toNat_natCast, HLS.out] at h4; exact h4⟩
        have H5 : Aside0 (RB w4 gb (.slice (some ⟨gb, 0, none⟩) N N) (hadOf N (wh ++ [k]))) := ⟨RB_move H3.out (fun b hb hl => hg4.block b hl (fun e => by injection e with e; simp [Value.ownBlock] at hb; omega))⟩
        have I5 : Aside0 (RI w4 (gb + 1) (.slice (some ⟨gb + 1, 0, none⟩) N N) (whI N (wh ++ [k]))) := ⟨RI_move I3.out (fun b hb hl => hg4.block b hl (fun e => by injection e with e; simp [Value.ownBlock] at hb; omega))⟩
        have B5 := Aside0.mk hb4
        clear h4 hb4 hg4 HCC HCL HM3 HONE
        go_roundg (N - (i + 1))
        case measure => omega
        case rel => exact ⟨i + 1, wh ++ [k], by omega, by omega, by go_num, HP2, L5, H5, I5, B5⟩
    · obtain rfl : i = N := by omega
      have hd : decide ((i : Int) < (i : Int)) = false := by simp
      obtain ⟨hP, hlw⟩ := HP.out
      have hlI : (whI i wh).length = i := by simp [whI, hlw]
      obtain ⟨cA, cc, e, -, hrl⟩ := R_readsN (n := i) L1.out (chainTo_length i wh)
      injection e with e1 e2 e3
      subst e1 e3
      have HL := Aside0.mk hrl
      have HDC : Aside0 (∀ W, Below wo.heap.size wo W → Calls Try.prog 13 #[.slice (some ⟨gl, 0, none⟩) i cl] W fun e w' => ∃ v, e = .returned v ∧ RI w' W.heap.size v (Tree.depths (chainTo i wh)) ∧ Below W.heap.size W w') := ⟨fun W hW => Depths.calls _ i cl (chainTo i wh) W (Kd.C_below HL.out hW) (by omega) (good _)⟩
      have HOC : Aside0 (∀ W, Below wo.heap.size wo W → Calls Try.prog 17 #[.slice (some ⟨gl, 0, none⟩) i cl] W fun e w' => ∃ v, e = .returned v ∧ RI w' W.heap.size v (Tree.order (chainTo i wh)) ∧ Below W.heap.size W w') := ⟨fun W hW => Order.calls _ i cl (chainTo i wh) W (Kd.C_below HL.out hW) (by omega) (good _)⟩
      have HSC : Aside0 (∀ W, Below wo.heap.size wo W → Calls Try.prog 20 #[.slice (some ⟨gl, 0, none⟩) i cl] W fun e w' => ∃ v, e = .returned v ∧ RI w' W.heap.size v (Tree.sizes (chainTo i wh)) ∧ Below W.heap.size W w') := ⟨fun W hW => Sizes.calls _ i cl (chainTo i wh) W (Kd.C_below HL.out hW) (by omega) (good _)⟩
      have e1 : (Tree.depths (chainTo i wh)).length = i := by rw [depths_length, chainTo_length]
      have e2 : (Tree.order (chainTo i wh)).length = i := by rw [order_length, chainTo_length]
      have e3 : (Tree.sizes (chainTo i wh)).length = i := by rw [sizes_length, chainTo_length]
      have E1 := Aside0.mk e1
      have E2 := Aside0.mk e2
      have E3 := Aside0.mk e3
      have EI := Aside0.mk hlI
      have CD : Aside0 (∀ t k : Nat, wh[t]? = some k → (Tree.depths (chainTo i wh))[k]? = some (t : Int)) := ⟨fun t k h => chain_depth hP hlw (by omega) h⟩
      have CO : Aside0 (∀ t k : Nat, wh[t]? = some k → (Tree.order (chainTo i wh))[t]? = some (k : Int)) := ⟨fun t k h => chain_order hP hlw (by omega) h⟩
      have CS : Aside0 (∀ t k : Nat, wh[t]? = some k → (Tree.sizes (chainTo i wh))[k]? = some ((i : Int) - (t : Int))) := ⟨fun t k h => chain_size hP hlw (by omega) h⟩
      have HLW := Aside0.mk hlw
      have HLT := Aside0.mk hP.lt
      clear e1 e2 e3 hlI hrl hlw hP HP L1 H1
      generalize Tree.depths (chainTo i wh) = DD at HDC E1 CD
      generalize Tree.order (chainTo i wh) = OO at HOC E2 CO
      generalize Tree.sizes (chainTo i wh) = SS at HSC E3 CS
      go_wp2_with (first
        | (go_at_call 13; refine (HDC.out _ (Below.refl _ _)).mono ?_; rintro e w4 ⟨v4, rfl, h4, hb4⟩; obtain ⟨A4, c4, rfl, -, -⟩ := R_readsN (n := i) h4 E1.out; have D4 := Aside0.mk hb4)
        | (go_at_call 17; refine (HOC.out _ D4.out).mono ?_; rintro e w5 ⟨v5, rfl, h5, hb5⟩; obtain ⟨A5, c5, rfl, -, -⟩ := R_readsN (n := i) h5 E2.out; have D5 := Aside0.mk (below_then D4.out D4.out.size hb5))
        | (go_at_call 20; refine (HSC.out _ D5.out).mono ?_; rintro e w6 ⟨v6, rfl, h6, hb6⟩; obtain ⟨A6, c6, rfl, -, r6⟩ := R_readsN (n := i) h6 E3.out; have D6 := Aside0.mk (below_then D5.out D5.out.size hb6)))
      have r4 := Kd.F_now (Kd.F_below (Kd.F_below (Kd.R_F h4) hb5) hb6)
      have r5 := Kd.F_now (Kd.F_below (Kd.R_F h5) hb6)
      obtain ⟨Aw, cw, ew, -, rw0⟩ := R_readsN (n := i) (Kd.R_below I1.out D6.out) EI.out
      injection ew with ew1 ew2 ew3
      subst ew1
      have R4 := Aside0.mk r4
      have R5 := Aside0.mk r5
      have R6 := Aside0.mk r6
      have RW := Aside0.mk rw0
      have BF := Aside0.mk (below_then B1.out B1.out.size D6.out)
      clear r4 r5 r6 rw0 h4 h5 h6 hb4 hb5 hb6 D4 D5 D6 I1 B1 HDC HOC HSC HL ew2 ew3
      go_loopg [14] i (fun gg s14 wr => ∃ t : Nat, t ≤ i ∧ i - t ≤ gg ∧ s14 = .int .i64 t ∧ ∃ q, w6.drewN q = wr)
      case atStart => exact ⟨0, Nat.zero_le _, Nat.le_refl _, rfl, 0, rfl⟩
      case round =>
        obtain ⟨t, ht, hgt, rfl, q, rfl⟩ := hrel
        by_cases hti : t < i
        · have ht1 : (t : Int) < (i : Int) := by omega
          obtain ⟨k, hk⟩ : ∃ k, wh[t]? = some k := ⟨_, List.getElem?_eq_getElem (by rw [HLW.out]; exact hti)⟩
          have hkn := HLT.out k (List.mem_of_getElem? hk)
          have hk1 : (k : Int) < (i : Int) := by omega
          have cw := at0_int RW.out t (whI_get hk)
          obtain ⟨a4, rfl, cd⟩ := atN_int R4.out k (CD.out t k hk)
          obtain ⟨a5, rfl, co⟩ := atN_int R5.out t (CO.out t k hk)
          obtain ⟨a6, rfl, cs⟩ := atN_int R6.out k (CS.out t k hk)
          have hw1 : IntKind.i64.wrap ((i : Int) - (t : Int)) = (i : Int) - (t : Int) := IntWalk.i64_in _ (by omega)
          clear hk
          go_wp2
          go_quiet (fail)
          clear hw1
          go_wp2
          go_roundg (i - (t + 1))
          case measure => omega
          case rel => exact ⟨t + 1, by omega, by omega, by go_num, _, rfl⟩
        · obtain rfl : t = i := by omega
          have hd : decide ((t : Int) < (t : Int)) = false := by simp
          go_wp2
          go_ret
          exact ⟨rfl, pw_below_drewN BF.out q⟩
end Go.Proofs.Ytbfapgagmbiiaaa
