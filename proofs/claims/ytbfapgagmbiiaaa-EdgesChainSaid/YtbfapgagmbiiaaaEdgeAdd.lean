/- edges.Add at a chain of spans, from no edges on. -/
import Derived.Test.YtbfapgagmbiiaaaEdgePl
import Derived.WalkSpells
namespace Go.Proofs.Ytbfapgagmbiiaaa
open Gl Go.RowKit Go.Proofs.YtbfapgagmbiiaaaW.PrintWords
set_option linter.unusedVariables false
set_option linter.unusedSimpArgs false

theorem Clone0.calls (w : World) : Calls Try.prog 22 #[.slice none 0 0] w fun e w' => e = .returned (.slice none 0 0) ∧ w = w' := by
  have heq : ∀ W, (binOp .eql 34 (.slice none 0 0) (.slice none 0 0)).run Try.prog W = .ok (.bool true) W := fun W => Lib.run_eql_slice_nil W _ _ none _ _ _ _ Try.underlying34
  go_enter Try.func22, Try.ntmps22
  go_wp2
  go_ret
  exact ⟨rfl, rfl⟩
def AddEnd (w : World) (L : List Quad) (e : Ending) (w' : World) : Prop := ∃ v, e = .returned v ∧ RE w' w.heap.size v (L.map ed) ∧ Below w.heap.size w w'
set_option maxHeartbeats 2000000 in
set_option maxRecDepth 100000 in
theorem Add.calls (A : Option Addr) (n c : Nat) (op : ByteArray) (ks : List Nat) (es : List Bool) (most : Int) (w : World) (hr : Kd.C kSpan w A n (chainL op ks es n)) (ho1 : 1 ≤ op.size) (ho2 : op.size ≤ 16) (hks : ∀ i, ks.getD i 0 < 4)
    (hm1 : (n : Int) ≤ most) (hm2 : 1 ≤ most) (hm3 : most ≤ 1000000) :
    Calls Try.prog 10 #[.slice none 0 0, .slice A n c, .int .i64 most] w (AddEnd w (edgesOf (cnt ks es n))) := by
  have hpl := chainL_plain (ks := ks) (es := es) (n := n) ho1 ho2
  have HR := Aside0.mk hr
  have HPL := Aside0.mk hpl
  have HKS := Aside0.mk hks
  have hnn : n ≤ 1000000 := by omega
  have hcl := fun W => Clone0.calls W
  have HCALL : Aside0 (∀ (i : Nat), i < n → ∀ A9 c9 W, Below w.heap.size w W → Calls Try.prog 24 #[.slice A n c, spanV ((i : Int) + 1) (i : Int) (nm (ks.getD i 0)) op (es.getD i false) A9 c9] W fun e w' => e = .returned (callV (findP (chainL op ks es n) (i : Int)) (nm (ks.getD i 0))) ∧ Below W.heap.size W w') := ⟨fun i hi A9 c9 W hW => caller.calls A n c (chainL op ks es n) _ _ _ _ _ A9 c9 W (Kd.C_below hr hW) hpl⟩
  have HRIGHT : Aside0 (∀ (i : Nat) A9 c9 W, Calls Try.prog 23 #[spanV ((i : Int) + 1) (i : Int) (nm (ks.getD i 0)) op (es.getD i false) A9 c9] W fun e w' => e = .returned (.bool true) ∧ Below W.heap.size W w') := ⟨fun i A9 c9 W => Right.calls _ _ _ _ _ A9 c9 W (by show 1 ≤ 1; omega) (by show 1 ≤ 16; omega) ho1 ho2⟩
  have hm4 := Aside0.mk hm1
  clear hr hpl hks hm1
  go_enter Try.func10, Try.ntmps10
  go_wp2_with (go_at_call 22; refine (hcl _).mono ?_; rintro e w2 ⟨rfl, rfl⟩)
  clear hcl
  go_loopg [0, 15] n (fun gg s0 s15 wr => ∃ (i : Nat) (v : Value), i ≤ n ∧ n - i ≤ gg ∧ s15 = .int .i64 i ∧ v = s0 ∧ Aside0 (RE wr w.heap.size v ((edgesOf (cnt ks es i)).map ed)) ∧ Aside0 (Below w.heap.size w wr))
  case atStart => exact ⟨0, _, Nat.zero_le _, Nat.le_refl _, rfl, rfl, ⟨Kd.R_nil _ _ _ _ _⟩, ⟨Below.refl _ _⟩⟩
  case round =>
    obtain ⟨i, v, hi, hg, rfl, rfl, HO, B1⟩ := hrel
    by_cases hlt : i < n
    · have hi1 : (i : Int) < (n : Int) := by omega
      obtain ⟨ad, A9, c9, rfl, x0, x1, x2, x3, x4, x5, x6, x7, x8, x9, -⟩ := atN_Span (Kd.C_below HR.out B1.out) i (chainL_get hlt)
      have hcall := HCALL.out i hlt A9 c9
      have hright := HRIGHT.out i A9 c9
      replace x0 : wr.cell? (ad.add (i * 10)) = some (.int .u64 0) := x0
      replace x1 : wr.cell? ⟨(ad.add (i * 10)).block, (ad.add (i * 10)).off + 1, none⟩ = some (.int .u64 0) := x1
      replace x2 : wr.cell? ⟨(ad.add (i * 10)).block, (ad.add (i * 10)).off + 2, none⟩ = some (.int .u64 ((i : Int) + 1)) := x2
      replace x3 : wr.cell? ⟨(ad.add (i * 10)).block, (ad.add (i * 10)).off + 3, none⟩ = some (.int .u64 i) := x3
      replace x4 : wr.cell? ⟨(ad.add (i * 10)).block, (ad.add (i * 10)).off + 4, none⟩ = some (.string (nm (ks.getD i 0))) := x4
      replace x5 : wr.cell? ⟨(ad.add (i * 10)).block, (ad.add (i * 10)).off + 5, none⟩ = some (.string op) := x5
      replace x6 : wr.cell? ⟨(ad.add (i * 10)).block, (ad.add (i * 10)).off + 6, none⟩ = some (.int .i64 0) := x6
      replace x7 : wr.cell? ⟨(ad.add (i * 10)).block, (ad.add (i * 10)).off + 7, none⟩ = some (.int .i64 0) := x7
      replace x8 : wr.cell? ⟨(ad.add (i * 10)).block, (ad.add (i * 10)).off + 8, none⟩ = some (.bool (es.getD i false)) := x8
      replace x9 : wr.cell? ⟨(ad.add (i * 10)).block, (ad.add (i * 10)).off + 9, none⟩ = some (.slice A9 0 c9) := x9
      have hb4 := HKS.out i
      have HCNT : Aside0 (∀ p, ks.getD (i - 1) 0 = p → i ≠ 0 → p ≠ ks.getD i 0 → ∀ W v', Below w.heap.size w W → RE W w.heap.size v' ((edgesOf (cnt ks es i)).map ed) → Calls Try.prog 25 #[v', edgeV p (ks.getD i 0) 0 0, .bool (es.getD i false), .int .i64 most] W (CntEnd W w.heap.size (edgesOf (cnt ks es (i + 1))))) := ⟨fun p hp h0 hne W v' hW hv' => by
        subst hp
        obtain ⟨i', rfl⟩ : ∃ i', i = i' + 1 := ⟨i - 1, by omega⟩
        rw [cnt_succ]
        rw [Nat.add_sub_cancel] at hne ⊢
        have hok := cnt_ok ks es (i' + 1) (ks.getD i' 0) (ks.getD (i' + 1) 0)
        rw [edgesOf_add _ (HKS.out i') (HKS.out (i' + 1)) hne _ (by omega) (by omega)]
        refine count.calls W w.heap.size v' _ _ _ _ _ _ most (HKS.out i') (HKS.out (i' + 1)) (parts_sides _ (HKS.out i') (HKS.out (i' + 1))) ?_ hW.size (parts_len _ _ _) ?_ hm2 hm3
        · rw [← edgesOf_split _ (HKS.out i') (HKS.out (i' + 1)) hne]; exact hv'
        · intro c' e' hm
          unfold midOf at hm
          split at hm
          · injection hm with hm
            rw [hm] at hok
            have := hm4.out
            simp only at hok
            omega
          · cases hm⟩
      have HSAME : Aside0 (i = 0 ∨ ks.getD (i - 1) 0 = ks.getD i 0 → edgesOf (cnt ks es (i + 1)) = edgesOf (cnt ks es i)) := ⟨fun h => by
        rcases i with _ | i'
        · rw [cnt_one]
        · rcases h with h | h
          · omega
          · rw [cnt_succ]
            rw [Nat.add_sub_cancel] at h
            rw [h]
            exact edgesOf_diag _ _ _⟩
      have HFIND : Aside0 (callV (findP (chainL op ks es n) (i : Int)) (nm (ks.getD i 0)) = if i = 0 then .tuple #[.string ⟨#[]⟩, .bool false] else .tuple #[.string (nm (ks.getD (i - 1) 0)), .bool (!(ks.getD (i - 1) 0 == ks.getD i 0))]) := ⟨by
        rcases i with _ | i'
        · rw [if_pos rfl]
          have h := chainL_none op ks es n
          rw [show ((0 : Nat) : Int) = 0 by rfl, h]
          rfl
        · rw [if_neg (by omega), Nat.add_sub_cancel]
          have h := chainL_some op ks es (n := n) (i := i') (by omega)
          rw [show ((i' + 1 : Nat) : Int) = (i' : Int) + 1 by omega, h]
          show Value.tuple #[.string (nm (ks.getD i' 0)), .bool (!((nm (ks.getD i' 0)).toList == (nm (ks.getD (i' + 1) 0)).toList))] = _
          rw [nm_ne (HKS.out i') (HKS.out (i' + 1))]⟩
      rw [HFIND.out] at hcall
      have hap := HKS.out (i - 1)
      generalize hpa : ks.getD (i - 1) 0 = pa at HCNT HSAME hcall hap
      generalize ks.getD i 0 = kb at hcall hright x4 hb4 HCNT HSAME
      generalize es.getD i false = er at hcall hright x8 HCNT
      generalize hF2 : cnt ks es (i + 1) = F2 at HCNT HSAME
      have HF2 := Aside0.mk hF2
      clear hF2
      generalize cnt ks es i = F1 at HO HCNT HSAME
      clear hpa HFIND HCALL HRIGHT
      have BX := Aside0.mk (below_alloc (Below.refl wr.heap.size wr) (.cells #[.int .u64 0, .int .u64 0, .int .u64 ((i : Int) + 1), .int .u64 i, .string (nm kb), .string op, .int .i64 0, .int .i64 0, .bool er, .slice A9 0 c9] 33))
      have HW : Aside0 (∀ w2, Below (wr.heap.size + 1) (wr.alloc (.cells #[.int .u64 0, .int .u64 0, .int .u64 ((i : Int) + 1), .int .u64 i, .string (nm kb), .string op, .int .i64 0, .int .i64 0, .bool er, .slice A9 0 c9] 33)) w2 → w2.cell? ⟨wr.heap.size, 0, none⟩ = some (.int .u64 0) ∧ w2.cell? ⟨wr.heap.size, 1, none⟩ = some (.int .u64 0) ∧ w2.cell? ⟨wr.heap.size, 2, none⟩ = some (.int .u64 ((i : Int) + 1)) ∧ w2.cell? ⟨wr.heap.size, 3, none⟩ = some (.int .u64 i) ∧ w2.cell? ⟨wr.heap.size, 4, none⟩ = some (.string (nm kb)) ∧ w2.cell? ⟨wr.heap.size, 5, none⟩ = some (.string op) ∧ w2.cell? ⟨wr.heap.size, 6, none⟩ = some (.int .i64 0) ∧ w2.cell? ⟨wr.heap.size, 7, none⟩ = some (.int .i64 0) ∧ w2.cell? ⟨wr.heap.size, 8, none⟩ = some (.bool er) ∧ w2.cell? ⟨wr.heap.size, 9, none⟩ = some (.slice A9 0 c9)) := ⟨fun w2 hw2 => by
        have h : w2.heap[wr.heap.size]? = some (.cells #[.int .u64 0, .int .u64 0, .int .u64 ((i : Int) + 1), .int .u64 i, .string (nm kb), .string op, .int .i64 0, .int .i64 0, .bool er, .slice A9 0 c9] 33 (0, 0)) := by
          rw [hw2.block _ (by omega)]; exact heap_alloc_new wr _
        refine ⟨?_, ?_, ?_, ?_, ?_, ?_, ?_, ?_, ?_, ?_⟩ <;> (rw [cell_of_row _ _ _ _ _ _ h]; rfl)⟩
      have hz1 : (wr.alloc (.cells #[.int .u64 0, .int .u64 0, .int .u64 ((i : Int) + 1), .int .u64 i, .string (nm kb), .string op, .int .i64 0, .int .i64 0, .bool er, .slice A9 0 c9] 33)).heap.size = wr.heap.size + 1 := by simp
      have HZ := Aside0.mk hz1
      clear hz1
      have HBB : Aside0 (∀ w2, Below (wr.heap.size + 1) (wr.alloc (.cells #[.int .u64 0, .int .u64 0, .int .u64 ((i : Int) + 1), .int .u64 i, .string (nm kb), .string op, .int .i64 0, .int .i64 0, .bool er, .slice A9 0 c9] 33)) w2 → Below w.heap.size w w2 ∧ RE w2 w.heap.size v ((edgesOf F1).map ed)) := ⟨fun w2 hb2 => by
        have h : Below wr.heap.size wr w2 := below_then BX.out (by rw [HZ.out]; omega) (by rw [HZ.out]; exact hb2)
        exact ⟨below_then B1.out B1.out.size h, Kd.R_below HO.out h⟩⟩
      by_cases hnx : i = 0 ∨ pa = kb
      · have HEQ := HSAME.out hnx
        obtain ⟨s, hs⟩ : ∃ s, (if i = 0 then Value.tuple #[.string ⟨#[]⟩, .bool false] else .tuple #[.string (nm pa), .bool (!(pa == kb))]) = .tuple #[.string s, .bool false] := by
          by_cases h0 : i = 0
          · exact ⟨_, by rw [if_pos h0]⟩
          · rcases hnx with h | h
            · exact absurd h h0
            · exact ⟨nm kb, by rw [if_neg h0, h]; simp⟩
        rw [hs] at hcall
        clear hs hnx HCNT HSAME
        go_wp2_with (first
          | (go_at_call 23; refine (hright _).mono ?_; rintro e w2 ⟨rfl, hb2⟩; rw [HZ.out] at hb2; obtain ⟨q0, q1, q2, q3, q4, q5, q6, q7, q8, q9⟩ := HW.out w2 hb2; have hz2 := Aside0.mk hb2.size)
          | (go_at_call 24; refine (hcall _ (HBB.out w2 hb2).1).mono ?_; rintro e w3 ⟨rfl, hb3⟩; have hb4 := below_then hb2 (by have := hz2.out; rw [HZ.out] at this; exact this) hb3))
        obtain ⟨h5, h6⟩ := HBB.out w3 hb4
        rw [← HEQ] at h6
        go_roundg (n - (i + 1))
        case measure => omega
        case rel => exact ⟨i + 1, v, by omega, by omega, by go_num, rfl, ⟨by rw [HF2.out]; exact h6⟩, ⟨h5⟩⟩
      · have h0 : i ≠ 0 := fun e => hnx (.inl e)
        have h1 : pa ≠ kb := fun e => hnx (.inr e)
        have hs : (if i = 0 then Value.tuple #[.string ⟨#[]⟩, .bool false] else .tuple #[.string (nm pa), .bool (!(pa == kb))]) = .tuple #[.string (nm pa), .bool true] := by
          rw [if_neg h0]
          have : (pa == kb) = false := by simpa using h1
          rw [this]; rfl
        rw [hs] at hcall
        have HC := Aside0.mk (HCNT.out pa rfl h0 h1)
        clear hs hnx HCNT HSAME h0 h1
        simp only [edgeV] at HC
        go_wp2_with (first
          | (go_at_call 23; refine (hright _).mono ?_; rintro e w2 ⟨rfl, hb2⟩; rw [HZ.out] at hb2; obtain ⟨q0, q1, q2, q3, q4, q5, q6, q7, q8, q9⟩ := HW.out w2 hb2; have hz2 := Aside0.mk hb2.size)
          | (go_at_call 24; refine (hcall _ (HBB.out w2 hb2).1).mono ?_; rintro e w3 ⟨rfl, hb3⟩; have hb4 := below_then hb2 (by have := hz2.out; rw [HZ.out] at this; exact this) hb3; clear q0 q1 q2 q3 q4 q5 q6 q7 q8 q9; obtain ⟨-, -, -, -, p4, -, -, -, p8, -⟩ := HW.out w3 hb4)
          | (go_at_call 25; refine (HC.out w3 v (HBB.out w3 hb4).1 (HBB.out w3 hb4).2).mono ?_; rintro e w4 ⟨v4, rfl, h4, hb5⟩))
        go_roundg (n - (i + 1))
        case measure => omega
        case rel => exact ⟨i + 1, v4, by omega, by omega, by go_num, rfl, ⟨by rw [HF2.out]; exact h4⟩, ⟨(HBB.out w3 hb4).1.trans hb5⟩⟩
    · obtain rfl : i = n := by omega
      have hd : decide ((i : Int) < (i : Int)) = false := by simp
      go_wp2
      go_ret
      exact ⟨_, rfl, HO.out, B1.out⟩
end Go.Proofs.Ytbfapgagmbiiaaa
