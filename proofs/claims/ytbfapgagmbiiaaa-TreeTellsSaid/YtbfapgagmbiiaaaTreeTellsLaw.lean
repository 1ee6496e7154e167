/- gleaninglaw29.TreeTells answers true. -/
import Derived.Test.YtbfapgagmbiiaaaTreeRefTop
import Derived.Test.YtbfapgagmbiiaaaTreeSame
import Derived.Test.YtbfapgagmbiiaaaTreeAlive
import Derived.Test.YtbfapgagmbiiaaaTreeFewAll
namespace Go.Proofs.Ytbfapgagmbiiaaa
open Gl Go.RowKit Go.Proofs.YtbfapgagmbiiaaaW.PrintWords
set_option linter.unusedVariables false
set_option linter.unusedSimpArgs false

theorem kSpan_heap : Kd.Heap kSpan := Kd.heap_iso _ (Kd.heap_pair (Kd.heap_iso _ (Kd.heap_pair (Kd.heap_int .u64) (Kd.heap_int .u64))) (Kd.heap_pair (Kd.heap_int .u64) (Kd.heap_pair (Kd.heap_int .u64) (Kd.heap_pair Kd.heap_string (Kd.heap_pair Kd.heap_string (Kd.heap_pair (Kd.heap_int .i64) (Kd.heap_pair (Kd.heap_int .i64) (Kd.heap_pair Kd.heap_bool (Kd.heap_slice 69 (Kd.heap_iso _ (Kd.heap_pair Kd.heap_string Kd.heap_string)))))))))))
/-- append(nil, l...) of spans that are read: behind 'at_builtin'. -/
theorem dup_span {ops : Array Oper} {rest : List Oper} {o : Oper} {a : Act} {Q : Exit → Act → World → Prop} {W : World} (hgd : o.guard = none) (s x : Operand)
    (ho : o.op = .call { callee := .builtin .append, args := #[s, x], argTypes := #[25, 25] }) (ys : List SSpan) (A : Option Addr) (m c : Nat) (hs : a.eval s = .slice none 0 0) (hx : a.eval x = .slice A m c)
    (HR : Kd.C kSpan W A m ys) (hl : m * 112 ≤ 140737488355328)
    (h : ∀ A1 c1 w1, Kd.C kSpan w1 A1 m ys → Below W.heap.size W w1 → wpList Try.prog ops Q rest (a.put o.dst (.slice A1 m c1)) w1) :
    wpList Try.prog ops Q (o :: rest) a W :=
  Kd.N_append_rows kSpan (w0 := W) W.heap.size hgd s x 25 33 _ 112 ho Try.underlying25 info33 rfl (by decide) (by decide) (.slice none 0 0) [] ys A m c (fun _ => True) (fun k => k < W.heap.size) hs hx (Kd.N_nil _ _ _ _ _) (Kd.C_F kSpan_heap HR) (fun k _ => ⟨trivial, fun e => by simp [Value.ownBlock] at e⟩) (fun _ _ => trivial) (Below.refl _ _) (Nat.le_refl _) (by simpa using hl)
    fun v1 w1 h1 hb hg hat => by
      obtain ⟨A1, c1, rfl, -, h2⟩ := Kd.N_reads h1
      have e : ([] ++ ys).length = m := by rw [List.nil_append]; exact HR.1
      rw [e, List.nil_append] at h2
      rw [e]
      exact h A1 c1 w1 h2 hb

set_option maxHeartbeats 8000000 in
set_option maxRecDepth 100000 in
theorem TreeTells.calls (A : Option Addr) (n c : Nat) (l : List SSpan) (w : World) (hr : Kd.C kSpan w A n l) :
    Calls Try.prog 5 #[.slice A n c] w fun e w' => e = .returned (.bool true) ∧ Below w.heap.size w w' := by
  obtain rfl : l.length = n := hr.1
  have HR := Aside0.mk hr
  have hal := Aside0.mk (alive.calls w)
  have hfew : Aside0 (∀ W, Below w.heap.size w W → Calls Try.prog 14 #[.slice A l.length c] W (TellsFew l.length W)) := ⟨fun W hW => FewAll.calls A l.length c l W (Kd.C_below hr hW)⟩
  clear hr
  by_cases h60 : 60 < l.length
  · go_enter Try.func5, Try.ntmps5
    go_wp2_with (first | (go_at_call 11; refine hal.out.mono ?_; rintro e w1 ⟨rfl, hb1⟩) | (go_at_call 14; refine (hfew.out _ hb1).mono ?_; rintro e w2 ⟨b, rfl, hb, hb2⟩; obtain rfl : b = false := (by cases b with | false => rfl | true => exact absurd (hb rfl) (by omega))))
    go_ret
    exact ⟨rfl, below_then hb1 hb1.size hb2⟩
  have hn : l.length ≤ 60 := by omega
  have hn5 : l.length ≤ 500000 := by omega
  clear h60
  go_enter Try.func5, Try.ntmps5
  go_upto_region 4 with (first | (go_at_call 11; refine hal.out.mono ?_; rintro e w1 ⟨rfl, hb1⟩) | (go_at_call 14; refine (hfew.out _ hb1).mono ?_; rintro e w2 ⟨b, rfl, hb, hb2⟩; have hbb := below_then hb1 hb1.size hb2; cases b))
  · go_ret
    exact ⟨rfl, hbb⟩
  have B2 := Aside0.mk hbb
  clear hal hfew hb hbb hb1 hb2
  go_upto_region 5 with (at_builtin; refine dup_span rfl _ _ rfl l A l.length c rfl rfl (Kd.C_below HR.out B2.out) (by omega) ?_; intro A3 c3 w3 hx3 hb3)
  have HX := Aside0.mk hx3
  have B3 := Aside0.mk (below_then B2.out B2.out.size hb3)
  clear hx3 hb3 B2
  have hn8 : l.length * 8 ≤ 140737488355328 := by omega
  go_wp2_with (first
    | (go_at_call 12; refine (Parents.calls A3 l.length c3 l _ (Kd.C_below HX.out (Below.refl _ _)) hn8).mono ?_; rintro e w4 ⟨v4, rfl, h4, hb4⟩; obtain ⟨A4, c4, rfl, -, -⟩ := R_readsN (n := l.length) h4 (Tree.parents_length l); have B4 := Aside0.mk (below_then B3.out B3.out.size hb4))
    | (go_at_call 16; refine (RefParents.calls A l.length c l _ (Kd.C_below HR.out B4.out) hn5).mono ?_; rintro e w5 ⟨v5, rfl, h5, hb5⟩; obtain ⟨A5, c5, rfl, -, r5⟩ := R_readsN (n := l.length) h5 (Tree.parents_length l); have r4 := Kd.F_now (Kd.F_below (Kd.R_F h4) hb5))
    | (go_at_call 15; refine (same.calls A4 A5 l.length c4 c5 _ w5 r4 r5).mono ?_; rintro e w5' ⟨rfl, q5, rfl⟩))
  have B5 := Aside0.mk (pw_below_drewN (below_then B4.out B4.out.size hb5) q5)
  have D5 : Aside0 (Below w3.heap.size w3 (w5.drewN q5)) := ⟨pw_below_drewN (below_then (below_then (Below.refl _ _) (Nat.le_refl _) hb4) (by have h1 := Nat.le_refl w3.heap.size; have h2 := hb4.size; omega) hb5) q5⟩
  clear h4 h5 hb4 hb5 r4 r5 B4
  go_wp2_with (first
    | (go_at_call 17; refine (Order.calls A3 l.length c3 l _ (Kd.C_below HX.out D5.out) hn5 (good l)).mono ?_; rintro e w6 ⟨v6, rfl, h6, hb6⟩; obtain ⟨A6, c6, rfl, -, -⟩ := R_readsN (n := l.length) h6 (order_length l); have B6 := Aside0.mk (below_then B5.out B5.out.size hb6))
    | (go_at_call 18; refine (RefOrder.calls A l.length c l _ (Kd.C_below HR.out B6.out) hn5).mono ?_; rintro e w7 ⟨v7, rfl, h7, hb7⟩; obtain ⟨A7, c7, rfl, -, r7⟩ := R_readsN (n := l.length) h7 (order_length l); have r6 := Kd.F_now (Kd.F_below (Kd.R_F h6) hb7))
    | (go_at_call 15; refine (same.calls A6 A7 l.length c6 c7 _ w7 r6 r7).mono ?_; rintro e w7' ⟨rfl, q7, rfl⟩))
  have B7 := Aside0.mk (pw_below_drewN (below_then B6.out B6.out.size hb7) q7)
  have D7 : Aside0 (Below w3.heap.size w3 (w7.drewN q7)) := ⟨pw_below_drewN (below_then (below_then D5.out D5.out.size hb6) (by have h1 := D5.out.size; have h2 := hb6.size; omega) hb7) q7⟩
  clear h6 h7 hb6 hb7 r6 r7 B6
  go_wp2_with (first
    | (go_at_call 13; refine (Depths.calls A3 l.length c3 l _ (Kd.C_below HX.out D7.out) hn5 (good l)).mono ?_; rintro e w8 ⟨v8, rfl, h8, hb8⟩; obtain ⟨A8, c8, rfl, -, -⟩ := R_readsN (n := l.length) h8 (depths_length l); have B8 := Aside0.mk (below_then B7.out B7.out.size hb8))
    | (go_at_call 19; refine (RefDepths.calls A l.length c l _ (Kd.C_below HR.out B8.out) hn5).mono ?_; rintro e w9 ⟨v9, rfl, h9, hb9⟩; obtain ⟨A9, c9, rfl, -, r9⟩ := R_readsN (n := l.length) h9 (depths_length l); have r8 := Kd.F_now (Kd.F_below (Kd.R_F h8) hb9))
    | (go_at_call 15; refine (same.calls A8 A9 l.length c8 c9 _ w9 r8 r9).mono ?_; rintro e w9' ⟨rfl, q9, rfl⟩))
  have B9 := Aside0.mk (pw_below_drewN (below_then B8.out B8.out.size hb9) q9)
  have D9 : Aside0 (Below w3.heap.size w3 (w9.drewN q9)) := ⟨pw_below_drewN (below_then (below_then D7.out D7.out.size hb8) (by have h1 := D7.out.size; have h2 := hb8.size; omega) hb9) q9⟩
  clear h8 h9 hb8 hb9 r8 r9 B8
  go_wp2_with (first
    | (go_at_call 20; refine (Sizes.calls A3 l.length c3 l _ (Kd.C_below HX.out D9.out) hn5 (good l)).mono ?_; rintro e w10 ⟨v10, rfl, h10, hb10⟩; obtain ⟨A10, c10, rfl, -, -⟩ := R_readsN (n := l.length) h10 (sizes_length l); have B10 := Aside0.mk (below_then B9.out B9.out.size hb10))
    | (go_at_call 21; refine (RefSizes.calls A l.length c l _ (Kd.C_below HR.out B10.out) hn5).mono ?_; rintro e w11 ⟨v11, rfl, h11, hb11⟩; obtain ⟨A11, c11, rfl, -, r11⟩ := R_readsN (n := l.length) h11 (sizes_length l); have r10 := Kd.F_now (Kd.F_below (Kd.R_F h10) hb11))
    | (go_at_call 15; refine (same.calls A10 A11 l.length c10 c11 _ w11 r10 r11).mono ?_; rintro e w11' ⟨rfl, q11, rfl⟩))
  go_ret
  exact ⟨rfl, pw_below_drewN (below_then B10.out B10.out.size hb11) q11⟩
end Go.Proofs.Ytbfapgagmbiiaaa
