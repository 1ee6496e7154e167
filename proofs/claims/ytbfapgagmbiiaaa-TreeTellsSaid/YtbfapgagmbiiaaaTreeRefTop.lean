/- gleaningref28.Order, Depths, Sizes. -/
import Derived.Test.YtbfapgagmbiiaaaTreeRefBelow
namespace Go.Proofs.Ytbfapgagmbiiaaa
open Gl Go.RowKit Go.Proofs.YtbfapgagmbiiaaaW.PrintWords
set_option linter.unusedVariables false
set_option linter.unusedSimpArgs false

theorem below_tree (A P : Option Addr) (c d : Nat) (l : List SSpan) (hn : l.length ≤ 500000) : ∀ (f : Nat) (i deep : Int) (W : World), Kd.C kSpan W A l.length l → Kd.C (Kd.int .i64) W P l.length (Tree.parents l) → Tree.fits (Tree.kids l) l.length f i → (Tree.tree (Tree.kids l) f i deep).length ≤ 1000000 → 0 ≤ deep → deep + f ≤ 2000000 →
    Calls Try.prog 31 #[.slice A l.length c, .slice P l.length d, .int .i64 i, .int .i64 deep] W (BelowEnd W ((Tree.tree (Tree.kids l) f i deep).map (·.1)) ((Tree.tree (Tree.kids l) f i deep).map (·.2))) := by
  intro f
  induction f with
  | zero => intro i deep W _ _ h; exact h.elim
  | succ f ih =>
    intro i deep W hr hp hfit hlen hd0 hd1
    obtain ⟨⟨hi0, hi1⟩, hkids⟩ := hfit
    obtain ⟨a, rfl⟩ := Int.eq_ofNat_of_zero_le hi0
    have ha : a < l.length := by omega
    have hk := Tree.refRow_kid l ha
    rw [Tree.tree_succ, List.length_cons] at hlen
    have h := below_any A P l.length c d l (Tree.parents l) a deep (deep + 1) [(a : Int)] [deep] (fun j => Tree.tree (Tree.kids l) f j (deep + 1)) W hr hp hn (.inl ⟨by omega, rfl, rfl, rfl⟩) ⟨hd0, by omega⟩ (fun j hj W' hW => by
      rw [hk] at hj
      refine ih j (deep + 1) W' (Kd.C_below hr hW) (Kd.C_below hp hW) (hkids j hj) ?_ (by omega) (by omega)
      obtain ⟨x, y, e⟩ := Tree.forest_split (K := Tree.kids l) (f := f) hj (deep + 1)
      rw [e, List.length_append, List.length_append] at hlen
      omega) (by rw [hk]; unfold Tree.forest at hlen; omega)
    rw [hk] at h
    rw [Tree.tree_succ]
    exact h
theorem below_top (A P : Option Addr) (c d : Nat) (l : List SSpan) (hn : l.length ≤ 500000) (W : World) (hr : Kd.C kSpan W A l.length l) (hp : Kd.C (Kd.int .i64) W P l.length (Tree.parents l)) :
    Calls Try.prog 31 #[.slice A l.length c, .slice P l.length d, .int .i64 (-1), .int .i64 0] W (BelowEnd W (Tree.order l) ((Tree.wood l).map (·.2))) := by
  have hk := Tree.refRow_top l
  have hg := good l
  have h := below_any A P l.length c d l (Tree.parents l) (-1) 0 0 [] [] (fun j => Tree.tree (Tree.kids l) (l.length + 1) j 0) W hr hp hn (.inr ⟨by omega, rfl, rfl, rfl⟩) ⟨by omega, by omega⟩ (fun j hj W' hW => by
    rw [hk] at hj
    refine below_tree A P c d l hn (l.length + 1) j 0 W' (Kd.C_below hr hW) (Kd.C_below hp hW) (hg.1 j hj) ?_ (by omega) (by omega)
    obtain ⟨x, y, e⟩ := Tree.forest_split (K := Tree.kids l) (f := l.length + 1) hj 0
    have h2 := hg.2
    unfold Tree.wood at h2
    rw [e, List.length_append, List.length_append] at h2
    omega) (by
    rw [hk]
    have h2 := hg.2
    unfold Tree.wood Tree.forest at h2
    omega)
  rw [hk] at h
  exact h
set_option maxHeartbeats 2000000 in
theorem RefOrder.calls (A : Option Addr) (n c : Nat) (l : List SSpan) (w : World) (hr : Kd.C kSpan w A n l) (hn : n ≤ 500000) :
    Calls Try.prog 18 #[.slice A n c] w fun e w' => ∃ v, e = .returned v ∧ RI w' w.heap.size v (Tree.order l) ∧ Below w.heap.size w w' := by
  obtain rfl : l.length = n := hr.1
  have hp := RefParents.calls A l.length c l w hr hn
  have HR := Aside0.mk hr
  clear hr
  go_enter Try.func18, Try.ntmps18
  go_wp2_with (first
    | (go_at_call 16; refine hp.mono ?_; rintro e w1 ⟨v1, rfl, h1, hb1⟩; obtain ⟨A1, c1, rfl, -, hr1⟩ := R_readsN (n := l.length) h1 (Tree.parents_length l))
    | (go_at_call 31; refine (below_top A A1 c c1 l hn w1 (Kd.C_below HR.out hb1) hr1).mono ?_; rintro e w2 ⟨v2, v3, rfl, h2, h3, hb2⟩))
  go_ret
  exact ⟨_, rfl, Kd.R_lower h2 hb1.size, below_then hb1 hb1.size hb2⟩
theorem wood_length (l : List SSpan) : (Tree.wood l).length = l.length := by
  have h := order_length l
  unfold Tree.order at h
  rwa [List.length_map] at h
set_option maxHeartbeats 4000000 in
theorem RefDepths.calls (A : Option Addr) (n c : Nat) (l : List SSpan) (w : World) (hr : Kd.C kSpan w A n l) (hn : n ≤ 500000) :
    Calls Try.prog 19 #[.slice A n c] w fun e w' => ∃ v, e = .returned v ∧ RI w' w.heap.size v (Tree.depths l) ∧ Below w.heap.size w w' := by
  obtain rfl : l.length = n := hr.1
  have hp := RefParents.calls A l.length c l w hr hn
  have HR := Aside0.mk hr
  have hmk := run_make_row' (P := Try.prog) 22 3 (.int .i64 0) 8 Try.underlying22 info3 rfl .i64 .i64 l.length (by omega) (by omega)
  clear hr
  go_enter Try.func19, Try.ntmps19
  go_wp2_with (first
    | (go_at_call 16; refine hp.mono ?_; rintro e w1 ⟨v1, rfl, h1, hb1⟩; obtain ⟨A1, c1, rfl, -, hr1⟩ := R_readsN (n := l.length) h1 (Tree.parents_length l))
    | (go_at_call 31; refine (below_top A A1 c c1 l hn w1 (Kd.C_below HR.out hb1) hr1).mono ?_; rintro e w2 ⟨v2, v3, rfl, h2, h3, hb2⟩; obtain ⟨A2, c2, rfl, hc2, -⟩ := R_readsN (n := l.length) h2 (order_length l); obtain ⟨A3, c3, rfl, hc3, -⟩ := R_readsN (n := l.length) h3 (by rw [List.length_map, wood_length])))
  have F2 := Kd.F_mono (Kd.F_bound (Kd.R_F h2)) (fun k h => h.2)
  have F3 := Kd.F_mono (Kd.F_bound (Kd.R_F h3)) (fun k h => h.2)
  have B2 := Aside0.mk (below_then hb1 hb1.size hb2)
  have hz := B2.out.size
  have P0 : Aside0 (RI (w2.alloc (.cells (madeCells #[.int .i64 0] l.length) 3)) w2.heap.size (.slice (some ⟨w2.heap.size, 0, none⟩) l.length l.length) (Tree.setAll (List.replicate l.length 0) ((Tree.wood l).take 0))) := ⟨RI_made0 rfl hn⟩
  have G2 := Aside0.mk (Kd.F_below F2 (below_alloc (Below.refl _ _) (.cells (madeCells #[.int .i64 0] l.length) 3)))
  have G3 := Aside0.mk (Kd.F_below F3 (below_alloc (Below.refl _ _) (.cells (madeCells #[.int .i64 0] l.length) 3)))
  have BB : Aside0 (Below w2.heap.size w2 (w2.alloc (.cells (madeCells #[.int .i64 0] l.length) 3))) := ⟨below_alloc (Below.refl _ _) _⟩
  clear hp h1 hb1 hr1 h2 h3 hb2 F2 F3 hmk
  go_loopg [6] l.length (fun gg s6 wr => ∃ k : Nat, k ≤ l.length ∧ l.length - k ≤ gg ∧ s6 = .int .i64 k ∧ Aside0 (RI wr w2.heap.size (.slice (some ⟨w2.heap.size, 0, none⟩) l.length l.length) (Tree.setAll (List.replicate l.length 0) ((Tree.wood l).take k))) ∧ Aside0 (Kd.F (Kd.int .i64) wr (fun k => k < w2.heap.size) A2 l.length (Tree.order l)) ∧ Aside0 (Kd.F (Kd.int .i64) wr (fun k => k < w2.heap.size) A3 l.length ((Tree.wood l).map (·.2))) ∧ Aside0 (Below w2.heap.size w2 wr))
  case atStart => exact ⟨0, Nat.zero_le _, Nat.le_refl _, rfl, P0, G2, G3, BB⟩
  case round =>
    clear P0 G2 G3 BB
    obtain ⟨k, hk, hg, rfl, P1, G2, G3, B1⟩ := hrel
    obtain ⟨wo, rfl⟩ : ∃ wo : World, wo = wr := ⟨_, rfl⟩
    by_cases hlt : k < l.length
    · have hk1 : (k : Int) < (l.length : Int) := by omega
      obtain ⟨⟨x, y⟩, hx⟩ : ∃ x, (Tree.wood l)[k]? = some x := ⟨_, List.getElem?_eq_getElem (by rw [wood_length]; exact hlt)⟩
      have hx1 : (Tree.order l)[k]? = some x := by unfold Tree.order; rw [List.getElem?_map, hx]; rfl
      have hy1 : ((Tree.wood l).map (·.2))[k]? = some y := by rw [List.getElem?_map, hx]; rfl
      obtain ⟨hx0, hxl⟩ := order_in l x (List.mem_of_getElem? hx1)
      obtain ⟨q, rfl⟩ := Int.eq_ofNat_of_zero_le hx0
      have hql : q < l.length := by omega
      obtain ⟨a2, rfl, hc2⟩ := atN_int (Kd.F_now G2.out) k hx1
      obtain ⟨a3, rfl, hc3⟩ := atN_int (Kd.F_now G3.out) k hy1
      obtain ⟨z, -, hzc, hzf⟩ := cell_i64 P1.out q hql
      have P2 : Aside0 (RI (wo.setCell ⟨w2.heap.size, q, none⟩ (.int .i64 y)) w2.heap.size (.slice (some ⟨w2.heap.size, 0, none⟩) l.length l.length) (Tree.setAll (List.replicate l.length 0) ((Tree.wood l).take (k + 1)))) := ⟨by
        rw [Tree.take_one hx, Tree.setAll_append]
        exact put_i64 P1.out q y⟩
      have N2 : Aside0 (Kd.F (Kd.int .i64) (wo.setCell ⟨w2.heap.size, q, none⟩ (.int .i64 y)) (fun k => k < w2.heap.size) (some a2) l.length (Tree.order l)) := ⟨Kd.F_far G2.out (fun j hj e => by simp only at e; omega) _⟩
      have N3 : Aside0 (Kd.F (Kd.int .i64) (wo.setCell ⟨w2.heap.size, q, none⟩ (.int .i64 y)) (fun k => k < w2.heap.size) (some a3) l.length ((Tree.wood l).map (·.2))) := ⟨Kd.F_far G3.out (fun j hj e => by simp only at e; omega) _⟩
      have BN : Aside0 (Below w2.heap.size w2 (wo.setCell ⟨w2.heap.size, q, none⟩ (.int .i64 y))) := ⟨B1.out.setCell (Nat.le_refl _) _⟩
      clear P1 G2 G3 B1 hx hx1 hy1
      go_wp2
      go_region
      all_goals
        go_wp2
        go_roundg (l.length - (k + 1))
        case measure => omega
        case rel => exact ⟨k + 1, by omega, by omega, by go_num, ⟨Kd.R_drew P2.out⟩, ⟨Kd.F_drew N2.out⟩, ⟨Kd.F_drew N3.out⟩, ⟨below_drew BN.out⟩⟩
    · obtain rfl : k = l.length := by omega
      have hd : decide ((l.length : Int) < (l.length : Int)) = false := by simp
      have P2 : Aside0 (RI wo w.heap.size (.slice (some ⟨w2.heap.size, 0, none⟩) l.length l.length) (Tree.depths l)) := ⟨by
        have h := P1.out
        rw [← wood_length l, List.take_length, wood_length l] at h
        exact Kd.R_lower h hz⟩
      clear P1
      go_wp2
      go_ret
      exact ⟨_, rfl, P2.out, below_then B2.out hz B1.out⟩
def szTo (l : List SSpan) (k : Nat) : List Int := (Tree.sizes l).take k ++ List.replicate (l.length - k) 0
theorem szTo_zero (l : List SSpan) : szTo l 0 = List.replicate l.length 0 := by simp [szTo]
theorem szTo_all (l : List SSpan) : szTo l l.length = Tree.sizes l := by
  unfold szTo
  rw [← sizes_length l, List.take_length, Nat.sub_self]
  simp
theorem szTo_set (l : List SSpan) {k : Nat} {x : Int} (h : (Tree.sizes l)[k]? = some x) : (szTo l k).set k x = szTo l (k + 1) := by
  have hk := (List.getElem?_eq_some_iff.1 h).1
  rw [sizes_length] at hk
  unfold szTo
  rw [Tree.take_one h, show l.length - k = (l.length - (k + 1)) + 1 by omega, List.replicate_succ, List.set_append, if_neg (by rw [List.length_take, sizes_length]; omega), List.length_take, sizes_length, Nat.min_eq_left (by omega), Nat.sub_self, List.set_cons_zero, List.append_assoc]
  rfl
set_option maxHeartbeats 4000000 in
theorem RefSizes.calls (A : Option Addr) (n c : Nat) (l : List SSpan) (w : World) (hr : Kd.C kSpan w A n l) (hn : n ≤ 500000) :
    Calls Try.prog 21 #[.slice A n c] w fun e w' => ∃ v, e = .returned v ∧ RI w' w.heap.size v (Tree.sizes l) ∧ Below w.heap.size w w' := by
  obtain rfl : l.length = n := hr.1
  have hp := RefParents.calls A l.length c l w hr hn
  have HR := Aside0.mk hr
  have hmk := run_make_row' (P := Try.prog) 22 3 (.int .i64 0) 8 Try.underlying22 info3 rfl .i64 .i64 l.length (by omega) (by omega)
  clear hr
  go_enter Try.func21, Try.ntmps21
  go_wp2_with (go_at_call 16; refine hp.mono ?_; rintro e w1 ⟨v1, rfl, h1, hb1⟩; obtain ⟨A1, c1, rfl, -, hr1⟩ := R_readsN (n := l.length) h1 (Tree.parents_length l))
  have F1 := Kd.F_mono (Kd.F_bound (Kd.R_F h1)) (fun k h => h.2)
  have B0 := Aside0.mk hb1
  have hz := hb1.size
  have P0 : Aside0 (RI (w1.alloc (.cells (madeCells #[.int .i64 0] l.length) 3)) w1.heap.size (.slice (some ⟨w1.heap.size, 0, none⟩) l.length l.length) (szTo l 0)) := ⟨by rw [szTo_zero]; exact RI_made0 rfl hn⟩
  have G1 := Aside0.mk (Kd.F_below F1 (below_alloc (Below.refl _ _) (.cells (madeCells #[.int .i64 0] l.length) 3)))
  have BB : Aside0 (Below w1.heap.size w1 (w1.alloc (.cells (madeCells #[.int .i64 0] l.length) 3))) := ⟨below_alloc (Below.refl _ _) _⟩
  clear hp h1 hb1 hr1 F1 hmk
  go_loopg [5] l.length (fun gg s5 wr => ∃ k : Nat, k ≤ l.length ∧ l.length - k ≤ gg ∧ s5 = .int .i64 k ∧ Aside0 (RI wr w1.heap.size (.slice (some ⟨w1.heap.size, 0, none⟩) l.length l.length) (szTo l k)) ∧ Aside0 (Kd.F (Kd.int .i64) wr (fun k => k < w1.heap.size) A1 l.length (Tree.parents l)) ∧ Aside0 (Below w1.heap.size w1 wr))
  case atStart => exact ⟨0, Nat.zero_le _, Nat.le_refl _, rfl, P0, G1, BB⟩
  case round =>
    clear P0 G1 BB
    obtain ⟨k, hk, hg, rfl, P1, G1, B1⟩ := hrel
    obtain ⟨wo, rfl⟩ : ∃ wo : World, wo = wr := ⟨_, rfl⟩
    by_cases hlt : k < l.length
    · have hk1 : (k : Int) < (l.length : Int) := by omega
      have hin : Tree.In l.length (k : Int) := ⟨by omega, by omega⟩
      have hK := kids_ok l
      obtain ⟨f, d, pre, post, ha⟩ := Tree.at_all hK hin
      have hs := Tree.at_size hK ha (S := List.replicate l.length 0) (by simp)
      rw [← sizes_eq, Int.toNat_natCast, Tree.tree_length _ _ _ _ 0] at hs
      have hwl := wood_length l
      have hwk : (Tree.wood l) = pre ++ Tree.tree (Tree.kids l) (f + 1) k d ++ post := ha.walk
      rw [hwk, List.length_append, List.length_append, Tree.tree_length _ _ _ _ 0] at hwl
      have hdf := ha.deep
      have hc := below_tree A A1 c c1 l hn (f + 1) k 0 wo (Kd.C_below (Kd.C_below HR.out B0.out) B1.out) (Kd.F_now G1.out) ha.fit (by omega) (Int.le_refl _) (by omega)
      generalize hL : (Tree.tree (Tree.kids l) (f + 1) (k : Int) 0) = TT at hs hc hwl
      have HS := Aside0.mk hs
      have P9 := P1.out
      clear hL hs ha hK hin hwk hdf
      go_wp2_with (go_at_call 31; refine hc.mono ?_; rintro e w2 ⟨v2, v3, rfl, h2, h3, hb2⟩; obtain ⟨A2, c2, rfl, hc2, -⟩ := R_readsN (n := TT.length) h2 (by simp); obtain ⟨z, -, hzc, hzf⟩ := cell_i64 (Kd.R_below P9 hb2) k hlt)
      have P2 : Aside0 (RI (w2.setCell ⟨w1.heap.size, k, none⟩ (.int .i64 (TT.length : Int))) w1.heap.size (.slice (some ⟨w1.heap.size, 0, none⟩) l.length l.length) (szTo l (k + 1))) := ⟨by
        rw [← szTo_set l HS.out]
        exact put_i64 (Kd.R_below P9 hb2) k _⟩
      have N1 : Aside0 (Kd.F (Kd.int .i64) (w2.setCell ⟨w1.heap.size, k, none⟩ (.int .i64 (TT.length : Int))) (fun k => k < w1.heap.size) A1 l.length (Tree.parents l)) := ⟨Kd.F_far (Kd.F_below G1.out hb2) (fun j hj e => by simp only at e; omega) _⟩
      have BN : Aside0 (Below w1.heap.size w1 (w2.setCell ⟨w1.heap.size, k, none⟩ (.int .i64 (TT.length : Int)))) := ⟨(below_then B1.out B1.out.size hb2).setCell (Nat.le_refl _) _⟩
      clear h2 h3 hb2 P9 P1 G1
      go_roundg (l.length - (k + 1))
      case measure => omega
      case rel => exact ⟨k + 1, by omega, by omega, by go_num, P2, N1, BN⟩
    · obtain rfl : k = l.length := by omega
      have hd : decide ((l.length : Int) < (l.length : Int)) = false := by simp
      have P2 : Aside0 (RI wo w.heap.size (.slice (some ⟨w1.heap.size, 0, none⟩) l.length l.length) (Tree.sizes l)) := ⟨by
        have h := P1.out
        rw [szTo_all] at h
        exact Kd.R_lower h hz⟩
      clear P1
      go_wp2
      go_ret
      exact ⟨_, rfl, P2.out, below_then B0.out hz B1.out⟩
end Go.Proofs.Ytbfapgagmbiiaaa
