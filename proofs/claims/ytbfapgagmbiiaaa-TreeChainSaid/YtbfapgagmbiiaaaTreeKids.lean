/- tree.Kids comes to its plain function. -/
import Derived.Test.YtbfapgagmbiiaaaTreeRows
import Derived.Test.YtbfapgagmbiiaaaTreeKidsPl
import Derived.Test.YtbfapgagmbiiaaaTreeParents
namespace Go.Proofs.Ytbfapgagmbiiaaa
open Gl Go.RowKit Go.Proofs.YtbfapgagmbiiaaaW.PrintWords
set_option linter.unusedVariables false
set_option linter.unusedSimpArgs false

set_option maxHeartbeats 1000000 in
theorem SortStable_nil.calls (f : FuncId) (lb : Array Value) (w : World) : Calls Try.prog 49 #[.slice none 0 0, .func (.func f) #[] lb] w fun e w' => e = .returned (.tuple #[]) ∧ w = w' := by
  have hi : Calls Try.prog 58 #[.slice none 0 0, .int .i64 0, .int .i64 0, .func (.func f) #[] lb] w fun e w' => e = .returned (.tuple #[]) ∧ w = w' := by
    go_enter Try.func58, Try.ntmps58
    go_wp2
    go_loopg [8] 0 (fun gg s5 wr => s5 = .int .i64 1 ∧ w = wr)
    case atStart => exact ⟨rfl, rfl⟩
    case round =>
      obtain ⟨rfl, rfl⟩ := hrel
      go_wp2
      go_end0
      exact ⟨rfl, rfl⟩
  have hs : Calls Try.prog 55 #[.slice none 0 0, .int .i64 0, .func (.func f) #[] lb] w fun e w' => e = .returned (.tuple #[]) ∧ w = w' := by
    go_enter Try.func55, Try.ntmps55
    go_wp2
    go_loopg [7, 8] 0 (fun gg s7 s8 wr => s7 = .int .i64 0 ∧ s8 = .int .i64 20 ∧ w = wr)
    case atStart => exact ⟨rfl, rfl, rfl⟩
    case round =>
      obtain ⟨rfl, rfl, rfl⟩ := hrel
      go_wp2_with (go_at_call 58; refine hi.mono ?_; rintro e w2 ⟨rfl, rfl⟩)
      go_loopg [6, 7, 8, 9] 0 (fun gg s6 s7 s8 s9 wr => s6 = .int .i64 20 ∧ w = wr)
      case atStart => exact ⟨rfl, rfl⟩
      case round =>
        obtain ⟨rfl, rfl⟩ := hrel
        go_wp2
        go_end0
        exact ⟨rfl, rfl⟩
  go_enter Try.func49, Try.ntmps49
  go_wp2_with (go_at_call 55; refine hs.mono ?_; rintro e w2 ⟨rfl, rfl⟩)
  go_end0
  exact ⟨rfl, rfl⟩

theorem RI_raise {W : World} {b b' : Nat} {v : Value} {k : List Int} (h : RI W b v k) (hb : ∀ g, v.ownBlock = some g → b' ≤ g) : RI W b' v k := by
  obtain ⟨h0, inner, ho, hr⟩ := h
  refine ⟨h0, inner, ?_, hr⟩
  obtain ⟨h1, h2⟩ := ho
  refine ⟨h1, ?_⟩
  rcases h2 with h2 | ⟨g, cap, cur, rfl, _, r⟩
  · exact .inl h2
  · exact .inr ⟨g, cap, cur, rfl, hb g (by simp [Value.ownBlock]), r⟩
theorem RI_box {W : World} {base bx : Nat} {v : Value} {k : List Int} {cs : Array Value} (h : RI W base v k) (hb : W.heap[bx]? = some (.cells cs 25 (0, 0))) : ∀ b, v.ownBlock = some b → b ≠ bx := by
  rintro b hb' rfl
  obtain ⟨c1, h1⟩ := Kd.R_typed h b hb'
  rw [h1] at hb
  injection hb with hb
  injection hb with _ hb
  exact absurd hb (by decide)
theorem KInv.store_ok {W w1 : World} {base g cap m p : Nat} {vs : List Value} {ks : List (List Int)} {v : Value} {k : List Int} (h : KInv W base g cap m vs ks) (hv : vs[p]? = some v) (hk : ks[p]? = some k) (hg : W.grownBy w1 v.ownBlock) :
    w1.cell? ⟨g, p, none⟩ = some v ∧ w1.frozen? ⟨g, p, none⟩ = false := by
  have hp : p < m := by rw [← h.lv]; exact (List.getElem?_eq_some_iff.1 hv).1
  have hg1 : w1.ownsRow base 22 1 (.slice (some ⟨g, 0, none⟩) m cap) m vs := own_other h.out hg (.inr (fun e => RI_type (h.inner p v k hv hk) h.out (by rw [← e]; simp [Value.ownBlock])))
  exact ⟨by rw [hg1.cellAt p (by omega)]; exact hv, hg1.frozenAt p⟩
theorem made_nil {m : Nat} {v : Value} (h : v ∈ (madeCells #[Value.slice none 0 0] m).toList) : v = .slice none 0 0 := by
  obtain ⟨j, hj, hv⟩ := List.mem_iff_getElem.1 h
  rw [← hv]
  simp [madeCells, Nat.mod_one]
def Tree.kids (l : List SSpan) : List (List Int) := Tree.sortedTo (ltOf (cfOf l)) (Tree.rows (Tree.parents l) l.length (l.length + 1) l.length) (l.length + 1)
/-- One row is sorted where it lies. -/
theorem Kids_row.calls (A : Option Addr) (n c : Nat) (l : List SSpan) (bx : Nat) (w : World) (hr : Kd.C kSpan w A n l) (hn : n ≤ 1000000) (W : World) (hBW : Below w.heap.size w W) (hbl : w.heap.size ≤ bx ∧ bx < W.heap.size) (o : Obj) (hbx : W.heap[bx]? = some o)
    (hcell : ∀ W1 : World, W1.heap[bx]? = some o → W1.cell? ⟨bx, 0, none⟩ = some (.slice A n c)) (v : Value) (k : List Int) (hk : ∀ y ∈ k, 0 ≤ y ∧ y < n) (hkl : k.length ≤ n) (hv : RI W w.heap.size v k) (hne : ∀ b, v.ownBlock = some b → b ≠ bx) :
    Calls Try.prog 49 #[v, .func (.func 50) #[] #[.pointer (some ⟨bx, 0, none⟩)]] W fun e w' => e = .returned (.tuple #[]) ∧ RI w' w.heap.size v (Sort.isort (ltOf (cfOf l)) k) ∧ W.grownBy w' v.ownBlock := by
  obtain ⟨inner, ho⟩ := Kd.R_own hv
  rcases ho.2 with ⟨rfl, h2⟩ | ⟨g, cap, cur, rfl, hb, hg, _⟩
  · have : k = [] := by
      have h3 := (Kd.R_reads' hv).1
      exact List.length_eq_zero_iff.1 h3.symm
    subst this
    refine (SortStable_nil.calls _ _ W).mono ?_
    rintro e w1 ⟨rfl, rfl⟩
    exact ⟨rfl, hv, World.grownBy.refl _ _⟩
  · have hlen := (Kd.R_reads' hv).1
    have hgg : w.heap.size ≤ g := Kd.R_base hv g (by simp [Value.ownBlock])
    refine (SortStable_int.calls _ _ (fun a => 0 ≤ a ∧ a < n) (cfOf l) W W g cap k.length ?_ (fun _ _ => rfl) (swo_start l _) (by omega) k hk ⟨Kd.R_lower (by simpa [hlen] using hv) (Nat.zero_le _), World.grownBy.refl _ _⟩).mono ?_
    · intro W1 hW1 a b ha hb
      refine Kids_cmp.calls A n c l bx W1 (Kd.C_below hr (hBW.grown hW1 hBW.size (fun k hk => by injection hk with hk; omega))) (by omega) (hcell W1 ?_) a b ha hb
      rw [hW1.block bx hbl.2 (by intro e; injection e with e; exact hne g (by simp [Value.ownBlock]) e.symm), hbx]
    · rintro e w1 ⟨rfl, h1, h2⟩
      refine ⟨rfl, ?_, h2⟩
      rw [← hlen] at h1
      exact RI_raise h1 (fun b hb => Kd.R_base hv b hb)
set_option maxHeartbeats 8000000 in
theorem Kids.calls (A : Option Addr) (n c : Nat) (l : List SSpan) (w : World) (hr : Kd.C kSpan w A n l) (hn : n ≤ 1000000) :
    Calls Try.prog 40 #[.slice A n c] w fun e w' => ∃ g vs, e = .returned (.slice (some ⟨g, 0, none⟩) (n + 1) (n + 1)) ∧ KInv w' w.heap.size g (n + 1) (n + 1) vs (Tree.kids l) ∧ Below w.heap.size w w' := by
  obtain rfl : l.length = n := hr.1
  have HR := Aside0.mk hr
  have hmk := run_make_row' (P := Try.prog) 53 22 (.slice none 0 0) 24 Try.underlying53 info22 rfl .i64 .i64 (l.length + 1) (by omega) (by omega)
  rw [show (((l.length + 1 : Nat)) : Int) = (l.length : Int) + 1 by omega] at hmk
  clear hr
  go_enter Try.func40, Try.ntmps40
  have K0 : Aside0 (KInv ((w.alloc (.cells #[.slice A l.length c] 25)).alloc (.cells (madeCells #[.slice none 0 0] (l.length + 1)) 22)) w.heap.size (w.heap.size + 1) (l.length + 1) (l.length + 1) (madeCells #[.slice none 0 0] (l.length + 1)).toList (Tree.rows (Tree.parents l) l.length (l.length + 1) 0)) := by
    have h := KInv.start (w.alloc (.cells #[.slice A l.length c] 25)) w.heap.size (l.length + 1) (by simp) (by omega)
    rw [Tree.rows_zero]
    simpa using Aside0.mk h
  have B0 : Aside0 (Below w.heap.size w ((w.alloc (.cells #[.slice A l.length c] 25)).alloc (.cells (madeCells #[.slice none 0 0] (l.length + 1)) 22))) := ⟨below_alloc (below_alloc (Below.refl _ _) _) _⟩
  have X0 : Aside0 (((w.alloc (.cells #[.slice A l.length c] 25)).alloc (.cells (madeCells #[.slice none 0 0] (l.length + 1)) 22)).heap[w.heap.size]? = some (.cells #[.slice A l.length c] 25 (0, 0))) := ⟨heap_alloc2_old _ _ _⟩
  have Z0 : Aside0 (w.heap.size + 2 = ((w.alloc (.cells #[.slice A l.length c] 25)).alloc (.cells (madeCells #[.slice none 0 0] (l.length + 1)) 22)).heap.size) := ⟨by simp⟩
  have hcell : ∀ W1 : World, W1.heap[w.heap.size]? = some (.cells #[.slice A l.length c] 25 (0, 0)) → W1.cell? ⟨w.heap.size, 0, none⟩ = some (.slice A l.length c) := fun W1 h => by
    rw [cell_of_row W1 w.heap.size 0 _ _ _ h]
    rfl
  have hc := Parents.calls A l.length c l ((w.alloc (.cells #[.slice A l.length c] 25)).alloc (.cells (madeCells #[.slice none 0 0] (l.length + 1)) 22)) (Kd.C_below HR.out B0.out) (by omega)
  go_wp2_with (go_at_call 12; refine hc.mono ?_; rintro e w1 ⟨v1, rfl, h1, hb1⟩; obtain ⟨A3, c3, rfl, hc3, hr3⟩ := R_readsN (n := l.length) h1 (Tree.parents_length l))
  have P1 : Aside0 (Kd.F (Kd.int .i64) w1 (fun k => w.heap.size + 2 ≤ k ∧ k < w1.heap.size) A3 l.length (Tree.parents l)) := ⟨Kd.F_mono (Kd.R_F (Kd.R_bound h1)) (fun k h => ⟨by rw [Z0.out]; exact h.2.1, h.2.2.1⟩)⟩
  have K1 := Aside0.mk (K0.out.below hb1)
  have B1 := Aside0.mk (below_then B0.out (by have := Z0.out; omega) hb1)
  have X1 : Aside0 (w1.heap[w.heap.size]? = some (.cells #[.slice A l.length c] 25 (0, 0))) := ⟨by rw [hb1.block _ (by have := Z0.out; omega)]; exact X0.out⟩
  have B1' := Aside0.mk B1.out.size
  clear K0 B0 X0 Z0 hc h1 hb1 hr3
  go_loopg [15] l.length (fun gg s15 wr => ∃ (k : Nat) (vs : List Value), k ≤ l.length ∧ l.length - k ≤ gg ∧ s15 = .int .i64 k ∧ Aside0 (KInv wr w.heap.size (w.heap.size + 1) (l.length + 1) (l.length + 1) vs (Tree.rows (Tree.parents l) l.length (l.length + 1) k)) ∧ Aside0 (Below w.heap.size w wr) ∧ Aside0 (wr.heap[w.heap.size]? = some (.cells #[.slice A l.length c] 25 (0, 0))) ∧ Aside0 (Kd.F (Kd.int .i64) wr (fun k => w.heap.size + 2 ≤ k ∧ k < w1.heap.size) A3 l.length (Tree.parents l)) ∧ Aside0 (w1.heap.size ≤ wr.heap.size ∧ ∀ v, v ∈ vs → ∀ b, v.ownBlock = some b → w1.heap.size ≤ b))
  case atStart => exact ⟨0, _, Nat.zero_le _, Nat.le_refl _, rfl, K1, B1, X1, P1, ⟨Nat.le_refl _, fun v hv b hb => by rw [made_nil hv] at hb; cases hb⟩⟩
  case round =>
    clear K1 B1 X1 P1
    obtain ⟨k, vs, hk, hg, rfl, K1, B1, X1, P1, S1⟩ := hrel
    by_cases hlt : k < l.length
    · obtain ⟨x, hx⟩ : ∃ x, (Tree.parents l)[k]? = some x := ⟨_, List.getElem?_eq_getElem (by rw [Tree.parents_length]; exact hlt)⟩
      obtain ⟨ad, rfl, hcx⟩ := atN_int (Kd.F_now P1.out) k hx
      have HX : Aside0 ((Tree.parents l).getD k 0 = x) := ⟨by rw [List.getD_eq_getElem?_getD, hx]; rfl⟩
      have HOK := Aside0.mk (Tree.parents_ok l x (List.mem_of_getElem? hx))
      have HN := Aside0.mk hn
      have hk1 : (k : Int) < (l.length : Int) := by omega
      clear hx
      obtain ⟨p, hp, hps⟩ : ∃ p : Nat, p < l.length + 1 ∧ Aside0 (p = Tree.spot l.length x) := ⟨Tree.spot l.length x, by
        unfold Tree.spot
        split
        · omega
        · have h := HOK.out; have h2 := Tree.parents_length l; omega, ⟨rfl⟩⟩
      have hp1 : (p : Int) < (l.length : Int) + 1 := by omega
      obtain ⟨v, hv⟩ : ∃ v, vs[p]? = some v := ⟨_, List.getElem?_eq_getElem (by rw [K1.out.lv]; exact hp)⟩
      have hkp : (Tree.rows (Tree.parents l) l.length (l.length + 1) k)[p]? = some (Tree.rowOf (Tree.parents l) l.length k p) := Tree.rows_get hp
      have RV := Aside0.mk (K1.out.inner p v _ hv hkp)
      obtain ⟨hcv, hfv⟩ := K1.out.cell hv
      have hlen : Aside0 (((Tree.rowOf (Tree.parents l) l.length k p).length + 1) * 8 ≤ 140737488355328) := ⟨by have := Tree.rowOf_length (Tree.parents l) l.length k p; omega⟩
      have NXT : ∀ v2 w2, RI w2 w.heap.size v2 (Tree.rowOf (Tree.parents l) l.length k p ++ [(k : Int)]) → wr.grownBy w2 v.ownBlock → (v2.ownBlock = v.ownBlock ∨ ∃ b, v2.ownBlock = some b ∧ wr.heap.size ≤ b) →
          (∃ A2 m2 c2, v2 = .slice A2 m2 c2) ∧ (w2.cell? ⟨w.heap.size + 1, p, none⟩ = some v ∧ w2.frozen? ⟨w.heap.size + 1, p, none⟩ = false) ∧ KInv (w2.setCell ⟨w.heap.size + 1, p, none⟩ v2) w.heap.size (w.heap.size + 1) (l.length + 1) (l.length + 1) (vs.set p v2) (Tree.rows (Tree.parents l) l.length (l.length + 1) (k + 1)) ∧
          Below w.heap.size w (w2.setCell ⟨w.heap.size + 1, p, none⟩ v2) ∧ (w2.setCell ⟨w.heap.size + 1, p, none⟩ v2).heap[w.heap.size]? = some (.cells #[.slice A l.length c] 25 (0, 0)) ∧
          Kd.F (Kd.int .i64) (w2.setCell ⟨w.heap.size + 1, p, none⟩ v2) (fun k => w.heap.size + 2 ≤ k ∧ k < w1.heap.size) (some ad) l.length (Tree.parents l) ∧ w1.heap.size ≤ (w2.setCell ⟨w.heap.size + 1, p, none⟩ v2).heap.size ∧ (∀ u, u ∈ vs.set p v2 → ∀ b, u.ownBlock = some b → w1.heap.size ≤ b) := by
        intro v2 w2 h2 hg2 hat2
        have hK := K1.out.app hv hkp h2 hg2 hat2
        rw [Tree.rows_set hp (by rw [HX.out, ← hps.out])] at hK
        have hnb := RI_box RV.out X1.out
        have hvb : ∀ b, v.ownBlock = some b → w1.heap.size ≤ b := S1.out.2 v (List.mem_of_getElem? hv)
        have hbs := B1.out.size
        refine ⟨⟨_, _, _, (Kd.R_form h2 (by simp)).choose_spec.choose_spec.1⟩, K1.out.store_ok hv hkp hg2, hK, (B1.out.grown hg2 B1.out.size (Kd.R_base RV.out)).setCell (by simp) _, ?_, ?_, ?_, ?_⟩
        · rw [Below.heap_setCell _ _ _ _ (by simp), hg2.block _ (by have := (List.getElem?_eq_some_iff.1 (show wr.heap.toList[w.heap.size]? = _ from by rw [Array.getElem?_toList]; exact X1.out)).1; simpa using this) (fun e => hnb _ e.symm rfl)]
          exact X1.out
        · exact Kd.F_far (Kd.F_step P1.out (fun j hj hl => hg2.block j hl (fun e => by have := hvb j e.symm; omega))) (fun j hj => by simp only; omega) _
        · have h3 := hg2.size
          have h4 := S1.out.1
          simpa using Nat.le_trans h4 h3
        · intro u hu b hb
          rcases List.mem_or_eq_of_mem_set hu with hu | rfl
          · exact S1.out.2 u hu b hb
          · rcases hat2 with e | ⟨b', e, hle⟩
            · exact hvb b (by rw [← e]; exact hb)
            · rw [e] at hb
              injection hb with hb
              have h4 := S1.out.1
              omega
      have hbxc := hcell wr X1.out
      clear K1 B1 X1 P1
      have HNXT := Aside0.mk NXT
      have HRV := RV.out
      clear NXT RV
      have hwx : w.heap.size ≤ wr.heap.size := by have := S1.out.1; have := B1'.out; omega
      by_cases hx1 : x = -1
      · have hd : (x == (-1 : Int)) = true := by simpa using hx1
        have hpn : p = l.length := by rw [hps.out, hx1]; rfl
        subst hpn
        go_wp2_with (at_builtin; refine app_i64 rfl (.tmp 29) (.tmp 31) rfl v _ (k : Int) rfl rfl w.heap.size HRV hwx hlen.out ?_; intro v2 w2 h2 hg2 hat2; obtain ⟨⟨A2, m2, c2, rfl⟩, ⟨hcs, hfs⟩, hK, hB, hX, hP, hS⟩ := HNXT.out v2 w2 h2 hg2 hat2)
        go_roundg (l.length - (k + 1))
        case measure => omega
        case rel => exact ⟨k + 1, _, by omega, by omega, by go_num, ⟨hK⟩, ⟨hB⟩, ⟨hX⟩, ⟨hP⟩, ⟨hS⟩⟩
      · have hd : (x == (-1 : Int)) = false := by simpa using hx1
        have hpx : x = (p : Int) := by have h := HOK.out; rw [hps.out]; unfold Tree.spot; rw [if_neg hx1]; omega
        subst hpx
        go_wp2_with (at_builtin; refine app_i64 rfl (.tmp 29) (.tmp 31) rfl v _ (k : Int) rfl rfl w.heap.size HRV hwx hlen.out ?_; intro v2 w2 h2 hg2 hat2; obtain ⟨⟨A2, m2, c2, rfl⟩, ⟨hcs, hfs⟩, hK, hB, hX, hP, hS⟩ := HNXT.out v2 w2 h2 hg2 hat2)
        go_roundg (l.length - (k + 1))
        case measure => omega
        case rel => exact ⟨k + 1, _, by omega, by omega, by go_num, ⟨hK⟩, ⟨hB⟩, ⟨hX⟩, ⟨hP⟩, ⟨hS⟩⟩
    · obtain rfl : k = l.length := by omega
      have hd : decide ((l.length : Int) < (l.length : Int)) = false := by simp
      clear P1
      go_wp2
      obtain ⟨wo, rfl⟩ : ∃ wo : World, wo = wr := ⟨_, rfl⟩
      go_loopg [37] (l.length + 1) (fun gg s37 wr => ∃ j : Nat, j ≤ l.length + 1 ∧ l.length + 1 - j ≤ gg ∧ s37 = .int .i64 j ∧ Aside0 (KInv wr w.heap.size (w.heap.size + 1) (l.length + 1) (l.length + 1) vs (Tree.sortedTo (ltOf (cfOf l)) (Tree.rows (Tree.parents l) l.length (l.length + 1) l.length) j)) ∧ Aside0 (Below w.heap.size w wr) ∧ Aside0 (wr.heap[w.heap.size]? = some (.cells #[.slice A l.length c] 25 (0, 0))))
      case atStart => exact ⟨0, Nat.zero_le _, Nat.le_refl _, rfl, by rw [Tree.sortedTo_zero]; exact K1, B1, X1⟩
      case round =>
        clear K1 B1 X1
        obtain ⟨j, hj, hg, rfl, K1, B1, X1⟩ := hrel
        by_cases hlt : j < l.length + 1
        · obtain ⟨v, hv⟩ : ∃ v, vs[j]? = some v := ⟨_, List.getElem?_eq_getElem (by rw [K1.out.lv]; exact hlt)⟩
          have hkp : (Tree.rows (Tree.parents l) l.length (l.length + 1) l.length)[j]? = some (Tree.rowOf (Tree.parents l) l.length l.length j) := Tree.rows_get hlt
          have hks := Tree.sortedTo_get (lt := ltOf (cfOf l)) hkp
          have RV := K1.out.inner j v _ hv hks
          obtain ⟨hcv, hfv⟩ := K1.out.cell hv
          have hbl : w.heap.size < wr.heap.size := by have := (List.getElem?_eq_some_iff.1 (show wr.heap.toList[w.heap.size]? = _ from by rw [Array.getElem?_toList]; exact X1.out)).1; simpa using this
          have hc := Kids_row.calls A l.length c l w.heap.size w HR.out hn wr B1.out ⟨Nat.le_refl _, hbl⟩ _ X1.out hcell v _ (fun y hy => Tree.rowOf_mem hy) (Tree.rowOf_length _ _ _ _) RV (RI_box RV X1.out)
          have NXT : Aside0 (∀ w2, RI w2 w.heap.size v (Sort.isort (ltOf (cfOf l)) (Tree.rowOf (Tree.parents l) l.length l.length j)) → wr.grownBy w2 v.ownBlock → KInv w2 w.heap.size (w.heap.size + 1) (l.length + 1) (l.length + 1) vs (Tree.sortedTo (ltOf (cfOf l)) (Tree.rows (Tree.parents l) l.length (l.length + 1) l.length) (j + 1)) ∧ Below w.heap.size w w2 ∧ w2.heap[w.heap.size]? = some (.cells #[.slice A l.length c] 25 (0, 0))) := ⟨fun w2 h2 hg2 => by
            have hK := K1.out.inplace hv hks h2 hg2
            rw [Tree.sortedTo_set hkp] at hK
            refine ⟨hK, B1.out.grown hg2 B1.out.size (Kd.R_base RV), ?_⟩
            rw [hg2.block _ hbl (fun e => RI_box RV X1.out _ e.symm rfl)]
            exact X1.out⟩
          have hj1 : (j : Int) < (l.length : Int) + 1 := by omega
          clear K1 B1 X1 RV hkp hks
          go_wp2_with (go_at_call 49; refine hc.mono ?_; rintro e w2 ⟨rfl, h2, hg2⟩)
          obtain ⟨hK, hB, hX⟩ := NXT.out _ h2 hg2
          go_roundg (l.length + 1 - (j + 1))
          case measure => omega
          case rel => exact ⟨j + 1, by omega, by omega, by go_num, ⟨hK⟩, ⟨hB⟩, ⟨hX⟩⟩
        · obtain rfl : j = l.length + 1 := by omega
          have hd : decide (((l.length + 1 : Nat) : Int) < (l.length : Int) + 1) = false := by simp
          go_wp2
          go_ret
          exact ⟨_, _, rfl, K1.out, B1.out⟩
