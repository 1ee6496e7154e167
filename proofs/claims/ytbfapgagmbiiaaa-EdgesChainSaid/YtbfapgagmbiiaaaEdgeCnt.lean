/- edges.count. -/
import Derived.Test.YtbfapgagmbiiaaaEdgeIns
import Derived.BigRegion
namespace Go.Proofs.Ytbfapgagmbiiaaa
open Gl Go.RowKit Go.Proofs.YtbfapgagmbiiaaaW.PrintWords
set_option linter.unusedVariables false
set_option linter.unusedSimpArgs false

def midQ (p k : Nat) (m : Option (Int × Int)) : List Quad := match m with
  | some (c, e) => [(p, k, c, e)]
  | none => []
def InQ (L : List Quad) : Prop := ∀ q ∈ L, q.1 < 4 ∧ q.2.1 < 4
theorem cmpE_same (p k : Nat) : cmpE p k p k = 0 := by simp [cmpE, cmpN, orI]
/-- All of A stand ahead of the pair, all of B behind it. -/
structure Sides (p k : Nat) (A B : List Quad) : Prop where
  inA : InQ A
  inB : InQ B
  a : ∀ q ∈ A, cmpE q.1 q.2.1 p k < 0
  b : ∀ q ∈ B, 0 < cmpE q.1 q.2.1 p k
theorem Sides.same {p k : Nat} {A B : List Quad} (h : Sides p k A B) (m : Option (Int × Int)) : idxI (A ++ midQ p k m ++ B) (fun q => cmpE q.1 q.2.1 p k == 0) = match m with | some _ => (A.length : Int) | none => -1 := by
  have hA : ∀ (j : Nat) q, A[j]? = some q → (cmpE q.1 q.2.1 p k == 0) = false := fun j q hq => by
    have := h.a q (List.mem_of_getElem? hq)
    simp only [beq_eq_false_iff_ne]; omega
  have hB : ∀ (j : Nat) q, B[j]? = some q → (cmpE q.1 q.2.1 p k == 0) = false := fun j q hq => by
    have := h.b q (List.mem_of_getElem? hq)
    simp only [beq_eq_false_iff_ne]; omega
  rcases m with _ | ⟨c, e⟩
  · refine idxI_none (fun j q hq => ?_)
    simp only [midQ, List.append_nil] at hq
    rw [List.getElem?_append] at hq
    split at hq
    · exact hA _ _ hq
    · exact hB _ _ hq
  · refine idxI_some (k := A.length) (y := (p, k, c, e)) ?_ (by simp [cmpE_same]) (fun j q hj hq => ?_)
    · simp [midQ]
    · simp only [midQ, List.append_assoc] at hq
      rw [List.getElem?_append_left hj] at hq
      exact hA _ _ hq
theorem Sides.past {p k : Nat} {A B : List Quad} (h : Sides p k A B) : idxI (A ++ B) (fun q => decide (0 < cmpE q.1 q.2.1 p k)) = if B.length = 0 then -1 else (A.length : Int) := by
  have hA : ∀ (j : Nat) q, A[j]? = some q → decide (0 < cmpE q.1 q.2.1 p k) = false := fun j q hq => by
    have := h.a q (List.mem_of_getElem? hq)
    simp only [decide_eq_false_iff_not]; omega
  split
  · rename_i h0
    obtain rfl : B = [] := List.length_eq_zero_iff.1 h0
    refine idxI_none (fun j q hq => ?_)
    rw [List.append_nil] at hq
    exact hA _ _ hq
  · rename_i h0
    obtain ⟨y, hy⟩ : ∃ y, B[0]? = some y := ⟨_, List.getElem?_eq_getElem (by omega)⟩
    refine idxI_some (k := A.length) (y := y) ?_ ?_ (fun j q hj hq => ?_)
    · rw [List.getElem?_append_right (Nat.le_refl _), Nat.sub_self]; exact hy
    · have := h.b y (List.mem_of_getElem? hy)
      simpa using this
    · rw [List.getElem?_append_left hj] at hq
      exact hA _ _ hq
/-- The row behind a call that was counted. -/
def cntQ (A B : List Quad) (p k : Nat) (m : Option (Int × Int)) (er : Bool) : List Quad := A ++ midQ p k (some ((m.getD (0, 0)).1 + 1, (m.getD (0, 0)).2 + if er then 1 else 0)) ++ B
def CntEnd (W : World) (base : Nat) (L : List Quad) (e : Ending) (w' : World) : Prop := ∃ v', e = .returned v' ∧ RE w' base v' (L.map ed) ∧ Below base W w'
set_option maxHeartbeats 2000000 in
set_option maxRecDepth 100000 in
theorem count.calls (W : World) (base : Nat) (v : Value) (A B : List Quad) (p k : Nat) (m : Option (Int × Int)) (er : Bool) (most : Int) (hp : p < 4) (hk : k < 4) (hs : Sides p k A B) (HO : RE W base v ((A ++ midQ p k m ++ B).map ed)) (hbase : base ≤ W.heap.size)
    (hn : A.length + B.length ≤ 1000) (hm0 : ∀ c e, m = some (c, e) → 0 ≤ c ∧ 0 ≤ e ∧ c + 1 ≤ most ∧ e + 1 ≤ most) (hm1 : 1 ≤ most) (hm2 : most ≤ 1000000) :
    Calls Try.prog 25 #[v, edgeV p k 0 0, .bool er, .int .i64 most] W (CntEnd W base (cntQ A B p k m er)) := by
  obtain ⟨A0, c0, rfl, hc0, hr0⟩ := R_readsN (n := (A ++ midQ p k m ++ B).length) HO (by rw [List.length_map])
  have hW1 : (W.alloc (.cells (edCells (ed (p, k, 0, 0))) 36)).heap[W.heap.size]? = some (.cells (edCells (ed (p, k, 0, 0))) 36 (0, 0)) := heap_alloc_new W _
  have hB1 : Below W.heap.size W (W.alloc (.cells (edCells (ed (p, k, 0, 0))) 36)) := below_alloc (Below.refl _ _) _
  have hInL : InQ (A ++ midQ p k m ++ B) := fun q hq => by
    rcases List.mem_append.1 hq with hq | hq
    · rcases List.mem_append.1 hq with hq | hq
      · exact hs.inA q hq
      · rcases m with _ | ⟨c, e⟩
        · cases hq
        · rw [show q = (p, k, c, e) from List.mem_singleton.1 hq]; exact ⟨hp, hk⟩
    · exact hs.inB q hq
  have hz1 : (W.alloc (.cells (edCells (ed (p, k, 0, 0))) 36)).heap.size = W.heap.size + 1 := by simp
  have hkey : ∀ W', Below (W.heap.size + 1) (W.alloc (.cells (edCells (ed (p, k, 0, 0))) 36)) W' → W'.heap[W.heap.size]? = some (.cells (edCells (ed (p, k, 0, 0))) 36 (0, 0)) := fun W' hW' => by
    rw [hW'.block _ (by omega)]; exact hW1
  have hsame := IndexFunc_same.calls A0 (A ++ midQ p k m ++ B).length c0 (A ++ midQ p k m ++ B) W.heap.size (fun q => cmpE q.1 q.2.1 p k == 0) (W.alloc (.cells (edCells (ed (p, k, 0, 0))) 36)) (Kd.C_below hr0 hB1) (fun W' hW' q hq => same_key.calls q (p, k, 0, 0) (hInL q hq) ⟨hp, hk⟩ W.heap.size W' (hkey W' (by rw [hz1] at hW'; exact hW')))
  rw [hs.same m] at hsame
  have hpast : ∀ W2, Below (W.heap.size + 1) (W.alloc (.cells (edCells (ed (p, k, 0, 0))) 36)) W2 → m = none → Calls Try.prog 34 #[.slice A0 (A ++ midQ p k m ++ B).length c0, .func (.func 37) #[] #[.pointer (some ⟨W.heap.size, 0, none⟩)]] W2 fun e w' => e = .returned (.int .i64 (if B.length = 0 then -1 else (A.length : Int))) ∧ Below W2.heap.size W2 w' := fun W2 hW2 hm => by
    have h := IndexFunc_past.calls A0 (A ++ midQ p k m ++ B).length c0 (A ++ midQ p k m ++ B) W.heap.size (fun q => decide (0 < cmpE q.1 q.2.1 p k)) W2 (Kd.C_below (Kd.C_below hr0 hB1) (by rw [hz1]; exact hW2)) (fun W' hW' q hq => past_key.calls q (p, k, 0, 0) (hInL q hq) ⟨hp, hk⟩ W.heap.size W' (hkey W' (below_then hW2 (by have := hW2.size; rw [hz1] at this; exact this) hW')))
    subst hm
    have e : A ++ midQ p k none ++ B = A ++ B := by simp [midQ]
    have h2 : idxI (A ++ midQ p k none ++ B) (fun q => decide (0 < cmpE q.1 q.2.1 p k)) = if B.length = 0 then -1 else (A.length : Int) := by rw [e]; exact hs.past
    rw [h2] at h
    exact h
  have HO' := Aside0.mk HO
  have HPAST := Aside0.mk hpast
  have HKEY := Aside0.mk hkey
  have HM0 := Aside0.mk hm0
  have hlen : (A ++ midQ p k m ++ B).length ≤ 100000 := by
    rw [List.length_append, List.length_append]
    rcases m with _ | ⟨c, e⟩ <;> simp [midQ] <;> omega
  clear HO hpast hkey hm0 hr0 hW1 hB1 hInL
  generalize hnl : (A ++ midQ p k m ++ B).length = n at *
  have HNL := Aside0.mk hnl
  have hn5 : (n : Int) ≤ 100000 := by omega
  clear hnl
  generalize hr : (match m with | some _ => (A.length : Int) | none => -1) = r at hsame
  have HRR := Aside0.mk hr
  clear hr
  simp only [edgeV]
  go_enter Try.func25, Try.ntmps25
  go_upto_if 15 with (go_at_call 34; refine hsame.mono ?_; rintro e w2 ⟨rfl, hb2⟩)
  have B2 : Aside0 (Below W.heap.size W w2) := ⟨below_then (below_alloc (Below.refl _ _) _) (by simp) hb2⟩
  have B2' : Aside0 (Below (W.heap.size + 1) (W.alloc (.cells (edCells (ed (p, k, 0, 0))) 36)) w2) := ⟨by have h := hb2; rw [hz1] at h; exact h⟩
  clear hsame hb2
  go_cut [0, 9] from 16 to 27 (fun s0 s9 wc => ∃ v', v' = s0 ∧ s9 = .int .i64 (A.length : Nat) ∧ Aside0 (RE wc base v' ((A ++ midQ p k (some ((m.getD (0, 0)).1, (m.getD (0, 0)).2)) ++ B).map ed)) ∧ Aside0 (Below base W wc))
  case first =>
    rcases m with _ | ⟨c, e⟩
    · have hr := HRR.out
      subst hr
      have HXS : Aside0 ((((A ++ midQ p k none ++ B).map ed).take A.length ++ ed (p, k, 0, 0) :: ((A ++ midQ p k none ++ B).map ed).drop A.length) = (A ++ midQ p k (some ((0 : Int), (0 : Int))) ++ B).map ed) := ⟨by
        have e : (A ++ midQ p k none ++ B).map ed = A.map ed ++ B.map ed := by simp [midQ]
        rw [e, List.take_append_of_le_length (by simp), List.drop_append_of_le_length (by simp)]
        have e1 : (A.map ed).take A.length = A.map ed := List.take_of_length_le (by simp)
        have e2 : (A.map ed).drop A.length = [] := List.drop_eq_nil_of_le (by simp)
        rw [e1, e2]
        simp [midQ]⟩
      have HAL : Aside0 (A.length ≤ ((A ++ midQ p k none ++ B).map ed).length ∧ ((A ++ midQ p k none ++ B).map ed).length ≤ 100000) := ⟨by simp [midQ]; omega⟩
      have HINS : Aside0 (∀ w3, Below w2.heap.size w2 w3 → Calls Try.prog 38 #[.slice A0 n c0, .int .i64 A.length, .slice (some ⟨w3.heap.size, 0, none⟩) 1 1] (w3.alloc (.cells (edCells (ed (p, k, 0, 0))) 36)) (InsEnd (w3.alloc (.cells (edCells (ed (p, k, 0, 0))) 36)) base (.slice A0 n c0) ((A ++ midQ p k (some ((0 : Int), (0 : Int))) ++ B).map ed))) := ⟨fun w3 hw3 => by
        have h1 : RE w3 base (.slice A0 n c0) ((A ++ midQ p k none ++ B).map ed) := Kd.R_below (Kd.R_below HO'.out B2.out) hw3
        have hz : base ≤ w3.heap.size := Nat.le_trans hbase (Nat.le_trans B2.out.size hw3.size)
        have h := Insert.calls (w3.alloc (.cells (edCells (ed (p, k, 0, 0))) 36)) base (.slice A0 n c0) _ (ed (p, k, 0, 0)) w3.heap.size A.length (Kd.R_below h1 (below_alloc (Below.refl _ _) _)) (heap_alloc_new w3 _) (fun e => by have := Kd.R_lt h1 _ e; omega) HAL.out.1 HAL.out.2 (by simp; omega)
        rw [HXS.out] at h
        exact h⟩
      have HKC : Aside0 (∀ w3, Below w2.heap.size w2 w3 → w3.cell? ⟨W.heap.size, 0, none⟩ = some (.string (nm p)) ∧ w3.cell? ⟨W.heap.size, 1, none⟩ = some (.string (nm k)) ∧ w3.cell? ⟨W.heap.size, 2, none⟩ = some (.int .i64 0) ∧ w3.cell? ⟨W.heap.size, 3, none⟩ = some (.int .i64 0)) := ⟨fun w3 hw3 => by
        have h := HKEY.out w3 (below_then B2'.out (by have := B2'.out.size; simp at this; omega) hw3)
        refine ⟨?_, ?_, ?_, ?_⟩ <;> (rw [cell_of_row _ _ _ _ _ _ h]; rfl)⟩
      have hp1 := HPAST.out w2 B2'.out rfl
      have HN2 : Aside0 ((A ++ midQ p k none ++ B).length = n) := HNL
      have HBB : Aside0 (∀ w3 v4 w4, Below w2.heap.size w2 w3 → RE w4 base v4 ((A ++ midQ p k (some ((0 : Int), (0 : Int))) ++ B).map ed) → (w3.alloc (.cells (edCells (ed (p, k, 0, 0))) 36)).grownBy w4 (Value.slice A0 n c0).ownBlock → Below base W w4) := ⟨fun w3 v4 w4 hw3 h4 hg4 => by
        have h1 : Below base W (w3.alloc (.cells (edCells (ed (p, k, 0, 0))) 36)) := (below_alloc (below_then B2.out B2.out.size hw3) _).mono hbase
        exact h1.grown hg4 (Nat.le_trans hbase h1.size) (fun k hk => Kd.R_base HO'.out k hk)⟩
      clear HPAST HKEY HO' HM0 HRR
      by_cases hB : B.length = 0
      · obtain rfl : A.length = n := by
          have h := HN2.out
          simp [midQ] at h
          omega
        rw [if_pos hB] at hp1
        clear hB
        go_wp2_with (first
          | (go_at_call 34; refine hp1.mono ?_; rintro e w3 ⟨rfl, hb3⟩; obtain ⟨k0, k1, k2, k3⟩ := HKC.out w3 hb3)
          | (go_at_call 38; refine (HINS.out w3 hb3).mono ?_; rintro e w4 ⟨v4, rfl, h4, hg4, hat4⟩))
        go_meet
        case rel => exact ⟨v4, rfl, rfl, ⟨h4⟩, ⟨HBB.out w3 v4 w4 hb3 h4 hg4⟩⟩
      · rw [if_neg hB] at hp1
        have hal1 : (0 : Int) ≤ (A.length : Int) := by omega
        clear hB
        go_wp2_with (first
          | (go_at_call 34; refine hp1.mono ?_; rintro e w3 ⟨rfl, hb3⟩; obtain ⟨k0, k1, k2, k3⟩ := HKC.out w3 hb3)
          | (go_at_call 38; refine (HINS.out w3 hb3).mono ?_; rintro e w4 ⟨v4, rfl, h4, hg4, hat4⟩))
        go_meet
        case rel => exact ⟨v4, rfl, rfl, ⟨h4⟩, ⟨HBB.out w3 v4 w4 hb3 h4 hg4⟩⟩
    · have hr := HRR.out
      subst hr
      go_wp2
      go_meet
      case rel => exact ⟨_, rfl, rfl, ⟨Kd.R_below HO'.out B2.out⟩, ⟨B2.out.mono hbase⟩⟩
  case rest =>
    obtain ⟨v', rfl, rfl, HO2, B3⟩ := hcut
    have hce : Aside0 (0 ≤ (m.getD (0, 0)).1 ∧ 0 ≤ (m.getD (0, 0)).2 ∧ (m.getD (0, 0)).1 + 1 ≤ most ∧ (m.getD (0, 0)).2 + 1 ≤ most) := ⟨by
      rcases m with _ | ⟨c, e⟩
      · exact ⟨Int.le_refl _, Int.le_refl _, by simpa using hm1, by simpa using hm1⟩
      · exact HM0.out c e rfl⟩
    have HCQ : Aside0 (cntQ A B p k m er = A ++ midQ p k (some ((m.getD (0, 0)).1 + 1, (m.getD (0, 0)).2 + if er then 1 else 0)) ++ B) := ⟨rfl⟩
    generalize (m.getD (0, 0)).1 = c at HO2 hce HCQ ⊢
    generalize (m.getD (0, 0)).2 = e at HO2 hce HCQ ⊢
    obtain ⟨hc0, he0, hc1, he1⟩ := hce.out
    have hll : ((A ++ midQ p k (some (c, e)) ++ B).map ed).length = A.length + 1 + B.length := by simp [midQ]; omega
    have hll2 : ((A ++ midQ p k (some (c + 1, e)) ++ B).map ed).length = A.length + 1 + B.length := by simp [midQ]; omega
    obtain ⟨g, cap, rfl, hbg, hgl, -⟩ := R_formN (n := A.length + 1 + B.length) HO2.out hll (by omega)
    have hget : ((A ++ midQ p k (some (c, e)) ++ B).map ed)[A.length]? = some (ed (p, k, c, e)) := by simp [midQ]
    obtain ⟨-, -, -, -, hfz⟩ := Kd.R_elem HO2.out (ed (p, k, c, e)) (A.length : Int) (by omega) (by omega)
    have hfz : ∀ j, wc.frozen? ⟨g, A.length * 4 + j, none⟩ = false := hfz
    obtain ⟨-, hrd⟩ := Kd.R_reads' HO2.out
    obtain ⟨ad, e0, x0, x1, x2, x3⟩ := atN_Edge hrd.2 A.length hget
    cases e0
    simp only [add_plain] at x0 x1 x2 x3
    replace x2 : wc.cell? ⟨g, A.length * 4 + 2, none⟩ = some (.int .i64 c) := x2
    replace x3 : wc.cell? ⟨g, A.length * 4 + 3, none⟩ = some (.int .i64 e) := x3
    have hcc : ∀ (W : World), (∀ j, j < 2 → W.cell? ⟨g, A.length * 4 + j, none⟩ = wc.cell? ⟨g, A.length * 4 + j, none⟩) → True := fun _ _ => trivial
    have hset : ∀ (W : World) (c e : Int) (x : Int), RE W base (.slice (some ⟨g, 0, none⟩) (A.length + 1 + B.length) cap) ((A ++ midQ p k (some (c, e)) ++ B).map ed) → W.cell? ⟨g, A.length * 4, none⟩ = some (.string (nm p)) → W.cell? ⟨g, A.length * 4 + 1, none⟩ = some (.string (nm k)) → W.cell? ⟨g, A.length * 4 + 2, none⟩ = some (.int .i64 c) → W.cell? ⟨g, A.length * 4 + 3, none⟩ = some (.int .i64 e) →
        RE (W.setCell ⟨g, A.length * 4 + 2, none⟩ (.int .i64 x)) base (.slice (some ⟨g, 0, none⟩) (A.length + 1 + B.length) cap) ((A ++ midQ p k (some (x, e)) ++ B).map ed) ∧ RE (W.setCell ⟨g, A.length * 4 + 3, none⟩ (.int .i64 x)) base (.slice (some ⟨g, 0, none⟩) (A.length + 1 + B.length) cap) ((A ++ midQ p k (some (c, x)) ++ B).map ed) := fun W c e x h y0 y1 y2 y3 => by
      have hcc : ∀ (j : Nat) u, ([.string (nm p), .string (nm k), .int .i64 c, .int .i64 e] : List Value)[j]? = some u → W.cell? ⟨g, A.length * 4 + j, none⟩ = some u := fun j u hj => by
        rcases j with _ | _ | _ | _ | j
        · injection hj with hj; rw [← hj]; exact y0
        · injection hj with hj; rw [← hj]; exact y1
        · injection hj with hj; rw [← hj]; exact y2
        · injection hj with hj; rw [← hj]; exact y3
        · simp at hj
      have s1 : ∀ (y : Int × Int), ((A ++ midQ p k (some (c, e)) ++ B).map ed).set A.length (ed (p, k, y.1, y.2)) = (A ++ midQ p k (some y) ++ B).map ed := fun y => by simp [midQ, List.set_append]
      have h1 := (Kd.R_seg (okp := fun _ => False) h (A.length : Int) (by omega) (by omega) (c := [.string (nm p), .string (nm k), .int .i64 c, .int .i64 e]) (seg := [.int .i64 x]) (j := 2) rfl hcc (show 3 ≤ 4 by omega) (x' := ed (p, k, x, e)) (kEdge_mkM W base _ (ed (p, k, x, e))) (fun _ h => h.elim)).1
      have h2 := (Kd.R_seg (okp := fun _ => False) h (A.length : Int) (by omega) (by omega) (c := [.string (nm p), .string (nm k), .int .i64 c, .int .i64 e]) (seg := [.int .i64 x]) (j := 3) rfl hcc (show 4 ≤ 4 by omega) (x' := ed (p, k, c, x)) (kEdge_mkM W base _ (ed (p, k, c, x))) (fun _ h => h.elim)).1
      rw [Int.toNat_natCast, s1 (x, e)] at h1
      rw [Int.toNat_natCast, s1 (c, x)] at h2
      exact ⟨h1, h2⟩
    obtain ⟨h5, -⟩ := hset wc c e (c + 1) HO2.out x0 x1 x2 x3
    have y0 : (wc.setCell ⟨g, A.length * 4 + 2, none⟩ (.int .i64 (c + 1))).cell? ⟨g, A.length * 4, none⟩ = some (.string (nm p)) := by rw [World.cell?_setCell_other _ _ _ _ (by simp)]; exact x0
    have y1 : (wc.setCell ⟨g, A.length * 4 + 2, none⟩ (.int .i64 (c + 1))).cell? ⟨g, A.length * 4 + 1, none⟩ = some (.string (nm k)) := by rw [World.cell?_setCell_other _ _ _ _ (by simp)]; exact x1
    have y2 : (wc.setCell ⟨g, A.length * 4 + 2, none⟩ (.int .i64 (c + 1))).cell? ⟨g, A.length * 4 + 2, none⟩ = some (.int .i64 (c + 1)) := by rw [World.cell?_setCell_same _ _ _ x2]
    have y3 : (wc.setCell ⟨g, A.length * 4 + 2, none⟩ (.int .i64 (c + 1))).cell? ⟨g, A.length * 4 + 3, none⟩ = some (.int .i64 e) := by rw [World.cell?_setCell_other _ _ _ _ (by simp)]; exact x3
    have HFIN : Aside0 (∀ x, RE ((wc.setCell ⟨g, A.length * 4 + 2, none⟩ (.int .i64 (c + 1))).setCell ⟨g, A.length * 4 + 3, none⟩ (.int .i64 x)) base (.slice (some ⟨g, 0, none⟩) (A.length + 1 + B.length) cap) ((A ++ midQ p k (some (c + 1, x)) ++ B).map ed)) := ⟨fun x => (hset _ (c + 1) e x h5 y0 y1 y2 y3).2⟩
    have hf2 := hfz 2
    have hf3 := hfz 3
    have hlt : A.length < A.length + 1 + B.length := by omega
    have HB4 : Aside0 (∀ x y, Below base W ((wc.setCell ⟨g, A.length * 4 + 2, none⟩ x).setCell ⟨g, A.length * 4 + 3, none⟩ y)) := ⟨fun x y => (B3.out.setCell hbg _).setCell hbg _⟩
    clear hset y0 y1 y2 y3 h5 hget hrd hfz hll hll2 HO2 hce B3 hcc HM0 HPAST HKEY HRR HNL B2 B2' HO'
    generalize A.length + 1 + B.length = nn at HFIN hlt hgl ⊢
    have hlt1 : (A.length : Int) < (nn : Int) := by omega
    generalize A.length = a at *
    cases er
    · have hp1 : ∀ W, Calls Try.prog 39 #[.int .i64 c, .int .i64 1, .int .i64 most] W fun e w' => e = .returned (.int .i64 (c + 1)) ∧ W = w' := fun W => Plus.calls c 1 most W hc0 (by omega) hc1 hm2
      have hp2 : ∀ W, Calls Try.prog 39 #[.int .i64 e, .int .i64 0, .int .i64 most] W fun e' w' => e' = .returned (.int .i64 e) ∧ W = w' := fun W => by
        have h := Plus.calls e 0 most W he0 (by omega) (by omega) hm2
        rwa [Int.add_zero] at h
      have HF := Aside0.mk (HFIN.out e)
      have HR : Aside0 (∀ w', RE w' base (.slice (some ⟨g, 0, none⟩) nn cap) ((A ++ midQ p k (some (c + 1, e)) ++ B).map ed) → Below base W w' → CntEnd W base (cntQ A B p k m false) (.returned (.slice (some ⟨g, 0, none⟩) nn cap)) w') := ⟨fun w' h hb => ⟨_, rfl, by rw [HCQ.out]; simpa using h, hb⟩⟩
      clear HFIN hm1 HCQ
      go_wp2
      go_region_with (first | ((with_reducible go_at_call 39; refine (hp1 _).mono ?_); rintro e w2 ⟨rfl, rfl⟩) | ((with_reducible go_at_call 39; refine (hp2 _).mono ?_); rintro e w2 ⟨rfl, rfl⟩))
      all_goals
        go_wp2
        go_ret
        first
          | exact HR.out _ (Kd.R_drew HF.out) (below_drew (HB4.out _ _))
          | exact HR.out _ (Kd.R_drewN HF.out _) (pw_below_drewN (HB4.out _ _) _)
          | (trace_state; sorry)
    · have hp1 : ∀ W, Calls Try.prog 39 #[.int .i64 c, .int .i64 1, .int .i64 most] W fun e w' => e = .returned (.int .i64 (c + 1)) ∧ W = w' := fun W => Plus.calls c 1 most W hc0 (by omega) hc1 hm2
      have hp2 : ∀ W, Calls Try.prog 39 #[.int .i64 e, .int .i64 1, .int .i64 most] W fun e' w' => e' = .returned (.int .i64 (e + 1)) ∧ W = w' := fun W => by
        have h := Plus.calls e 1 most W he0 (by omega) (by omega) hm2
        exact h
      have HF := Aside0.mk (HFIN.out (e + 1))
      have HR : Aside0 (∀ w', RE w' base (.slice (some ⟨g, 0, none⟩) nn cap) ((A ++ midQ p k (some (c + 1, (e + 1))) ++ B).map ed) → Below base W w' → CntEnd W base (cntQ A B p k m true) (.returned (.slice (some ⟨g, 0, none⟩) nn cap)) w') := ⟨fun w' h hb => ⟨_, rfl, by rw [HCQ.out]; simpa using h, hb⟩⟩
      clear HFIN hm1 HCQ
      go_wp2
      go_region_with (first | ((with_reducible go_at_call 39; refine (hp1 _).mono ?_); rintro e w2 ⟨rfl, rfl⟩) | ((with_reducible go_at_call 39; refine (hp2 _).mono ?_); rintro e w2 ⟨rfl, rfl⟩))
      all_goals
        go_wp2
        go_ret
        first
          | exact HR.out _ (Kd.R_drew HF.out) (below_drew (HB4.out _ _))
          | exact HR.out _ (Kd.R_drewN HF.out _) (pw_below_drewN (HB4.out _ _) _)
          | (trace_state; sorry)
end Go.Proofs.Ytbfapgagmbiiaaa
