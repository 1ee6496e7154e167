/- Plain: the row of edges of a chain of spans. -/
import Derived.Test.YtbfapgagmbiiaaaEdgeCnt
import Derived.Test.YtbfapgagmbiiaaaEdgeCall
namespace Go.Proofs.Ytbfapgagmbiiaaa
open Gl Go.RowKit Go.Proofs.YtbfapgagmbiiaaaW.PrintWords
set_option linter.unusedVariables false
set_option linter.unusedSimpArgs false

def P16 : List (Nat × Nat) := [(0, 0), (0, 1), (0, 2), (0, 3), (1, 0), (1, 1), (1, 2), (1, 3), (2, 0), (2, 1), (2, 2), (2, 3), (3, 0), (3, 1), (3, 2), (3, 3)]
def one (F : Nat → Nat → Int × Int) (q : Nat × Nat) : List Quad := if q.1 ≠ q.2 ∧ 0 < (F q.1 q.2).1 then [(q.1, q.2, (F q.1 q.2).1, (F q.1 q.2).2)] else []
def edgesOf (F : Nat → Nat → Int × Int) : List Quad := P16.flatMap (one F)
theorem P16_split : ∀ p, p < 4 → ∀ k, k < 4 → P16 = P16.take (4 * p + k) ++ (p, k) :: P16.drop (4 * p + k + 1) := by decide
theorem P16_before : ∀ p, p < 4 → ∀ k, k < 4 → ∀ q ∈ P16.take (4 * p + k), q.1 < 4 ∧ q.2 < 4 ∧ cmpE q.1 q.2 p k < 0 := by decide
theorem P16_behind : ∀ p, p < 4 → ∀ k, k < 4 → ∀ q ∈ P16.drop (4 * p + k + 1), q.1 < 4 ∧ q.2 < 4 ∧ 0 < cmpE q.1 q.2 p k := by decide
theorem one_mem {F : Nat → Nat → Int × Int} {q : Nat × Nat} {x : Quad} (h : x ∈ one F q) : x.1 = q.1 ∧ x.2.1 = q.2 := by
  unfold one at h
  split at h
  · rw [List.mem_singleton.1 h]; exact ⟨rfl, rfl⟩
  · cases h
def partA (F : Nat → Nat → Int × Int) (p k : Nat) : List Quad := (P16.take (4 * p + k)).flatMap (one F)
def partB (F : Nat → Nat → Int × Int) (p k : Nat) : List Quad := (P16.drop (4 * p + k + 1)).flatMap (one F)
theorem parts_sides (F : Nat → Nat → Int × Int) {p k : Nat} (hp : p < 4) (hk : k < 4) : Sides p k (partA F p k) (partB F p k) := by
  have hA : ∀ x ∈ partA F p k, x.1 < 4 ∧ x.2.1 < 4 ∧ cmpE x.1 x.2.1 p k < 0 := fun x hx => by
    obtain ⟨q, hq, h⟩ := List.mem_flatMap.1 hx
    obtain ⟨e1, e2⟩ := one_mem h
    rw [e1, e2]
    exact P16_before p hp k hk q hq
  have hB : ∀ x ∈ partB F p k, x.1 < 4 ∧ x.2.1 < 4 ∧ 0 < cmpE x.1 x.2.1 p k := fun x hx => by
    obtain ⟨q, hq, h⟩ := List.mem_flatMap.1 hx
    obtain ⟨e1, e2⟩ := one_mem h
    rw [e1, e2]
    exact P16_behind p hp k hk q hq
  exact ⟨fun x hx => ⟨(hA x hx).1, (hA x hx).2.1⟩, fun x hx => ⟨(hB x hx).1, (hB x hx).2.1⟩, fun x hx => (hA x hx).2.2, fun x hx => (hB x hx).2.2⟩
theorem one_len (F : Nat → Nat → Int × Int) (q : Nat × Nat) : (one F q).length ≤ 1 := by unfold one; split <;> simp
theorem flat_len (F : Nat → Nat → Int × Int) : ∀ L : List (Nat × Nat), (L.flatMap (one F)).length ≤ L.length := by
  intro L
  induction L with
  | nil => simp
  | cons q L ih => rw [List.flatMap_cons, List.length_append, List.length_cons]; have := one_len F q; omega
theorem parts_len (F : Nat → Nat → Int × Int) (p k : Nat) : (partA F p k).length + (partB F p k).length ≤ 1000 := by
  have h1 := flat_len F (P16.take (4 * p + k))
  have h2 := flat_len F (P16.drop (4 * p + k + 1))
  have h3 : (P16.take (4 * p + k)).length ≤ 16 := by rw [List.length_take]; exact Nat.min_le_right _ _
  have h4 : (P16.drop (4 * p + k + 1)).length ≤ 16 := by rw [List.length_drop]; exact Nat.sub_le _ _
  unfold partA partB
  omega
def midOf (F : Nat → Nat → Int × Int) (p k : Nat) : Option (Int × Int) := if 0 < (F p k).1 then some (F p k) else none
theorem edgesOf_split (F : Nat → Nat → Int × Int) {p k : Nat} (hp : p < 4) (hk : k < 4) (hne : p ≠ k) : edgesOf F = partA F p k ++ midQ p k (midOf F p k) ++ partB F p k := by
  unfold edgesOf
  rw [P16_split p hp k hk, List.flatMap_append, List.flatMap_cons, ← List.append_assoc]
  unfold partA partB midOf
  congr 2
  unfold one
  by_cases h : 0 < (F p k).1
  · rw [if_pos ⟨hne, h⟩, if_pos h]; rfl
  · rw [if_neg (fun e => h e.2), if_neg h]; rfl
def addF (F : Nat → Nat → Int × Int) (p k : Nat) (er : Bool) : Nat → Nat → Int × Int := fun a b => if a = p ∧ b = k then ((F p k).1 + 1, (F p k).2 + if er then 1 else 0) else F a b
theorem one_other {F : Nat → Nat → Int × Int} {p k : Nat} {er : Bool} {q : Nat × Nat} (h : ¬ (q.1 = p ∧ q.2 = k)) : one (addF F p k er) q = one F q := by
  unfold one addF
  rw [if_neg h]
theorem flat_congr {f g : Nat × Nat → List Quad} : ∀ {L : List (Nat × Nat)}, (∀ q ∈ L, f q = g q) → L.flatMap f = L.flatMap g := by
  intro L
  induction L with
  | nil => intro _; rfl
  | cons q L ih => intro h; rw [List.flatMap_cons, List.flatMap_cons, h q (by simp), ih (fun x hx => h x (by simp [hx]))]
theorem edgesOf_add (F : Nat → Nat → Int × Int) {p k : Nat} (hp : p < 4) (hk : k < 4) (hne : p ≠ k) (er : Bool) (h0 : 0 ≤ (F p k).1) (hz : (F p k).1 = 0 → (F p k).2 = 0) : edgesOf (addF F p k er) = cntQ (partA F p k) (partB F p k) p k (midOf F p k) er := by
  rw [edgesOf_split (addF F p k er) hp hk hne]
  have e1 : partA (addF F p k er) p k = partA F p k := flat_congr (fun q hq => one_other (fun e => by
    have := (P16_before p hp k hk q hq).2.2
    rw [e.1, e.2, cmpE_same] at this
    omega))
  have e2 : partB (addF F p k er) p k = partB F p k := flat_congr (fun q hq => one_other (fun e => by
    have := (P16_behind p hp k hk q hq).2.2
    rw [e.1, e.2, cmpE_same] at this
    omega))
  have e3 : addF F p k er p k = ((F p k).1 + 1, (F p k).2 + if er then 1 else 0) := by simp [addF]
  rw [e1, e2]
  unfold cntQ midOf
  rw [e3, if_pos (by show 0 < (F p k).1 + 1; omega)]
  by_cases h : 0 < (F p k).1
  · rw [if_pos h]; rfl
  · rw [if_neg h]
    have h1 : (F p k).1 = 0 := by omega
    rw [h1, hz h1]
    rfl
theorem edgesOf_diag (F : Nat → Nat → Int × Int) (p : Nat) (er : Bool) : edgesOf (addF F p p er) = edgesOf F := by
  refine flat_congr (fun q _ => ?_)
  by_cases h : q.1 = p ∧ q.2 = p
  · unfold one
    rw [if_neg (fun e => e.1 (by rw [h.1, h.2])), if_neg (fun e => e.1 (by rw [h.1, h.2]))]
  · exact one_other h
/-- What the first i spans of a chain tell. -/
def cnt (ks : List Nat) (es : List Bool) : Nat → Nat → Nat → Int × Int
  | 0 => fun _ _ => (0, 0)
  | i + 1 => if i = 0 then cnt ks es i else addF (cnt ks es i) (ks.getD (i - 1) 0) (ks.getD i 0) (es.getD i false)
theorem cnt_one (ks : List Nat) (es : List Bool) : cnt ks es 1 = cnt ks es 0 := by simp [cnt]
theorem cnt_succ (ks : List Nat) (es : List Bool) (i : Nat) : cnt ks es (i + 2) = addF (cnt ks es (i + 1)) (ks.getD i 0) (ks.getD (i + 1) 0) (es.getD (i + 1) false) := by
  show (if i + 1 = 0 then _ else _) = _
  rw [if_neg (by omega), Nat.add_sub_cancel]
theorem cnt_ok (ks : List Nat) (es : List Bool) : ∀ (i a b : Nat), 0 ≤ (cnt ks es i a b).2 ∧ (cnt ks es i a b).2 ≤ (cnt ks es i a b).1 ∧ (cnt ks es i a b).1 ≤ i := by
  intro i
  induction i with
  | zero => intro a b; exact ⟨Int.le_refl _, Int.le_refl _, Int.le_refl _⟩
  | succ i ih =>
    intro a b
    rcases i with _ | i
    · rw [cnt_one]; exact ⟨Int.le_refl _, Int.le_refl _, by show (0 : Int) ≤ _; omega⟩
    · rw [cnt_succ]
      unfold addF
      split
      · have h := ih (ks.getD i 0) (ks.getD (i + 1) 0)
        cases es.getD (i + 1) false <;> simp only [if_true, if_false, Bool.false_eq_true, reduceIte] <;> refine ⟨by omega, by omega, by omega⟩
      · have h := ih a b
        omega
/-- Spans that call one another in a row. -/
def chainSp (op : ByteArray) (ks : List Nat) (es : List Bool) (i : Nat) : SSpan := ⟨zTrace, (i : Int) + 1, (i : Int), nm (ks.getD i 0), op, 0, 0, es.getD i false, []⟩
def chainL (op : ByteArray) (ks : List Nat) (es : List Bool) (n : Nat) : List SSpan := (List.range n).map (chainSp op ks es)
theorem chainL_length (op : ByteArray) (ks : List Nat) (es : List Bool) (n : Nat) : (chainL op ks es n).length = n := by simp [chainL]
theorem chainL_get {op : ByteArray} {ks : List Nat} {es : List Bool} {n i : Nat} (h : i < n) : (chainL op ks es n)[i]? = some (chainSp op ks es i) := by simp [chainL, h]
theorem chainL_plain {op : ByteArray} {ks : List Nat} {es : List Bool} {n : Nat} (h1 : 1 ≤ op.size) (h2 : op.size ≤ 16) : ∀ x ∈ chainL op ks es n, Plain x := by
  intro x hx
  obtain ⟨i, _, rfl⟩ := List.mem_map.1 hx
  exact ⟨rfl, by show 1 ≤ 1; omega, by show 1 ≤ 16; omega, h1, h2, rfl, rfl, rfl⟩
theorem chainL_none (op : ByteArray) (ks : List Nat) (es : List Bool) (n : Nat) : findP (chainL op ks es n) 0 = none := by
  unfold findP
  rw [List.find?_eq_none]
  intro x hx
  obtain ⟨i, _, rfl⟩ := List.mem_map.1 hx
  simp [chainSp]
  omega
theorem chainL_some (op : ByteArray) (ks : List Nat) (es : List Bool) {n i : Nat} (h : i < n) : findP (chainL op ks es n) ((i : Int) + 1) = some (chainSp op ks es i) := by
  unfold findP
  rw [List.find?_eq_some_iff_getElem]
  refine ⟨by simp [chainSp], i, by rw [chainL_length]; exact h, by simp [chainL], fun j hj => ?_⟩
  simp [chainL, chainSp]
  omega
theorem nm_ne {a b : Nat} (ha : a < 4) (hb : b < 4) : (!((nm a).toList == (nm b).toList)) = !(a == b) := by
  have h : ∀ a, a < 4 → ∀ b, b < 4 → (!((nm a).toList == (nm b).toList)) = !(a == b) := by decide +kernel
  exact h a ha b hb
end Go.Proofs.Ytbfapgagmbiiaaa
