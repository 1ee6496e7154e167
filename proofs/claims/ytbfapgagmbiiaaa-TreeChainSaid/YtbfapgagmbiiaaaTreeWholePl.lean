/- Plain: what the walk of a tree tells, as TreeWhole asks it. -/
import Derived.Test.YtbfapgagmbiiaaaTreeGood
import Derived.Test.YtbfapgagmbiiaaaTreePlace
namespace Go.Proofs.Ytbfapgagmbiiaaa
open Gl
set_option linter.unusedVariables false
set_option linter.unusedSimpArgs false

theorem order_nodup (l : List SSpan) : (Tree.order l).Nodup := Tree.top_nodup (kids_ok l)
theorem order_in (l : List SSpan) : ∀ y ∈ Tree.order l, Tree.In l.length y := Tree.top_in (kids_ok l)
theorem depths_length (l : List SSpan) : (Tree.depths l).length = l.length := by unfold Tree.depths; rw [Tree.setAll_length, List.length_replicate]
theorem sizes_eq (l : List SSpan) : Tree.sizes l = Tree.setAll (List.replicate l.length 0) (Tree.tops (Tree.kids l) l.length) := Tree.ssets_eq _ _ _ _
theorem sizes_length (l : List SSpan) : (Tree.sizes l).length = l.length := by rw [sizes_eq, Tree.setAll_length, List.length_replicate]
theorem order_mem (l : List SSpan) {i : Int} (hi : Tree.In l.length i) : i ∈ Tree.order l := by
  obtain ⟨f, d, pre, post, ha⟩ := Tree.at_all (kids_ok l) hi
  exact List.mem_of_getElem? (Tree.at_order ha)
theorem order_length (l : List SSpan) : (Tree.order l).length = l.length := by
  have h1 := Tree.nodup_len (order_nodup l) (order_in l)
  refine Nat.le_antisymm h1 ?_
  rcases Nat.lt_or_ge (Tree.order l).length l.length with h | h
  · obtain ⟨a, b, hab, hb, e⟩ := Tree.pigeon (Tree.order l).length (fun k => (Tree.order l).idxOf (k : Int)) (fun k hk => List.idxOf_lt_length_iff.2 (order_mem l ⟨by omega, by omega⟩))
    have e : (Tree.order l).idxOf (a : Int) = (Tree.order l).idxOf (b : Int) := e
    have ha2 : (Tree.order l).idxOf (a : Int) < (Tree.order l).length := List.idxOf_lt_length_iff.2 (order_mem l ⟨by omega, by omega⟩)
    have hb2 : (Tree.order l).idxOf (b : Int) < (Tree.order l).length := List.idxOf_lt_length_iff.2 (order_mem l ⟨by omega, by omega⟩)
    have e1 := List.getElem_idxOf ha2
    have e2 := List.getElem_idxOf hb2
    simp only [e] at e1
    rw [e1] at e2
    omega
  · exact h
/-- Where each stands. -/
def posns (l : List SSpan) (k : Nat) : List Int := Tree.setAll (List.replicate l.length 0) (((Tree.order l).take k).mapIdx (fun j x => (x, (j : Int))))
def seens (l : List SSpan) (k : Nat) : List Bool := (List.range l.length).map (fun (y : Nat) => decide ((y : Int) ∈ (Tree.order l).take k))
theorem posns_length (l : List SSpan) (k : Nat) : (posns l k).length = l.length := by unfold posns; rw [Tree.setAll_length, List.length_replicate]
theorem posns_step (l : List SSpan) {k : Nat} {x : Int} (h : (Tree.order l)[k]? = some x) : (posns l k).set x.toNat (k : Int) = posns l (k + 1) := by
  have hk := (List.getElem?_eq_some_iff.1 h).1
  unfold posns
  rw [Tree.take_one h, List.mapIdx_append, Tree.setAll_append, List.length_take, Nat.min_eq_left (by omega)]
  simp [Tree.setAll]
theorem seens_step (l : List SSpan) {k : Nat} {x : Int} (h : (Tree.order l)[k]? = some x) : (seens l k).set x.toNat true = seens l (k + 1) := by
  have hx := order_in l x (List.mem_of_getElem? h)
  have hx0 := hx.1
  have hx1 := hx.2
  apply List.ext_getElem?
  intro i
  unfold seens
  rw [Tree.take_one h]
  by_cases hi : i < l.length
  · by_cases e : x.toNat = i
    · subst e
      rw [List.getElem?_set_self (by simpa using hi)]
      have hc : ((x.toNat : Nat) : Int) = x := Int.toNat_of_nonneg hx0
      simp [hi, hc]
    · rw [List.getElem?_set_ne e]
      have : ¬ (i : Int) = x := by omega
      simp [hi, this]
  · rw [List.getElem?_eq_none (by simp; omega), List.getElem?_eq_none (by simp; omega)]
theorem seens_zero (l : List SSpan) : seens l 0 = List.replicate l.length false := by
  apply List.ext_getElem?
  intro i
  by_cases hi : i < l.length <;> simp [seens, hi]
theorem seens_fresh (l : List SSpan) {k : Nat} {x : Int} (h : (Tree.order l)[k]? = some x) : (seens l k)[x.toNat]? = some false := by
  have hx := order_in l x (List.mem_of_getElem? h)
  have hx0 := hx.1
  have hx1 := hx.2
  have hk := (List.getElem?_eq_some_iff.1 h).1
  have hxl : x.toNat < l.length := by omega
  have hn : x ∉ (Tree.order l).take k := by
    intro hm
    obtain ⟨j, hj, e⟩ := List.mem_iff_getElem.1 hm
    rw [List.length_take] at hj
    rw [List.getElem_take] at e
    have e2 := (List.getElem?_eq_some_iff.1 h).2
    exact List.pairwise_iff_getElem.1 (order_nodup l) j k (by omega) hk (by omega) (by rw [e, e2])
  unfold seens
  have hc : ((x.toNat : Nat) : Int) = x := Int.toNat_of_nonneg hx0
  simp [hxl, hc, hn]
theorem posns_get (l : List SSpan) {k : Nat} {x : Int} (h : (Tree.order l)[k]? = some x) : (posns l l.length)[x.toNat]? = some (k : Int) := by
  have hk := (List.getElem?_eq_some_iff.1 h).1
  unfold posns
  rw [← order_length l, List.take_length]
  have hfst : ((Tree.order l).mapIdx (fun j x => (x, (j : Int)))).map (·.1) = Tree.order l := by
    apply List.ext_getElem?
    intro i
    simp
    cases (Tree.order l)[i]? <;> rfl
  refine Tree.setAll_get (q := (x, (k : Int))) (n := l.length) (by simp [order_length]) (by rw [hfst]; exact order_nodup l) (by rw [hfst]; exact order_in l) ?_
  rw [List.mem_mapIdx]
  exact ⟨k, hk, by rw [(List.getElem?_eq_some_iff.1 h).2]⟩
theorem named_up (l : List SSpan) {i : Nat} (hi : i < l.length) {u : Nat} (h : Tree.named l i = (u : Int)) : u < l.length ∧ (l[u]?.map (·.f1)) = (l[i]?.map (·.f2)) := by
  unfold Tree.named at h
  split at h
  · rename_i k hk
    have e : k = u := by omega
    subst e
    have h1 := List.mem_of_find?_eq_some hk
    have h2 := List.find?_some hk
    unfold Tree.hits at h2
    rw [Bool.and_eq_true] at h2
    exact ⟨by simpa using h1, by simpa using h2.2⟩
  · omega
/-- A place that has a parent: as TreeWhole asks it. -/
theorem child_facts (l : List SSpan) {i u : Nat} (hi : i < l.length) (hp : (Tree.parents l)[i]? = some (u : Int)) :
    u < l.length ∧ (l[u]?.map (·.f1)) = (l[i]?.map (·.f2)) ∧ ∃ pu pi du su si : Nat, (posns l l.length)[u]? = some (pu : Int) ∧ (posns l l.length)[i]? = some (pi : Int) ∧ (Tree.depths l)[u]? = some (du : Int) ∧ (Tree.depths l)[i]? = some ((du : Int) + 1) ∧
      (Tree.sizes l)[u]? = some (su : Int) ∧ (Tree.sizes l)[i]? = some (si : Int) ∧ pu < pi ∧ pi < pu + su ∧ si < su ∧ pi < l.length ∧ su ≤ l.length ∧ du ≤ l.length := by
  have hg : (Tree.parents l).getD ((i : Int)).toNat 0 = (u : Int) := by rw [Int.toNat_natCast, List.getD_eq_getElem?_getD, hp]; rfl
  have hin : Tree.In l.length (i : Int) := ⟨by omega, by omega⟩
  obtain ⟨hup, -⟩ := Tree.parents_up l hin (by rw [hg]; omega)
  have hname : Tree.named l i = (u : Int) := by
    rw [hg, Int.toNat_natCast, List.getD_eq_getElem?_getD] at hup
    simp [Tree.ups, hi] at hup
    exact hup.symm
  obtain ⟨hu, hid⟩ := named_up l hi hname
  have huin : Tree.In l.length (u : Int) := ⟨by omega, by omega⟩
  have hK := kids_ok l
  obtain ⟨f, d, pre, post, ha⟩ := Tree.at_all hK huin
  obtain ⟨f', a, b, -, e, hc⟩ := Tree.at_kid ha ((hK.mem _ huin i).2 ⟨hin, hg⟩)
  have hlen := congrArg List.length e
  rw [List.length_cons, List.length_append, List.length_append] at hlen
  have hpu := posns_get l (Tree.at_order ha)
  have hpi := posns_get l (Tree.at_order hc)
  have hdu := Tree.at_depth hK ha (D := List.replicate l.length 0) (by simp)
  have hdi := Tree.at_depth hK hc (D := List.replicate l.length 0) (by simp)
  have hsu := Tree.at_size hK ha (S := List.replicate l.length 0) (by simp)
  have hsi := Tree.at_size hK hc (S := List.replicate l.length 0) (by simp)
  rw [← sizes_eq] at hsu hsi
  rw [Int.toNat_natCast] at hpu hpi hdu hdi hsu hsi
  have hpos : 0 < (Tree.tree (Tree.kids l) (f' + 1) (i : Int) (d + 1)).length := by rw [Tree.tree_succ]; simp
  have htop := order_length l
  have hwl : (Tree.top (Tree.kids l) l.length).length = l.length := by
    have h1 := htop
    unfold Tree.order at h1
    rw [List.length_map] at h1
    exact h1
  rw [ha.walk, List.length_append, List.length_append] at hwl
  obtain ⟨hd0, hd1⟩ := ha.deep
  have hcl : (pre ++ ((u : Int), d) :: a).length = pre.length + (a.length + 1) := by simp
  rw [hcl] at hpi
  refine ⟨hu, hid, pre.length, pre.length + (a.length + 1), d.toNat, (Tree.tree (Tree.kids l) (f + 1) (u : Int) d).length, (Tree.tree (Tree.kids l) (f' + 1) (i : Int) (d + 1)).length, hpu, hpi, ?_, ?_, hsu, hsi, by omega, by omega, by omega, by omega, by omega, by omega⟩
  · rw [Int.toNat_of_nonneg hd0]; exact hdu
  · rw [Int.toNat_of_nonneg hd0]; exact hdi
theorem root_facts (l : List SSpan) {i : Nat} (hi : i < l.length) (hp : (Tree.parents l)[i]? = some (-1)) : (Tree.depths l)[i]? = some 0 ∧ ∃ si : Nat, (Tree.sizes l)[i]? = some (si : Int) ∧ (si : Int) = (Tree.tree (Tree.kids l) (l.length + 1) (i : Int) 0).length := by
  have hg : (Tree.parents l).getD ((i : Int)).toNat 0 = -1 := by rw [Int.toNat_natCast, List.getD_eq_getElem?_getD, hp]; rfl
  have hin : Tree.In l.length (i : Int) := ⟨by omega, by omega⟩
  have hK := kids_ok l
  obtain ⟨pre, post, ha⟩ := Tree.at_top hK ((hK.top i).2 ⟨hin, hg⟩)
  have hd := Tree.at_depth hK ha (D := List.replicate l.length 0) (by simp)
  have hs := Tree.at_size hK ha (S := List.replicate l.length 0) (by simp)
  rw [← sizes_eq] at hs
  rw [Int.toNat_natCast] at hd hs
  exact ⟨hd, _, hs, rfl⟩
def rootsTo (l : List SSpan) (k : Nat) : List Int := ((List.range k).filter (fun i => (Tree.parents l).getD i 0 == -1)).map Int.ofNat
def rootLen (l : List SSpan) (k : Nat) : Nat := ((rootsTo l k).flatMap (fun j => Tree.tree (Tree.kids l) (l.length + 1) j 0)).length
theorem rootLen_root (l : List SSpan) {k : Nat} (hp : (Tree.parents l)[k]? = some (-1)) : rootLen l (k + 1) = rootLen l k + (Tree.tree (Tree.kids l) (l.length + 1) (k : Int) 0).length := by
  have e : ((Tree.parents l).getD k 0 == -1) = true := by rw [List.getD_eq_getElem?_getD, hp]; rfl
  unfold rootLen rootsTo
  rw [List.range_succ, List.filter_append, List.map_append, List.flatMap_append, List.length_append, List.filter_cons, if_pos e]
  simp
theorem rootLen_child (l : List SSpan) {k : Nat} {u : Nat} (hp : (Tree.parents l)[k]? = some (u : Int)) : rootLen l (k + 1) = rootLen l k := by
  have e : ¬ ((Tree.parents l).getD k 0 == -1) = true := by rw [List.getD_eq_getElem?_getD, hp]; simp
  unfold rootLen rootsTo
  rw [List.range_succ, List.filter_append, List.map_append, List.filter_cons, if_neg e]
  simp
theorem rootLen_all (l : List SSpan) : rootLen l l.length = l.length := by
  have hrow : rootsTo l l.length = Tree.rowOf (Tree.parents l) l.length l.length l.length := by
    unfold rootsTo Tree.rowOf
    congr 1
    refine List.filter_congr (fun i hi => ?_)
    have hin : Tree.In (Tree.parents l).length (i : Int) := by rw [Tree.parents_length]; exact ⟨by omega, by have := List.mem_range.1 hi; omega⟩
    have h := Tree.ok_get (Tree.parents_ok l) hin
    rw [Int.toNat_natCast, Tree.parents_length] at h
    unfold Tree.spot
    rcases h with h | h
    · rw [h]; simp
    · have h1 := h.1
      have h2 := h.2
      rw [if_neg (by omega)]
      have a1 : ((Tree.parents l).getD i 0 == -1) = false := by simp only [beq_eq_false_iff_ne]; omega
      have a2 : (((Tree.parents l).getD i 0).toNat == l.length) = false := by simp only [beq_eq_false_iff_ne]; omega
      rw [a1, a2]
  have hperm : List.Perm (Tree.kid (Tree.kids l) (l.length : Int)) (rootsTo l l.length) := by
    rw [hrow, kid_eq l (by omega)]
    exact Sort.isort_perm _ _
  have h1 := order_length l
  unfold Tree.order at h1
  rw [List.length_map] at h1
  unfold rootLen
  rw [← (hperm.flatMap_right _).length_eq]
  exact h1
theorem rootLen_le (l : List SSpan) (k : Nat) : k ≤ l.length → rootLen l k ≤ l.length := by
  intro hk
  have h : ∀ j, rootLen l k ≤ rootLen l (k + j) := by
    intro j
    induction j with
    | zero => exact Nat.le_refl _
    | succ j ih =>
      refine Nat.le_trans ih ?_
      unfold rootLen rootsTo
      rw [← Nat.add_assoc, List.range_succ, List.filter_append, List.map_append, List.flatMap_append, List.length_append]
      exact Nat.le_add_right _ _
  have h2 := h (l.length - k)
  rw [show k + (l.length - k) = l.length by omega, rootLen_all] at h2
  exact h2
end Go.Proofs.Ytbfapgagmbiiaaa
