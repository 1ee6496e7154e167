/- Plain: spans that call one another in a row, wherever they lie. -/
import Derived.Test.YtbfapgagmbiiaaaTreeWholePl
import Derived.Test.YtbfapgagmbiiaaaTreeAlive
namespace Go.Proofs.Ytbfapgagmbiiaaa
open Gl
set_option linter.unusedVariables false
set_option linter.unusedSimpArgs false

/-- The spans when those at the places wh have been told, in this order, of n. -/
def chainTo (n : Nat) (wh : List Nat) : List SSpan := (List.range n).map fun k => if k ∈ wh then zzSpan ((wh.idxOf k : Int) + 1) (wh.idxOf k : Int) else zzSpan 0 0
theorem chainTo_length (n : Nat) (wh : List Nat) : (chainTo n wh).length = n := by simp [chainTo]
theorem chainTo_nil (n : Nat) : chainTo n [] = List.replicate n (zzSpan 0 0) := by
  apply List.ext_getElem?
  intro i
  by_cases h : i < n <;> simp [chainTo, h]
theorem chainTo_get {n : Nat} {wh : List Nat} {k : Nat} (hk : k < n) : (chainTo n wh)[k]? = some (if k ∈ wh then zzSpan ((wh.idxOf k : Int) + 1) (wh.idxOf k : Int) else zzSpan 0 0) := by simp [chainTo, hk]
theorem chainTo_set {n : Nat} {wh : List Nat} {k : Nat} (hk : k < n) (h : k ∉ wh) : (chainTo n wh).set k (zzSpan ((wh.length : Int) + 1) (wh.length : Int)) = chainTo n (wh ++ [k]) := by
  apply List.ext_getElem?
  intro i
  by_cases hi : i < n
  · by_cases e : k = i
    · subst e
      rw [List.getElem?_set_self (by rw [chainTo_length]; exact hk), chainTo_get hk, if_pos (by simp), List.idxOf_append, if_neg h]
      simp
    · rw [List.getElem?_set_ne e, chainTo_get hi, chainTo_get hi]
      by_cases hm : i ∈ wh
      · rw [if_pos hm, if_pos (by simp [hm]), List.idxOf_append, if_pos hm]
      · rw [if_neg hm, if_neg (by simp [hm]; omega)]
  · rw [List.getElem?_eq_none (by rw [List.length_set, chainTo_length]; omega), List.getElem?_eq_none (by rw [chainTo_length]; omega)]
/-- Places: each below n, none twice. -/
structure Pls (n : Nat) (wh : List Nat) : Prop where
  lt : ∀ k ∈ wh, k < n
  nd : wh.Nodup
theorem Pls.snoc {n : Nat} {wh : List Nat} (h : Pls n wh) {k : Nat} (hk : k < n) (hm : k ∉ wh) : Pls n (wh ++ [k]) :=
  ⟨fun x hx => by rcases List.mem_append.1 hx with hx | hx; exact h.lt x hx; rw [List.mem_singleton] at hx; omega, by
    rw [List.nodup_append]
    exact ⟨h.nd, by simp, fun a ha b hb e => by rw [List.mem_singleton] at hb; subst hb; subst e; exact hm ha⟩⟩
theorem Pls.len {n : Nat} {wh : List Nat} (h : Pls n wh) : wh.length ≤ n := by
  have h2 := Tree.nodup_len (n := n) (L := wh.map Int.ofNat) (List.pairwise_map.2 (h.nd.imp (fun hab e => hab (Int.ofNat.inj e)))) (fun y hy => by
    obtain ⟨x, hx, rfl⟩ := List.mem_map.1 hy
    have := h.lt x hx
    exact ⟨Int.natCast_nonneg _, by show (x : Int) < n; omega⟩)
  simpa using h2
/-- While not all are told, some place is free. -/
theorem Pls.free {n : Nat} {wh : List Nat} (h : Pls n wh) (hl : wh.length < n) : ∃ k, k < n ∧ k ∉ wh := by
  refine Classical.byContradiction fun hno => ?_
  have hall : ∀ k, k < n → k ∈ wh := fun k hk => Classical.byContradiction fun hm => hno ⟨k, hk, hm⟩
  obtain ⟨a, b, hab, hb, e⟩ := Tree.pigeon wh.length (fun k => wh.idxOf k) (fun k hk => List.idxOf_lt_length_iff.2 (hall k (by omega)))
  have e : wh.idxOf a = wh.idxOf b := e
  have ha2 : wh.idxOf a < wh.length := List.idxOf_lt_length_iff.2 (hall a (by omega))
  have hb2 : wh.idxOf b < wh.length := List.idxOf_lt_length_iff.2 (hall b (by omega))
  have e1 := List.getElem_idxOf ha2
  have e2 := List.getElem_idxOf hb2
  simp only [e] at e1
  rw [e1] at e2
  omega
def upAt (wh : List Nat) : Nat → Int
  | 0 => -1
  | s + 1 => ((wh.getD s 0 : Nat) : Int)
section
set_option linter.unusedSectionVars false
variable {n : Nat} {wh : List Nat} (h : Pls n wh) (hl : wh.length = n)
include h hl
theorem chain_all {k : Nat} (hk : k < n) : ∃ t, t < n ∧ wh[t]? = some k := by
  by_cases hm : k ∈ wh
  · obtain ⟨t, ht, e⟩ := List.mem_iff_getElem.1 hm
    exact ⟨t, by omega, by rw [List.getElem?_eq_getElem ht, e]⟩
  · have h2 := (h.snoc hk hm).len
    rw [List.length_append, List.length_singleton] at h2
    omega
theorem chain_at {t k : Nat} (ht : wh[t]? = some k) : (chainTo n wh)[k]? = some (zzSpan ((t : Int) + 1) (t : Int)) := by
  obtain ⟨htl, e⟩ := List.getElem?_eq_some_iff.1 ht
  have hm : k ∈ wh := List.mem_of_getElem? ht
  rw [chainTo_get (h.lt k hm), if_pos hm]
  have e2 : wh.idxOf k = t := by
    have h1 : wh.idxOf k < wh.length := List.idxOf_lt_length_iff.2 hm
    have h2 := List.getElem_idxOf h1
    rcases Nat.lt_trichotomy (wh.idxOf k) t with h3 | h3 | h3
    · exact absurd (by rw [h2, e]) (List.pairwise_iff_getElem.1 h.nd _ t h1 htl h3)
    · exact h3
    · exact absurd (by rw [h2, e]) (List.pairwise_iff_getElem.1 h.nd t _ htl h1 h3)
  rw [e2]
theorem chain_inj {s t k : Nat} (hs : wh[s]? = some k) (ht : wh[t]? = some k) : s = t := by
  have h1 := chain_at h hl hs
  rw [chain_at h hl ht] at h1
  injection h1 with h1
  have h2 := congrArg SSpan.f1 h1
  simp only [zzSpan] at h2
  omega
theorem chain_named_succ {t k j : Nat} (ht : wh[t]? = some k) (hj : wh[t + 1]? = some j) : Tree.named (chainTo n wh) j = (k : Int) := by
  have hjn := h.lt j (List.mem_of_getElem? hj)
  have hkn := h.lt k (List.mem_of_getElem? ht)
  have hit : ∀ x, x < n → (Tree.hits (chainTo n wh) j x = true ↔ x = k) := by
    intro x hx
    obtain ⟨s, hs, hxs⟩ := chain_all h hl hx
    unfold Tree.hits
    rw [chain_at h hl hxs, chain_at h hl hj]
    simp [zzSpan]
    constructor
    · rintro ⟨_, e⟩
      have e2 : s = t := by omega
      subst e2
      rw [hxs] at ht
      injection ht
    · rintro rfl
      have e := chain_inj h hl hxs ht
      subst e
      refine ⟨fun e => ?_, by omega⟩
      subst e
      have := chain_inj h hl hxs hj
      omega
  refine Tree.named_hit (by rw [chainTo_length]; exact hkn) ((hit k hkn).2 rfl) (fun x hx => ?_)
  have h2 := hit x (by omega)
  cases hh : Tree.hits (chainTo n wh) j x with
  | false => rfl
  | true => have := h2.1 hh; omega
theorem chain_named_zero {j : Nat} (hj : wh[0]? = some j) : Tree.named (chainTo n wh) j = -1 := by
  refine Tree.named_miss (fun x hx => ?_)
  rw [chainTo_length] at hx
  obtain ⟨s, hs, hxs⟩ := chain_all h hl hx
  unfold Tree.hits
  rw [chain_at h hl hxs, chain_at h hl hj]
  simp [zzSpan]
  intro _ e
  omega
theorem chain_ups {t k : Nat} (ht : wh[t]? = some k) : (Tree.ups (chainTo n wh)).getD k 0 = upAt wh t := by
  have hkn := h.lt k (List.mem_of_getElem? ht)
  have e : (Tree.ups (chainTo n wh)).getD k 0 = Tree.named (chainTo n wh) k := by
    rw [List.getD_eq_getElem?_getD]
    simp [Tree.ups, chainTo_length, hkn]
  rw [e]
  rcases t with _ | s
  · exact chain_named_zero h hl ht
  · have hs : s < wh.length := by have := (List.getElem?_eq_some_iff.1 ht).1; omega
    rw [chain_named_succ h hl (List.getElem?_eq_getElem hs) ht]
    show _ = ((wh.getD s 0 : Nat) : Int)
    rw [List.getD_eq_getElem?_getD, List.getElem?_eq_getElem hs]
    rfl
theorem chain_climb : ∀ (c t k : Nat), wh[t]? = some k → Tree.climb (Tree.ups (chainTo n wh)) (c + 1) (k : Int) = -1 ∨ ∃ s j, s < t ∧ wh[s]? = some j ∧ Tree.climb (Tree.ups (chainTo n wh)) (c + 1) (k : Int) = (j : Int) := by
  intro c
  induction c with
  | zero =>
    intro t k ht
    have hu := chain_ups h hl ht
    rw [Tree.climb_one (by omega), Int.toNat_natCast, hu]
    rcases t with _ | s
    · exact .inl rfl
    · have hs : s < wh.length := by have := (List.getElem?_eq_some_iff.1 ht).1; omega
      refine .inr ⟨s, wh[s], by omega, List.getElem?_eq_getElem hs, ?_⟩
      show ((wh.getD s 0 : Nat) : Int) = _
      rw [List.getD_eq_getElem?_getD, List.getElem?_eq_getElem hs]
      rfl
  | succ c ih =>
    intro t k ht
    rw [Tree.climb_succ]
    rcases ih t k ht with e | ⟨s, j, hs, hj, e⟩
    · rw [e]; exact .inl (Tree.climb_top _ _)
    · rw [e]
      have hu := chain_ups h hl hj
      rw [Tree.climb_one (by omega), Int.toNat_natCast, hu]
      rcases s with _ | s
      · exact .inl rfl
      · have hs2 : s < wh.length := by have := (List.getElem?_eq_some_iff.1 hj).1; omega
        refine .inr ⟨s, wh[s], by omega, List.getElem?_eq_getElem hs2, ?_⟩
        show ((wh.getD s 0 : Nat) : Int) = _
        rw [List.getD_eq_getElem?_getD, List.getElem?_eq_getElem hs2]
        rfl
omit h hl in
theorem ringGo_none {up : List Int} {i : Int} : ∀ (N : Nat) (least k : Int), (∀ j, Tree.climb up j k ≠ i) → Tree.ringGo up i N least k = -1 := by
  intro N
  induction N with
  | zero => intro least k _; rfl
  | succ N ih =>
    intro least k hj
    rw [Tree.ringGo]
    by_cases hk : k = -1
    · rw [if_pos hk]
    · rw [if_neg hk, if_neg (show ¬ k = i from hj 0)]
      exact ih _ _ (fun j => by have := hj (j + 1); simpa [Tree.climb, hk] using this)
theorem chain_ring {t k : Nat} (ht : wh[t]? = some k) : Tree.ring (Tree.ups (chainTo n wh)) k = -1 := by
  unfold Tree.ring
  refine ringGo_none _ _ _ (fun j e => ?_)
  have e2 : Tree.climb (Tree.ups (chainTo n wh)) (j + 1) (k : Int) = (k : Int) := by
    rw [Nat.add_comm, Tree.climb_add, Tree.climb_one (by omega), Int.toNat_natCast]
    exact e
  rcases chain_climb h hl j t k ht with h1 | ⟨s, j', hs, hj, h1⟩
  · omega
  · have e3 : j' = k := by omega
    subst e3
    have := chain_inj h hl hj ht
    omega
theorem chain_parents {t k : Nat} (ht : wh[t]? = some k) : (Tree.parents (chainTo n wh)).getD k 0 = upAt wh t := by
  have hkn := h.lt k (List.mem_of_getElem? ht)
  rw [← chain_ups h hl ht]
  have hul : k < (Tree.ups (chainTo n wh)).length := by rw [Tree.ups_length, chainTo_length]; exact hkn
  have hr := chain_ring h hl ht
  rw [List.getD_eq_getElem?_getD, List.getD_eq_getElem?_getD]
  simp only [Tree.parents, Tree.cutTo, List.getElem?_mapIdx]
  rw [List.getElem?_eq_getElem hul]
  simp only [Option.map_some, Option.getD_some]
  rw [if_neg (by rintro ⟨_, e⟩; rw [hr] at e; omega)]
omit h hl in
theorem only_one {α : Type} {L : List α} {x : α} (hn : L.Nodup) (hm : ∀ y, y ∈ L ↔ y = x) : L = [x] := by
  rcases L with _ | ⟨a, _ | ⟨b, L⟩⟩
  · have := (hm x).2 rfl
    cases this
  · have := (hm a).1 (by simp)
    rw [this]
  · have h1 := (hm a).1 (by simp)
    have h2 := (hm b).1 (by simp)
    rw [List.nodup_cons] at hn
    exact absurd (by rw [h1, h2]; simp) hn.1
theorem chain_kid_top {k : Nat} (hk : wh[0]? = some k) : Tree.kid (Tree.kids (chainTo n wh)) (n : Int) = [(k : Int)] := by
  have hK := kids_ok (chainTo n wh)
  have hnn := hK.nodup (((chainTo n wh).length : Nat) : Int) (.inr rfl)
  have htop := hK.top
  rw [chainTo_length] at hnn htop
  refine only_one hnn (fun y => ?_)
  rw [htop]
  constructor
  · rintro ⟨⟨h0, h1⟩, h2⟩
    obtain ⟨y, rfl⟩ := Int.eq_ofNat_of_zero_le h0
    obtain ⟨t, htn, hty⟩ := chain_all h hl (k := y) (by omega)
    rw [Int.toNat_natCast, chain_parents h hl hty] at h2
    rcases t with _ | s
    · rw [hk] at hty; injection hty with e; rw [e]
    · have h2 : ((wh.getD s 0 : Nat) : Int) = -1 := h2
      omega
  · rintro rfl
    have hkn := h.lt k (List.mem_of_getElem? hk)
    exact ⟨⟨by omega, by omega⟩, by rw [Int.toNat_natCast, chain_parents h hl hk]; rfl⟩
theorem chain_kid_next {t k j : Nat} (ht : wh[t]? = some k) (hj : wh[t + 1]? = some j) : Tree.kid (Tree.kids (chainTo n wh)) (k : Int) = [(j : Int)] := by
  have hK := kids_ok (chainTo n wh)
  have hkn := h.lt k (List.mem_of_getElem? ht)
  have hjn := h.lt j (List.mem_of_getElem? hj)
  have hin : Tree.In (chainTo n wh).length (k : Int) := by rw [chainTo_length]; exact ⟨by omega, by omega⟩
  refine only_one (hK.nodup _ (.inl hin)) (fun y => ?_)
  rw [hK.mem _ hin, chainTo_length]
  constructor
  · rintro ⟨⟨h0, h1⟩, h2⟩
    obtain ⟨y, rfl⟩ := Int.eq_ofNat_of_zero_le h0
    obtain ⟨s, hsn, hsy⟩ := chain_all h hl (k := y) (by omega)
    rw [Int.toNat_natCast, chain_parents h hl hsy] at h2
    rcases s with _ | s
    · have h2 : (-1 : Int) = (k : Int) := h2
      omega
    · have h2 : ((wh.getD s 0 : Nat) : Int) = (k : Int) := h2
      have hs : s < wh.length := by have := (List.getElem?_eq_some_iff.1 hsy).1; omega
      have e : wh[s]? = some k := by
        rw [List.getElem?_eq_getElem hs]
        rw [List.getD_eq_getElem?_getD, List.getElem?_eq_getElem hs] at h2
        simp only [Option.getD_some] at h2
        congr 1
        omega
      have e2 := chain_inj h hl e ht
      subst e2
      rw [hj] at hsy
      injection hsy with e3
      rw [e3]
  · rintro rfl
    refine ⟨⟨by omega, by omega⟩, ?_⟩
    have hs : t < wh.length := by have := (List.getElem?_eq_some_iff.1 ht).1; omega
    rw [Int.toNat_natCast, chain_parents h hl hj]
    show ((wh.getD t 0 : Nat) : Int) = _
    rw [List.getD_eq_getElem?_getD, ht]
    rfl
theorem chain_kid_last {k : Nat} (hk : wh[n - 1]? = some k) : Tree.kid (Tree.kids (chainTo n wh)) (k : Int) = [] := by
  have hK := kids_ok (chainTo n wh)
  have hkn := h.lt k (List.mem_of_getElem? hk)
  have hin : Tree.In (chainTo n wh).length (k : Int) := by rw [chainTo_length]; exact ⟨by omega, by omega⟩
  refine List.eq_nil_iff_forall_not_mem.2 (fun y hy => ?_)
  rw [hK.mem _ hin, chainTo_length] at hy
  obtain ⟨⟨h0, h1⟩, h2⟩ := hy
  obtain ⟨y, rfl⟩ := Int.eq_ofNat_of_zero_le h0
  obtain ⟨s, hsn, hsy⟩ := chain_all h hl (k := y) (by omega)
  rw [Int.toNat_natCast, chain_parents h hl hsy] at h2
  rcases s with _ | s
  · have h2 : (-1 : Int) = (k : Int) := h2
    omega
  · have h2 : ((wh.getD s 0 : Nat) : Int) = (k : Int) := h2
    have hs : s < wh.length := by have := (List.getElem?_eq_some_iff.1 hsy).1; omega
    have e : wh[s]? = some k := by
      rw [List.getElem?_eq_getElem hs]
      rw [List.getD_eq_getElem?_getD, List.getElem?_eq_getElem hs] at h2
      simp only [Option.getD_some] at h2
      congr 1
      omega
    have := chain_inj h hl e hk
    omega
theorem chain_tree : ∀ (f t k : Nat) (d : Int), wh[t]? = some k → n - t ≤ f → Tree.tree (Tree.kids (chainTo n wh)) f (k : Int) d = (List.range (n - t)).map (fun s => (((wh.getD (t + s) 0 : Nat) : Int), d + (s : Int))) := by
  intro f
  induction f with
  | zero =>
    intro t k d ht hf
    have := (List.getElem?_eq_some_iff.1 ht).1
    omega
  | succ f ih =>
    intro t k d ht hf
    have htl := (List.getElem?_eq_some_iff.1 ht).1
    have hg : wh.getD t 0 = k := by rw [List.getD_eq_getElem?_getD, ht]; rfl
    rw [Tree.tree_succ]
    rcases Nat.lt_or_ge (t + 1) n with h1 | h1
    · obtain ⟨j, hj⟩ : ∃ j, wh[t + 1]? = some j := ⟨_, List.getElem?_eq_getElem (by omega)⟩
      rw [chain_kid_next h hl ht hj, Tree.forest_one, ih (t + 1) j (d + 1) hj (by omega), show n - t = (n - (t + 1)) + 1 by omega, List.range_succ_eq_map, List.map_cons, List.map_map]
      simp only [Nat.add_zero, hg, Int.natCast_zero, Int.add_zero]
      congr 1
      refine List.map_congr_left (fun s _ => ?_)
      simp only [Function.comp_apply]
      rw [show t + 1 + s = t + s.succ by omega]
      congr 1
      have : ((s.succ : Nat) : Int) = (s : Int) + 1 := by omega
      rw [this]
      omega
    · obtain rfl : t = n - 1 := by omega
      rw [chain_kid_last h hl ht, show n - (n - 1) = 1 by omega]
      rw [List.getD_eq_getElem?_getD] at hg
      simp [Tree.forest, hg]
theorem chain_wood (hn : 0 < n) : Tree.wood (chainTo n wh) = (List.range n).map (fun s => (((wh.getD s 0 : Nat) : Int), (s : Int))) := by
  obtain ⟨k, hk⟩ : ∃ k, wh[0]? = some k := ⟨_, List.getElem?_eq_getElem (by omega)⟩
  unfold Tree.wood
  rw [chainTo_length, chain_kid_top h hl hk, Tree.forest_one, chain_tree h hl (n + 1) 0 k 0 hk (by omega)]
  simp
theorem chain_order (hn : 0 < n) {t k : Nat} (ht : wh[t]? = some k) : (Tree.order (chainTo n wh))[t]? = some (k : Int) := by
  have htl := (List.getElem?_eq_some_iff.1 ht).1
  unfold Tree.order
  rw [chain_wood h hl hn, List.map_map, List.getElem?_map, List.getElem?_range (by omega)]
  simp only [Option.map_some, Function.comp_apply]
  rw [List.getD_eq_getElem?_getD, ht]
  rfl
theorem chain_depth (hn : 0 < n) {t k : Nat} (ht : wh[t]? = some k) : (Tree.depths (chainTo n wh))[k]? = some (t : Int) := by
  have htl := (List.getElem?_eq_some_iff.1 ht).1
  have hK := kids_ok (chainTo n wh)
  have h1 := Tree.setAll_get (q := ((k : Int), (t : Int))) (n := (chainTo n wh).length) (D := List.replicate (chainTo n wh).length 0) (by simp) (Tree.top_nodup hK) (Tree.top_in hK) (by
    show ((k : Int), (t : Int)) ∈ Tree.wood (chainTo n wh)
    rw [chain_wood h hl hn, List.mem_map]
    refine ⟨t, List.mem_range.2 (by omega), ?_⟩
    rw [List.getD_eq_getElem?_getD, ht]
    rfl)
  rw [Int.toNat_natCast] at h1
  exact h1
theorem chain_size (hn : 0 < n) {t k : Nat} (ht : wh[t]? = some k) : (Tree.sizes (chainTo n wh))[k]? = some ((n : Int) - (t : Int)) := by
  have htl := (List.getElem?_eq_some_iff.1 ht).1
  have hK := kids_ok (chainTo n wh)
  have hkn := h.lt k (List.mem_of_getElem? ht)
  have hin : Tree.In (chainTo n wh).length (k : Int) := by rw [chainTo_length]; exact ⟨by omega, by omega⟩
  obtain ⟨f, d, pre, post, ha⟩ := Tree.at_all hK hin
  have hs := Tree.at_size hK ha (S := List.replicate (chainTo n wh).length 0) (by simp)
  have hd := Tree.at_depth hK ha (D := List.replicate (chainTo n wh).length 0) (by simp)
  have hd2 := chain_depth h hl hn ht
  unfold Tree.depths at hd2
  rw [Int.toNat_natCast] at hd hs
  have e : Tree.top (Tree.kids (chainTo n wh)) (chainTo n wh).length = Tree.wood (chainTo n wh) := rfl
  rw [e, hd2] at hd
  injection hd with hd
  have hdf := ha.deep
  rw [chainTo_length] at hdf
  rw [sizes_eq, hs, chain_tree h hl (f + 1) t k d ht (by omega), List.length_map, List.length_range]
  congr 1
  omega
end
end Go.Proofs.Ytbfapgagmbiiaaa
