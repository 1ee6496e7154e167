/- Plain: where each place stands in the walk; its depth, its size. -/
import Derived.Test.YtbfapgagmbiiaaaTreeDown
namespace Gl.Tree
open Gl

/-- What the walk writes of sizes, in its order. -/
def szs (K : List (List Int)) : Nat → Int → List (Int × Int)
  | 0, _ => []
  | f + 1, i => (kid K i).flatMap (fun j => szs K f j) ++ [(i, ((tree K (f + 1) i 0).length : Int))]
theorem szs_succ (K : List (List Int)) (f : Nat) (i : Int) : szs K (f + 1) i = (kid K i).flatMap (fun j => szs K f j) ++ [(i, ((tree K (f + 1) i 0).length : Int))] := rfl
theorem ssets_eq_of {K : List (List Int)} {f : Nat} (h : ∀ j S, sset K f j S = setAll S (szs K f j)) : ∀ (ids : List Int) (S : List Int), ssets K f ids S = setAll S (ids.flatMap (fun j => szs K f j)) := by
  intro ids
  induction ids with
  | nil => intro S; rfl
  | cons j ids ih =>
    intro S
    rw [List.flatMap_cons, setAll_append, ← h, ← ih]
    rfl
theorem sset_eq (K : List (List Int)) : ∀ (f : Nat) (i : Int) (S : List Int), sset K f i S = setAll S (szs K f i) := by
  intro f
  induction f with
  | zero => intro i S; rfl
  | succ f ih =>
    intro i S
    rw [szs_succ, setAll_append, ← ssets_eq_of ih]
    rfl
theorem ssets_eq (K : List (List Int)) (f : Nat) (ids : List Int) (S : List Int) : ssets K f ids S = setAll S (ids.flatMap (fun j => szs K f j)) := ssets_eq_of (sset_eq K f) ids S
theorem perm_flatMap {α β : Type} {g g' : α → List β} : ∀ (ids : List α), (∀ j, List.Perm (g j) (g' j)) → List.Perm (ids.flatMap g) (ids.flatMap g') := by
  intro ids h
  induction ids with
  | nil => exact List.Perm.refl _
  | cons j ids ih => rw [List.flatMap_cons, List.flatMap_cons]; exact (h j).append ih
theorem szs_perm (K : List (List Int)) : ∀ (f : Nat) (i d : Int), List.Perm ((szs K f i).map (·.1)) ((tree K f i d).map (·.1)) := by
  intro f
  induction f with
  | zero => intro i d; exact List.Perm.refl _
  | succ f ih =>
    intro i d
    rw [szs_succ, tree_succ K f i d, List.map_append, List.map_cons (l := forest K f (kid K i) (d + 1)), map_forest, List.map_flatMap]
    refine List.Perm.trans (List.perm_append_comm) ?_
    exact List.Perm.cons _ (perm_flatMap _ (fun j => ih j (d + 1)))
theorem setAll_out {ps : List (Int × Int)} : ∀ {D : List Int} {a : Nat}, (∀ q ∈ ps, q.1.toNat ≠ a) → (setAll D ps)[a]? = D[a]? := by
  induction ps with
  | nil => intro D a _; rfl
  | cons p ps ih =>
    intro D a h
    rw [setAll_cons, ih (fun q hq => h q (by simp [hq])), List.getElem?_set_ne (h p (by simp))]
/-- Each is written once: it is read as it was written. -/
theorem setAll_get {n : Nat} {ps : List (Int × Int)} : ∀ {D : List Int}, D.length = n → (ps.map (·.1)).Nodup → (∀ y ∈ ps.map (·.1), In n y) → ∀ q ∈ ps, (setAll D ps)[q.1.toNat]? = some q.2 := by
  induction ps with
  | nil => intro D _ _ _ q hq; cases hq
  | cons p ps ih =>
    intro D hD hn hin q hq
    rw [List.map_cons, List.nodup_cons] at hn
    rw [setAll_cons]
    have hp := hin p.1 (by simp)
    rcases List.mem_cons.1 hq with rfl | hq
    · rw [setAll_out (fun r hr e => ?_), List.getElem?_set_self (by have := hp.1; have := hp.2; omega)]
      have hr1 := hin r.1 (by simp only [List.map_cons, List.mem_cons]; exact .inr (List.mem_map_of_mem hr))
      have e2 : r.1 = q.1 := by have := hr1.1; have := hp.1; omega
      exact hn.1 (e2 ▸ List.mem_map_of_mem hr)
    · exact ih (by rw [List.length_set]; exact hD) hn.2 (fun y hy => hin y (by simp only [List.map_cons, List.mem_cons]; exact .inr hy)) q hq
def tops (K : List (List Int)) (n : Nat) : List (Int × Int) := (kid K n).flatMap (fun j => szs K (n + 1) j)
/-- i stands in the walk behind pre, d deep. -/
structure At (K : List (List Int)) (n : Nat) (i : Int) (f : Nat) (d : Int) (pre post : List (Int × Int)) : Prop where
  fit : fits K n (f + 1) i
  walk : top K n = pre ++ tree K (f + 1) i d ++ post
  size : ∀ q ∈ szs K (f + 1) i, q ∈ tops K n
  deep : 0 ≤ d ∧ d + (f : Int) = n
theorem forest_split {K : List (List Int)} {f : Nat} {ids : List Int} {i : Int} (h : i ∈ ids) (d : Int) : ∃ a b, forest K f ids d = a ++ tree K f i d ++ b := by
  obtain ⟨s, t, rfl⟩ := List.append_of_mem h
  refine ⟨forest K f s d, forest K f t d, ?_⟩
  unfold forest
  simp
theorem at_top {K : List (List Int)} {l : List SSpan} (h : KidsOk K l) {i : Int} (hi : i ∈ kid K l.length) : ∃ pre post, At K l.length i l.length 0 pre post := by
  obtain ⟨a, b, e⟩ := forest_split (K := K) (f := l.length + 1) hi 0
  exact ⟨a, b, (good_of h).1 i hi, e, fun q hq => List.mem_flatMap.2 ⟨i, hi, hq⟩, ⟨Int.le_refl _, by omega⟩⟩
theorem at_kid {K : List (List Int)} {n : Nat} {u i : Int} {f : Nat} {d : Int} {pre post : List (Int × Int)} (hu : At K n u f d pre post) (hi : i ∈ kid K u) :
    ∃ f' a b, f = f' + 1 ∧ tree K (f + 1) u d = (u, d) :: (a ++ tree K (f' + 1) i (d + 1) ++ b) ∧ At K n i f' (d + 1) (pre ++ (u, d) :: a) (b ++ post) := by
  have hf := hu.fit.2 i hi
  obtain ⟨f', rfl⟩ : ∃ f', f = f' + 1 := by
    cases f with
    | zero => exact hf.elim
    | succ f => exact ⟨f, rfl⟩
  obtain ⟨a, b, e⟩ := forest_split (K := K) (f := f' + 1) hi (d + 1)
  have e2 : tree K (f' + 1 + 1) u d = (u, d) :: (a ++ tree K (f' + 1) i (d + 1) ++ b) := by rw [tree_succ, e]
  have hdp := hu.deep
  refine ⟨f', a, b, rfl, e2, hf, ?_, fun q hq => hu.size q ?_, ⟨by omega, by omega⟩⟩
  · rw [hu.walk, e2]
    simp
  · rw [szs_succ]
    exact List.mem_append_left _ (List.mem_flatMap.2 ⟨i, hi, hq⟩)
/-- Each place stands somewhere. -/
theorem at_each {K : List (List Int)} {l : List SSpan} (h : KidsOk K l) : ∀ (k : Nat) (i : Int), In l.length i → climb (parents l) (k + 1) i = -1 → ∃ f d pre post, At K l.length i f d pre post := by
  intro k
  induction k with
  | zero =>
    intro i hi hc
    rw [climb_one (by have := hi.1; omega)] at hc
    obtain ⟨pre, post, ha⟩ := at_top h ((h.top i).2 ⟨hi, hc⟩)
    exact ⟨_, _, _, _, ha⟩
  | succ k ih =>
    intro i hi hc
    have hn : i ≠ -1 := by have := hi.1; omega
    have hok := ok_get (parents_ok l) (i := i) (by rw [parents_length]; exact hi)
    rw [parents_length] at hok
    rcases hok with hu | hu
    · obtain ⟨pre, post, ha⟩ := at_top h ((h.top i).2 ⟨hi, hu⟩)
      exact ⟨_, _, _, _, ha⟩
    · rw [show k + 1 + 1 = 1 + (k + 1) by omega, climb_add, climb_one hn] at hc
      obtain ⟨f, d, pre, post, ha⟩ := ih _ hu hc
      obtain ⟨f', a, b, -, -, hi'⟩ := at_kid ha ((h.mem _ hu i).2 ⟨hi, rfl⟩)
      exact ⟨_, _, _, _, hi'⟩
theorem at_all {K : List (List Int)} {l : List SSpan} (h : KidsOk K l) {i : Int} (hi : In l.length i) : ∃ f d pre post, At K l.length i f d pre post := by
  have hp : 0 < l.length := by have := hi.1; have := hi.2; omega
  exact at_each h (l.length - 1) i hi (by rw [show l.length - 1 + 1 = l.length by omega]; exact climb_ends l hi)
theorem tops_perm (K : List (List Int)) (n : Nat) : List.Perm ((tops K n).map (·.1)) ((top K n).map (·.1)) := by
  unfold tops top
  rw [map_forest, List.map_flatMap]
  exact perm_flatMap _ (fun j => szs_perm K _ j 0)
theorem at_depth {K : List (List Int)} {l : List SSpan} (h : KidsOk K l) {i : Int} {f : Nat} {d : Int} {pre post : List (Int × Int)} (ha : At K l.length i f d pre post) {D : List Int} (hD : D.length = l.length) : (setAll D (top K l.length))[i.toNat]? = some d :=
  setAll_get (q := (i, d)) hD (top_nodup h) (top_in h) (by rw [ha.walk, tree_succ]; simp)
theorem at_size {K : List (List Int)} {l : List SSpan} (h : KidsOk K l) {i : Int} {f : Nat} {d : Int} {pre post : List (Int × Int)} (ha : At K l.length i f d pre post) {S : List Int} (hS : S.length = l.length) : (setAll S (tops K l.length))[i.toNat]? = some ((tree K (f + 1) i d).length : Int) := by
  have hp := tops_perm K l.length
  rw [tree_length K (f + 1) i d 0]
  exact setAll_get (q := (i, ((tree K (f + 1) i 0).length : Int))) hS (hp.nodup_iff.2 (top_nodup h)) (fun y hy => top_in h y (hp.mem_iff.1 hy)) (ha.size _ (by rw [szs_succ]; simp))
theorem at_order {K : List (List Int)} {n : Nat} {i : Int} {f : Nat} {d : Int} {pre post : List (Int × Int)} (ha : At K n i f d pre post) : ((top K n).map (·.1))[pre.length]? = some i := by
  rw [ha.walk, tree_succ]
  simp
end Gl.Tree
