/- Plain: what lies below a place. -/
import Derived.Test.YtbfapgagmbiiaaaTreeKidsPl
namespace Gl.Tree
open Gl

def kid (K : List (List Int)) (i : Int) : List Int := K.getD i.toNat []
def tree (K : List (List Int)) : Nat → Int → Int → List (Int × Int)
  | 0, _, _ => []
  | f + 1, i, d => (i, d) :: (kid K i).flatMap (fun j => tree K f j (d + 1))
def forest (K : List (List Int)) (f : Nat) (ids : List Int) (d : Int) : List (Int × Int) := ids.flatMap (fun j => tree K f j d)
def setAll (D : List Int) (ps : List (Int × Int)) : List Int := ps.foldl (fun D p => D.set p.1.toNat p.2) D
def sset (K : List (List Int)) : Nat → Int → List Int → List Int
  | 0, _, S => S
  | f + 1, i, S => ((kid K i).foldl (fun S j => sset K f j S) S).set i.toNat ((tree K (f + 1) i 0).length : Int)
def ssets (K : List (List Int)) (f : Nat) (ids : List Int) (S : List Int) : List Int := ids.foldl (fun S j => sset K f j S) S
def fits (K : List (List Int)) (n : Nat) : Nat → Int → Prop
  | 0, _ => False
  | f + 1, i => (0 ≤ i ∧ i < n) ∧ ∀ j ∈ kid K i, fits K n f j
theorem tree_succ (K : List (List Int)) (f : Nat) (i d : Int) : tree K (f + 1) i d = (i, d) :: forest K f (kid K i) (d + 1) := rfl
theorem forest_append (K : List (List Int)) (f : Nat) (a b : List Int) (d : Int) : forest K f (a ++ b) d = forest K f a d ++ forest K f b d := by simp [forest]
theorem forest_one (K : List (List Int)) (f : Nat) (i d : Int) : forest K f [i] d = tree K f i d := by simp [forest]
theorem setAll_append (D : List Int) (a b : List (Int × Int)) : setAll D (a ++ b) = setAll (setAll D a) b := by simp [setAll]
theorem setAll_cons (D : List Int) (p : Int × Int) (b : List (Int × Int)) : setAll D (p :: b) = setAll (D.set p.1.toNat p.2) b := rfl
theorem ssets_append (K : List (List Int)) (f : Nat) (a b : List Int) (S : List Int) : ssets K f (a ++ b) S = ssets K f b (ssets K f a S) := by simp [ssets]
theorem ssets_one (K : List (List Int)) (f : Nat) (i : Int) (S : List Int) : ssets K f [i] S = sset K f i S := by simp [ssets]
theorem setAll_length (D : List Int) (ps : List (Int × Int)) : (setAll D ps).length = D.length := by
  induction ps generalizing D with
  | nil => rfl
  | cons p ps ih => rw [setAll_cons, ih, List.length_set]
theorem sset_length (K : List (List Int)) : ∀ (f : Nat) (i : Int) (S : List Int), (sset K f i S).length = S.length := by
  intro f
  induction f with
  | zero => intro i S; rfl
  | succ f ih =>
    intro i S
    unfold sset
    rw [List.length_set]
    generalize kid K i = ids
    induction ids generalizing S with
    | nil => rfl
    | cons j ids ih2 => rw [List.foldl_cons, ih2, ih]
theorem ssets_length (K : List (List Int)) (f : Nat) (ids : List Int) (S : List Int) : (ssets K f ids S).length = S.length := by
  unfold ssets
  induction ids generalizing S with
  | nil => rfl
  | cons j ids ih => rw [List.foldl_cons, ih, sset_length]
theorem tree_length (K : List (List Int)) : ∀ (f : Nat) (i d e : Int), (tree K f i d).length = (tree K f i e).length := by
  intro f
  induction f with
  | zero => intro i d e; rfl
  | succ f ih =>
    intro i d e
    rw [tree_succ, tree_succ, List.length_cons, List.length_cons]
    congr 1
    unfold forest
    rw [List.length_flatMap, List.length_flatMap]
    congr 1
    exact List.map_congr_left (fun j _ => ih j _ _)
theorem forest_length (K : List (List Int)) (f : Nat) (ids : List Int) (d e : Int) : (forest K f ids d).length = (forest K f ids e).length := by
  unfold forest
  rw [List.length_flatMap, List.length_flatMap]
  congr 1
  exact List.map_congr_left (fun j _ => tree_length K f j _ _)
theorem take_one {α : Type} {xs : List α} {k : Nat} {x : α} (h : xs[k]? = some x) : xs.take (k + 1) = xs.take k ++ [x] := by
  rw [List.take_add_one, h]
  rfl
theorem forest_take {K : List (List Int)} {f : Nat} {ids : List Int} {k : Nat} {i d : Int} (h : ids[k]? = some i) : forest K f (ids.take (k + 1)) d = forest K f (ids.take k) d ++ tree K f i d := by
  rw [take_one h, forest_append, forest_one]
theorem ssets_take {K : List (List Int)} {f : Nat} {ids : List Int} {k : Nat} {i : Int} {S : List Int} (h : ids[k]? = some i) : ssets K f (ids.take (k + 1)) S = sset K f i (ssets K f (ids.take k) S) := by
  rw [take_one h, ssets_append, ssets_one]
theorem forest_take_le {K : List (List Int)} {f : Nat} {ids : List Int} (k : Nat) (d : Int) : (forest K f (ids.take k) d).length ≤ (forest K f ids d).length := by
  conv => rhs; rw [← List.take_append_drop k ids]
  rw [forest_append, List.length_append]
  exact Nat.le_add_right _ _
theorem sset_succ (K : List (List Int)) (f : Nat) (i d : Int) (S : List Int) : sset K (f + 1) i S = (ssets K f (kid K i) S).set i.toNat (1 + ((forest K f (kid K i) (d + 1)).length : Int)) := by
  unfold sset ssets
  congr 1
  rw [tree_length K (f + 1) i 0 d, tree_succ, List.length_cons]
  omega
end Gl.Tree
