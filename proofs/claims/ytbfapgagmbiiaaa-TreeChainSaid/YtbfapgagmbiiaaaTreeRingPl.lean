/- Plain: a ring of n places, and m places that hang on its last: all two hundred and twenty, reckoned. -/
import Derived.Test.YtbfapgagmbiiaaaTreeAlive
namespace Go.Proofs.Ytbfapgagmbiiaaa
open Gl Go.RowKit Go.Proofs.YtbfapgagmbiiaaaW.PrintWords
set_option linter.unusedVariables false
set_option linter.unusedSimpArgs false

def ringSpan (n i : Nat) : SSpan := zzSpan i (((i + 1) % n : Nat) : Int)
def hangSpan (n j : Nat) : SSpan := zzSpan ((100 + j : Nat) : Int) ((n - 1 : Nat) : Int)
def ringList (n m : Nat) : List SSpan := (List.range n).map (ringSpan n) ++ (List.range m).map (hangSpan n)
def wantP (n m : Nat) : List Int := (List.range n).map (fun k => if k = 0 then -1 else if k = n - 1 then 0 else ((k + 1 : Nat) : Int)) ++ (List.range m).map (fun _ => ((n - 1 : Nat) : Int))
def wantD (n m : Nat) : List Int := (List.range n).map (fun k => if k = 0 then 0 else ((n - k : Nat) : Int)) ++ (List.range m).map (fun _ => if n = 1 then 1 else 2)
def fitsB (K : List (List Int)) (n : Nat) : Nat → Int → Bool
  | 0, _ => false
  | f + 1, i => (decide (0 ≤ i) && decide (i < n)) && (Tree.kid K i).all (fitsB K n f)
theorem fitsB_fits {K : List (List Int)} {n : Nat} : ∀ {f : Nat} {i : Int}, fitsB K n f i = true → Tree.fits K n f i := by
  intro f
  induction f with
  | zero => intro i h; cases h
  | succ f ih =>
    intro i h
    unfold fitsB at h
    rw [Bool.and_eq_true, Bool.and_eq_true, List.all_eq_true] at h
    exact ⟨⟨of_decide_eq_true h.1.1, of_decide_eq_true h.1.2⟩, fun j hj => ih (h.2 j hj)⟩
def goodB (l : List SSpan) : Bool := (Tree.kid (Tree.kids l) l.length).all (fitsB (Tree.kids l) l.length (l.length + 1)) && decide ((Tree.wood l).length ≤ l.length)
theorem goodB_good {l : List SSpan} (h : goodB l = true) : Tree.Good l := by
  unfold goodB at h
  rw [Bool.and_eq_true, List.all_eq_true] at h
  exact ⟨fun i hi => fitsB_fits (h.1 i hi), of_decide_eq_true h.2⟩
def ringCheck (n m : Nat) : Bool := goodB (ringList n m) && (decide (Tree.parents (ringList n m) = wantP n m) && decide (Tree.depths (ringList n m) = wantD n m))
theorem ring_all : ((List.range 20).all fun a => (List.range 11).all fun m => ringCheck (a + 1) m) = true := by decide +kernel
theorem ring_law {n m : Nat} (h1 : 1 ≤ n) (h2 : n ≤ 20) (h3 : m ≤ 10) : Tree.Good (ringList n m) ∧ Tree.parents (ringList n m) = wantP n m ∧ Tree.depths (ringList n m) = wantD n m := by
  have h := List.all_eq_true.1 ring_all (n - 1) (List.mem_range.2 (by omega))
  have h4 := List.all_eq_true.1 h m (List.mem_range.2 (by omega))
  rw [show n - 1 + 1 = n by omega] at h4
  unfold ringCheck at h4
  rw [Bool.and_eq_true, Bool.and_eq_true] at h4
  exact ⟨goodB_good h4.1, of_decide_eq_true h4.2.1, of_decide_eq_true h4.2.2⟩
theorem wantP_ring {n m k : Nat} (hk : k < n) : (wantP n m)[k]? = some (if k = 0 then -1 else if k = n - 1 then 0 else ((k + 1 : Nat) : Int)) := by
  unfold wantP
  rw [List.getElem?_append_left (by simpa using hk)]
  simp [hk]
theorem wantP_hang {n m k : Nat} (hk : n ≤ k) (hm : k < n + m) : (wantP n m)[k]? = some ((n - 1 : Nat) : Int) := by
  unfold wantP
  rw [List.getElem?_append_right (by simpa using hk)]
  have : k - n < m := by omega
  simp [this]
theorem wantD_ring {n m k : Nat} (hk : k < n) : (wantD n m)[k]? = some (if k = 0 then 0 else ((n - k : Nat) : Int)) := by
  unfold wantD
  rw [List.getElem?_append_left (by simpa using hk)]
  simp [hk]
theorem wantD_hang {n m k : Nat} (hk : n ≤ k) (hm : k < n + m) : (wantD n m)[k]? = some (if n = 1 then 1 else 2) := by
  unfold wantD
  rw [List.getElem?_append_right (by simpa using hk)]
  have : k - n < m := by omega
  simp [this]
theorem wantP_length (n m : Nat) : (wantP n m).length = n + m := by simp [wantP]
theorem wantD_length (n m : Nat) : (wantD n m).length = n + m := by simp [wantD]
theorem ringList_length (n m : Nat) : (ringList n m).length = n + m := by simp [ringList]
end Go.Proofs.Ytbfapgagmbiiaaa
