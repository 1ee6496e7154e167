/- Rows of truth values of the call's own. -/
import Derived.Test.YtbfapgagmbiiaaaTreeRows
namespace Go.Proofs.Ytbfapgagmbiiaaa
open Gl Go.RowKit Go.Proofs.YtbfapgagmbiiaaaW.PrintWords
set_option linter.unusedVariables false
set_option linter.unusedSimpArgs false

abbrev RB (W : World) (base : Nat) (v : Value) (k : List Bool) : Prop := Kd.bool.R 4 W base (fun _ => True) v k
theorem cell_bool {W : World} {base g n cap : Nat} {xs : List Bool} (h : RB W base (.slice (some ⟨g, 0, none⟩) n cap) xs) (i : Nat) (hi : i < n) : ∃ x, xs[i]? = some x ∧ W.cell? ⟨g, i, none⟩ = some (.bool x) ∧ W.frozen? ⟨g, i, none⟩ = false := by
  obtain ⟨h1, h2⟩ := Kd.R_celln (false : Bool) h (i : Int) (by omega) (by omega)
  rw [Int.toNat_natCast] at h1 h2
  have hl := (Kd.R_reads' h).1
  refine ⟨_, List.getElem?_eq_getElem (by omega), ?_, h2⟩
  rw [h1, rdOf, Int.toNat_natCast, List.getD_eq_getElem?_getD, List.getElem?_eq_getElem (by omega)]
  rfl
theorem put_bool {W : World} {base g n cap : Nat} {xs : List Bool} (h : RB W base (.slice (some ⟨g, 0, none⟩) n cap) xs) (i : Nat) (x : Bool) : RB (W.setCell ⟨g, i, none⟩ (.bool x)) base (.slice (some ⟨g, 0, none⟩) n cap) (xs.set i x) := by
  have h1 := Kd.R_putn h (i : Int) x
  rwa [Int.toNat_natCast] at h1
theorem RB_made {W : World} {B n b : Nat} (hb : b = W.heap.size) (hB : B ≤ W.heap.size) (hn : n ≤ 500000) : RB (W.alloc (.cells (madeCells #[.bool false] n) 4)) B (.slice (some ⟨b, 0, none⟩) n n) (List.replicate n false) := by
  subst hb
  have h := World.ownsRow_lit (base := B) (e := 4) (size := 1) W (madeCells #[.bool false] n) n hB (by simp [maxLen]; omega) (by simp [size_madeCells])
  have hr := Kd.reps_made (R := fun (x : Bool) cs => Kd.bool.M (W.alloc (.cells (madeCells #[.bool false] n) 4)) B (fun _ => True ∧ True) x cs) (z := .bool false) (size := 1) (z0 := false) rfl (by omega) rfl n
  refine ⟨fun _ _ => trivial, (madeCells #[.bool false] n).toList, by rw [List.length_replicate]; exact h, ?_⟩
  have e : madeCells (Value.bool false).cells (n * 1) = madeCells #[.bool false] n := by rw [Nat.mul_one]; rfl
  rw [e] at hr
  exact hr
theorem RB_move {W W1 : World} {base : Nat} {v : Value} {k : List Bool} (h : RB W base v k) (hm : ∀ b, v.ownBlock = some b → b < W.heap.size → W1.heap[b]? = W.heap[b]?) : RB W1 base v k :=
  Kd.R_mono (Kd.R_step (Kd.R_tight rfl h) (fun b hb hl => hm b hb.symm hl)) (fun _ _ => trivial)
end Go.Proofs.Ytbfapgagmbiiaaa
