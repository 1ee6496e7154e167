/- Small words that all walks use. -/
import Derived.Test.YtbfapgagmbiiaaaK
import Derived.Deep.LoopGhost
import Derived.BigQuiet
import Derived.Lib.SliceRun
import Derived.WalkSpells
import Derived.WalkLawsBesides
namespace Go.Proofs.Ytbfapgagmbiiaaa
open Gl Go.RowKit Go.Proofs.YtbfapgagmbiiaaaW.PrintWords
set_option linter.unusedVariables false
set_option linter.unusedSimpArgs false
theorem ret_int {k : IntKind} {a b : Int} (h : a = b) : Ending.returned (.int k a) = .returned (.int k b) := by rw [h]
theorem ret_bool {a b : Bool} (h : a = b) : Ending.returned (.bool a) = .returned (.bool b) := by rw [h]
theorem ret_val {a b : Value} (h : a = b) : Ending.returned a = .returned b := by rw [h]
/-- A cell that was there stays there behind a new block. -/
theorem cell_al {W : World} {a : Addr} {v : Value} (h : W.cell? a = some v) : ∀ o, (W.alloc o).cell? a = some v := fun o => Lib.cell?_alloc_some o h
theorem atN_int {w : World} {k : IntKind} {A : Option Addr} {n : Nat} {xs : List Int} (h : (Kd.int k).C w A n xs) (i : Nat) {x : Int} (hx : xs[i]? = some x) : ∃ ad, A = some ad ∧ w.cell? (ad.add i) = some (.int k x) := by
  have hl := (List.getElem?_eq_some_iff.1 hx).1
  obtain ⟨ad, e, hc⟩ := Kd.at_int h (i : Int) (by omega) (by have := h.1; omega)
  refine ⟨ad, e, ?_⟩
  rw [Int.toNat_natCast] at hc
  rw [hc, rd, Int.toNat_natCast, List.getD_eq_getElem?_getD, hx]
  rfl
theorem atN_bool {w : World} {A : Option Addr} {n : Nat} {xs : List Bool} (h : Kd.bool.C w A n xs) (i : Nat) {x : Bool} (hx : xs[i]? = some x) : ∃ ad, A = some ad ∧ w.cell? (ad.add i) = some (.bool x) := by
  have hl := (List.getElem?_eq_some_iff.1 hx).1
  obtain ⟨ad, e, hc⟩ := Kd.at_bool h (i : Int) (by omega) (by have := h.1; omega)
  refine ⟨ad, e, ?_⟩
  rw [Int.toNat_natCast] at hc
  rw [hc, rdOf, Int.toNat_natCast, List.getD_eq_getElem?_getD, hx]
  rfl
/-- append(v, x) of whole numbers: behind 'at_builtin'. -/
theorem app_i64 {ops : Array Oper} {rest : List Oper} {o : Oper} {a : Act} {Q : Exit → Act → World → Prop} {W : World} (hgd : o.guard = none) (s x : Operand)
    (ho : o.op = .call { callee := .builtin .append, args := #[s, x], argTypes := #[22, 22] }) (v : Value) (xs : List Int) (y : Int) (hs : a.eval s = v) (hx : a.eval x = .slice (some ⟨W.heap.size, 0, none⟩) 1 1)
    (base : Nat) (HO : (Kd.int .i64).R 3 W base (fun _ => True) v xs) (hbase : base ≤ W.heap.size) (hl : (xs.length + 1) * 8 ≤ 140737488355328)
    (h : ∀ v1 w1, (Kd.int .i64).R 3 w1 base (fun _ => True) v1 (xs ++ [y]) → W.grownBy w1 v.ownBlock → (v1.ownBlock = v.ownBlock ∨ ∃ b, v1.ownBlock = some b ∧ W.heap.size ≤ b) → wpList Try.prog ops Q rest (a.put o.dst v1) w1) :
    wpList Try.prog ops Q (o :: rest) a (W.alloc (.cells #[.int .i64 y] 3)) :=
  Kd.R_append (Kd.int .i64) (w0 := W) base hgd s x 22 3 (.int .i64 0) 8 ho Try.underlying22 info3 rfl (by decide) (by decide) v xs y [.int .i64 y] (fun _ => True) (fun _ => False) hs hx rfl (fun _ hk => hk.elim) (fun _ _ => trivial) HO (Below.refl _ _) hbase hl
    fun v1 w1 h1 _ hg hat => h v1 w1 h1 hg hat
theorem R_formN {α : Type} {d : Kd α} {e : Nat} {w : World} {base n : Nat} {ok : Nat → Prop} {v : Value} {xs : List α} (h : d.R e w base ok v xs) (hn : xs.length = n) (hp : 0 < n) : ∃ g cap, v = .slice (some ⟨g, 0, none⟩) n cap ∧ base ≤ g ∧ g < w.heap.size ∧ ∃ cells, w.heap[g]? = some (.cells cells e (0, 0)) := by
  subst hn
  exact Kd.R_form h hp
theorem R_readsN {α : Type} {d : Kd α} {e : Nat} {w : World} {base n : Nat} {ok : Nat → Prop} {v : Value} {xs : List α} (h : d.R e w base ok v xs) (hn : xs.length = n) : ∃ A c, v = .slice A n c ∧ n ≤ c ∧ d.C w A n xs := by
  subst hn
  exact Kd.R_reads h
/-- An element of a row of whole numbers of the call's own: its cell, and what a store leaves. -/
theorem cell_i64 {W : World} {base g n cap : Nat} {k : IntKind} {e : Nat} {xs : List Int} (h : (Kd.int k).R e W base (fun _ => True) (.slice (some ⟨g, 0, none⟩) n cap) xs) (i : Nat) (hi : i < n) : ∃ x, xs[i]? = some x ∧ W.cell? ⟨g, i, none⟩ = some (.int k x) ∧ W.frozen? ⟨g, i, none⟩ = false := by
  obtain ⟨h1, h2⟩ := Kd.R_celln (0 : Int) h (i : Int) (by omega) (by omega)
  rw [Int.toNat_natCast] at h1 h2
  have hl := (Kd.R_reads' h).1
  refine ⟨_, List.getElem?_eq_getElem (by omega), ?_, h2⟩
  rw [h1, rdOf, Int.toNat_natCast, List.getD_eq_getElem?_getD, List.getElem?_eq_getElem (by omega)]
  rfl
theorem put_i64 {W : World} {base g n cap : Nat} {k : IntKind} {e : Nat} {xs : List Int} (h : (Kd.int k).R e W base (fun _ => True) (.slice (some ⟨g, 0, none⟩) n cap) xs) (i : Nat) (x : Int) :
    (Kd.int k).R e (W.setCell ⟨g, i, none⟩ (.int k x)) base (fun _ => True) (.slice (some ⟨g, 0, none⟩) n cap) (xs.set i x) := by
  have h1 := Kd.R_putn h (i : Int) x
  rwa [Int.toNat_natCast] at h1
/-- A row of whole numbers of the call's own in block g, and what else may have turned since w0: nothing. -/
def Own (w0 W : World) (g cap n : Nat) (xs : List Int) : Prop := (Kd.int .i64).R 3 W 0 (fun _ => True) (.slice (some ⟨g, 0, none⟩) n cap) xs ∧ w0.grownBy W (some g)
theorem Own.cell {w0 W : World} {g cap n : Nat} {xs : List Int} (h : Own w0 W g cap n xs) (i : Nat) {x : Int} (hx : xs[i]? = some x) : W.cell? ⟨g, i, none⟩ = some (.int .i64 x) ∧ W.frozen? ⟨g, i, none⟩ = false := by
  have hl := (List.getElem?_eq_some_iff.1 hx).1
  obtain ⟨y, hy, h1, h2⟩ := cell_i64 h.1 i (by have := (Kd.R_reads' h.1).1; omega)
  rw [hx] at hy
  injection hy with hy
  subst hy
  exact ⟨h1, h2⟩
theorem Own.set {w0 W : World} {g cap n : Nat} {xs : List Int} (h : Own w0 W g cap n xs) (i : Nat) (x : Int) : Own w0 (W.setCell ⟨g, i, none⟩ (.int .i64 x)) g cap n (xs.set i x) := by
  refine ⟨put_i64 h.1 i x, World.grownBy.trans h.2 ?_⟩
  have := (Kd.R_putg h.1 (i : Int) x).2
  rwa [Int.toNat_natCast] at this
theorem Own.drewN {w0 W : World} {g cap n : Nat} {xs : List Int} (h : Own w0 W g cap n xs) (q : Nat) : Own w0 (W.drewN q) g cap n xs :=
  ⟨Kd.R_drewN h.1 q, World.grownBy.trans h.2 ⟨rfl, rfl, rfl, Nat.le_refl _, fun _ _ _ => rfl⟩⟩
theorem Own.drew {w0 W : World} {g cap n : Nat} {xs : List Int} (h : Own w0 W g cap n xs) : Own w0 W.drew g cap n xs :=
  ⟨Kd.R_drew h.1, World.grownBy.trans h.2 ⟨rfl, rfl, rfl, Nat.le_refl _, fun _ _ _ => rfl⟩⟩
theorem Own.len {w0 W : World} {g cap n : Nat} {xs : List Int} (h : Own w0 W g cap n xs) : xs.length = n := (Kd.R_reads' h.1).1.symm
/-- What is asked of a comparison: in every world that the sort passes through it tells cf, and turns nothing. -/
def CmpOk (f : FuncId) (lb : Array Value) (S : Int → Prop) (cf : Int → Int → Int) (w0 : World) (g : Nat) : Prop :=
  ∀ W, w0.grownBy W (some g) → ∀ a b, S a → S b → Calls Try.prog f (#[.int .i64 a, .int .i64 b] ++ lb) W fun e w' => e = .returned (.int .i64 (cf a b)) ∧ ∃ q, w' = W.drewN q
/-- Behind an append to a row of the call's own. -/
theorem below_app {α : Type} {d : Kd α} {e : Nat} {w W w1 : World} {ok : Nat → Prop} {v : Value} {xs : List α} (h : Below w.heap.size w W) (hR : d.R e W w.heap.size ok v xs) (hg : W.grownBy w1 v.ownBlock) : Below w.heap.size w w1 :=
  h.grown hg h.size (Kd.R_base hR)
end Go.Proofs.Ytbfapgagmbiiaaa
