/-
  THE DEVICE's SMALL FUNCTIONS: may, done, Used, ready, and sync.Once's Do with it.
-/
import Derived.Test.YtjnjodknnefhaaaDoorOnce
import Derived.Test.YtjnjodknnefhaaaDoorDevPl
import Derived.Laws.NewBlocks
import Derived.Carry
import Derived.RowKit3
namespace Go.Proofs.YtjnjodknnefhaaaDoor.Dev
open Go.RowKit Go.Proofs.YtjnjodknnefhaaaDoor.Once
set_option maxRecDepth 100000
set_option maxHeartbeats 1600000
set_option linter.unusedSimpArgs false
set_option linter.unusedVariables false

/-- The pointer to a device. -/
abbrev dp (a : Nat) : Value := .pointer (some ⟨a, 0, none⟩)

theorem may.calls (a : Nat) (fz : Int) (w : World) (hc : w.cell? ⟨a, 6, none⟩ = some (.int .i64 fz)) :
    Calls Tryd.prog 20 #[dp a] w fun e w' => e = .returned (.int .i64 (if fz = 0 then 5 else 0)) ∧ w' = w := by
  by_cases h : fz = 0
  · subst h
    go_enter Tryd.func20, Tryd.ntmps20
    go_wp2
    go_ret
    exact ⟨rfl, rfl⟩
  · have h' : (fz == 0) = false := by simp [h]
    go_enter Tryd.func20, Tryd.ntmps20
    go_wp2
    go_ret
    simp [h]

theorem done.calls (a : Nat) (fz : Int) (w : World) (hc : w.cell? ⟨a, 6, none⟩ = some (.int .i64 fz)) (hz : w.frozen? ⟨a, 6, none⟩ = false) (h1 : fz ≤ 9223372036854775807) :
    Calls Tryd.prog 22 #[dp a] w fun e w' => e = .returned (.int .i64 0) ∧ w' = if 0 < fz then w.setCell ⟨a, 6, none⟩ (.int .i64 (fz - 1)) else w := by
  by_cases h : 0 < fz
  · have hw : IntKind.i64.wrap (fz - 1) = fz - 1 := IntWalk.i64_in _ (by omega)
    have hw2 : wrap64 (fz - 1) = fz - 1 := IntWalk.wrap64_in _ (by omega)
    go_enter Tryd.func22, Tryd.ntmps22
    go_wp2
    go_ret
    simp [h]
  · go_enter Tryd.func22, Tryd.ntmps22
    go_wp2
    go_ret
    simp [h]

theorem Used.calls (a : Nat) (x : Int) (w : World) (hc : w.cell? ⟨a, 1, none⟩ = some (.int .i64 x)) :
    Calls Tryd.prog 23 #[dp a] w fun e w' => e = .returned (.int .i64 x) ∧ w' = w := by
  go_enter Tryd.func23, Tryd.ntmps23
  go_wp2_with (go_at_call 28; refine (load64.calls ⟨a, 1, none⟩ x _ hc).mono ?_; rintro e w' ⟨rfl, rfl⟩)
  go_ret
  exact ⟨rfl, rfl⟩

/-- 'ready': the new map's block is the heap's next. -/
theorem ready.calls (a : Nat) (x : Value) (w : World) (hc : w.cell? ⟨a, 5, none⟩ = some x) (hz : w.frozen? ⟨a, 5, none⟩ = false) :
    Calls Tryd.prog 25 #[dp a] w fun e w' => e = .returned (.tuple #[]) ∧ w' = (w.setCell ⟨a, 5, none⟩ (.map (some w.heap.size))).alloc (.map #[] 0) := by
  have hmm := @run_makeMap Tryd.prog
  have hlt : a < w.heap.size := World.block_lt_of_cell? w ⟨a, 5, none⟩ hc
  have hc' : (w.alloc (.map #[] 0)).cell? ⟨a, 5, none⟩ = some x := by rw [World.cell?_alloc_past _ _ _ hlt]; exact hc
  have hz' : (w.alloc (.map #[] 0)).frozen? ⟨a, 5, none⟩ = false := by rw [World.frozen?_alloc_past _ _ _ hlt]; exact hz
  go_enter Tryd.func25, Tryd.ntmps25
  go_wp2
  go_end0
  exact ⟨rfl, rfl⟩

/-- THE WORLD BEHIND 'd.once.Do(d.ready)', the first time. -/
def onceW (a : Nat) (w : World) : World :=
  ((((w.setCell ⟨a, 3, none⟩ (.int .i32 1)).setCell ⟨a, 5, none⟩ (.map (some w.heap.size))).alloc (.map #[] 0)).drew.setCell ⟨a, 2, none⟩ (.int .u32 1)).setCell ⟨a, 3, none⟩ (.int .i32 0)

theorem slow.calls (a : Nat) (x5 : Value) (w : World)
    (h2 : w.cell? ⟨a, 2, none⟩ = some (.int .u32 0)) (h3 : w.cell? ⟨a, 3, none⟩ = some (.int .i32 0)) (h5 : w.cell? ⟨a, 5, none⟩ = some x5)
    (f2 : w.frozen? ⟨a, 2, none⟩ = false) (f3 : w.frozen? ⟨a, 3, none⟩ = false) (f5 : w.frozen? ⟨a, 5, none⟩ = false) (hlt : a < w.heap.size) :
    Calls Tryd.prog 30 #[.pointer (some ⟨a, 2, none⟩), .func (.func 25) #[dp a] #[]] w fun e w' => e = .returned (.tuple #[]) ∧ w' = onceW a w := by
  have hl := run_call_load (P := Tryd.prog) Tryd.func34 (by kernel_rfl) (by kernel_rfl) (by kernel_rfl) .u32 (by kernel_rfl) (w := w.setCell ⟨a, 3, none⟩ (.int .i32 1)) (a := ⟨a, 2, none⟩) (x := 0) ((World.cell?_setCell_other _ ⟨a, 3, none⟩ ⟨a, 2, none⟩ _ (by simp)).trans h2)
  have h51 : (w.setCell ⟨a, 3, none⟩ (.int .i32 1)).cell? ⟨a, 5, none⟩ = some x5 := (World.cell?_setCell_other _ ⟨a, 3, none⟩ ⟨a, 5, none⟩ _ (by simp)).trans h5
  have hnot : ∀ (x : Bool) (w : World), (Op.unary .not (.bool x)).run Tryd.prog w = .ok (.bool (!x)) w := fun _ _ => rfl
  go_enter_defers Tryd.func30, Tryd.ntmps30
  go_wp2_with (first
    | (go_at_call 35; refine (lock_free ⟨a, 3, none⟩ _ (by go_simp) (by go_simp)).mono ?_; rintro e w' ⟨rfl, rfl⟩)
    | (go_at_call 25; refine (ready.calls a x5 _ h51 (by go_simp)).mono ?_; rintro e w' ⟨rfl, rfl⟩)
    | go_in)
  go_wp2
  -- THE DOOR: two deferred calls, the last laid first
  refine leaves_cons (f := 37) (args := #[.pointer (some ⟨a, 2, none⟩), .bool true]) (by simp) (by simp [go_sem]) ?_
  refine (store_deferred ⟨a, 2, none⟩ (.int .u32 0) .returning _ ?_ ?_).mono ?_
  · rw [World.cell?_alloc_past _ _ _ (by simpa using hlt), World.cell?_setCell_other _ _ _ _ (by simp), World.cell?_setCell_other _ _ _ _ (by simp)]; exact h2
  · rw [World.frozen?_alloc_past _ _ _ (by simpa using hlt)]; simpa using f2
  rintro e u' w'' ⟨rfl, rfl, rfl⟩
  refine leaves_cons (f := 36) (args := #[.pointer (some ⟨a, 3, none⟩)]) (by simp [settle]) (by simp [go_sem]) ?_
  refine (unlock_deferred ⟨a, 3, none⟩ _ _ ?_ ?_).mono ?_
  · rw [World.cell?_setCell_other _ _ _ _ (by simp), World.cell?_drew, World.cell?_alloc_past _ _ _ (by simpa using hlt), World.cell?_setCell_other _ _ _ _ (by simp)]; exact World.cell?_setCell_same w _ _ h3
  · rw [World.frozen?_setCell, World.frozen?_drew, World.frozen?_alloc_past _ _ _ (by simpa using hlt)]; simpa using f3
  rintro e u' w'' ⟨rfl, rfl, rfl⟩
  simp [Leaves, settle, results, Tryd.results30, onceW]

/-- 'd.once.Do(d.ready)', the first time. -/
theorem once_first.calls (a : Nat) (x5 : Value) (w : World)
    (h2 : w.cell? ⟨a, 2, none⟩ = some (.int .u32 0)) (h3 : w.cell? ⟨a, 3, none⟩ = some (.int .i32 0)) (h5 : w.cell? ⟨a, 5, none⟩ = some x5)
    (f2 : w.frozen? ⟨a, 2, none⟩ = false) (f3 : w.frozen? ⟨a, 3, none⟩ = false) (f5 : w.frozen? ⟨a, 5, none⟩ = false) (hlt : a < w.heap.size) :
    Calls Tryd.prog 24 #[.pointer (some ⟨a, 2, none⟩), .func (.func 25) #[dp a] #[]] w fun e w' => e = .returned (.tuple #[]) ∧ w' = onceW a w := by
  have hl := run_call_load (P := Tryd.prog) Tryd.func34 (by kernel_rfl) (by kernel_rfl) (by kernel_rfl) .u32 (by kernel_rfl) h2
  have hnot : ∀ (x : Bool) (w : World), (Op.unary .not (.bool x)).run Tryd.prog w = .ok (.bool (!x)) w := fun _ _ => rfl
  go_enter Tryd.func24, Tryd.ntmps24
  go_wp2_with (first | (go_at_call 30; refine (slow.calls a x5 _ h2 h3 h5 f2 f3 f5 hlt).mono ?_; rintro e w' ⟨rfl, rfl⟩) | (go_at_call 29; go_in))
  go_end0
  exact ⟨rfl, rfl⟩

/-- .. done already. -/
theorem once_again.calls (a : Nat) (fv : Value) (w : World) (h2 : w.cell? ⟨a, 2, none⟩ = some (.int .u32 1)) :
    Calls Tryd.prog 24 #[.pointer (some ⟨a, 2, none⟩), fv] w fun e w' => e = .returned (.tuple #[]) ∧ w' = w := by
  have hl := run_call_load (P := Tryd.prog) Tryd.func34 (by kernel_rfl) (by kernel_rfl) (by kernel_rfl) .u32 (by kernel_rfl) h2
  have hnot : ∀ (x : Bool) (w : World), (Op.unary .not (.bool x)).run Tryd.prog w = .ok (.bool (!x)) w := fun _ _ => rfl
  go_enter Tryd.func24, Tryd.ntmps24
  go_wp2
  go_end0
  exact ⟨rfl, rfl⟩
end Go.Proofs.YtjnjodknnefhaaaDoor.Dev
