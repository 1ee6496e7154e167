/-
  THE DEVICE: ITS CELLS, ITS LOOK-UPS, AND HOW ITS STATE TURNS at the small functions.
-/
import Derived.Test.YtjnjodknnefhaaaDoorDevSmall
import Derived.StringKeys
import Derived.Deep.QuietTactic
import Derived.BigQuiet
namespace Go.Proofs.YtjnjodknnefhaaaDoor.Dev
open Go.RowKit Go.Proofs.YtjnjodknnefhaaaDoor.Once
open Go.Maps (Keyed)
set_option linter.unusedSimpArgs false
set_option linter.unusedVariables false
set_option maxRecDepth 100000

theorem keyed : Keyed Tryd.prog 9 := Maps.string_keyed Tryd.underlying9

theorem Lies.c0 {B : Nat} {w : World} {a : Nat} {s : DS} (h : Lies B w a s) : w.cell? ⟨a, 0, none⟩ = some (.int .i64 s.room) := cell_of_row w a 0 _ _ _ h.top
theorem Lies.c1 {B : Nat} {w : World} {a : Nat} {s : DS} (h : Lies B w a s) : w.cell? ⟨a, 1, none⟩ = some (.int .i64 s.used) := cell_of_row w a 1 _ _ _ h.top
theorem Lies.c2 {B : Nat} {w : World} {a : Nat} {s : DS} (h : Lies B w a s) : w.cell? ⟨a, 2, none⟩ = some (.int .u32 (if s.mp.isSome then 1 else 0)) := cell_of_row w a 2 _ _ _ h.top
theorem Lies.c3 {B : Nat} {w : World} {a : Nat} {s : DS} (h : Lies B w a s) : w.cell? ⟨a, 3, none⟩ = some (.int .i32 0) := cell_of_row w a 3 _ _ _ h.top
theorem Lies.c5 {B : Nat} {w : World} {a : Nat} {s : DS} (h : Lies B w a s) : w.cell? ⟨a, 5, none⟩ = some (.map s.mp) := cell_of_row w a 5 _ _ _ h.top
theorem Lies.c6 {B : Nat} {w : World} {a : Nat} {s : DS} (h : Lies B w a s) : w.cell? ⟨a, 6, none⟩ = some (.int .i64 s.fuse) := cell_of_row w a 6 _ _ _ h.top
theorem Lies.z {B : Nat} {w : World} {a : Nat} {s : DS} (h : Lies B w a s) (j : Nat) : w.frozen? ⟨a, j, none⟩ = false := frozen_of_row w a j _ _ h.top
theorem Lies.alt {B : Nat} {w : World} {a : Nat} {s : DS} (h : Lies B w a s) : a < w.heap.size := h.lt .top a rfl

/-- 'd.files[name]'. -/
theorem Lies.look {B : Nat} {w : World} {a : Nat} {s : DS} (h : Lies B w a s) (nm : ByteArray) (hs : nm.size ≤ maxLen) :
    (Instr.lookup 49 (.map s.mp) (.string nm) false).run Tryd.prog w = .ok (ptrOf (find s.fs nm.data.toList)) w := by
  have hz0 : ∀ w : World, (zeroValue 55).run Tryd.prog w = .ok (.pointer none) w := fun _ => by kernel_rfl
  have hz := hz0 w
  cases hm : s.mp with
  | none =>
    rw [h.bare hm]
    exact Maps.look_nil false keyed Tryd.underlying49 hz (WideMaps.keyOf_string_mk Tryd.underlying9 hs)
  | some m =>
    obtain ⟨v, ps, hrun, hR⟩ := (h.map m hm).lookup keyed Tryd.underlying49 hz (zd := .nil) (zp := []) rfl (WideMaps.keyOf_string_mk Tryd.underlying9 hs)
    rw [hrun]
    rw [datum_atKey] at hR
    cases hf : find s.fs nm.data.toList with
    | none => rw [hf] at hR; rw [ptrR_nil hR]; rfl
    | some f => rw [hf] at hR; rw [ptrR_lit hR]; rfl

theorem heap_setCell_self (w : World) (a j : Nat) (u : Value) {cs : Array Value} {t : TypeId} {fr : Nat × Nat} (h : w.heap[a]? = some (.cells cs t fr)) :
    (w.setCell ⟨a, j, none⟩ u).heap[a]? = some (.cells (cs.setIfInBounds j u) t fr) := by
  simp [World.setCell, Array.getElem?_modify, h]

/-- The fuse turns. -/
theorem Lies.fuse {B : Nat} {w : World} {a : Nat} {s : DS} (h : Lies B w a s) (x : Int) : Lies B (w.setCell ⟨a, 6, none⟩ (.int .i64 x)) a { s with fuse := x } :=
  h.tops ((Kept.refl (fun b => b = a) w).setCell (fun _ => rfl) _) rfl rfl (by rw [heap_setCell_self w a 6 _ h.top]; rfl)
/-- What is used turns. -/
theorem Lies.usedTo {B : Nat} {w : World} {a : Nat} {s : DS} (h : Lies B w a s) (x : Int) : Lies B (w.setCell ⟨a, 1, none⟩ (.int .i64 x)) a { s with used := x } :=
  h.tops ((Kept.refl (fun b => b = a) w).setCell (fun _ => rfl) _) rfl rfl (by rw [heap_setCell_self w a 1 _ h.top]; rfl)
theorem Lies.drew {B : Nat} {w : World} {a : Nat} {s : DS} (h : Lies B w a s) : Lies B w.drew a s := h.kept ((Kept.refl (fun _ => False) w).drew) (fun _ _ h => h)

theorem kept_drewN (S : Nat → Prop) (w : World) (n : Nat) : Kept S w (w.drewN n) := ⟨rfl, rfl, rfl, Nat.le_refl _, fun _ _ _ => rfl⟩
theorem Lies.drewN {B : Nat} {w : World} {a : Nat} {s : DS} (h : Lies B w a s) (n : Nat) : Lies B (w.drewN n) a s := h.kept (kept_drewN (fun _ => False) w n) (fun _ _ h => h)

theorem onceW_kept (a : Nat) (w : World) : Kept (fun b => b = a) w (onceW a w) :=
  (((((((Kept.refl (fun b => b = a) w).setCell (fun _ => rfl) _).setCell (fun _ => rfl) _).alloc _).drew).setCell (fun _ => rfl) _).setCell (fun _ => rfl) _)

/-- The files are made ready. -/
theorem Lies.once {B : Nat} {w : World} {a : Nat} {s : DS} (h : Lies B w a s) (hm : s.mp = none) (hB : B ≤ w.heap.size) : Lies B (onceW a w) a { s with mp := some w.heap.size } := by
  have halt := h.alt
  have htop := h.top
  rw [hm] at htop
  have hnew : (onceW a w).heap[w.heap.size]? = some (.map #[] 0) := by
    unfold onceW
    rw [Below.heap_setCell _ _ _ _ (by simp; omega), Below.heap_setCell _ _ _ _ (by simp; omega)]
    have h1 := heap_alloc_new ((w.setCell ⟨a, 3, none⟩ (.int .i32 1)).setCell ⟨a, 5, none⟩ (.map (some w.heap.size))) (.map #[] 0)
    have h2 : ((w.setCell ⟨a, 3, none⟩ (.int .i32 1)).setCell ⟨a, 5, none⟩ (.map (some w.heap.size))).heap.size = w.heap.size := by simp
    rw [h2] at h1
    exact h1
  have hcells : (onceW a w).heap[a]? = some (.cells #[.int .i64 s.room, .int .i64 s.used, .int .u32 1, .int .i32 0, .int .u32 0, .map (some w.heap.size), .int .i64 s.fuse] 51 (0, 0)) := by
    unfold onceW
    have h1 := heap_setCell_self w a 3 (.int .i32 1) htop
    have h2 := heap_setCell_self _ a 5 (.map (some w.heap.size)) h1
    have h3 : (((w.setCell ⟨a, 3, none⟩ (.int .i32 1)).setCell ⟨a, 5, none⟩ (.map (some w.heap.size))).alloc (.map #[] 0)).drew.heap[a]? = _ := (Below.heap_alloc _ _ a (by simpa using halt)).trans h2
    have h4 := heap_setCell_self _ a 2 (.int .u32 1) h3
    have h5 := heap_setCell_self _ a 3 (.int .i32 0) h4
    rw [h5]
    simp
  have hfs := h.bare hm
  have hat : ∀ p b, DS.at { s with mp := some w.heap.size } a p = some b → (p = .top ∧ b = a) ∨ (p = .map ∧ b = w.heap.size) := by
    intro p b hp
    cases p with
    | top => injection hp with hp; exact .inl ⟨rfl, hp.symm⟩
    | map => injection hp with hp; exact .inr ⟨rfl, hp.symm⟩
    | file n => simp [DS.at, hfs, find] at hp
    | row n => simp [DS.at, hfs, find] at hp
  exact {
    top := hcells
    map := fun m hm' => by
      have e : m = w.heap.size := (Option.some.inj hm').symm
      rw [e]
      show World.ownsMap _ _ _ _ _ s.fs.length (datum s.fs)
      rw [hfs]
      exact ⟨#[], 0, hnew, ⟨by simp, MapKept.stamped_empty 0, by simp⟩, Nat.le_refl _, rfl⟩
    bare := fun hm' => by cases hm'
    file := fun n f hf => by
      have hf' : find s.fs n = some f := hf
      rw [hfs] at hf'; simp [find] at hf'
    apart := fun p q b hp hq => by
      rcases hat p b hp with ⟨rfl, h1⟩ | ⟨rfl, h1⟩ <;> rcases hat q b hq with ⟨rfl, h2⟩ | ⟨rfl, h2⟩
      · rfl
      · exact absurd (h1.symm.trans h2) (Nat.ne_of_lt halt)
      · exact absurd (h2.symm.trans h1) (Nat.ne_of_lt halt)
      · rfl
    base := fun p b hp => by
      rcases hat p b hp with ⟨_, h1⟩ | ⟨_, h1⟩
      · subst h1; exact h.base .top b rfl
      · rw [h1]; exact hB
    srt := h.srt }

/-- 'd.once.Do(d.ready)'. -/
theorem Lies.once_calls {B : Nat} {w : World} {a : Nat} {s : DS} (h : Lies B w a s) (hB : B ≤ w.heap.size) :
    Calls Tryd.prog 24 #[.pointer (some ⟨a, 2, none⟩), .func (.func 25) #[dp a] #[]] w fun e w' => e = .returned (.tuple #[]) ∧
      ∃ m, Lies B w' a { s with mp := some m } ∧ Kept (fun b => b = a) w w' ∧ (s.mp = some m ∨ w.heap.size ≤ m) := by
  cases hm : s.mp with
  | none =>
    have h2 := h.c2
    rw [hm] at h2
    refine (once_first.calls a _ w h2 h.c3 h.c5 (h.z 2) (h.z 3) (h.z 5) h.alt).mono ?_
    rintro e w' ⟨rfl, rfl⟩
    exact ⟨rfl, _, h.once hm hB, onceW_kept a w, .inr (Nat.le_refl _)⟩
  | some m =>
    have h2 := h.c2
    rw [hm] at h2
    refine (once_again.calls a _ w h2).mono ?_
    rintro e w' ⟨rfl, rfl⟩
    refine ⟨rfl, m, ?_, Kept.refl _ _, .inl rfl⟩
    have : s = { s with mp := some m } := by rw [← hm]
    rw [← this]; exact h

/-- 'may' and 'done' and 'Used', at a device. -/
theorem Lies.may_calls {B : Nat} {w : World} {a : Nat} {s : DS} (h : Lies B w a s) :
    Calls Tryd.prog 20 #[dp a] w fun e w' => e = .returned (.int .i64 (if s.fuse = 0 then 5 else 0)) ∧ w' = w := may.calls a s.fuse w h.c6
theorem Lies.used_calls {B : Nat} {w : World} {a : Nat} {s : DS} (h : Lies B w a s) :
    Calls Tryd.prog 23 #[dp a] w fun e w' => e = .returned (.int .i64 s.used) ∧ w' = w := Used.calls a s.used w h.c1
def burn (x : Int) : Int := if 0 < x then x - 1 else x
theorem Lies.done_calls {B : Nat} {w : World} {a : Nat} {s : DS} (h : Lies B w a s) (h1 : s.fuse ≤ 9223372036854775807) :
    Calls Tryd.prog 22 #[dp a] w fun e w' => e = .returned (.int .i64 0) ∧ Lies B w' a { s with fuse := burn s.fuse } ∧ Kept (fun b => b = a) w w' := by
  refine (done.calls a s.fuse w h.c6 (h.z 6) h1).mono ?_
  rintro e w' ⟨rfl, rfl⟩
  unfold burn
  by_cases h0 : 0 < s.fuse
  · rw [if_pos h0, if_pos h0]
    exact ⟨rfl, h.fuse _, (Kept.refl (fun b => b = a) w).setCell (fun _ => rfl) _⟩
  · rw [if_neg h0, if_neg h0]
    exact ⟨rfl, h, Kept.refl _ _⟩
/-- 'used.Add', at a device. -/
theorem Lies.add_calls {B : Nat} {w : World} {a : Nat} {s : DS} (h : Lies B w a s) (y : Int) (h0 : -9223372036854775808 ≤ s.used + y) (h1 : s.used + y ≤ 9223372036854775807) :
    Calls Tryd.prog 26 #[.pointer (some ⟨a, 1, none⟩), .int .i64 y] w fun e w' => e = .returned (.int .i64 (s.used + y)) ∧ Lies B w' a { s with used := s.used + y } ∧ Kept (fun b => b = a) w w' := by
  refine (add64.calls ⟨a, 1, none⟩ s.used y w h.c1 (h.z 1) h0 h1).mono ?_
  rintro e w' ⟨rfl, rfl⟩
  exact ⟨rfl, h.usedTo _, (Kept.refl (fun b => b = a) w).setCell (fun _ => rfl) _⟩
end Go.Proofs.YtjnjodknnefhaaaDoor.Dev
