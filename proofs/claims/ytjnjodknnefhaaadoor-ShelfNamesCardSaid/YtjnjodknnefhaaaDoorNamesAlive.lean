/-
  THE LAW's 'alive' (chapter 24): the example of the document.
-/
import Derived.Test.YtjnjodknnefhaaaDoorNamesPut
import Derived.Laws.IdiomStrings
import Derived.Deep.AppendLies
import Derived.Laws.OwnMore
import Derived.Lib.SlBytesConst
namespace Go.Proofs.YtjnjodknnefhaaaDoor.Dev
open Go.RowKit Go.Proofs.YtjnjodknnefhaaaDoor.Once
set_option linter.unusedSimpArgs false
set_option linter.unusedVariables false
set_option maxRecDepth 100000
set_option maxHeartbeats 800000

theorem num.calls (x : Int) (w : World) : Calls Tryd.prog 11 #[.int .i64 x] w fun e w' => e = .returned (.int .i64 x) ∧ w' = w := by
  go_enter Tryd.func11, Tryd.ntmps11
  go_wp2
  go_ret
  exact ⟨rfl, rfl⟩

theorem named3 : named ⟨#[98]⟩ 3 = ⟨#[98, 51]⟩ := by
  have : Lib.itoa 3 = [51] := by unfold Lib.itoa; rw [if_neg (by omega)]; exact Lib.decDigits_one (by decide)
  unfold named; rw [if_neg (by omega), this]; rfl
theorem named12 : named ⟨#[115]⟩ 12 = ⟨#[115, 49, 50]⟩ := by
  have : Lib.itoa 12 = [49, 50] := by unfold Lib.itoa; rw [if_neg (by omega)]; exact Lib.decDigits_two (by decide) (by decide)
  unfold named; rw [if_neg (by omega), this]; rfl

def sNew : DS := ⟨max 0 100, 0, -1, none, []⟩
theorem view_new : sNew.view = ⟨100, -1, []⟩ := by decide
def xTmp : ByteArray := ⟨#[120, 46, 116, 109, 112]⟩
theorem put_a : V.append ⟨100, -1, []⟩ xTmp.data.toList [97, 98] = (⟨100, -1, [⟨[120, 46, 116, 109, 112], [97, 98], 0⟩]⟩, 0) := by decide
theorem put_s : V.sync ⟨100, -1, [⟨[120, 46, 116, 109, 112], [97, 98], 0⟩]⟩ xTmp.data.toList = (⟨100, -1, [⟨[120, 46, 116, 109, 112], [97, 98], 2⟩]⟩, 0) := by decide
theorem put_r : V.rename ⟨100, -1, [⟨[120, 46, 116, 109, 112], [97, 98], 2⟩]⟩ xTmp.data.toList (⟨#[120]⟩ : ByteArray).data.toList = (⟨100, -1, [⟨[120], [97, 98], 2⟩]⟩, 0) := by decide

/-- Put, at the new device. -/
theorem put_new {w1 : World} {B a : Nat} (l : Lies B w1 a sNew) (hB : B ≤ w1.heap.size) (cap : Nat) (g : Nat) (hg : g < w1.heap.size) (hga : g ≠ a)
    (c0 : w1.cell? ⟨g, 0, none⟩ = some (.int .u8 97)) (c1 : w1.cell? ⟨g, 1, none⟩ = some (.int .u8 98)) :
    Calls Tryd.prog 9 #[dp a, .string ⟨#[120]⟩, .slice (some ⟨g, 0, none⟩) 2 cap] w1 fun e w' => e = .returned (.int .i64 0) ∧ ∃ s', Turn B w1 w' a sNew s' ∧ s'.view = ⟨100, -1, [⟨[120], [97, 98], 2⟩]⟩ := by
  refine Put_ok.calls l (new_ok 100 (by omega)) hB ⟨#[120]⟩ xTmp rfl (by decide) (by decide) _ [97, 98] ⟨⟨g, 0, none⟩, cap, rfl, hg, ?_, ?_⟩ (by decide) (by decide) rfl _ _ _ 0 (by rw [view_new]; exact put_a) put_s put_r (by decide)
  · rintro ⟨p, hp⟩
    cases p with
    | top => injection hp with hp; exact hga hp.symm
    | map => cases hp
    | file n => cases hp
    | row n => cases hp
  · intro j u hj
    have hadd : (⟨g, 0, none⟩ : Addr).add j = ⟨g, j, none⟩ := by unfold Addr.add; split <;> simp_all
    rw [hadd]
    match j, hj with
    | 0, hj => injection hj with hj; rw [← hj]; exact c0
    | 1, hj => injection hj with hj; rw [← hj]; exact c1

theorem alive.calls (w : World) (htab : Tab w) :
    Calls Tryd.prog 4 #[] w fun e w' => e = .returned (.bool true) ∧ Kept (fun _ => False) w w' := by
  have hNew := New.calls 100 (by omega) w
  have hB3 : ∀ w' : World, Kept (fun _ => False) w w' → Calls Tryd.prog 5 #[.int .i64 3] w' fun e w'' => e = .returned (.string ⟨#[98, 51]⟩) ∧ Kept (fun _ => False) w' w'' := fun w' k => by
    have := Block.calls 3 (by omega) (by omega) w' (htab.kept k)
    rw [named3] at this; exact this
  have hS12 : ∀ w' : World, Kept (fun _ => False) w w' → Calls Tryd.prog 6 #[.int .i64 12] w' fun e w'' => e = .returned (.string ⟨#[115, 49, 50]⟩) ∧ Kept (fun _ => False) w' w'' := fun w' k => by
    have := Snap.calls 12 (by omega) (by omega) w' (htab.kept k)
    rw [named12] at this; exact this
  have hcv : ∀ w : World, (convert 30 30 (.slice (some ⟨w.heap.size, 0, none⟩) 2 2)).run Tryd.prog (w.alloc (.cells #[.int .u8 97, .int .u8 98] 5)) = .ok (.slice (some ⟨w.heap.size, 0, none⟩) 2 2) (w.alloc (.cells #[.int .u8 97, .int .u8 98] 5 (2, 3))) := fun w =>
    Lib.run_convert_bytes_const w 30 5 #[.int .u8 97, .int .u8 98] 2 2 Tryd.underlying30 Tryd.underlying5
  have hPut : ∀ w1 : World, Lies w.heap.size w1 w.heap.size sNew → Kept (fun _ => False) w w1 → Calls Tryd.prog 9 #[dp w.heap.size, .string ⟨#[120]⟩, .slice (some ⟨w1.heap.size, 0, none⟩) 2 2] (w1.alloc (.cells #[.int .u8 97, .int .u8 98] 5 (2, 3)))
      fun e w' => e = .returned (.int .i64 0) ∧ ∃ s', Lies w.heap.size w' w.heap.size s' ∧ s'.view = ⟨100, -1, [⟨[120], [97, 98], 2⟩]⟩ ∧ Kept (fun _ => False) w w' := fun w1 l1 k1 => by
    have la : Lies w.heap.size (w1.alloc (.cells #[.int .u8 97, .int .u8 98] 5 (2, 3))) w.heap.size sNew := l1.kept ((Kept.refl (fun _ => False) w1).alloc _) (fun _ _ h => h)
    refine (put_new la (by simp; have := k1.size; omega) 2 w1.heap.size (by simp) (Nat.ne_of_gt l1.alt) (cell_of_row _ _ 0 _ _ _ (heap_alloc_new w1 _)) (cell_of_row _ _ 1 _ _ _ (heap_alloc_new w1 _))).mono ?_
    rintro e w' ⟨rfl, s', t, hv⟩
    refine ⟨rfl, s', t.lies, hv, (k1.alloc _).trans t.kept ?_⟩
    rintro x hx ⟨p, hp⟩
    cases p with
    | top => injection hp with hp; exact absurd hx (by rw [← hp]; exact Nat.lt_irrefl _)
    | map => cases hp
    | file n => cases hp
    | row n => cases hp
  have hRead : ∀ (w2 : World) (s' : DS), Lies w.heap.size w2 w.heap.size s' → s'.view = ⟨100, -1, [⟨[120], [97, 98], 2⟩]⟩ → Kept (fun _ => False) w w2 → Calls Tryd.prog 10 #[dp w.heap.size, .string ⟨#[120]⟩] w2
      fun e w' => ∃ g cap, e = .returned (.tuple #[.slice (some ⟨g, 0, none⟩) 2 cap, .bool true]) ∧ Kept (fun _ => False) w w' ∧ w'.cell? ⟨g, 0, none⟩ = some (.int .u8 97) ∧ w'.cell? ⟨g, 1, none⟩ = some (.int .u8 98) := fun w2 s' l2 hv k2 => by
    have hrd : s'.view.read (⟨#[120]⟩ : ByteArray).data.toList = some [97, 98] := by rw [hv]; decide
    have hR := Read.calls l2 ⟨#[120]⟩ (by decide) (fun f hf => by
      have : s'.view.read (⟨#[120]⟩ : ByteArray).data.toList = some f.data := by
        unfold V.read
        show (vfind (s'.fs.map DF.pf) _).map _ = _
        rw [vfind_eq, hf]; rfl
      rw [hrd] at this
      injection this with e
      rw [← e]; decide)
    rw [hrd] at hR
    refine hR.mono ?_
    rintro e w' ⟨v', rfl, hown, k3⟩
    obtain ⟨g, cap, rfl, _, _⟩ := hown.form (by decide)
    exact ⟨g, cap, rfl, k2.trans k3 (fun _ _ h => h), hown.cellAt 0 (by decide), hown.cellAt 1 (by decide)⟩
  clear htab
  go_enter Tryd.func4, Tryd.ntmps4
  go_wp2_with (first
    | (go_at_call 8; refine hNew.mono ?_; rintro e w1 ⟨rfl, l1, k1⟩)
    | (go_at_call 9; refine (hPut _ l1 k1).mono ?_; rintro e w2 ⟨rfl, s2, l2, hv2, k2⟩)
    | (go_at_call 10; refine (hRead _ _ l2 hv2 k2).mono ?_; rintro e w3 ⟨g, cap, rfl, k3, c0, c1⟩
       have hstr : (convert 30 9 (.slice (some ⟨g, 0, none⟩) 2 cap)).run Tryd.prog w3 = .ok (.string ⟨#[97, 98]⟩) w3 := run_convert_bytes_back w3 _ _ 5 ⟨g, 0, none⟩ cap [97, 98] Tryd.underlying30 Tryd.underlying5 Tryd.underlying9 (fun j hj => by
         have hadd : (⟨g, 0, none⟩ : Addr).add j = ⟨g, j, none⟩ := by unfold Addr.add; split <;> simp_all
         rw [hadd]
         match j, hj with
         | 0, _ => exact c0
         | 1, _ => exact c1))
    | (go_at_call 11; refine (num.calls _ _).mono ?_; rintro e w4 ⟨rfl, rfl⟩)
    | (go_at_call 5; refine (hB3 _ k3).mono ?_; rintro e w5 ⟨rfl, k5⟩)
    | (go_at_call 6; refine (hS12 _ (k3.trans k5 (fun _ _ h => h))).mono ?_; rintro e w6 ⟨rfl, k6⟩))
  go_ret
  exact ⟨rfl, (k3.trans k5 (fun _ _ h => h)).trans k6 (fun _ _ h => h)⟩
end Go.Proofs.YtjnjodknnefhaaaDoor.Dev
