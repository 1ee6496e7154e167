/-
  shelf.numbered, Block, Snap: a letter and the number's decimal numeral.
-/
import Derived.Test.YtjnjodknnefhaaaDoorDevRead
import Derived.Test.YtjnjodknnefhaaaDoorItoa
import Derived.Lib.AppendIntMem
import Derived.Lib.ItoaLen
namespace Go.Proofs.YtjnjodknnefhaaaDoor.Dev
open Go.RowKit Go.Proofs.YtjnjodknnefhaaaDoor.Once
set_option linter.unusedSimpArgs false
set_option linter.unusedVariables false
set_option maxRecDepth 100000
set_option maxHeartbeats 1600000

abbrev Tab (w : World) : Prop := Lib.TabIs Tryd.prog w "internal/strconv.uint64pow10" .u64 Lib.pow10Tab
theorem Tab.kept {w w' : World} (h : Tab w) (k : Kept (fun _ => False) w w') : Tab w' :=
  Lib.tabBelow_of_tabIs h w' (k.below (Nat.le_refl _) (fun _ _ h => h))
theorem Tab.below {w w' : World} {B : Nat} (h : Lib.TabBelow Tryd.prog B w "internal/strconv.uint64pow10" .u64 Lib.pow10Tab) (b : Below B w w') : Tab w' := h w' b

theorem grow_kept (w : World) (n : Nat) (os : Array Obj) : Kept (fun _ => False) w (Sort.grow (w.drewN n) os) :=
  ⟨rfl, rfl, rfl, by show w.heap.size ≤ (w.heap ++ os).size; simp, fun k hk _ => by show (w.heap ++ os)[k]? = _; rw [Array.getElem?_append_left hk]⟩

/-- A letter and a number. -/
def named (c : ByteArray) (n : Int) : ByteArray := if n < 0 then ⟨#[]⟩ else c ++ ⟨(Lib.itoa n).toArray⟩

theorem numbered.calls (c : ByteArray) (hc : c.size = 1) (n : Int) (h0 : -9223372036854775808 ≤ n) (h1 : n ≤ 9223372036854775807) (w : World) (htab : Tab w) :
    Calls Tryd.prog 12 #[.string c, .int .i64 n] w fun e w' => e = .returned (.string (named c n)) ∧ Kept (fun _ => False) w w' := by
  have hcap : c.size + (⟨(Lib.itoa n).toArray⟩ : ByteArray).size ≤ 9223372036854775807 := by
    have : (⟨(Lib.itoa n).toArray⟩ : ByteArray).size = (Lib.itoa n).length := by simp [ByteArray.size]
    have hl := Lib.itoa_length_le n h0 h1
    rw [this, hc]; omega
  by_cases hn : n < 0
  · have hd : named c n = ⟨#[]⟩ := if_pos hn
    rw [hd]
    go_enter Tryd.func12, Tryd.ntmps12
    go_wp2
    go_ret
    exact ⟨rfl, Kept.refl _ _⟩
  · have hd : named c n = c ++ ⟨(Lib.itoa n).toArray⟩ := if_neg hn
    rw [hd]
    have hI := Tryd.strconv_Itoa n h0 h1 w htab
    generalize (⟨(Lib.itoa n).toArray⟩ : ByteArray) = t at hcap hI
    go_enter Tryd.func12, Tryd.ntmps12
    go_wp2_with (go_at_call 19; refine hI.mono ?_; rintro e w' ⟨rfl, k, os, rfl⟩)
    go_ret
    exact ⟨rfl, grow_kept w k os⟩

theorem Block.calls (n : Int) (h0 : -9223372036854775808 ≤ n) (h1 : n ≤ 9223372036854775807) (w : World) (htab : Tab w) :
    Calls Tryd.prog 5 #[.int .i64 n] w fun e w' => e = .returned (.string (named ⟨#[98]⟩ n)) ∧ Kept (fun _ => False) w w' := by
  have hN := numbered.calls ⟨#[98]⟩ rfl n h0 h1 w htab
  generalize named ⟨#[98]⟩ n = t at hN ⊢
  go_enter Tryd.func5, Tryd.ntmps5
  go_wp2_with (go_at_call 12; refine hN.mono ?_; rintro e w' ⟨rfl, k⟩)
  go_ret
  exact ⟨rfl, k⟩
theorem Snap.calls (n : Int) (h0 : -9223372036854775808 ≤ n) (h1 : n ≤ 9223372036854775807) (w : World) (htab : Tab w) :
    Calls Tryd.prog 6 #[.int .i64 n] w fun e w' => e = .returned (.string (named ⟨#[115]⟩ n)) ∧ Kept (fun _ => False) w w' := by
  have hN := numbered.calls ⟨#[115]⟩ rfl n h0 h1 w htab
  generalize named ⟨#[115]⟩ n = t at hN ⊢
  go_enter Tryd.func6, Tryd.ntmps6
  go_wp2_with (go_at_call 12; refine hN.mono ?_; rintro e w' ⟨rfl, k⟩)
  go_ret
  exact ⟨rfl, k⟩

/-! ### the names, plainly -/
theorem digit_lt {k : Nat} (h : k < 10) : (UInt8.ofNat (48 + k)).toNat = 48 + k := by simp; omega
theorem decDigits_inj : ∀ (u v : Nat), Lib.decDigits u = Lib.decDigits v → u = v := by
  intro u
  induction u using Nat.strongRecOn with
  | ind u ih =>
    intro v h
    have hlen : ∀ k : Nat, (Lib.decDigits k) ≠ [] := fun k e => by
      rw [Lib.decDigits] at e
      split at e <;> simp at e
    rw [Lib.decDigits, Lib.decDigits.eq_def v] at h
    split at h <;> split at h
    · rename_i h1 h2
      have := congrArg (fun l => (l.head?.getD 0).toNat) h
      simp only [List.head?_cons, Option.getD_some] at this
      rw [digit_lt h1, digit_lt h2] at this
      omega
    · rename_i h1 h2
      have := congrArg List.length h
      simp at this
      exact absurd this (hlen _)
    · rename_i h1 h2
      have := congrArg List.length h
      simp at this
      exact absurd this (hlen _)
    · rename_i h1 h2
      have e := List.append_inj' h rfl
      have e1 := ih (u / 10) (by omega) (v / 10) e.1
      have e2 := congrArg (fun l => (l.head?.getD 0).toNat) e.2
      simp only [List.head?_cons, Option.getD_some] at e2
      rw [digit_lt (Nat.mod_lt _ (by omega)), digit_lt (Nat.mod_lt _ (by omega))] at e2
      omega
theorem named_data (c : ByteArray) {n : Int} (h : 0 ≤ n) : (named c n).data.toList = c.data.toList ++ Lib.decDigits n.toNat := by
  unfold named
  rw [if_neg (by omega)]
  have : Lib.itoa n = Lib.decDigits n.toNat := by unfold Lib.itoa; rw [if_neg (by omega)]
  rw [this]
  simp
theorem named_inj (c : ByteArray) {a b : Int} (ha : 0 ≤ a) (hb : 0 ≤ b) (h : named c a = named c b) : a = b := by
  have := congrArg (fun x : ByteArray => x.data.toList) h
  simp only [named_data c ha, named_data c hb] at this
  have := decDigits_inj _ _ (List.append_cancel_left this)
  omega
theorem named_ne (a b : Int) (ha : 0 ≤ a) (hb : 0 ≤ b) : named ⟨#[98]⟩ a ≠ named ⟨#[115]⟩ b := fun h => by
  have := congrArg (fun x : ByteArray => x.data.toList) h
  simp only [named_data _ ha, named_data _ hb] at this
  simp at this
end Go.Proofs.YtjnjodknnefhaaaDoor.Dev
