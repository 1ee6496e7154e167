/-
  THE LAW ShelfNames, WALKED: it answers true.
-/
import Derived.Test.YtjnjodknnefhaaaDoorNamesRef
namespace Go.Proofs.YtjnjodknnefhaaaDoor.Dev
open Go.RowKit Go.Proofs.YtjnjodknnefhaaaDoor.Once
set_option linter.unusedSimpArgs false
set_option linter.unusedVariables false
set_option maxRecDepth 100000
set_option maxHeartbeats 600000

theorem law_neg.calls (a b : Int) (ha0 : -9223372036854775808 ≤ a) (ha : a < 0) (w : World) (htab : Tab w) :
    Calls Tryd.prog 3 #[.int .i64 a, .int .i64 b] w fun e w' => e = .returned (.bool true) ∧ Kept (fun _ => False) w w' := by
  have hA := alive.calls w htab
  have hBa : ∀ w' : World, Kept (fun _ => False) w w' → Calls Tryd.prog 5 #[.int .i64 a] w' fun e w'' => e = .returned (.string ⟨#[]⟩) ∧ Kept (fun _ => False) w' w'' := fun w' k => by
    have := Block.calls a ha0 (by omega) w' (htab.kept k)
    rw [show named ⟨#[98]⟩ a = ⟨#[]⟩ from if_pos ha] at this; exact this
  have hSa : ∀ w' : World, Kept (fun _ => False) w w' → Calls Tryd.prog 6 #[.int .i64 a] w' fun e w'' => e = .returned (.string ⟨#[]⟩) ∧ Kept (fun _ => False) w' w'' := fun w' k => by
    have := Snap.calls a ha0 (by omega) w' (htab.kept k)
    rw [show named ⟨#[115]⟩ a = ⟨#[]⟩ from if_pos ha] at this; exact this
  clear htab
  have ha' : decide (a < 0) = true := decide_eq_true ha
  have hage : decide (0 ≤ a) = false := decide_eq_false (by omega)
  go_enter Tryd.func3, Tryd.ntmps3
  go_wp2_with (first
    | (go_at_call 4; refine hA.mono ?_; rintro e w1 ⟨rfl, k1⟩)
    | (go_at_call 5; refine (hBa _ k1).mono ?_; rintro e w2 ⟨rfl, k2⟩)
    | (go_at_call 6; refine (hSa _ (k1.trans k2 (fun _ _ h => h))).mono ?_; rintro e w3 ⟨rfl, k3⟩))
  go_ret
  exact ⟨rfl, (k1.trans k2 (fun _ _ h => h)).trans k3 (fun _ _ h => h)⟩

theorem law_bneg.calls (a b : Int) (ha : 0 ≤ a) (hb : b < 0) (w : World) (htab : Tab w) :
    Calls Tryd.prog 3 #[.int .i64 a, .int .i64 b] w fun e w' => e = .returned (.bool true) ∧ Kept (fun _ => False) w w' := by
  have hA := alive.calls w htab
  clear htab
  have ha' : decide (a < 0) = false := decide_eq_false (by omega)
  have hb' : decide (b < 0) = true := decide_eq_true hb
  have hage : decide (0 ≤ a) = true := decide_eq_true ha
  go_enter Tryd.func3, Tryd.ntmps3
  go_wp2_with (first
    | (go_at_call 4; refine hA.mono ?_; rintro e w1 ⟨rfl, k1⟩))
  go_ret
  exact ⟨rfl, k1⟩

theorem toList_ne {x y : ByteArray} (h : x ≠ y) : (x.toList == y.toList) = false := by
  rw [ByteArray.toList_eq, ByteArray.toList_eq]
  cases x with
  | mk d => cases y with
    | mk d' =>
      simp only [beq_eq_false_iff_ne, ne_eq]
      intro e
      exact h (by rw [show d = d' by simpa using e])

theorem law_same.calls (a : Int) (ha : 0 ≤ a) (h1 : a ≤ 9223372036854775807) (w : World) (htab : Tab w) :
    Calls Tryd.prog 3 #[.int .i64 a, .int .i64 a] w fun e w' => e = .returned (.bool true) ∧ Kept (fun _ => False) w w' := by
  have hA := alive.calls w htab
  have hB : ∀ w' : World, Kept (fun _ => False) w w' → Calls Tryd.prog 5 #[.int .i64 a] w' fun e w'' => e = .returned (.string (named ⟨#[98]⟩ a)) ∧ Kept (fun _ => False) w w'' := fun w' k =>
    (Block.calls a (by omega) h1 w' (htab.kept k)).mono (fun e w'' h => ⟨h.1, k.trans h.2 (fun _ _ h => h)⟩)
  have hS : ∀ w' : World, Kept (fun _ => False) w w' → Calls Tryd.prog 6 #[.int .i64 a] w' fun e w'' => e = .returned (.string (named ⟨#[115]⟩ a)) ∧ Kept (fun _ => False) w w'' := fun w' k =>
    (Snap.calls a (by omega) h1 w' (htab.kept k)).mono (fun e w'' h => ⟨h.1, k.trans h.2 (fun _ _ h => h)⟩)
  have hNb : ∀ w' : World, Calls Tryd.prog 7 #[.string ⟨#[98]⟩, .int .i64 a] w' fun e w'' => e = .returned (.string (named ⟨#[98]⟩ a)) ∧ w'' = w' := fun w' => Name.calls ⟨#[98]⟩ rfl a h1 ha w'
  have hNs : ∀ w' : World, Calls Tryd.prog 7 #[.string ⟨#[115]⟩, .int .i64 a] w' fun e w'' => e = .returned (.string (named ⟨#[115]⟩ a)) ∧ w'' = w' := fun w' => Name.calls ⟨#[115]⟩ rfl a h1 ha w'
  have hne := toList_ne (named_ne a a ha ha)
  clear htab h1
  have ha' : decide (a < 0) = false := decide_eq_false (by omega)
  generalize named ⟨#[98]⟩ a = nb at *
  generalize named ⟨#[115]⟩ a = ns at *
  go_enter Tryd.func3, Tryd.ntmps3

  go_wp2_with (first
    | (go_at_call 4; refine hA.mono ?_; rintro e wk ⟨rfl, k1⟩)
    | (go_at_call 5; refine (hB _ k1).mono ?_; clear k1; rintro e wk ⟨rfl, k1⟩)
    | (go_at_call 6; refine (hS _ k1).mono ?_; clear k1; rintro e wk ⟨rfl, k1⟩)
    | (go_at_call 7; (first | (with_reducible refine (hNb _).mono ?_) | (with_reducible refine (hNs _).mono ?_)); rintro e wk' ⟨rfl, rfl⟩))
  go_ret
  refine ⟨?_, k1⟩
  show Ending.returned _ = Ending.returned _
  simp [hne]
theorem law_diff.calls (a b : Int) (ha : 0 ≤ a) (h1 : a ≤ 9223372036854775807) (hb : 0 ≤ b) (h2 : b ≤ 9223372036854775807) (hab : a ≠ b) (w : World) (htab : Tab w) :
    Calls Tryd.prog 3 #[.int .i64 a, .int .i64 b] w fun e w' => e = .returned (.bool true) ∧ Kept (fun _ => False) w w' := by
  have hA := alive.calls w htab
  have hB : ∀ w' : World, Kept (fun _ => False) w w' → Calls Tryd.prog 5 #[.int .i64 a] w' fun e w'' => e = .returned (.string (named ⟨#[98]⟩ a)) ∧ Kept (fun _ => False) w w'' := fun w' k =>
    (Block.calls a (by omega) h1 w' (htab.kept k)).mono (fun e w'' h => ⟨h.1, k.trans h.2 (fun _ _ h => h)⟩)
  have hS : ∀ w' : World, Kept (fun _ => False) w w' → Calls Tryd.prog 6 #[.int .i64 a] w' fun e w'' => e = .returned (.string (named ⟨#[115]⟩ a)) ∧ Kept (fun _ => False) w w'' := fun w' k =>
    (Snap.calls a (by omega) h1 w' (htab.kept k)).mono (fun e w'' h => ⟨h.1, k.trans h.2 (fun _ _ h => h)⟩)
  have hBb : ∀ w' : World, Kept (fun _ => False) w w' → Calls Tryd.prog 5 #[.int .i64 b] w' fun e w'' => e = .returned (.string (named ⟨#[98]⟩ b)) ∧ Kept (fun _ => False) w w'' := fun w' k =>
    (Block.calls b (by omega) h2 w' (htab.kept k)).mono (fun e w'' h => ⟨h.1, k.trans h.2 (fun _ _ h => h)⟩)
  have hSb : ∀ w' : World, Kept (fun _ => False) w w' → Calls Tryd.prog 6 #[.int .i64 b] w' fun e w'' => e = .returned (.string (named ⟨#[115]⟩ b)) ∧ Kept (fun _ => False) w w'' := fun w' k =>
    (Snap.calls b (by omega) h2 w' (htab.kept k)).mono (fun e w'' h => ⟨h.1, k.trans h.2 (fun _ _ h => h)⟩)
  have hNb : ∀ w' : World, Calls Tryd.prog 7 #[.string ⟨#[98]⟩, .int .i64 a] w' fun e w'' => e = .returned (.string (named ⟨#[98]⟩ a)) ∧ w'' = w' := fun w' => Name.calls ⟨#[98]⟩ rfl a h1 ha w'
  have hNs : ∀ w' : World, Calls Tryd.prog 7 #[.string ⟨#[115]⟩, .int .i64 b] w' fun e w'' => e = .returned (.string (named ⟨#[115]⟩ b)) ∧ w'' = w' := fun w' => Name.calls ⟨#[115]⟩ rfl b h2 hb w'
  have hne := toList_ne (named_ne a a ha ha)
  have hne1 := toList_ne (fun e => hab (named_inj ⟨#[98]⟩ ha hb e))
  have hne2 := toList_ne (fun e => hab (named_inj ⟨#[115]⟩ ha hb e))
  clear htab h1 h2
  have ha' : decide (a < 0) = false := decide_eq_false (by omega)
  have hb' : decide (b < 0) = false := decide_eq_false (by omega)
  have hab' : (a == b) = false := by simpa using hab
  generalize named ⟨#[98]⟩ a = na at *
  generalize named ⟨#[115]⟩ a = sa at *
  generalize named ⟨#[98]⟩ b = nb at *
  generalize named ⟨#[115]⟩ b = sb at *
  go_enter Tryd.func3, Tryd.ntmps3

  go_wp2_with (first
    | (go_at_call 4; refine hA.mono ?_; rintro e wk ⟨rfl, k1⟩)
    | (go_at_call 5; (first | (with_reducible refine (hB _ k1).mono ?_) | (with_reducible refine (hBb _ k1).mono ?_)); clear k1; rintro e wk ⟨rfl, k1⟩)
    | (go_at_call 6; (first | (with_reducible refine (hS _ k1).mono ?_) | (with_reducible refine (hSb _ k1).mono ?_)); clear k1; rintro e wk ⟨rfl, k1⟩)
    | (go_at_call 7; (first | (with_reducible refine (hNb _).mono ?_) | (with_reducible refine (hNs _).mono ?_)); rintro e wk' ⟨rfl, rfl⟩))
  go_ret
  refine ⟨?_, k1⟩
  show Ending.returned _ = Ending.returned _
  simp [hne, hne1, hne2, hab']

/-- THE LAW. -/
theorem ShelfNames.calls (a b : Int) (ha0 : -9223372036854775808 ≤ a) (h1 : a ≤ 9223372036854775807) (h2 : b ≤ 9223372036854775807) (w : World) (htab : Tab w) :
    Calls Tryd.prog 3 #[.int .i64 a, .int .i64 b] w fun e w' => e = .returned (.bool true) ∧ Kept (fun _ => False) w w' := by
  by_cases ha : a < 0
  · exact law_neg.calls a b ha0 ha w htab
  · by_cases hb : b < 0
    · exact law_bneg.calls a b (by omega) hb w htab
    · by_cases hab : a = b
      · subst hab; exact law_same.calls a (by omega) h1 w htab
      · exact law_diff.calls a b (by omega) h1 (by omega) h2 hab w htab
end Go.Proofs.YtjnjodknnefhaaaDoor.Dev
