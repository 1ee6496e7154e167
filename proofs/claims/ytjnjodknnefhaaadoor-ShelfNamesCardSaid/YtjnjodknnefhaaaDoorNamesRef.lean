/-
  gleaningref24.dec and Name: the document's own numeral.
-/
import Derived.Test.YtjnjodknnefhaaaDoorNamesAlive
namespace Go.Proofs.YtjnjodknnefhaaaDoor.Dev
open Go.RowKit Go.Proofs.YtjnjodknnefhaaaDoor.Once
set_option linter.unusedSimpArgs false
set_option linter.unusedVariables false
set_option maxRecDepth 100000
set_option maxHeartbeats 800000

theorem sliceD : ∀ r : Nat, r < 10 → ∀ w : World, (Instr.slice 9 (.string ⟨#[48, 49, 50, 51, 52, 53, 54, 55, 56, 57]⟩) (some (.int .i64 (r : Int))) (some (.int .i64 ((r : Int) + 1))) none).run Tryd.prog w = .ok (.string ⟨#[UInt8.ofNat (48 + r)]⟩) w := by
  intro r h w
  have hr : r = 0 ∨ r = 1 ∨ r = 2 ∨ r = 3 ∨ r = 4 ∨ r = 5 ∨ r = 6 ∨ r = 7 ∨ r = 8 ∨ r = 9 := by omega
  rcases hr with rfl | rfl | rfl | rfl | rfl | rfl | rfl | rfl | rfl | rfl <;> rfl

theorem dec.calls : ∀ (u : Nat), (u : Int) ≤ 9223372036854775807 → ∀ (w : World),
    Calls Tryd.prog 13 #[.int .i64 (u : Int)] w fun e w' => e = .returned (.string ⟨(Lib.decDigits u).toArray⟩) ∧ w' = w := by
  intro u
  induction u using Nat.strongRecOn with
  | ind u ih =>
    intro hu w
    have hr : u % 10 < 10 := Nat.mod_lt _ (by omega)
    have hsl := sliceD (u % 10) hr
    rw [show ((u % 10 : Nat) : Int) = (u : Int) % 10 by omega] at hsl
    by_cases hu9 : u < 10
    · have hd : Lib.decDigits u = [UInt8.ofNat (48 + u % 10)] := by rw [Nat.mod_eq_of_lt hu9]; exact Lib.decDigits_one hu9
      rw [hd]
      have h9 : ¬ (9 : Int) < (u : Int) := by omega
      show Calls _ _ _ _ fun e w' => e = .returned (.string ⟨#[UInt8.ofNat (48 + u % 10)]⟩) ∧ w' = w
      generalize (⟨#[UInt8.ofNat (48 + u % 10)]⟩ : ByteArray) = d at *
      clear ih hr hd hu9 hu
      go_enter Tryd.func13, Tryd.ntmps13
      go_wp2
      go_ret
      exact ⟨rfl, rfl⟩
    · have hd : Lib.decDigits u = Lib.decDigits (u / 10) ++ [UInt8.ofNat (48 + u % 10)] := by rw [Lib.decDigits, dif_neg hu9]
      rw [hd]
      have h9 : (9 : Int) < (u : Int) := by omega
      have hI := ih (u / 10) (by omega) (by omega) w
      rw [show ((u / 10 : Nat) : Int) = wrap64 ((u : Int) / 10) from by rw [IntWalk.wrap64_in _ (by omega)]; omega] at hI
      have hlen : (⟨(Lib.decDigits (u / 10)).toArray⟩ : ByteArray).size ≤ 21 := by
        have := Lib.itoa_length_le ((u / 10 : Nat) : Int) (by omega) (by omega)
        rw [Lib.itoa_nonneg] at this
        simpa [ByteArray.size] using this
      have hfin : (⟨(Lib.decDigits (u / 10) ++ [UInt8.ofNat (48 + u % 10)]).toArray⟩ : ByteArray) = ⟨(Lib.decDigits (u / 10)).toArray⟩ ++ ⟨#[UInt8.ofNat (48 + u % 10)]⟩ := by
        rw [ByteArray.mk_append_mk]
      rw [hfin]
      have hsz : (⟨(Lib.decDigits (u / 10)).toArray⟩ : ByteArray).size + (⟨#[UInt8.ofNat (48 + u % 10)]⟩ : ByteArray).size ≤ 9223372036854775807 := by
        show _ + 1 ≤ _
        omega
      clear hfin hlen hd
      generalize (⟨(Lib.decDigits (u / 10)).toArray⟩ : ByteArray) = t at *
      generalize (⟨#[UInt8.ofNat (48 + u % 10)]⟩ : ByteArray) = d at *
      clear ih hr hu9 hu
      go_enter Tryd.func13, Tryd.ntmps13
      go_wp2_with (go_at_call 13; refine hI.mono ?_; rintro e w' ⟨rfl, rfl⟩)
      go_ret
      exact ⟨rfl, rfl⟩

theorem Name.calls (c : ByteArray) (hc : c.size = 1) (n : Int) (h1 : n ≤ 9223372036854775807) (h0 : 0 ≤ n) (w : World) :
    Calls Tryd.prog 7 #[.string c, .int .i64 n] w fun e w' => e = .returned (.string (named c n)) ∧ w' = w := by
  obtain ⟨u, rfl⟩ : ∃ u : Nat, n = (u : Int) := ⟨n.toNat, by omega⟩
  have hD := dec.calls u h1 w
  have hd : named c (u : Int) = c ++ ⟨(Lib.decDigits u).toArray⟩ := by
    unfold named; rw [if_neg (by omega), Lib.itoa_nonneg]
  rw [hd]
  have hlen : (⟨(Lib.decDigits u).toArray⟩ : ByteArray).size ≤ 21 := by
    have := Lib.itoa_length_le (u : Int) (by omega) (by omega)
    rw [Lib.itoa_nonneg] at this
    simpa [ByteArray.size] using this
  have hcap : c.size + (⟨(Lib.decDigits u).toArray⟩ : ByteArray).size ≤ 9223372036854775807 := by omega
  clear hd hlen
  have hn : decide ((u : Int) < 0) = false := decide_eq_false (by omega)
  generalize (⟨(Lib.decDigits u).toArray⟩ : ByteArray) = t at *
  go_enter Tryd.func7, Tryd.ntmps7
  go_wp2_with (go_at_call 13; refine hD.mono ?_; rintro e w' ⟨rfl, rfl⟩)
  go_ret
  exact ⟨rfl, rfl⟩
end Go.Proofs.YtjnjodknnefhaaaDoor.Dev
