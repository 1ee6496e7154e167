/- bucket.Plus; comparing edges whose services have one-letter names. -/
import Derived.Test.YtbfapgagmbiiaaaBase
import Derived.Deep.RegionHeld3
namespace Go.Proofs.Ytbfapgagmbiiaaa
open Gl Go.RowKit Go.Proofs.YtbfapgagmbiiaaaW.PrintWords
set_option linter.unusedVariables false
set_option linter.unusedSimpArgs false

theorem Plus.calls (a b m : Int) (w : World) (ha : 0 ≤ a) (hb : 0 ≤ b) (hm : a + b ≤ m) (hm2 : m ≤ 1000000) :
    Calls Try.prog 39 #[.int .i64 a, .int .i64 b, .int .i64 m] w fun e w' => e = .returned (.int .i64 (a + b)) ∧ w = w' := by
  have h1 : a ≤ m := by omega
  have h2 : b ≤ m := by omega
  have h3 : b ≤ m - a := by omega
  have h4 : 0 ≤ m := by omega
  go_enter Try.func39, Try.ntmps39
  go_wp2
  all_goals (first | (go_ret; exact ⟨ret_int (by omega), rfl⟩) | (exfalso; omega))
theorem isNaN_str.calls (s : ByteArray) (w : World) : Calls Try.prog 53 #[.string s] w fun e w' => e = .returned (.bool false) ∧ w = w' := by
  go_enter Try.func53, Try.ntmps53
  go_wp2
  go_ret
  exact ⟨by simp, rfl⟩
/-- The names of the services. -/
def nm (k : Nat) : ByteArray := ⟨#[UInt8.ofNat (97 + k)]⟩
def cmpN (i j : Nat) : Int := if i < j then -1 else if i = j then 0 else 1
theorem Compare_str.calls (i j : Nat) (hi : i < 4) (hj : j < 4) (w : World) : Calls Try.prog 46 #[.string (nm i), .string (nm j)] w fun e w' => e = .returned (.int .i64 (cmpN i j)) ∧ w = w' := by
  have hN := fun s => isNaN_str.calls s w
  have key : ∀ (i j : Nat), i < 4 → j < 4 → ∃ c, c = cmpN i j ∧ True := fun _ _ _ _ => ⟨_, rfl, trivial⟩
  clear key
  rcases i with _ | _ | _ | _ | i
  all_goals first | (exfalso; omega) | skip
  all_goals (rcases j with _ | _ | _ | _ | j)
  all_goals first | (exfalso; omega) | skip
  all_goals
    show Calls Try.prog 46 #[.string ⟨#[_]⟩, .string ⟨#[_]⟩] w _
    go_enter Try.func46, Try.ntmps46
    go_wp2_with (go_at_call 53; refine (hN _).mono ?_; rintro e w2 ⟨rfl, rfl⟩)
    go_ret
    exact ⟨rfl, rfl⟩
def orI (x y : Int) : Int := if x = 0 then y else x
theorem Or.calls (b : Nat) (c : Nat) (x y : Int) (w : World) (h0 : w.cell? ⟨b, 0, none⟩ = some (.int .i64 x)) (h1 : w.cell? ⟨b, 1, none⟩ = some (.int .i64 y)) : Calls Try.prog 45 #[.slice (some ⟨b, 0, none⟩) 2 c] w fun e w' => e = .returned (.int .i64 (orI x y)) ∧ w = w' := by
  by_cases hx : x = 0
  · subst hx
    by_cases hy : y = 0
    · subst hy
      go_enter Try.func45, Try.ntmps45
      go_wp2
      go_loopg [8, 5] 2 (fun gg s8 s5 wr => ∃ k : Nat, k ≤ 2 ∧ 2 - k ≤ gg ∧ s8 = .int .i64 k ∧ w = wr)
      case atStart => exact ⟨0, by omega, by omega, rfl, rfl⟩
      case round =>
        obtain ⟨k, hk, hg, rfl, rfl⟩ := hrel
        rcases k with _ | _ | _ | k
        · go_wp2
          go_roundg 1
          case measure => omega
          case rel => exact ⟨1, by omega, by omega, by go_num, rfl⟩
        · go_wp2
          go_roundg 0
          case measure => omega
          case rel => exact ⟨2, by omega, by omega, by go_num, rfl⟩
        · go_wp2
          go_ret
          exact ⟨rfl, rfl⟩
        · exfalso; omega
    · have e : orI 0 y = y := rfl
      have hy1 : (y != 0) = true := by simpa using hy
      rw [e]
      clear e hy
      go_enter Try.func45, Try.ntmps45
      go_wp2
      go_loopg [8, 5] 2 (fun gg s8 s5 wr => ∃ k : Nat, k ≤ 1 ∧ 2 - k ≤ gg ∧ s8 = .int .i64 k ∧ w = wr)
      case atStart => exact ⟨0, by omega, by omega, rfl, rfl⟩
      case round =>
        obtain ⟨k, hk, hg, rfl, rfl⟩ := hrel
        rcases k with _ | _ | k
        · go_wp2
          go_roundg 1
          case measure => omega
          case rel => exact ⟨1, by omega, by omega, by go_num, rfl⟩
        · go_wp2
          go_ret
          exact ⟨rfl, rfl⟩
        · exfalso; omega
  · have e : orI x y = x := by simp [orI, hx]
    have hx1 : (x != 0) = true := by simpa using hx
    rw [e]
    clear e hx
    go_enter Try.func45, Try.ntmps45
    go_wp2
    go_loopg [8, 5] 2 (fun gg s8 s5 wr => s8 = .int .i64 0 ∧ w = wr)
    case atStart => exact ⟨rfl, rfl⟩
    case round =>
      obtain ⟨rfl, rfl⟩ := hrel
      go_wp2
      go_ret
      exact ⟨rfl, rfl⟩
theorem two_cells (W : World) (x y : Value) (t : TypeId) : (W.alloc (.cells #[x, y] t)).cell? ⟨W.heap.size, 0, none⟩ = some x ∧ (W.alloc (.cells #[x, y] t)).cell? ⟨W.heap.size, 1, none⟩ = some y := by
  constructor <;> (rw [cell_of_row _ _ _ _ _ _ (heap_alloc_new W _)]; rfl)
/-- An edge as a value. -/
abbrev edgeV (i j : Nat) (c e : Int) : Value := .agg #[.string (nm i), .string (nm j), .int .i64 c, .int .i64 e]
def cmpE (i j i' j' : Nat) : Int := orI (cmpN i i') (cmpN j j')
set_option maxHeartbeats 4000000 in
theorem compare.calls (i j i' j' : Nat) (c e c' e' : Int) (hi : i < 4) (hj : j < 4) (hi' : i' < 4) (hj' : j' < 4) (w : World) :
    Calls Try.prog 36 #[edgeV i j c e, edgeV i' j' c' e'] w fun e w' => e = .returned (.int .i64 (cmpE i j i' j')) ∧ Below w.heap.size w w' := by
  have h1 := fun W => Compare_str.calls i i' hi hi' W
  have h2 := fun W => Compare_str.calls j j' hj hj' W
  have HO := fun b c x y W h0 h1 => Or.calls b c x y W h0 h1
  simp only [edgeV]
  go_enter Try.func36, Try.ntmps36
  generalize nm i = s1 at h1 ⊢
  generalize nm i' = s2 at h1 ⊢
  generalize nm j = s3 at h2 ⊢
  generalize nm j' = s4 at h2 ⊢
  go_upto_region 1 with (fail)
  have B0 : Aside0 (Below w.heap.size w ((w.alloc (.cells #[.string s1, .string s3, .int .i64 c, .int .i64 e] 36)).alloc (.cells #[.string s2, .string s4, .int .i64 c', .int .i64 e'] 36))) := ⟨below_alloc (below_alloc (Below.refl _ _) _) _⟩
  have c0 : ((w.alloc (.cells #[.string s1, .string s3, .int .i64 c, .int .i64 e] 36)).alloc (.cells #[.string s2, .string s4, .int .i64 c', .int .i64 e'] 36)).cell? ⟨w.heap.size, 0, none⟩ = some (.string s1) := by rw [cell_of_row _ _ _ _ _ _ (heap_alloc2_old _ _ _)]; rfl
  have c1 : ((w.alloc (.cells #[.string s1, .string s3, .int .i64 c, .int .i64 e] 36)).alloc (.cells #[.string s2, .string s4, .int .i64 c', .int .i64 e'] 36)).cell? ⟨w.heap.size, 1, none⟩ = some (.string s3) := by rw [cell_of_row _ _ _ _ _ _ (heap_alloc2_old _ _ _)]; rfl
  have c2 : ((w.alloc (.cells #[.string s1, .string s3, .int .i64 c, .int .i64 e] 36)).alloc (.cells #[.string s2, .string s4, .int .i64 c', .int .i64 e'] 36)).cell? ⟨w.heap.size + 1, 0, none⟩ = some (.string s2) := by
    have h := heap_alloc_new (w.alloc (.cells #[.string s1, .string s3, .int .i64 c, .int .i64 e] 36)) (.cells #[.string s2, .string s4, .int .i64 c', .int .i64 e'] 36)
    simp only [World.size_alloc] at h
    rw [cell_of_row _ _ _ _ _ _ h]; rfl
  have c3 : ((w.alloc (.cells #[.string s1, .string s3, .int .i64 c, .int .i64 e] 36)).alloc (.cells #[.string s2, .string s4, .int .i64 c', .int .i64 e'] 36)).cell? ⟨w.heap.size + 1, 1, none⟩ = some (.string s4) := by
    have h := heap_alloc_new (w.alloc (.cells #[.string s1, .string s3, .int .i64 c, .int .i64 e] 36)) (.cells #[.string s2, .string s4, .int .i64 c', .int .i64 e'] 36)
    simp only [World.size_alloc] at h
    rw [cell_of_row _ _ _ _ _ _ h]; rfl
  generalize ((w.alloc (.cells #[.string s1, .string s3, .int .i64 c, .int .i64 e] 36)).alloc (.cells #[.string s2, .string s4, .int .i64 c', .int .i64 e'] 36)) = W at B0 c0 c1 c2 c3 ⊢
  have HE : Aside0 (cmpE i j i' j' = orI (cmpN i i') (cmpN j j')) := ⟨rfl⟩
  generalize cmpN i i' = x at h1 HE ⊢
  generalize cmpN j j' = y at h2 HE ⊢
  go_region_held3 (fun W => W.cell? ⟨w.heap.size, 0, none⟩ = some (.string s1) ∧ W.cell? ⟨w.heap.size, 1, none⟩ = some (.string s3) ∧ W.cell? ⟨w.heap.size + 1, 0, none⟩ = some (.string s2) ∧ W.cell? ⟨w.heap.size + 1, 1, none⟩ = some (.string s4)) (first | exact ⟨c0, c1, c2, c3⟩ | exact ⟨cell_al c0 _, cell_al c1 _, cell_al c2 _, cell_al c3 _⟩) (first | ((with_reducible go_at_call 46; refine (h1 _).mono ?_); rintro e w2 ⟨rfl, rfl⟩) | ((with_reducible go_at_call 46; refine (h2 _).mono ?_); rintro e w2 ⟨rfl, rfl⟩) | (go_at_call 45; refine (HO _ _ x y _ (by first | exact (two_cells W _ _ _).1 | exact (two_cells W.drew _ _ _).1) (by first | exact (two_cells W _ _ _).2 | exact (two_cells W.drew _ _ _).2)).mono ?_; rintro e w2 ⟨rfl, rfl⟩))
  all_goals
    go_wp2
    go_ret
    first | exact ⟨ret_int HE.out.symm, below_alloc (below_drew B0.out) _⟩ | exact ⟨ret_int HE.out.symm, below_drew (below_alloc B0.out _)⟩
end Go.Proofs.Ytbfapgagmbiiaaa
