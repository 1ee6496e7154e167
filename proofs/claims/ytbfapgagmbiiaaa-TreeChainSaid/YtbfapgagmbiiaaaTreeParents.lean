/- tree.Parents comes to its plain function. -/
import Derived.Test.YtbfapgagmbiiaaaClone
import Derived.Test.YtbfapgagmbiiaaaTreeNamed
import Derived.Test.YtbfapgagmbiiaaaTreeRing
namespace Go.Proofs.Ytbfapgagmbiiaaa
open Gl Go.RowKit Go.Proofs.YtbfapgagmbiiaaaW.PrintWords
set_option linter.unusedVariables false
set_option linter.unusedSimpArgs false

set_option maxHeartbeats 4000000 in
theorem Parents.calls (A : Option Addr) (n c : Nat) (l : List SSpan) (w : World) (hr : Kd.C kSpan w A n l) (hl : n * 8 ≤ 140737488355328) :
    Calls Try.prog 12 #[.slice A n c] w fun e w' => ∃ v, e = .returned v ∧ Kd.R (Kd.int .i64) 3 w' w.heap.size (fun _ => True) v (Tree.parents l) ∧ Below w.heap.size w w' := by
  obtain rfl : l.length = n := hr.1
  have HR := Aside0.mk hr
  clear hr
  go_enter Try.func12, Try.ntmps12
  go_wp2
  go_loopg [3, 9] l.length (fun gg s3 s9 wr => ∃ k : Nat, k ≤ l.length ∧ l.length - k ≤ gg ∧ s9 = .int .i64 k ∧ Aside0 ((Kd.int .i64).R 3 wr w.heap.size (fun _ => True) s3 ((List.range k).map (Tree.named l))) ∧ Aside0 (Below w.heap.size w wr))
  case atStart => exact ⟨0, Nat.zero_le _, by omega, rfl, ⟨Kd.R_nil _ _ _ _ _⟩, ⟨Below.refl _ w⟩⟩
  case round =>
    rename_i s3
    obtain ⟨k, hk, hg, rfl, HO, BW⟩ := hrel
    by_cases hlt : k < l.length
    · have hc := named.calls A _ c l k hlt wr (Kd.C_below HR.out BW.out) (by omega)
      have hlen : ((List.range k).map (Tree.named l)).length = k := by simp
      go_wp2_with (first | (go_at_call 26; refine hc.mono ?_; rintro e w1 ⟨rfl, hb1⟩) | (at_builtin; refine app_i64 rfl (.tmp 12) (.tmp 16) rfl _ _ _ rfl rfl w.heap.size (Kd.R_below HO.out hb1) (Nat.le_trans BW.out.size hb1.size) (by rw [hlen]; omega) ?_; intro v2 w2 h2 hg2 hat2))
      go_roundg (l.length - (k + 1))
      case measure => omega
      case rel => exact ⟨k + 1, by omega, by omega, by go_num, ⟨by rw [← Tree.ups_snoc]; exact h2⟩, ⟨below_app (below_then BW.out BW.out.size hb1) (Kd.R_below HO.out hb1) hg2⟩⟩
    · obtain rfl : k = l.length := by omega
      have hd : decide ((l.length : Int) < (l.length : Int)) = false := by simp
      obtain ⟨A3, c3, rfl, hc3, hr3⟩ := R_readsN (n := l.length) HO.out (by simp)
      have hc := Clone_int.calls A3 l.length c3 (Tree.ups l) wr hr3 hl
      go_wp2_with (go_at_call 27; refine hc.mono ?_; rintro e w1 ⟨v1, rfl, h1, hb1⟩)
      have HU : Aside0 (Kd.F (Kd.int .i64) w1 (fun k => k < wr.heap.size) A3 l.length (Tree.ups l)) := ⟨Kd.F_below (Kd.F_mono (Kd.F_bound (Kd.R_F HO.out)) (fun _ h => h.2)) hb1⟩
      have H1 : Aside0 ((Kd.int .i64).R 3 w1 w.heap.size (fun _ => True) v1 (Tree.ups l)) := ⟨Kd.R_lower h1 BW.out.size⟩
      have B1 : Aside0 (Below w.heap.size w w1) := ⟨below_then BW.out BW.out.size hb1⟩
      have N1 : Aside0 (∀ k, v1.ownBlock = some k → wr.heap.size ≤ k) := ⟨Kd.R_base h1⟩
      clear hc h1 hb1 hr3
      obtain ⟨wo, rfl⟩ : ∃ wo : World, wo = wr := ⟨_, rfl⟩
      go_loopg [23] l.length (fun gg s23 wq => ∃ k : Nat, k ≤ l.length ∧ l.length - k ≤ gg ∧ s23 = .int .i64 k ∧ Aside0 ((Kd.int .i64).R 3 wq w.heap.size (fun _ => True) v1 (Tree.cutTo (Tree.ups l) k)) ∧ Aside0 (Kd.F (Kd.int .i64) wq (fun k => k < wo.heap.size) A3 l.length (Tree.ups l)) ∧ Aside0 (Below w.heap.size w wq))
      case atStart => exact ⟨0, Nat.zero_le _, by omega, rfl, by rw [Tree.cutTo_zero]; exact H1, HU, B1⟩
      case round =>
        clear HU H1 B1
        obtain ⟨k, hk, hg, rfl, H1, HU, B1⟩ := hrel
        by_cases hlt : k < l.length
        · have hc := ring.calls A3 _ c3 (Tree.ups l) k hlt wr (Kd.F_now HU.out) (by omega) (Tree.ups_ok l)
          by_cases hring : Tree.ring (Tree.ups l) k = (k : Int)
          · have hd : (Tree.ring (Tree.ups l) k == (k : Int)) = true := by simpa using hring
            obtain ⟨g, cap, rfl, hbg, hgl, -⟩ := R_formN (n := l.length) H1.out (by rw [Tree.cutTo_length, Tree.ups_length]) (by omega)
            obtain ⟨x, -, hx, hf⟩ := cell_i64 H1.out k hlt
            have H2 := Aside0.mk (Tree.cutTo_hit hring ▸ put_i64 H1.out k (-1))
            have N2 := N1.out g (by simp [Value.ownBlock])
            have C2 : Aside0 (Kd.F (Kd.int .i64) (wr.setCell ⟨g, k, none⟩ (.int .i64 (-1))) (fun k => k < wo.heap.size) A3 l.length (Tree.ups l)) := ⟨Kd.F_far HU.out (fun j hj e => by simp only at e; omega) _⟩
            clear hring
            go_wp2_with (go_at_call 28; refine hc.mono ?_; rintro e w2 ⟨rfl, rfl⟩)
            go_roundg (l.length - (k + 1))
            case measure => omega
            case rel => exact ⟨k + 1, by omega, by omega, by go_num, H2, C2, ⟨B1.out.setCell hbg _⟩⟩
          · have hd : (Tree.ring (Tree.ups l) k == (k : Int)) = false := by simpa using hring
            have H2 := Aside0.mk (Tree.cutTo_miss hring ▸ H1.out)
            clear hring
            go_wp2_with (go_at_call 28; refine hc.mono ?_; rintro e w2 ⟨rfl, rfl⟩)
            go_roundg (l.length - (k + 1))
            case measure => omega
            case rel => exact ⟨k + 1, by omega, by omega, by go_num, H2, HU, B1⟩
        · obtain rfl : k = l.length := by omega
          have hd : decide ((l.length : Int) < (l.length : Int)) = false := by simp
          go_wp2
          go_ret
          exact ⟨_, rfl, H1.out, B1.out⟩
end Go.Proofs.Ytbfapgagmbiiaaa
