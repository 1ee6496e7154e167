/- The laws' bounds: whatever they say, they return, and leave what there was. -/
import Derived.Test.YtbfapgagmbiiaaaBase
namespace Go.Proofs.Ytbfapgagmbiiaaa
open Gl Go.RowKit Go.Proofs.YtbfapgagmbiiaaaW.PrintWords
set_option linter.unusedVariables false
set_option linter.unusedSimpArgs false

/-- It answers, and what there was is as it was. -/
def Tells (w : World) (e : Ending) (w' : World) : Prop := ∃ b, e = .returned (.bool b) ∧ Below w.heap.size w w'
set_option maxHeartbeats 2000000 in
theorem Few.calls (x : SSpan) (A9 : Option Addr) (n9 c9 : Nat) (w : World) (hx : Kd.C kAttr w A9 n9 x.f8) :
    Calls Try.prog 30 #[.agg #[.int .u64 x.f0.f0, .int .u64 x.f0.f1, .int .u64 x.f1, .int .u64 x.f2, .string x.f3, .string x.f4, .int .i64 x.f5, .int .i64 x.f6, .bool x.f7, .slice A9 n9 c9]] w (Tells w) := by
  generalize x.f0.f0 = y0
  generalize x.f0.f1 = y1
  generalize x.f1 = y2
  generalize x.f2 = y3
  generalize x.f3 = y4
  generalize x.f4 = y5
  generalize x.f5 = y6
  generalize x.f6 = y7
  generalize x.f7 = y8
  generalize x.f8 = y9 at hx
  obtain rfl : y9.length = n9 := hx.1
  have hm : (y9.length : Int) ≤ 9223372036854775807 := by have := hx.2.1; omega
  have hb := below_alloc (Below.refl w.heap.size w) (.cells #[.int .u64 y0, .int .u64 y1, .int .u64 y2, .int .u64 y3, .string y4, .string y5, .int .i64 y6, .int .i64 y7, .bool y8, .slice A9 y9.length c9] 33)
  have hx1 := Aside0.mk (Kd.C_below hx hb)
  have HB := Aside0.mk hb
  clear hx hb
  go_enter Try.func30, Try.ntmps30
  go_wp2
  all_goals first
    | (go_ret; exact ⟨_, rfl, HB.out⟩)
    | skip
  go_loopg [3] y9.length (fun gg s3 wr => ∃ k : Nat, k ≤ y9.length ∧ y9.length - k ≤ gg ∧ s3 = .int .i64 k ∧ w.alloc (.cells #[.int .u64 y0, .int .u64 y1, .int .u64 y2, .int .u64 y3, .string y4, .string y5, .int .i64 y6, .int .i64 y7, .bool y8, .slice A9 y9.length c9] 33) = wr)
  case atStart => exact ⟨0, Nat.zero_le _, Nat.le_refl _, rfl, rfl⟩
  case round =>
    obtain ⟨k, hk, hg, rfl, rfl⟩ := hrel
    by_cases hlt : k < y9.length
    · obtain ⟨ad, rfl, h1, h2⟩ := at_Attr hx1.out (k : Int) (by omega) (by omega)
      rw [Int.toNat_natCast] at h1 h2
      generalize (rd_Attr y9 (k : Int)).f0 = z0 at h1
      generalize (rd_Attr y9 (k : Int)).f1 = z1 at h2
      have hk1 : (k : Int) < (y9.length : Int) := by omega
      go_wp2
      all_goals first
        | (go_ret; exact ⟨_, rfl, HB.out⟩)
        | (go_roundg (y9.length - (k + 1))
           case measure => omega
           case rel => exact ⟨k + 1, by omega, by omega, by go_num, rfl⟩)
    · obtain rfl : k = y9.length := by omega
      have hd : decide ((y9.length : Int) < (y9.length : Int)) = false := by simp
      go_wp2
      go_ret
      exact ⟨_, rfl, HB.out⟩
end Go.Proofs.Ytbfapgagmbiiaaa
