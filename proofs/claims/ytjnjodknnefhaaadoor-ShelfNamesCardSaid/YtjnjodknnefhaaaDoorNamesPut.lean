/-
  shelf.Put, where nothing stands in its way, and the law's 'alive'.
-/
import Derived.Test.YtjnjodknnefhaaaDoorNamesNum
import Derived.Lib.ConvBytes
namespace Go.Proofs.YtjnjodknnefhaaaDoor.Dev
open Go.RowKit Go.Proofs.YtjnjodknnefhaaaDoor.Once
set_option linter.unusedSimpArgs false
set_option linter.unusedVariables false
set_option maxRecDepth 100000
set_option maxHeartbeats 400000

/-- Put, where nothing stands in its way: 'tb' is the file's name behind which it is written. -/
theorem Put_ok.calls {B : Nat} {w : World} {a : Nat} {s : DS} (h : Lies B w a s) (ok : s.Ok) (hB : B ≤ w.heap.size) (nm tb : ByteArray) (htb : tb = nm ++ ⟨#[46, 116, 109, 112]⟩) (hs : tb.size ≤ maxLen) (hs0 : nm.size ≤ maxLen)
    (v : Value) (bs : List UInt8) (src : Src w (s.foot a) v bs) (hlim0 : bs.length ≤ 140737488355328) (hcnt : s.fs.length < maxLen)
    (hr : find s.fs tb.data.toList = none) (va vs vr : V) (c : Int) (ha : s.view.append tb.data.toList bs = (va, 0)) (hsy : va.sync tb.data.toList = (vs, 0)) (hrn : vs.rename tb.data.toList nm.data.toList = (vr, c)) (hcnt2 : vs.fs.length < maxLen) :
    Calls Tryd.prog 9 #[dp a, .string nm, v] w fun e w' => e = .returned (.int .i64 c) ∧ ∃ s', Turn B w w' a s s' ∧ s'.view = vr := by
  have hR := Read.calls h tb hs (fun f hf => by rw [hr] at hf; cases hf)
  have hv : s.view.read tb.data.toList = none := by
    unfold V.read
    show (vfind (s.fs.map DF.pf) _).map _ = _
    rw [vfind_eq, hr]; rfl
  rw [hv] at hR
  have hR' : Calls Tryd.prog 10 #[dp a, .string tb] w fun e w' => e = .returned (.tuple #[.slice none 0 0, .bool false]) ∧ w' = w := hR
  clear hR
  have hA := Append.calls h ok hB tb hs v bs src (fun f hf => by rw [hr] at hf; cases hf) hlim0 hcnt
  rw [ha] at hA
  have hszE : tb.size = nm.size + 4 := by rw [htb, ByteArray.size_append]; rfl
  have hml : maxLen = 9223372036854775807 := rfl
  have hS : ∀ (w1 : World) (s1 : DS), Turn B w w1 a s s1 → s1.view = va → Calls Tryd.prog 16 #[dp a, .string tb] w1 fun e w' => e = .returned (.int .i64 0) ∧ ∃ s', Turn B w1 w' a s1 s' ∧ s'.view = vs := fun w1 s1 t1 hs1 => by
    have hS := Sync.calls t1.lies t1.ok tb hs
    rw [hs1, hsy] at hS
    exact hS
  have hN : ∀ (w1 : World) (s1 : DS), Turn B w w1 a s s1 → s1.view = vs → Calls Tryd.prog 17 #[dp a, .string tb, .string nm] w1 fun e w' => e = .returned (.int .i64 c) ∧ ∃ s', Turn B w1 w' a s1 s' ∧ s'.view = vr := fun w1 s1 t1 hs1 => by
    have hN := Rename.calls t1.lies t1.ok tb nm hs hs0 (by
      have : s1.fs.length = s1.view.fs.length := by simp [DS.view]
      rw [this, hs1]; exact hcnt2)
    rw [hs1, hrn] at hN
    exact hN
  have hs' := hs
  rw [hszE, hml] at hs'
  clear ha hsy hrn hv hr hcnt hcnt2 hlim0 hs hs0
  subst htb
  have hcap : nm.size + 4 ≤ 9223372036854775807 := by omega
  clear hml hszE
  go_enter Tryd.func9, Tryd.ntmps9
  go_wp2_with (first
    | (go_at_call 10; refine hR'.mono ?_; rintro e w' ⟨rfl, rfl⟩)
    | (go_at_call 15; refine hA.mono ?_;rintro e w1 ⟨rfl, s1, t1, hs1⟩)
    | (go_at_call 16; refine (hS _ _ t1 hs1).mono ?_; rintro e w2 ⟨rfl, s2, t2, hs2⟩)
    | (go_at_call 17; refine (hN _ _ (t1.trans t2) hs2).mono ?_; rintro e w3 ⟨rfl, s3, t3, hs3⟩))
  go_ret
  exact ⟨rfl, s3, (t1.trans t2).trans t3, hs3⟩
end Go.Proofs.YtjnjodknnefhaaaDoor.Dev
