/- tree.walk. -/
import Derived.Test.YtbfapgagmbiiaaaTreeWalk
namespace Go.Proofs.Ytbfapgagmbiiaaa
open Gl Go.RowKit Go.Proofs.YtbfapgagmbiiaaaW.PrintWords
set_option linter.unusedVariables false
set_option linter.unusedSimpArgs false

theorem RI_made {W : World} {B n b : Nat} (hb : b = W.heap.size) (hB : B ≤ W.heap.size) (hn : n ≤ 500000) : RI (W.alloc (.cells (madeCells #[.int .i64 0] n) 3)) B (.slice (some ⟨b, 0, none⟩) n n) (List.replicate n 0) := by
  subst hb
  have h := World.ownsRow_lit (base := B) (e := 3) (size := 1) W (madeCells #[.int .i64 0] n) n hB (by simp [maxLen]; omega) (by simp [size_madeCells])
  have hr := Kd.reps_made (R := fun (x : Int) cs => (Kd.int .i64).M (W.alloc (.cells (madeCells #[.int .i64 0] n) 3)) B (fun _ => True ∧ True) x cs) (z := .int .i64 0) (size := 1) (z0 := 0) rfl (by omega) rfl n
  refine ⟨fun _ _ => trivial, (madeCells #[.int .i64 0] n).toList, by rw [List.length_replicate]; exact h, ?_⟩
  have e : madeCells (Value.int .i64 0).cells (n * 1) = madeCells #[.int .i64 0] n := by rw [Nat.mul_one]; rfl
  rw [e] at hr
  exact hr
theorem RI_alloc {W : World} {B : Nat} {v : Value} {k : List Int} (h : RI W B v k) (o : Obj) : RI (W.alloc o) B v k := Kd.R_below h (below_alloc (Below.refl _ _) o)
theorem RI_drew {W : World} {B : Nat} {v : Value} {k : List Int} (h : RI W B v k) : RI W.drew B v k := Kd.R_drew h
theorem KInv.F {W : World} {base g cap m : Nat} {vs : List Value} {ks : List (List Int)} (h : KInv W base g cap m vs ks) : Kd.F (Kd.slice 3 (Kd.int .i64)) W (fun k => base ≤ k ∧ k < W.heap.size) (some ⟨g, 0, none⟩) m ks := by
  intro W' hW
  have hg := World.ownsRow.lt h.out g (by simp [Value.ownBlock])
  refine (KInv.reads (W := W') (base := base) (g := g) (cap := cap) (m := m) (vs := vs) (ks := ks) ⟨?_, h.lv, h.lk, fun j v k hv hk => RI_move (h.inner j v k hv hk) (fun b hb hl => hW b ⟨Kd.R_base (h.inner j v k hv hk) b hb, hl⟩ hl), h.apart⟩).2
  obtain ⟨h1, h2⟩ := h.out
  refine ⟨h1, ?_⟩
  rcases h2 with ⟨h2, _⟩ | ⟨g', cap', cur, e, hb, h3, r⟩
  · cases h2
  · injection e with e1 e2 e3
    injection e1 with e1
    injection e1 with e1
    subst e1
    exact .inr ⟨g, cap', cur, by rw [e3], hb, by rw [hW g ⟨hb, hg.2⟩ hg.2]; exact h3, r⟩
/-- The walker as it is made. -/
theorem St.start {w3 Wf : World} {B a g n pb gd gs : Nat} {vs : List Value} {K : List (List Int)} (hK : KInv w3 a g (n + 1) (n + 1) vs K) (hb : Below w3.heap.size w3 Wf) (hBa : B ≤ a ∧ a ≤ w3.heap.size)
    (hc : Wf.heap[pb]? = some (.cells #[.slice (some ⟨g, 0, none⟩) (n + 1) (n + 1), .slice none 0 0, .slice (some ⟨gd, 0, none⟩) n n, .slice (some ⟨gs, 0, none⟩) n n] 55 (0, 0))) (hpb : w3.heap.size ≤ pb)
    (hd : RI Wf B (.slice (some ⟨gd, 0, none⟩) n n) (List.replicate n 0)) (hs : RI Wf B (.slice (some ⟨gs, 0, none⟩) n n) (List.replicate n 0)) (hne : gd ≠ gs) (hgd : gd < a ∨ w3.heap.size ≤ gd) (hgs : gs < a ∨ w3.heap.size ≤ gs) :
    St Wf B (fun k => a ≤ k ∧ k < w3.heap.size) pb g gd gs n K (.slice none 0 0) [] (List.replicate n 0) (List.replicate n 0) := by
  have hg := World.ownsRow.lt hK.out g (by simp [Value.ownBlock])
  refine ⟨hc, by omega, Kd.R_nil _ _ _ _ _, hd, hs, hne, by simp [Value.ownBlock], by simp [Value.ownBlock], hK.lk, ⟨hg, by have := hb.size; omega⟩, fun k hk => by have := hb.size; omega, by omega, by omega, by omega, fun b hb => by simp [Value.ownBlock] at hb, ?_⟩
  exact Kd.F_step hK.F (fun k hk hl => hb.block k hl)
theorem box_new {W : World} {b : Nat} (hb : b = W.heap.size) (o : Obj) : (W.alloc o).heap[b]? = some o := by rw [hb]; exact heap_alloc_new W o

def Tree.wood (l : List SSpan) : List (Int × Int) := Tree.forest (Tree.kids l) (l.length + 1) (Tree.kid (Tree.kids l) l.length) 0
/-- Said in a plain text: the walk from the place behind the last ends, and comes nowhere twice. -/
def Tree.Good (l : List SSpan) : Prop := (∀ i ∈ Tree.kid (Tree.kids l) l.length, Tree.fits (Tree.kids l) l.length (l.length + 1) i) ∧ (Tree.wood l).length ≤ l.length
def Tree.order (l : List SSpan) : List Int := (Tree.wood l).map (·.1)
def Tree.depths (l : List SSpan) : List Int := Tree.setAll (List.replicate l.length 0) (Tree.wood l)
def Tree.sizes (l : List SSpan) : List Int := Tree.ssets (Tree.kids l) (l.length + 1) (Tree.kid (Tree.kids l) l.length) (List.replicate l.length 0)

set_option maxHeartbeats 400000 in
theorem Walk.calls (A : Option Addr) (n c : Nat) (l : List SSpan) (w : World) (hr : Kd.C kSpan w A n l) (hn : n ≤ 500000) (hgood : Tree.Good l) :
    Calls Try.prog 29 #[.slice A n c] w fun e w' => ∃ pb g gd gs ok ov, e = .returned (.pointer (some ⟨pb, 0, none⟩)) ∧ St w' w.heap.size ok pb g gd gs n (Tree.kids l) ov (Tree.order l) (Tree.depths l) (Tree.sizes l) ∧ Below w.heap.size w w' := by
  obtain rfl : l.length = n := hr.1
  have hmk := run_make_row' (P := Try.prog) 22 3 (.int .i64 0) 8 Try.underlying22 info3 rfl .i64 .i64 l.length (by omega) (by omega)
  have HC : Aside0 (∀ W, Below w.heap.size w W → Calls Try.prog 40 #[.slice A l.length c] W fun e w' => ∃ g vs, e = .returned (.slice (some ⟨g, 0, none⟩) (l.length + 1) (l.length + 1)) ∧ KInv w' W.heap.size g (l.length + 1) (l.length + 1) vs (Tree.kids l) ∧ Below W.heap.size W w') := ⟨fun W hW => Kids.calls A l.length c l W (Kd.C_below hr hW) (by omega)⟩
  have HG := Aside0.mk hgood
  clear hr hgood
  go_enter Try.func29, Try.ntmps29
  go_upto_region 1 with (fail)
  go_cut [3] from 4 (fun s3 wc => ∃ pb g gd gs ok, s3 = .pointer (some ⟨pb, 0, none⟩) ∧ Aside0 (St wc w.heap.size ok pb g gd gs l.length (Tree.kids l) (.slice none 0 0) [] (List.replicate l.length 0) (List.replicate l.length 0)) ∧ Aside0 (Below w.heap.size w wc))
  case first =>
    go_region_held3 (fun W => True) (first | trivial) (first | (go_at_call 40; refine (HC.out _ (by first | exact below_drew (Below.refl _ _) | exact below_alloc (below_drew (Below.refl _ _)) _ | exact below_alloc (below_alloc (below_drew (Below.refl _ _)) _) _)).mono ?_; rintro e w3 ⟨g, vs, rfl, hK, hB⟩))
    all_goals (go_wp2_with fail; go_meet)
    all_goals
      clear HC hmk HG
      have hz := hB.size
      simp at hz
      have hz0 : w.drew.heap.size = w.heap.size := rfl
      refine ⟨_, _, _, _, _, rfl, ⟨St.start hK ?_ ?_ (box_new (by simp) _) ?_ ?_ ?_ ?_ ?_ ?_⟩, ⟨?_⟩⟩
      · repeat (first | exact Below.refl _ _ | (with_reducible refine below_alloc ?_ _))
      · constructor <;> (first | omega | (simp; done) | (simp; omega))
      · first | omega | (simp; omega) | simp
      · repeat (first | ((with_reducible refine RI_made ?_ ?_ ?_) <;> (first | omega | (simp; done) | (simp; omega)) <;> done) | (with_reducible refine RI_alloc ?_ _) | (with_reducible refine RI_drew ?_) | (with_reducible refine Kd.R_below ?_ hB))
      · repeat (first | ((with_reducible refine RI_made ?_ ?_ ?_) <;> (first | omega | (simp; done) | (simp; omega)) <;> done) | (with_reducible refine RI_alloc ?_ _) | (with_reducible refine RI_drew ?_) | (with_reducible refine Kd.R_below ?_ hB))
      · omega
      · first | omega | (simp; omega) | simp
      · first | omega | (simp; omega) | simp
      · repeat (first | exact below_then (by first | exact below_drew (Below.refl _ _) | exact below_alloc (below_drew (Below.refl _ _)) _ | exact below_alloc (below_alloc (below_drew (Below.refl _ _)) _) _) (by simp <;> omega) hB | (with_reducible refine below_alloc ?_ _))
  case rest =>
    obtain ⟨pb, g, gd, gs, ok, rfl, HS, HB⟩ := hcut
    obtain ⟨e0, e1, e2, e3⟩ := HS.out.cells
    have hkk : (Tree.kids l)[l.length]? = some (Tree.kid (Tree.kids l) l.length) := by
      unfold Tree.kid
      rw [Int.toNat_natCast, List.getD_eq_getElem?_getD, List.getElem?_eq_getElem (by rw [HS.out.hK]; omega)]
      rfl
    obtain ⟨A5, c5, hc5, hF5⟩ := kid_F HS.out.kf HS.out.kb.1 (HS.out.lt _ HS.out.kb.1) hkk
    have hcall := walk.calls (l.length + 1) wc w.heap.size ok pb g gd gs l.length _ c5 (Tree.kids l) _ _ _ _ _ A5 0 rfl HS.out hF5 HG.out.1 (by omega) (by have := HG.out.2; unfold Tree.wood at this; simpa using Nat.le_trans this (by omega)) (by omega)
    rw [List.nil_append] at hcall
    clear HC hmk HS hF5 hkk
    generalize (Tree.kid (Tree.kids l) l.length).length = kl at hcall hc5
    go_wp2_with (go_at_call 41; refine hcall.mono ?_; rintro e w3 ⟨rfl, ⟨ov3, hS3⟩, hB3⟩)
    go_ret
    exact ⟨pb, g, gd, gs, ok, ov3, rfl, hS3, HB.out.trans hB3.below⟩
set_option maxHeartbeats 400000 in
theorem Order.calls (A : Option Addr) (n c : Nat) (l : List SSpan) (w : World) (hr : Kd.C kSpan w A n l) (hn : n ≤ 500000) (hgood : Tree.Good l) :
    Calls Try.prog 17 #[.slice A n c] w fun e w' => ∃ v, e = .returned v ∧ RI w' w.heap.size v (Tree.order l) ∧ Below w.heap.size w w' := by
  have hc := Walk.calls A n c l w hr hn hgood
  clear hr
  go_enter Try.func17, Try.ntmps17
  go_wp2_with (go_at_call 29; refine hc.mono ?_; rintro e w3 ⟨pb, g, gd, gs, ok, ov, rfl, hS, hB⟩; obtain ⟨e0, e1, e2, e3⟩ := hS.cells)
  go_ret
  exact ⟨_, rfl, hS.ro, hB⟩
set_option maxHeartbeats 400000 in
theorem Depths.calls (A : Option Addr) (n c : Nat) (l : List SSpan) (w : World) (hr : Kd.C kSpan w A n l) (hn : n ≤ 500000) (hgood : Tree.Good l) :
    Calls Try.prog 13 #[.slice A n c] w fun e w' => ∃ v, e = .returned v ∧ RI w' w.heap.size v (Tree.depths l) ∧ Below w.heap.size w w' := by
  have hc := Walk.calls A n c l w hr hn hgood
  clear hr
  go_enter Try.func13, Try.ntmps13
  go_wp2_with (go_at_call 29; refine hc.mono ?_; rintro e w3 ⟨pb, g, gd, gs, ok, ov, rfl, hS, hB⟩; obtain ⟨e0, e1, e2, e3⟩ := hS.cells)
  go_ret
  exact ⟨_, rfl, hS.rd, hB⟩
set_option maxHeartbeats 400000 in
theorem Sizes.calls (A : Option Addr) (n c : Nat) (l : List SSpan) (w : World) (hr : Kd.C kSpan w A n l) (hn : n ≤ 500000) (hgood : Tree.Good l) :
    Calls Try.prog 20 #[.slice A n c] w fun e w' => ∃ v, e = .returned v ∧ RI w' w.heap.size v (Tree.sizes l) ∧ Below w.heap.size w w' := by
  have hc := Walk.calls A n c l w hr hn hgood
  clear hr
  go_enter Try.func20, Try.ntmps20
  go_wp2_with (go_at_call 29; refine hc.mono ?_; rintro e w3 ⟨pb, g, gd, gs, ok, ov, rfl, hS, hB⟩; obtain ⟨e0, e1, e2, e3⟩ := hS.cells)
  go_ret
  exact ⟨_, rfl, hS.rs, hB⟩
end Go.Proofs.Ytbfapgagmbiiaaa
