/- A row of rows of whole numbers that the call itself makes: what an append to one of them, and a sorting of one of them, leaves. -/
import Derived.Test.YtbfapgagmbiiaaaTreeCmp
namespace Go.Proofs.Ytbfapgagmbiiaaa
open Gl Go.RowKit Go.Proofs.YtbfapgagmbiiaaaW.PrintWords
set_option linter.unusedVariables false
set_option linter.unusedSimpArgs false

abbrev RI (W : World) (base : Nat) (v : Value) (k : List Int) : Prop := (Kd.int .i64).R 3 W base (fun _ => True) v k
structure KInv (W : World) (base g cap m : Nat) (vs : List Value) (ks : List (List Int)) : Prop where
  out : W.ownsRow base 22 1 (.slice (some ⟨g, 0, none⟩) m cap) m vs
  lv : vs.length = m
  lk : ks.length = m
  inner : ∀ (j : Nat) (v : Value) (k : List Int), vs[j]? = some v → ks[j]? = some k → RI W base v k
  apart : ∀ (i j : Nat) (v v' : Value), i ≠ j → vs[i]? = some v → vs[j]? = some v' → ∀ b, v.ownBlock = some b → v'.ownBlock ≠ some b
theorem RI_move {W W1 : World} {base : Nat} {v : Value} {k : List Int} (h : RI W base v k) (hm : ∀ b, v.ownBlock = some b → b < W.heap.size → W1.heap[b]? = W.heap[b]?) : RI W1 base v k :=
  Kd.R_mono (Kd.R_step (Kd.R_tight rfl h) (fun b hb hl => hm b hb.symm hl)) (fun _ _ => trivial)
theorem RI_type {W : World} {base g cap m : Nat} {vs : List Value} {v : Value} {k : List Int} (h : RI W base v k) (ho : W.ownsRow base 22 1 (.slice (some ⟨g, 0, none⟩) m cap) m vs) : v.ownBlock ≠ some g := by
  intro e
  obtain ⟨c1, h1⟩ := Kd.R_typed h g e
  obtain ⟨c2, h2⟩ := own_typed ho g (by simp [Value.ownBlock])
  rw [h1] at h2
  injection h2 with h2
  injection h2 with _ h2
  exact absurd h2 (by decide)
theorem KInv.below {W W1 : World} {base g cap m : Nat} {vs : List Value} {ks : List (List Int)} (h : KInv W base g cap m vs ks) (hb : Below W.heap.size W W1) : KInv W1 base g cap m vs ks :=
  ⟨pw_own_below h.out hb, h.lv, h.lk, fun j v k hv hk => Kd.R_below (h.inner j v k hv hk) hb, h.apart⟩
theorem KInv.app {W w1 : World} {base g cap m p : Nat} {vs : List Value} {ks : List (List Int)} {v v1 : Value} {k k1 : List Int} (h : KInv W base g cap m vs ks) (hv : vs[p]? = some v) (hk : ks[p]? = some k)
    (h1 : RI w1 base v1 k1) (hg : W.grownBy w1 v.ownBlock) (hat : v1.ownBlock = v.ownBlock ∨ ∃ b, v1.ownBlock = some b ∧ W.heap.size ≤ b) : KInv (w1.setCell ⟨g, p, none⟩ v1) base g cap m (vs.set p v1) (ks.set p k1) := by
  have hg1 : w1.ownsRow base 22 1 (.slice (some ⟨g, 0, none⟩) m cap) m vs := own_other h.out hg (.inr (fun e => RI_type (h.inner p v k hv hk) h.out (by rw [← e]; simp [Value.ownBlock])))
  have hpl : p < vs.length := (List.getElem?_eq_some_iff.1 hv).1
  have hset : ∀ {u : Value} {q : List Int}, RI w1 base u q → RI (w1.setCell ⟨g, p, none⟩ v1) base u q := fun hu => RI_move hu (fun b hb _ => Below.heap_setCell _ _ _ _ (fun e => RI_type hu hg1 (by rw [hb]; simpa using e)))
  refine ⟨(hg1.stored p v1).1, by rw [List.length_set, h.lv], by rw [List.length_set, h.lk], fun j u q hu hq => ?_, fun i j u u' hij hu hu' b hb => ?_⟩
  · by_cases e : p = j
    · subst e
      rw [List.getElem?_set_self hpl] at hu
      rw [List.getElem?_set_self (by rw [h.lk, ← h.lv]; exact hpl)] at hq
      injection hu with hu
      injection hq with hq
      subst hu hq
      exact hset h1
    · rw [List.getElem?_set_ne e] at hu hq
      refine hset (RI_move (h.inner j u q hu hq) (fun b hb hl => hg.block b hl (fun e' => ?_)))
      exact h.apart j p u v (Ne.symm e) hu hv b hb e'.symm
  · have hnew : ∀ {j u}, vs[j]? = some u → p ≠ j → ∀ b, u.ownBlock = some b → v1.ownBlock ≠ some b := by
      intro j u hu hpj b hb
      obtain ⟨q, hq⟩ : ∃ q, ks[j]? = some q := ⟨_, List.getElem?_eq_getElem (by rw [h.lk, ← h.lv]; exact (List.getElem?_eq_some_iff.1 hu).1)⟩
      rcases hat with hat | ⟨b', hat, hle⟩
      · rw [hat]
        exact h.apart j p u v (Ne.symm hpj) hu hv b hb
      · rw [hat]
        intro e
        injection e with e
        have := Kd.R_lt (h.inner j u q hu hq) b hb
        omega
    by_cases e : p = i
    · subst e
      rw [List.getElem?_set_self hpl] at hu
      injection hu with hu
      subst hu
      rw [List.getElem?_set_ne hij] at hu'
      intro e'
      exact hnew hu' hij b e' hb
    · rw [List.getElem?_set_ne e] at hu
      by_cases e2 : p = j
      · subst e2
        rw [List.getElem?_set_self hpl] at hu'
        injection hu' with hu'
        subst hu'
        exact hnew hu e b hb
      · rw [List.getElem?_set_ne e2] at hu'
        exact h.apart i j u u' hij hu hu' b hb
/-- Row p was written where it lies. -/
theorem KInv.inplace {W w1 : World} {base g cap m p : Nat} {vs : List Value} {ks : List (List Int)} {v : Value} {k k1 : List Int} (h : KInv W base g cap m vs ks) (hv : vs[p]? = some v) (hk : ks[p]? = some k)
    (h1 : RI w1 base v k1) (hg : W.grownBy w1 v.ownBlock) : KInv w1 base g cap m vs (ks.set p k1) := by
  have hg1 : w1.ownsRow base 22 1 (.slice (some ⟨g, 0, none⟩) m cap) m vs := own_other h.out hg (.inr (fun e => RI_type (h.inner p v k hv hk) h.out (by rw [← e]; simp [Value.ownBlock])))
  refine ⟨hg1, h.lv, by rw [List.length_set, h.lk], fun j u q hu hq => ?_, h.apart⟩
  by_cases e : p = j
  · subst e
    rw [List.getElem?_set_self (by rw [h.lk, ← h.lv]; exact (List.getElem?_eq_some_iff.1 hv).1)] at hq
    rw [hv] at hu
    injection hu with hu
    injection hq with hq
    subst hu hq
    exact h1
  · rw [List.getElem?_set_ne e] at hq
    exact RI_move (h.inner j u q hu hq) (fun b hb hl => hg.block b hl (fun e' => h.apart j p u v (Ne.symm e) hu hv b hb e'.symm))
theorem KInv.cell {W : World} {base g cap m p : Nat} {vs : List Value} {ks : List (List Int)} (h : KInv W base g cap m vs ks) {v : Value} (hv : vs[p]? = some v) : W.cell? ⟨g, p, none⟩ = some v ∧ W.frozen? ⟨g, p, none⟩ = false := by
  have hp : p < m := by rw [← h.lv]; exact (List.getElem?_eq_some_iff.1 hv).1
  refine ⟨by rw [h.out.cellAt p (by omega)]; exact hv, ?_⟩
  obtain ⟨c, hc⟩ := own_typed h.out g (by simp [Value.ownBlock])
  simp [World.frozen?, hc]
/-- Rows just made. -/
theorem KInv.start (W : World) (base m : Nat) (hb : base ≤ W.heap.size) (hm : m ≤ 9223372036854775807) : KInv (W.alloc (.cells (madeCells #[.slice none 0 0] m) 22)) base W.heap.size m m (madeCells #[.slice none 0 0] m).toList (List.replicate m []) := by
  have hsz : (madeCells #[Value.slice none 0 0] m).toList.length = m := by simp [size_madeCells]
  have hval : ∀ (j : Nat) (v : Value), (madeCells #[Value.slice none 0 0] m).toList[j]? = some v → v = .slice none 0 0 := by
    intro j v hj
    obtain ⟨hl, hj⟩ := List.getElem?_eq_some_iff.1 hj
    have h2 : j < m := by omega
    rw [← hj]
    simp [madeCells, Nat.mod_one]
  refine ⟨World.ownsRow_lit (size := 1) W _ m hb (by simpa [maxLen] using hm) (by simp [size_madeCells]), hsz, by simp, fun j v k hv hk => ?_, fun i j v v' _ hv hv' b hb => ?_⟩
  · obtain rfl := hval j v hv
    have : k = [] := (List.mem_replicate.1 (List.mem_of_getElem? hk)).2
    subst this
    exact Kd.R_nil _ _ _ _ _
  · obtain rfl := hval i v hv
    cases hb
/-- What is read of it. -/
theorem KInv.reads {W : World} {base g cap m : Nat} {vs : List Value} {ks : List (List Int)} (h : KInv W base g cap m vs ks) : m ≤ cap ∧ Kd.C (Kd.slice 3 (Kd.int .i64)) W (some ⟨g, 0, none⟩) m ks := by
  have hmc : m ≤ cap := own_le h.out
  have hmx : m ≤ 9223372036854775807 := by
    rcases h.out.2 with ⟨h1, _⟩ | ⟨g', cap', cur, he, _, _, h1, h2, _⟩
    · cases h1
    · simp only [maxLen] at h2
      injection he with _ _ h3
      omega
  refine ⟨hmc, h.lk, hmx, fun _ => ⟨_, rfl, fun j k hk => ?_⟩⟩
  obtain ⟨v, hv⟩ : ∃ v, vs[j]? = some v := ⟨_, List.getElem?_eq_getElem (by rw [h.lv, ← h.lk]; exact (List.getElem?_eq_some_iff.1 hk).1)⟩
  obtain ⟨A, c, rfl, hc, hr⟩ := Kd.R_reads (h.inner j v k hv hk)
  refine ⟨[.slice A k.length c], rfl, ⟨A, c, rfl, hc, hr⟩, fun i u hu => ?_⟩
  rcases i with _ | i
  · have e : Value.slice A k.length c = u := by simpa using hu
    subst e
    have := (h.cell hv).1
    rw [add_plain]
    simpa [Kd.slice] using this
  · simp at hu
end Go.Proofs.Ytbfapgagmbiiaaa
