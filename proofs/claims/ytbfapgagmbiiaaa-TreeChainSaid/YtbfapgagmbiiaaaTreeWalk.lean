/- The walker's memory; (*walker).walk. -/
import Derived.Test.YtbfapgagmbiiaaaTreeKids
import Derived.Test.YtbfapgagmbiiaaaTreeWalkPl
import Derived.Deep.RegionHeld3
import Derived.IntWalk
namespace Go.Proofs.Ytbfapgagmbiiaaa
open Gl Go.RowKit Go.Proofs.YtbfapgagmbiiaaaW.PrintWords
set_option linter.unusedVariables false
set_option linter.unusedSimpArgs false

/-- A row of rows that is only read: one of its rows. -/
theorem kid_F {W : World} {ok : Nat → Prop} {gk m : Nat} {K : List (List Int)} (h : Kd.F (Kd.slice 3 (Kd.int .i64)) W ok (some ⟨gk, 0, none⟩) m K) (hg : ok gk) (hs : gk < W.heap.size) {i : Nat} {k : List Int} (hk : K[i]? = some k) :
    ∃ A c, W.cell? ⟨gk, i, none⟩ = some (.slice A k.length c) ∧ Kd.F (Kd.int .i64) W ok A k.length k := by
  have open1 : ∀ W' : World, Kd.C (Kd.slice 3 (Kd.int .i64)) W' (some ⟨gk, 0, none⟩) m K → ∃ A c, W'.cell? ⟨gk, i, none⟩ = some (.slice A k.length c) ∧ Kd.C (Kd.int .i64) W' A k.length k := by
    intro W' hC
    have hi := (List.getElem?_eq_some_iff.1 hk).1
    obtain ⟨ad, e, hall⟩ := hC.2.2 (by have := hC.1; omega)
    cases e
    obtain ⟨cs, e2, ⟨A, c, rfl, -, hr⟩, hcells⟩ := hall i k hk
    refine ⟨A, c, ?_, hr⟩
    have := hcells 0 (.slice A k.length c) (by simp)
    rw [add_plain] at this
    simpa [Kd.slice] using this
  obtain ⟨A, c, hc, hr⟩ := open1 W (Kd.F_now h)
  refine ⟨A, c, hc, fun W' hW => ?_⟩
  obtain ⟨A', c', hc', hr'⟩ := open1 W' (h W' hW)
  have e : W'.cell? ⟨gk, i, none⟩ = W.cell? ⟨gk, i, none⟩ := by
    have := hW gk hg hs
    simp [World.cell?, this]
  rw [e, hc] at hc'
  injection hc' with hc'
  injection hc' with h1 h2 h3
  subst h1
  exact hr'

/-- Nothing below B, and nothing that is ok, has turned. -/
structure Kp (B : Nat) (ok : Nat → Prop) (W W1 : World) : Prop where
  below : Below B W W1
  same : ∀ k, ok k → W1.heap[k]? = W.heap[k]?
theorem Kp.refl (B : Nat) (ok : Nat → Prop) (W : World) : Kp B ok W W := ⟨Below.refl _ _, fun _ _ => rfl⟩
theorem Kp.trans {B : Nat} {ok : Nat → Prop} {W W1 W2 : World} (h : Kp B ok W W1) (k : Kp B ok W1 W2) : Kp B ok W W2 := ⟨h.below.trans k.below, fun i hi => (k.same i hi).trans (h.same i hi)⟩
theorem Kp.drew (B : Nat) (ok : Nat → Prop) (W : World) : Kp B ok W W.drew := ⟨below_drew (Below.refl _ _), fun _ _ => rfl⟩
theorem Kp.setCell {B : Nat} {ok : Nat → Prop} {W W1 : World} (h : Kp B ok W W1) {p : Addr} (hp : B ≤ p.block) (hk : ¬ ok p.block) (u : Value) : Kp B ok W (W1.setCell p u) :=
  ⟨h.below.setCell hp u, fun k hkk => by rw [Below.heap_setCell _ _ _ _ (fun e => hk (e ▸ hkk))]; exact h.same k hkk⟩
structure St (W : World) (B : Nat) (ok : Nat → Prop) (pb gk gd gs n : Nat) (K : List (List Int)) (ov : Value) (O D S : List Int) : Prop where
  cell : W.heap[pb]? = some (.cells #[.slice (some ⟨gk, 0, none⟩) (n + 1) (n + 1), ov, .slice (some ⟨gd, 0, none⟩) n n, .slice (some ⟨gs, 0, none⟩) n n] 55 (0, 0))
  hpb : B ≤ pb
  ro : RI W B ov O
  rd : RI W B (.slice (some ⟨gd, 0, none⟩) n n) D
  rs : RI W B (.slice (some ⟨gs, 0, none⟩) n n) S
  ne : gd ≠ gs
  od : ov.ownBlock ≠ some gd
  os : ov.ownBlock ≠ some gs
  hK : K.length = n + 1
  kb : ok gk ∧ B ≤ W.heap.size
  lt : ∀ k, ok k → k < W.heap.size
  kp : ¬ ok pb
  kd : ¬ ok gd
  ks : ¬ ok gs
  ko : ∀ b, ov.ownBlock = some b → ¬ ok b
  kf : Kd.F (Kd.slice 3 (Kd.int .i64)) W ok (some ⟨gk, 0, none⟩) (n + 1) K
theorem RI_pb {W : World} {base pb : Nat} {v : Value} {k : List Int} {cs : Array Value} (h : RI W base v k) (hb : W.heap[pb]? = some (.cells cs 55 (0, 0))) : v.ownBlock ≠ some pb := by
  intro e
  obtain ⟨c1, h1⟩ := Kd.R_typed h pb e
  rw [h1] at hb
  injection hb with hb
  injection hb with _ hb
  exact absurd hb (by decide)
theorem lt_of_heap {W : World} {b : Nat} {o : Obj} (h : W.heap[b]? = some o) : b < W.heap.size := by
  rcases Nat.lt_or_ge b W.heap.size with h1 | h1
  · exact h1
  · rw [Array.getElem?_eq_none h1] at h
    cases h
theorem St.push {W w2 : World} {B : Nat} {ok : Nat → Prop} {pb gk gd gs n : Nat} {K : List (List Int)} {ov v2 : Value} {O O2 D S : List Int} (h : St W B ok pb gk gd gs n K ov O D S) (h2 : RI w2 B v2 O2) (hg : W.grownBy w2 ov.ownBlock) (hat : v2.ownBlock = ov.ownBlock ∨ ∃ b, v2.ownBlock = some b ∧ W.heap.size ≤ b) :
    w2.cell? ⟨pb, 1, none⟩ = some ov ∧ w2.frozen? ⟨pb, 1, none⟩ = false ∧ St (w2.setCell ⟨pb, 1, none⟩ v2) B ok pb gk gd gs n K v2 O2 D S := by
  have hp : w2.heap[pb]? = some (.cells #[.slice (some ⟨gk, 0, none⟩) (n + 1) (n + 1), ov, .slice (some ⟨gd, 0, none⟩) n n, .slice (some ⟨gs, 0, none⟩) n n] 55 (0, 0)) := by
    rw [hg.block pb (lt_of_heap h.cell) (fun e => RI_pb h.ro h.cell e.symm)]
    exact h.cell
  have hgd : gd < W.heap.size := Kd.R_lt h.rd gd (by simp [Value.ownBlock])
  have hgs : gs < W.heap.size := Kd.R_lt h.rs gs (by simp [Value.ownBlock])
  have mv : ∀ {g D}, RI W B (.slice (some ⟨g, 0, none⟩) n n) D → ov.ownBlock ≠ some g → RI w2 B (.slice (some ⟨g, 0, none⟩) n n) D := fun hd hne => RI_move hd (fun b hb hl => hg.block b hl (fun e => hne (by rw [← e, ← hb]; simp [Value.ownBlock])))
  have st : ∀ {v D}, RI w2 B v D → RI (w2.setCell ⟨pb, 1, none⟩ v2) B v D := fun hd => RI_move hd (fun b hb _ => Below.heap_setCell _ _ _ _ (fun e => RI_pb hd hp (by rw [hb]; simpa using e)))
  refine ⟨by rw [cell_of_row w2 pb 1 _ _ _ hp]; rfl, by simp [World.frozen?, hp], ?_, h.hpb, st h2, st (mv h.rd h.od), st (mv h.rs h.os), h.ne, ?_, ?_, h.hK, ⟨h.kb.1, by have := h.kb.2; have := hg.size; simp; omega⟩, fun k hk => by have := h.lt k hk; have := hg.size; simp; omega, h.kp, h.kd, h.ks, ?_, ?_⟩
  · simp [World.setCell, Array.getElem?_modify, hp]
  · rcases hat with e | ⟨b, e, hle⟩
    · rw [e]; exact h.od
    · rw [e]; intro e2; injection e2 with e2; omega
  · rcases hat with e | ⟨b, e, hle⟩
    · rw [e]; exact h.os
    · rw [e]; intro e2; injection e2 with e2; omega
  · intro b hb hkb
    rcases hat with e | ⟨b', e, hle⟩
    · exact h.ko b (by rw [← e]; exact hb) hkb
    · rw [e] at hb
      injection hb with hb
      have := h.lt b hkb
      omega
  · exact Kd.F_far (Kd.F_step h.kf (fun k hk hl => hg.block k hl (fun e => h.ko k e.symm hk))) (fun k hk e => by rw [e] at hk; exact h.kp hk) _
theorem St.depth {W : World} {B : Nat} {ok : Nat → Prop} {pb gk gd gs n : Nat} {K : List (List Int)} {ov : Value} {O D S : List Int} (h : St W B ok pb gk gd gs n K ov O D S) (i : Nat) (x : Int) : St (W.setCell ⟨gd, i, none⟩ (.int .i64 x)) B ok pb gk gd gs n K ov O (D.set i x) S := by
  have hb : B ≤ gd := Kd.R_base h.rd gd (by simp [Value.ownBlock])
  have st : ∀ {v D}, RI W B v D → v.ownBlock ≠ some gd → RI (W.setCell ⟨gd, i, none⟩ (.int .i64 x)) B v D := fun hd hne => RI_move hd (fun b hb _ => Below.heap_setCell _ _ _ _ (fun e => hne (by rw [hb]; simpa using e)))
  refine ⟨?_, h.hpb, st h.ro h.od, put_i64 h.rd i x, st h.rs (by simp [Value.ownBlock]; exact Ne.symm h.ne), h.ne, h.od, h.os, h.hK, ⟨h.kb.1, by simpa using h.kb.2⟩, fun k hk => by simpa using h.lt k hk, h.kp, h.kd, h.ks, h.ko, Kd.F_far h.kf (fun k hk e => by rw [e] at hk; exact h.kd hk) _⟩
  rw [Below.heap_setCell _ _ _ _ (fun e => RI_pb h.rd h.cell (by rw [e]; simp [Value.ownBlock]))]
  exact h.cell
theorem St.size {W : World} {B : Nat} {ok : Nat → Prop} {pb gk gd gs n : Nat} {K : List (List Int)} {ov : Value} {O D S : List Int} (h : St W B ok pb gk gd gs n K ov O D S) (i : Nat) (x : Int) : St (W.setCell ⟨gs, i, none⟩ (.int .i64 x)) B ok pb gk gd gs n K ov O D (S.set i x) := by
  have hb : B ≤ gs := Kd.R_base h.rs gs (by simp [Value.ownBlock])
  have st : ∀ {v D}, RI W B v D → v.ownBlock ≠ some gs → RI (W.setCell ⟨gs, i, none⟩ (.int .i64 x)) B v D := fun hd hne => RI_move hd (fun b hb _ => Below.heap_setCell _ _ _ _ (fun e => hne (by rw [hb]; simpa using e)))
  refine ⟨?_, h.hpb, st h.ro h.os, st h.rd (by simp [Value.ownBlock]; exact h.ne), put_i64 h.rs i x, h.ne, h.od, h.os, h.hK, ⟨h.kb.1, by simpa using h.kb.2⟩, fun k hk => by simpa using h.lt k hk, h.kp, h.kd, h.ks, h.ko, Kd.F_far h.kf (fun k hk e => by rw [e] at hk; exact h.ks hk) _⟩
  rw [Below.heap_setCell _ _ _ _ (fun e => RI_pb h.rs h.cell (by rw [e]; simp [Value.ownBlock]))]
  exact h.cell
theorem St.drew {W : World} {B : Nat} {ok : Nat → Prop} {pb gk gd gs n : Nat} {K : List (List Int)} {ov : Value} {O D S : List Int} (h : St W B ok pb gk gd gs n K ov O D S) : St W.drew B ok pb gk gd gs n K ov O D S :=
  ⟨h.cell, h.hpb, Kd.R_drew h.ro, Kd.R_drew h.rd, Kd.R_drew h.rs, h.ne, h.od, h.os, h.hK, h.kb, h.lt, h.kp, h.kd, h.ks, h.ko, Kd.F_drew h.kf⟩
theorem St.cells {W : World} {B : Nat} {ok : Nat → Prop} {pb gk gd gs n : Nat} {K : List (List Int)} {ov : Value} {O D S : List Int} (h : St W B ok pb gk gd gs n K ov O D S) :
    W.cell? ⟨pb, 0, none⟩ = some (.slice (some ⟨gk, 0, none⟩) (n + 1) (n + 1)) ∧ W.cell? ⟨pb, 1, none⟩ = some ov ∧ W.cell? ⟨pb, 2, none⟩ = some (.slice (some ⟨gd, 0, none⟩) n n) ∧ W.cell? ⟨pb, 3, none⟩ = some (.slice (some ⟨gs, 0, none⟩) n n) := by
  refine ⟨?_, ?_, ?_, ?_⟩ <;> (rw [cell_of_row W pb _ _ _ _ h.cell]; rfl)
/-- What (*walker).walk does at fuel f. -/
def WalkOk (f : Nat) : Prop := ∀ (W : World) (B : Nat) (ok : Nat → Prop) (pb gk gd gs n m c : Nat) (K : List (List Int)) (ov : Value) (O D S ids : List Int) (A : Option Addr) (d : Nat), ids.length = m → St W B ok pb gk gd gs n K ov O D S → Kd.F (Kd.int .i64) W ok A m ids →
    (∀ i ∈ ids, Tree.fits K n f i) → n ≤ 1000000 → O.length + (Tree.forest K f ids d).length ≤ 1000000 → d + f ≤ 2000000 →
    Calls Try.prog 41 #[.pointer (some ⟨pb, 0, none⟩), .slice A m c, .int .i64 d] W fun e w' => e = .returned (.int .i64 ((Tree.forest K f ids d).length : Int)) ∧
      (∃ ov', St w' B ok pb gk gd gs n K ov' (O ++ (Tree.forest K f ids d).map (·.1)) (Tree.setAll D (Tree.forest K f ids d)) (Tree.ssets K f ids S)) ∧ Kp B ok W w'
set_option maxHeartbeats 8000000 in
theorem walk_step (f : Nat) (IH : ∀ f', f = f' + 1 → WalkOk f') : WalkOk f := by
  intro W B ok pb gq gd gs n m c K ov O D S ids A d hm hS hF hfit hn hlen hd
  have HS := Aside0.mk hS
  have HF := Aside0.mk hF
  have HFIT := Aside0.mk hfit
  have HLEN := Aside0.mk hlen
  have HM := Aside0.mk hm
  have HIH := Aside0.mk IH
  clear hS hF hfit hlen hm IH
  go_enter Try.func41, Try.ntmps41
  go_wp2
  go_loopg [7, 12] m (fun gg s7 s12 wr => ∃ (k t : Nat) (ov' : Value), k ≤ m ∧ m - k ≤ gg ∧ s12 = .int .i64 k ∧ s7 = .int .i64 t ∧ Aside0 (t = (Tree.forest K f (ids.take k) d).length) ∧ Aside0 (St wr B ok pb gq gd gs n K ov' (O ++ (Tree.forest K f (ids.take k) d).map (·.1)) (Tree.setAll D (Tree.forest K f (ids.take k) d)) (Tree.ssets K f (ids.take k) S)) ∧ Aside0 (Kp B ok W wr))
  case atStart => exact ⟨0, 0, ov, Nat.zero_le _, Nat.le_refl _, rfl, rfl, ⟨rfl⟩, ⟨by simpa [Tree.forest, Tree.setAll, Tree.ssets] using HS.out⟩, ⟨Kp.refl _ _ _⟩⟩
  case round =>
    clear HS
    obtain ⟨k, t, ov', hk, hg, rfl, rfl, HT, HS, HB⟩ := hrel
    by_cases hlt : k < m
    · obtain ⟨x, hx⟩ : ∃ x, ids[k]? = some x := ⟨_, List.getElem?_eq_getElem (by rw [HM.out]; exact hlt)⟩
      obtain ⟨ad, rfl, hcx⟩ := atN_int (Kd.F_now (Kd.F_step HF.out (fun j hj _ => HB.out.same j hj))) k hx
      have hfx := HFIT.out x (List.mem_of_getElem? hx)
      obtain ⟨f, rfl⟩ : ∃ f', f = f' + 1 := by
        cases f with
        | zero => exact hfx.elim
        | succ f => exact ⟨f, rfl⟩
      obtain ⟨⟨hx0, hxn⟩, hfk⟩ := hfx
      obtain ⟨p, rfl⟩ := Int.eq_ofNat_of_zero_le hx0
      have hpn : p < n := by omega
      have hkk : K[p]? = some (Tree.kid K p) := by
        unfold Tree.kid
        rw [Int.toNat_natCast, List.getD_eq_getElem?_getD, List.getElem?_eq_getElem (by have := HS.out.hK; omega)]
        rfl
      have hft := Tree.forest_take (K := K) (f := f + 1) (d := d) hx
      have hst := Tree.ssets_take (K := K) (f := f + 1) (S := S) hx
      rw [Tree.tree_succ] at hft
      rw [Tree.sset_succ K f p d] at hst
      have hle : ((O ++ (Tree.forest K (f + 1) (ids.take k) d).map (·.1)).length + 1 + (Tree.forest K f (Tree.kid K p) ((d : Int) + 1)).length) ≤ 1000000 := by
        have h1 := HLEN.out
        have h2 := Tree.forest_take_le (K := K) (f := f + 1) (ids := ids) (k + 1) (d : Int)
        rw [hft] at h2
        simp at h2 ⊢
        omega
      generalize hO : O ++ (Tree.forest K (f + 1) (ids.take k) d).map (·.1) = Ok at HS hle
      generalize hD : Tree.setAll D (Tree.forest K (f + 1) (ids.take k) d) = Dk at HS
      generalize hSS : Tree.ssets K (f + 1) (ids.take k) S = Sk at HS hst
      have HDL : Aside0 (Dk.length = n ∧ Sk.length = n) := ⟨(Kd.R_reads' HS.out.rd).1.symm, (Kd.R_reads' HS.out.rs).1.symm⟩
      have hro := HS.out.ro
      have hwx := HS.out.kb.2
      obtain ⟨e0, e1, e2, e3⟩ := HS.out.cells
      have NXT : Aside0 (∀ v2 w2, RI w2 B v2 (Ok ++ [(p : Int)]) → wr.grownBy w2 ov'.ownBlock → (v2.ownBlock = ov'.ownBlock ∨ ∃ b, v2.ownBlock = some b ∧ wr.heap.size ≤ b) →
          (∃ A2 m2 c2, v2 = .slice A2 m2 c2) ∧ (w2.cell? ⟨pb, 1, none⟩ = some ov' ∧ w2.frozen? ⟨pb, 1, none⟩ = false) ∧ ((w2.setCell ⟨pb, 1, none⟩ v2).cell? ⟨pb, 2, none⟩ = some (.slice (some ⟨gd, 0, none⟩) n n)) ∧
          (∃ x, (w2.setCell ⟨pb, 1, none⟩ v2).cell? ⟨gd, p, none⟩ = some (.int .i64 x) ∧ (w2.setCell ⟨pb, 1, none⟩ v2).frozen? ⟨gd, p, none⟩ = false) ∧
          St ((w2.setCell ⟨pb, 1, none⟩ v2).setCell ⟨gd, p, none⟩ (.int .i64 d)) B ok pb gq gd gs n K v2 (Ok ++ [(p : Int)]) (Dk.set p d) Sk ∧ Kp B ok W ((w2.setCell ⟨pb, 1, none⟩ v2).setCell ⟨gd, p, none⟩ (.int .i64 d))) := ⟨by
        intro v2 w2 h2 hg2 hat2
        obtain ⟨a1, a2, hS2⟩ := HS.out.push h2 hg2 hat2
        obtain ⟨y, -, hy, hf⟩ := cell_i64 hS2.rd p hpn
        refine ⟨⟨_, _, _, (Kd.R_form h2 (by simp)).choose_spec.choose_spec.1⟩, ⟨a1, a2⟩, hS2.cells.2.2.1, ⟨y, hy, hf⟩, hS2.depth p d, ?_⟩
        exact ((HB.out.trans ⟨(Below.refl B wr).grown hg2 hwx (Kd.R_base HS.out.ro), fun k hk => hg2.block k (HS.out.lt k hk) (fun e => HS.out.ko k e.symm hk)⟩).setCell HS.out.hpb HS.out.kp _).setCell (Kd.R_base hS2.rd gd (by simp [Value.ownBlock])) HS.out.kd _⟩
      have hlen2 : Aside0 ((Ok.length + 1) * 8 ≤ 140737488355328) := ⟨by omega⟩
      have hk1 : (k : Int) < (m : Int) := by omega
      clear HS HB
      go_upto_region 7 with (at_builtin; refine app_i64 rfl (.tmp 20) (.tmp 22) rfl ov' _ (p : Int) rfl rfl B hro hwx hlen2.out ?_; intro v2 w2 h2 hg2 hat2; obtain ⟨⟨A2, m2, c2, rfl⟩, ⟨hcs, hfs⟩, hc2, ⟨x2, hx2, hf2⟩, hS2, hB2⟩ := NXT.out v2 w2 h2 hg2 hat2)
      have HS2 := Aside0.mk hS2
      have HB2 := Aside0.mk hB2
      clear hS2 hB2 NXT hcs hfs hc2 hx2 hf2 hro hwx e0 e1 e2 e3 h2 hg2 hat2
      generalize hW4 : (w2.setCell ⟨pb, 1, none⟩ (.slice A2 m2 c2)).setCell ⟨gd, p, none⟩ (.int .i64 d) = w4 at *
      clear hW4
      go_cut [] from 33 to 50 (fun wc => ∃ ov3, Aside0 (St wc B ok pb gq gd gs n K ov3 ((Ok ++ [(p : Int)]) ++ (Tree.forest K f (Tree.kid K p) ((d : Int) + 1)).map (·.1)) (Tree.setAll (Dk.set p d) (Tree.forest K f (Tree.kid K p) ((d : Int) + 1))) ((Tree.ssets K f (Tree.kid K p) Sk).set p (1 + ((Tree.forest K f (Tree.kid K p) ((d : Int) + 1)).length : Int)))) ∧ Aside0 (Kp B ok W wc))
      case first =>
        obtain ⟨e0, e1, e2, e3⟩ := HS2.out.cells
        obtain ⟨A5, c5, hc5, hF5⟩ := kid_F HS2.out.kf HS2.out.kb.1 (HS2.out.lt _ HS2.out.kb.1) hkk
        have hcall := HIH.out f rfl w4.drew B ok pb gq gd gs n (Tree.kid K p).length c5 K _ _ _ _ (Tree.kid K p) A5 (d + 1) rfl HS2.out.drew (Kd.F_drew hF5) hfk hn (by rw [List.length_append, List.length_singleton]; exact hle) (by omega)
        rw [show ((d + 1 : Nat) : Int) = (d : Int) + 1 by omega] at hcall
        have hTle : (Tree.forest K f (Tree.kid K p) ((d : Int) + 1)).length ≤ 1000000 := by omega
        generalize hT2 : (Tree.forest K f (Tree.kid K p) ((d : Int) + 1)).length = T at hcall hTle ⊢
        have hT0 : (T : Int) ≤ 1000000 := by omega
        have hp1 : (p : Int) < (n : Int) := by omega
        have hp2 : (p : Int) < (n : Int) + 1 := by omega
        have hd1 : (d : Int) ≤ 2000000 := by omega
        have HC := Aside0.mk hcall
        clear hcall hfk hle hft hst hlen2 hkk hF5
        have KEEP : Aside0 (∀ W1 ov5 O5 D5 S5, St W1 B ok pb gq gd gs n K ov5 O5 D5 S5 → Kp B ok w4 W1 → (W1.cell? ⟨pb, 3, none⟩ = some (.slice (some ⟨gs, 0, none⟩) n n) ∧ W1.cell? ⟨pb, 0, none⟩ = some (.slice (some ⟨gq, 0, none⟩) (n + 1) (n + 1)) ∧ W1.cell? ⟨gq, p, none⟩ = some (.slice A5 (Tree.kid K p).length c5))) := ⟨fun W1 ov5 O5 D5 S5 h1 h2 => ⟨h1.cells.2.2.2, h1.cells.1, by
          have e := h2.same gq h1.kb.1
          rw [← hc5]
          simp [World.cell?, e]⟩⟩
        have k0 := KEEP.out w4.drew _ _ _ _ HS2.out.drew (Kp.drew _ _ _)
        generalize (Tree.kid K p).length = kl at HC KEEP k0 hc5 ⊢
        have hw1 : IntKind.i64.wrap ((d : Int) + 1) = (d : Int) + 1 := IntWalk.i64_in _ (by omega)
        have hw2 : IntKind.i64.wrap (1 + (T : Int)) = 1 + (T : Int) := IntWalk.i64_in _ (by clear hw1; omega)
        go_region_held3 (fun W => W.cell? ⟨pb, 3, none⟩ = some (.slice (some ⟨gs, 0, none⟩) n n) ∧ W.cell? ⟨pb, 0, none⟩ = some (.slice (some ⟨gq, 0, none⟩) (n + 1) (n + 1)) ∧ W.cell? ⟨gq, p, none⟩ = some (.slice A5 kl c5)) (first | (with_reducible exact k2) | (with_reducible exact k1) | (with_reducible exact k0)) (first | (go_at_call 41; refine HC.out.mono ?_; rintro e w3 ⟨rfl, ⟨ov3, hS3⟩, hB3⟩; have k1 := KEEP.out w3 _ _ _ _ hS3 (Kp.trans (Kp.drew _ _ _) hB3); obtain ⟨y3, -, hy3, hf3⟩ := cell_i64 hS3.rs p hpn; have HS3 := Aside0.mk (hS3.size p (1 + (T : Int))); have HB4 := Aside0.mk (Kp.setCell (Kp.trans (Kp.drew _ _ _) hB3) (Kd.R_base hS3.rs gs (by simp [Value.ownBlock])) hS3.ks (p := ⟨gs, p, none⟩) (.int .i64 (1 + (T : Int)))); have k2 := KEEP.out _ _ _ _ _ HS3.out HB4.out; have HB3 := Aside0.mk (HB2.out.trans HB4.out); clear hS3 hB3 HB4))
        all_goals (go_wp2_with fail; go_meet; exact ⟨_, by rw [hT2]; exact HS3, HB3⟩)
      case rest =>
        obtain ⟨ov3, HS3, HB3⟩ := hcut
        have hTle : (Tree.forest K f (Tree.kid K p) ((d : Int) + 1)).length ≤ 1000000 := by omega
        have htle : t ≤ 1000000 := by rw [HT.out]; exact Nat.le_trans (Tree.forest_take_le k _) (by have := HLEN.out; omega)
        have HT3 : Aside0 (t + 1 + (Tree.forest K f (Tree.kid K p) ((d : Int) + 1)).length = (Tree.forest K (f + 1) (ids.take (k + 1)) d).length) := ⟨by rw [hft, List.length_append, List.length_cons, HT.out]; omega⟩
        have HS4 : Aside0 (St wc B ok pb gq gd gs n K ov3 (O ++ (Tree.forest K (f + 1) (ids.take (k + 1)) d).map (·.1)) (Tree.setAll D (Tree.forest K (f + 1) (ids.take (k + 1)) d)) (Tree.ssets K (f + 1) (ids.take (k + 1)) S)) := ⟨by
          rw [hft, hst, List.map_append, List.map_cons, ← List.append_assoc, hO, Tree.setAll_append, hD, Tree.setAll_cons, Int.toNat_natCast]
          have h := HS3.out
          rw [List.append_assoc, List.singleton_append] at h
          exact h⟩
        obtain ⟨e0, e1, e2, e3⟩ := HS3.out.cells
        obtain ⟨y, hy, hyc, hyf⟩ := cell_i64 HS3.out.rs p hpn
        rw [List.getElem?_set_self (by rw [Tree.ssets_length, HDL.out.2]; exact hpn)] at hy
        injection hy with hy
        subst hy
        generalize (Tree.forest K f (Tree.kid K p) ((d : Int) + 1)).length = T at hTle HT3 hyc ⊢
        have hT0 : (T : Int) ≤ 1000000 := by omega
        have ht0 : (t : Int) ≤ 1000000 := by omega
        have hmm : (m : Int) ≤ 9223372036854775807 := by have := Kd.F_max HF.out; omega
        have hp1 : (p : Int) < (n : Int) := by omega
        clear HS3 hft hst hle hfk hkk HS2 HB2 hO hD hSS HDL hx hlen2
        go_wp2
        go_roundg (m - (k + 1))
        case measure => omega
        case rel => exact ⟨k + 1, t + 1 + T, ov3, by omega, by omega, by go_num, by go_num, HT3, HS4, HB3⟩
    · obtain rfl : k = m := by omega
      have hdd : decide ((k : Int) < (k : Int)) = false := by simp
      have ht : ids.take k = ids := by rw [← HM.out]; exact List.take_length
      rw [ht] at HT HS
      clear ht
      go_wp2
      go_ret
      exact ⟨ret_int (by rw [HT.out]), ⟨_, HS.out⟩, HB.out⟩
theorem walk.calls : ∀ f, WalkOk f := by
  intro f
  induction f with
  | zero => exact walk_step 0 (fun f' h => by cases h)
  | succ f ih => exact walk_step (f + 1) (fun f' h => by injection h with h; rw [← h]; exact ih)
end Go.Proofs.Ytbfapgagmbiiaaa
