/- gleaningref28.below comes to the walk of a tree. -/
import Derived.Test.YtbfapgagmbiiaaaTreeRefKids
import Derived.Test.YtbfapgagmbiiaaaTreeWholePl
import Derived.Deep.Cut
namespace Go.Proofs.Ytbfapgagmbiiaaa
open Gl Go.RowKit Go.Proofs.YtbfapgagmbiiaaaW.PrintWords
set_option linter.unusedVariables false
set_option linter.unusedSimpArgs false

theorem Tree.refRow_kid (l : List SSpan) {a : Nat} (ha : a < l.length) : Tree.refRow l (Tree.parents l) (a : Int) l.length = Tree.kid (Tree.kids l) (a : Int) := by
  rw [kid_eq l (by omega)]
  unfold Tree.refRow Tree.rowOf
  congr 2
  refine List.filter_congr (fun i hi => ?_)
  have hin : Tree.In (Tree.parents l).length (i : Int) := by rw [Tree.parents_length]; exact ⟨by omega, by have := List.mem_range.1 hi; omega⟩
  have h := Tree.ok_get (Tree.parents_ok l) hin
  rw [Int.toNat_natCast, Tree.parents_length] at h
  unfold Tree.spot
  rcases h with h | h
  · rw [h, if_pos rfl]
    have a1 : ((-1 : Int) == (a : Int)) = false := by simp only [beq_eq_false_iff_ne]; omega
    have a2 : (l.length == a) = false := by simp only [beq_eq_false_iff_ne]; omega
    rw [a1, a2]
  · have h1 := h.1
    have h2 := h.2
    rw [if_neg (by omega)]
    rw [Bool.eq_iff_iff, beq_iff_eq, beq_iff_eq]
    omega
theorem Tree.refRow_top (l : List SSpan) : Tree.refRow l (Tree.parents l) (-1) l.length = Tree.kid (Tree.kids l) (l.length : Int) := by
  rw [kid_eq l (by omega)]
  unfold Tree.refRow Tree.rowOf
  congr 2
  refine List.filter_congr (fun i hi => ?_)
  have hin : Tree.In (Tree.parents l).length (i : Int) := by rw [Tree.parents_length]; exact ⟨by omega, by have := List.mem_range.1 hi; omega⟩
  have h := Tree.ok_get (Tree.parents_ok l) hin
  rw [Int.toNat_natCast, Tree.parents_length] at h
  unfold Tree.spot
  rcases h with h | h
  · rw [h, if_pos rfl]
    simp
  · have h1 := h.1
    have h2 := h.2
    rw [if_neg (by omega)]
    have a1 : ((Tree.parents l).getD i 0 == -1) = false := by simp only [beq_eq_false_iff_ne]; omega
    have a2 : (((Tree.parents l).getD i 0).toNat == l.length) = false := by simp only [beq_eq_false_iff_ne]; omega
    rw [a1, a2]

/-- Two rows of the call's own, apart; and a row that is read, in blocks that neither has. -/
structure Two (W : World) (base : Nat) (ok : Nat → Prop) (A : Option Addr) (m : Nat) (ids : List Int) (v u : Value) (O D : List Int) : Prop where
  ro : RI W base v O
  rd : RI W base u D
  ne : ∀ b, v.ownBlock = some b → u.ownBlock ≠ some b
  no : ∀ b, v.ownBlock = some b → ¬ ok b
  nd : ∀ b, u.ownBlock = some b → ¬ ok b
  lt : ∀ b, ok b → b < W.heap.size
  kf : Kd.F (Kd.int .i64) W ok A m ids
theorem Two.app1 {W w1 : World} {base : Nat} {ok : Nat → Prop} {A : Option Addr} {m : Nat} {ids : List Int} {v u v1 : Value} {O D O1 : List Int} (h : Two W base ok A m ids v u O D) (h1 : RI w1 base v1 O1) (hg : W.grownBy w1 v.ownBlock)
    (hat : v1.ownBlock = v.ownBlock ∨ ∃ b, v1.ownBlock = some b ∧ W.heap.size ≤ b) : Two w1 base ok A m ids v1 u O1 D := by
  refine ⟨h1, RI_move h.rd (fun b hb hl => hg.block b hl (fun e => h.ne b e.symm hb)), ?_, ?_, h.nd, fun b hb => Nat.lt_of_lt_of_le (h.lt b hb) hg.size, Kd.F_step h.kf (fun k hk hl => hg.block k hl (fun e => h.no k e.symm hk))⟩
  · intro b hb hu
    rcases hat with e | ⟨b', e, hle⟩
    · exact h.ne b (by rw [← e]; exact hb) hu
    · rw [e] at hb
      injection hb with hb
      have := Kd.R_lt h.rd b hu
      omega
  · intro b hb hk
    rcases hat with e | ⟨b', e, hle⟩
    · exact h.no b (by rw [← e]; exact hb) hk
    · rw [e] at hb
      injection hb with hb
      have := h.lt b hk
      omega
theorem Two.app2 {W w1 : World} {base : Nat} {ok : Nat → Prop} {A : Option Addr} {m : Nat} {ids : List Int} {v u u1 : Value} {O D D1 : List Int} (h : Two W base ok A m ids v u O D) (h1 : RI w1 base u1 D1) (hg : W.grownBy w1 u.ownBlock)
    (hat : u1.ownBlock = u.ownBlock ∨ ∃ b, u1.ownBlock = some b ∧ W.heap.size ≤ b) : Two w1 base ok A m ids v u1 O D1 := by
  refine ⟨RI_move h.ro (fun b hb hl => hg.block b hl (fun e => h.ne b hb e.symm)), h1, ?_, h.no, ?_, fun b hb => Nat.lt_of_lt_of_le (h.lt b hb) hg.size, Kd.F_step h.kf (fun k hk hl => hg.block k hl (fun e => h.nd k e.symm hk))⟩
  · intro b hb hu
    rcases hat with e | ⟨b', e, hle⟩
    · exact h.ne b hb (by rw [← e]; exact hu)
    · rw [e] at hu
      injection hu with hu
      have := Kd.R_lt h.ro b hb
      omega
  · intro b hb hk
    rcases hat with e | ⟨b', e, hle⟩
    · exact h.nd b (by rw [← e]; exact hb) hk
    · rw [e] at hb
      injection hb with hb
      have := h.lt b hk
      omega
theorem Two.below {W w1 : World} {base : Nat} {ok : Nat → Prop} {A : Option Addr} {m : Nat} {ids : List Int} {v u : Value} {O D : List Int} (h : Two W base ok A m ids v u O D) (hb : Below W.heap.size W w1) : Two w1 base ok A m ids v u O D :=
  ⟨Kd.R_below h.ro hb, Kd.R_below h.rd hb, h.ne, h.no, h.nd, fun b hk => Nat.lt_of_lt_of_le (h.lt b hk) hb.size, Kd.F_step h.kf (fun k hk hl => hb.block k hl)⟩
theorem Two.other {W : World} {base : Nat} {ok ok' : Nat → Prop} {A A' : Option Addr} {m m' : Nat} {ids ids' : List Int} {v u : Value} {O D : List Int} (h : Two W base ok A m ids v u O D) (hno : ∀ b, v.ownBlock = some b → ¬ ok' b) (hnd : ∀ b, u.ownBlock = some b → ¬ ok' b) (hlt : ∀ b, ok' b → b < W.heap.size) (hf : Kd.F (Kd.int .i64) W ok' A' m' ids') : Two W base ok' A' m' ids' v u O D :=
  ⟨h.ro, h.rd, h.ne, hno, hnd, hlt, hf⟩
/-- What below answers for a place whose children's trees are T. -/
def BelowEnd (W : World) (O D : List Int) (e : Ending) (w' : World) : Prop := ∃ v1 v2, e = .returned (.tuple #[v1, v2]) ∧ RI w' W.heap.size v1 O ∧ RI w' W.heap.size v2 D ∧ Below W.heap.size W w'
set_option maxHeartbeats 8000000 in
set_option maxRecDepth 100000 in
theorem below_any (A P : Option Addr) (n c d : Nat) (l : List SSpan) (p : List Int) (of deep dd : Int) (O0 D0 : List Int) (T : Int → List (Int × Int)) (W : World) (hr : Kd.C kSpan W A n l) (hp : Kd.C (Kd.int .i64) W P n p) (hn : n ≤ 500000)
    (h0 : (0 ≤ of ∧ O0 = [of] ∧ D0 = [deep] ∧ dd = deep + 1) ∨ (of < 0 ∧ O0 = [] ∧ D0 = [] ∧ dd = deep)) (hdeep : 0 ≤ deep ∧ deep ≤ 2000000)
    (IH : ∀ j ∈ Tree.refRow l p of n, ∀ W', Below W.heap.size W W' → Calls Try.prog 31 #[.slice A n c, .slice P n d, .int .i64 j, .int .i64 dd] W' (BelowEnd W' ((T j).map (·.1)) ((T j).map (·.2))))
    (hlen : ((Tree.refRow l p of n).flatMap T).length ≤ 1000000) :
    Calls Try.prog 31 #[.slice A n c, .slice P n d, .int .i64 of, .int .i64 deep] W (BelowEnd W (O0 ++ ((Tree.refRow l p of n).flatMap T).map (·.1)) (D0 ++ ((Tree.refRow l p of n).flatMap T).map (·.2))) := by
  have hmi := Tree.refRow_len l p of n
  have HK : Aside0 (∀ W', Below W.heap.size W W' → Calls Try.prog 42 #[.slice A n c, .slice P n d, .int .i64 of] W' fun e w' => ∃ v, e = .returned v ∧ RI w' W'.heap.size v (Tree.refRow l p of n) ∧ Below W'.heap.size W' w') := ⟨fun W' hW => RefKids.calls A P n c d l p of W' (Kd.C_below hr hW) (Kd.C_below hp hW) hn⟩
  have HIH := Aside0.mk IH
  have HLEN := Aside0.mk hlen
  clear IH hr hp hlen
  generalize Tree.refRow l p of n = ids at HK HIH HLEN hmi ⊢
  obtain ⟨hd0, hd1⟩ := hdeep
  have HDD : 0 ≤ dd ∧ dd ≤ 2000001 := by omega
  obtain ⟨hdd0, hdd1⟩ := HDD
  have H0 := Aside0.mk h0
  have hol : Aside0 (O0.length ≤ 1 ∧ D0.length ≤ 1) := ⟨by rcases h0 with ⟨_, e1, e2, _⟩ | ⟨_, e1, e2, _⟩ <;> rw [e1, e2] <;> simp⟩
  clear h0
  go_enter Try.func31, Try.ntmps31
  go_upto_if 17 with (fail)
  go_cut [3, 10, 11] from 16 to 27 (fun s3 s10 s11 wc => ∃ v10 v11, v10 = s10 ∧ v11 = s11 ∧ s3 = .int .i64 dd ∧ Aside0 (Two wc W.heap.size (fun _ => False) none 0 [] v10 v11 O0 D0) ∧ Aside0 (Below W.heap.size W wc))
  case first =>
    have TN : Aside0 (Two W W.heap.size (fun _ => False) none 0 [] (.slice none 0 0) (.slice none 0 0) [] []) := ⟨⟨Kd.R_nil _ _ _ _ _, Kd.R_nil _ _ _ _ _, fun b hb => by simp [Value.ownBlock] at hb, fun b hb => by simp [Value.ownBlock] at hb, fun b hb => by simp [Value.ownBlock] at hb, fun b hb => hb.elim, fun _ _ => Kd.C_nil _ _⟩⟩
    have B0 := Aside0.mk (Below.refl W.heap.size W)
    by_cases hof : 0 ≤ of
    · obtain ⟨e1, e2, e3⟩ : O0 = [of] ∧ D0 = [deep] ∧ dd = deep + 1 := by
        rcases H0.out with ⟨_, h⟩ | ⟨h, _⟩
        · exact h
        · omega
      subst e1 e2 e3
      clear H0 HIH HK HLEN hol
      go_wp2_with (first
        | (at_builtin; refine app_i64 rfl (.tmp 18) (.tmp 20) rfl _ [] of rfl rfl W.heap.size TN.out.ro (Nat.le_refl _) (by simp) ?_; intro v1 w1 h1 hg1 hat1; have T1 := Aside0.mk (TN.out.app1 h1 hg1 hat1); have B1 := Aside0.mk (below_app B0.out TN.out.ro hg1))
        | (at_builtin; refine app_i64 rfl (.tmp 22) (.tmp 24) rfl _ [] deep rfl rfl W.heap.size T1.out.rd B1.out.size (by simp) ?_; intro v2 w2 h2 hg2 hat2; have T2 := Aside0.mk (T1.out.app2 h2 hg2 hat2); have B2 := Aside0.mk (below_app B1.out T1.out.rd hg2)))
      go_meet
      case rel => exact ⟨_, _, rfl, rfl, rfl, T2, B2⟩
    · obtain ⟨e1, e2, e3⟩ : O0 = [] ∧ D0 = [] ∧ dd = deep := by
        rcases H0.out with ⟨h, _⟩ | ⟨_, h⟩
        · omega
        · exact h
      subst e1 e2 e3
      have hof2 : of < 0 := by omega
      clear H0 HIH HK HLEN hol hof
      go_wp2
      go_meet
      case rel => exact ⟨_, _, rfl, rfl, rfl, TN, B0⟩
  case rest =>
    obtain ⟨v10, v11, rfl, rfl, rfl, T0, B0⟩ := hcut
    clear H0
    go_wp2_with (go_at_call 42; refine (HK.out _ B0.out).mono ?_; rintro e w7 ⟨v12, rfl, h12, hb12⟩; obtain ⟨A12, c12, rfl, hc12, -⟩ := R_readsN (n := ids.length) h12 rfl)
    have F12 : Kd.F (Kd.int .i64) w7 (fun k => wc.heap.size ≤ k ∧ k < w7.heap.size) A12 ids.length ids := Kd.F_mono (Kd.R_F (Kd.R_bound h12)) (fun k h => ⟨h.2.1, h.2.2.1⟩)
    have T1 : Aside0 (Two w7 W.heap.size (fun k => wc.heap.size ≤ k ∧ k < w7.heap.size) A12 ids.length ids v10 v11 (O0 ++ ((ids.take 0).flatMap T).map (·.1)) (D0 ++ ((ids.take 0).flatMap T).map (·.2))) := ⟨by
      rw [List.take_zero, List.flatMap_nil, List.map_nil, List.map_nil, List.append_nil, List.append_nil]
      exact (T0.out.below hb12).other (fun b hb hk => by have := Kd.R_lt T0.out.ro b hb; omega) (fun b hb hk => by have := Kd.R_lt T0.out.rd b hb; omega) (fun b hk => hk.2) F12⟩
    have B1 := Aside0.mk (below_then B0.out B0.out.size hb12)
    have hm0 : (ids.length : Int) ≤ 9223372036854775807 := by have := Kd.F_max F12; omega
    clear T0 B0 h12 hb12 F12 HK
    generalize hok : (fun k => wc.heap.size ≤ k ∧ k < w7.heap.size) = ok at T1
    clear hok
    go_loopg [10, 11, 13] ids.length (fun gg s10 s11 s13 wr => ∃ (k : Nat) (v u : Value), k ≤ ids.length ∧ ids.length - k ≤ gg ∧ s13 = .int .i64 k ∧ v = s10 ∧ u = s11 ∧ Aside0 (Two wr W.heap.size ok A12 ids.length ids v u (O0 ++ ((ids.take k).flatMap T).map (·.1)) (D0 ++ ((ids.take k).flatMap T).map (·.2))) ∧ Aside0 (Below W.heap.size W wr))
    case atStart => exact ⟨0, _, _, Nat.zero_le _, Nat.le_refl _, rfl, rfl, rfl, T1, B1⟩
    case round =>
      clear T1 B1
      obtain ⟨k, v, u, hk, hg, rfl, rfl, rfl, T1, B1⟩ := hrel
      by_cases hlt : k < ids.length
      · have hk1 : (k : Int) < (ids.length : Int) := by omega
        obtain ⟨j, hj⟩ : ∃ j, ids[k]? = some j := ⟨_, List.getElem?_eq_getElem hlt⟩
        obtain ⟨ad, rfl, hjc⟩ := atN_int (Kd.F_now T1.out.kf) k hj
        have hc := HIH.out j (List.mem_of_getElem? hj) wr B1.out
        have hfl : (ids.take (k + 1)).flatMap T = (ids.take k).flatMap T ++ T j := by rw [Tree.take_one hj, List.flatMap_append]; simp
        have hle : ((ids.take (k + 1)).flatMap T).length ≤ (ids.flatMap T).length := by
          conv => rhs; rw [← List.take_append_drop (k + 1) ids, List.flatMap_append]
          rw [List.length_append]
          omega
        have HL : Aside0 (((O0 ++ ((ids.take k).flatMap T).map (·.1)).length + (T j).length) * 8 ≤ 140737488355328 ∧ ((D0 ++ ((ids.take k).flatMap T).map (·.2)).length + (T j).length) * 8 ≤ 140737488355328) := ⟨by
          rw [hfl, List.length_append] at hle
          have := HLEN.out
          have := hol.out
          rw [List.length_append, List.length_append, List.length_map, List.length_map]
          omega⟩
        have HF := Aside0.mk hfl
        clear hj hfl hle
        go_wp2_with (first
          | (go_at_call 31; refine hc.mono ?_; rintro e w2 ⟨v1, v2, rfl, h1, h2, hb2⟩; obtain ⟨A1, c1, rfl, -, hr1⟩ := R_readsN (n := (T j).length) h1 (by simp); obtain ⟨A2, c2, rfl, -, -⟩ := R_readsN (n := (T j).length) h2 (by simp); have T2 := Aside0.mk (T1.out.below hb2); have B2 := Aside0.mk (below_then B1.out B1.out.size hb2); have F2 : Aside0 (Kd.F (Kd.int .i64) w2 (fun k => wr.heap.size ≤ k ∧ k < w2.heap.size) A2 (T j).length ((T j).map (·.2))) := ⟨Kd.F_mono (Kd.R_F (Kd.R_bound h2)) (fun k h => ⟨h.2.1, h.2.2.1⟩)⟩; clear h1 h2 hb2)
          | (at_builtin; refine dup_i64 rfl (.tmp 49) (.tmp 50) rfl v _ ((T j).map (·.1)) A1 _ c1 rfl rfl W.heap.size T2.out.ro hr1 B2.out.size HL.out.1 ?_; intro v3 w3 h3 hg3 hat3; have T3 := Aside0.mk (T2.out.app1 h3 hg3 hat3); have B3 := Aside0.mk (below_app B2.out T2.out.ro hg3); have hr2 := Kd.F_now (Kd.F_step F2.out (fun k hk hl => hg3.block k hl (fun e => by have := Kd.R_lt T1.out.ro k e.symm; omega))); clear hr1 h3 hg3 hat3)
          | (at_builtin; refine dup_i64 rfl (.tmp 52) (.tmp 53) rfl u _ ((T j).map (·.2)) A2 _ c2 rfl rfl W.heap.size T3.out.rd hr2 B3.out.size HL.out.2 ?_; intro v4 w4 h4 hg4 hat4; have T4 := Aside0.mk (T3.out.app2 h4 hg4 hat4); have B4 := Aside0.mk (below_app B3.out T3.out.rd hg4); clear hr2 h4 hg4 hat4))
        have T5 : Aside0 (Two w4 W.heap.size ok (some ad) ids.length ids v3 v4 (O0 ++ ((ids.take (k + 1)).flatMap T).map (·.1)) (D0 ++ ((ids.take (k + 1)).flatMap T).map (·.2))) := ⟨by
          have h := T4.out
          rw [List.append_assoc, List.append_assoc, ← List.map_append, ← List.map_append, ← HF.out] at h
          exact h⟩
        go_roundg (ids.length - (k + 1))
        case measure => omega
        case rel => exact ⟨k + 1, _, _, by omega, by omega, by go_num, rfl, rfl, T5, B4⟩
      · obtain rfl : k = ids.length := by omega
        have hd : decide ((ids.length : Int) < (ids.length : Int)) = false := by simp
        have T5 := T1
        rw [List.take_length] at T5
        clear T1
        go_wp2
        go_ret2
        exact ⟨_, _, rfl, T5.out.ro, T5.out.rd, B1.out⟩
end Go.Proofs.Ytbfapgagmbiiaaa
