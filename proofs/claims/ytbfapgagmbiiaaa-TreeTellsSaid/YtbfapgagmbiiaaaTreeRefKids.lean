/- gleaningref28.kids comes to a sorted row. -/
import Derived.Test.YtbfapgagmbiiaaaTreeRefPar
import Derived.Deep.RegionLaw
import Derived.Deep.CutBlock
namespace Go.Proofs.Ytbfapgagmbiiaaa
open Gl Go.RowKit Go.Proofs.YtbfapgagmbiiaaaW.PrintWords
set_option linter.unusedVariables false
set_option linter.unusedSimpArgs false

def Tree.refRow (l : List SSpan) (p : List Int) (of : Int) (k : Nat) : List Int := Sort.isort (ltOf (cfOf l)) (((List.range k).filter (fun i => p.getD i 0 == of)).map Int.ofNat)
theorem Tree.refRow_hit {l : List SSpan} {p : List Int} {of : Int} {k : Nat} (h : p.getD k 0 = of) : Tree.refRow l p of (k + 1) = Sort.ins (ltOf (cfOf l)) (k : Int) (Tree.refRow l p of k) := by
  have e : (p.getD k 0 == of) = true := by simpa using h
  unfold Tree.refRow
  rw [List.range_succ, List.filter_append, List.map_append, List.filter_cons, if_pos e]
  exact Sort.isort_snoc _ _ _
theorem Tree.refRow_miss {l : List SSpan} {p : List Int} {of : Int} {k : Nat} (h : ¬ p.getD k 0 = of) : Tree.refRow l p of (k + 1) = Tree.refRow l p of k := by
  have e : ¬ (p.getD k 0 == of) = true := by simpa using h
  unfold Tree.refRow
  rw [List.range_succ, List.filter_append, List.map_append, List.filter_cons, if_neg e]
  simp
theorem Tree.refRow_in {l : List SSpan} {p : List Int} {of : Int} {k : Nat} {y : Int} (h : y ∈ Tree.refRow l p of k) : 0 ≤ y ∧ y < k := by
  unfold Tree.refRow at h
  rw [(Sort.isort_perm _ _).mem_iff] at h
  obtain ⟨i, hi, rfl⟩ := List.mem_map.1 h
  have := List.mem_range.1 (List.mem_filter.1 hi).1
  exact ⟨Int.natCast_nonneg _, by show (i : Int) < (k : Int); omega⟩
theorem Tree.refRow_len (l : List SSpan) (p : List Int) (of : Int) (k : Nat) : (Tree.refRow l p of k).length ≤ k := by
  unfold Tree.refRow
  rw [Sort.isort_length, List.length_map]
  exact Nat.le_trans (List.length_filter_le _ _) (by simp)
theorem Tree.start_lt {l : List SSpan} {i y : Nat} {x z : SSpan} (hx : l[i]? = some x) (hz : l[y]? = some z) : ltOf (cfOf l) (i : Int) (y : Int) = decide (x.f5 < z.f5) := by
  rw [ltOf_cfOf]
  unfold startOf
  rw [Int.toNat_natCast, Int.toNat_natCast, hx, hz]

theorem ex_drewN (W : World) (q n : Nat) : ∃ r, W.drewN r = (W.drewN q).drewN n := ⟨_, (World.drewN_drewN _ _ _).symm⟩
theorem dup_step {ops : Array Oper} {o : Oper} {a : Act} {Kc : Act → World → Prop} {Q : Exit → Act → World → Prop} {w0 W : World} (hw : Region.wanted o (yielded ops a.tmps) = true) (s x : Operand)
    (ho : o.op = .call { callee := .builtin .append, args := #[s, x], argTypes := #[22, 22] }) (v : Value) (xs ys : List Int) (A : Option Addr) (m c : Nat) (hs : a.eval s = v) (hx : a.eval x = .slice A m c)
    (base : Nat) (HO : RI W base v xs) (HR : Kd.C (Kd.int .i64) W A m ys) (HB : Below base w0 W) (hbase : base ≤ W.heap.size) (hl : (xs.length + m) * 8 ≤ 140737488355328)
    (h : ∀ v1 w1, RI w1 base v1 (xs ++ ys) → Below base w0 w1 → W.grownBy w1 v.ownBlock → Kc (a.put o.dst v1) w1) :
    if Region.wanted o (yielded ops a.tmps) = true then Oper.wp Try.prog o a W Kc Q else Kc (a.put o.dst undef) W :=
  Kd.R_append_rows_step (Kd.int .i64) (w0 := w0) base hw s x 22 3 (.int .i64 0) 8 ho Try.underlying22 info3 rfl (by decide) (by decide) v xs ys A m c (fun _ => True) (fun _ => False) hs hx HO HR (fun _ _ h => h) (fun _ hk => hk.elim) (fun _ _ => trivial) HB hbase hl
    fun v1 w1 h1 hb hg _ => h v1 w1 h1 hb hg
theorem RI_al {W : World} {B : Nat} {v : Value} {k : List Int} (h : RI W B v k) (o : Obj) : RI (W.alloc o) B v k := Kd.R_below h (below_alloc (Below.refl _ _) o)
theorem one_C (W : World) (i : Int) : Kd.C (Kd.int .i64) (W.alloc (.cells #[.int .i64 i] 3)) (some ⟨W.heap.size, 0, none⟩) 1 [i] := by
  refine ⟨rfl, by omega, fun _ => ⟨_, rfl, fun j y hy => ?_⟩⟩
  rcases j with _ | j
  · injection hy with hy
    subst hy
    refine ⟨[.int .i64 i], rfl, rfl, fun e u hu => ?_⟩
    rw [add_plain, cell_of_row _ _ _ _ _ _ (heap_alloc_new W _)]
    rcases e with _ | e
    · exact hu
    · simp at hu
  · simp at hy
set_option maxHeartbeats 8000000 in
set_option maxRecDepth 100000 in
theorem RefKids.calls (A P : Option Addr) (n c d : Nat) (l : List SSpan) (p : List Int) (of : Int) (w : World) (hr : Kd.C kSpan w A n l) (hp : Kd.C (Kd.int .i64) w P n p) (hn : n ≤ 500000) :
    Calls Try.prog 42 #[.slice A n c, .slice P n d, .int .i64 of] w fun e w' => ∃ v, e = .returned v ∧ RI w' w.heap.size v (Tree.refRow l p of n) ∧ Below w.heap.size w w' := by
  obtain rfl : l.length = n := hr.1
  have hpl := Aside0.mk hp.1
  have HR := Aside0.mk hr
  have HP := Aside0.mk hp
  have hn1 : (l.length : Int) ≤ 500000 := by omega
  clear hr hp
  go_enter Try.func42, Try.ntmps42
  go_wp2
  go_loopg [7, 8] l.length (fun gg s7 s8 wr => ∃ (i : Nat) (v7 : Value), i ≤ l.length ∧ l.length - i ≤ gg ∧ s8 = .int .i64 i ∧ v7 = s7 ∧ Aside0 (RI wr w.heap.size v7 (Tree.refRow l p of i)) ∧ Aside0 (Below w.heap.size w wr))
  case atStart => exact ⟨0, _, Nat.zero_le _, Nat.le_refl _, rfl, rfl, ⟨Kd.R_nil _ _ _ _ _⟩, ⟨Below.refl _ _⟩⟩
  case round =>
    obtain ⟨i, s7, hi, hg, rfl, rfl, H1, B1⟩ := hrel
    obtain ⟨wo, rfl⟩ : ∃ wo : World, wo = wr := ⟨_, rfl⟩
    by_cases hlt : i < l.length
    · have hi1 : (i : Int) < (l.length : Int) := by omega
      obtain ⟨x, hx⟩ : ∃ x, l[i]? = some x := ⟨_, List.getElem?_eq_getElem hlt⟩
      obtain ⟨pi, hpi⟩ : ∃ y, p[i]? = some y := ⟨_, List.getElem?_eq_getElem (by rw [hpl.out]; exact hlt)⟩
      have hpg : p.getD i 0 = pi := by rw [List.getD_eq_getElem?_getD, hpi]; rfl
      obtain ⟨pd, rfl, hpc⟩ := atN_int (Kd.C_below HP.out B1.out) i hpi
      by_cases hof : pi = of
      · have hd0 : (pi != of) = false := by simp [hof]
        have HX := Aside0.mk hx
        have HIT : Aside0 (Tree.refRow l p of (i + 1) = Sort.ins (ltOf (cfOf l)) (i : Int) (Tree.refRow l p of i)) := ⟨Tree.refRow_hit (by rw [hpg, hof])⟩
        have hmi := Tree.refRow_len l p of i
        have HIN : Aside0 (∀ y ∈ Tree.refRow l p of i, 0 ≤ y ∧ y < i) := ⟨fun y hy => Tree.refRow_in hy⟩
        generalize Tree.refRow l p of i = out at H1 HIT hmi HIN
        obtain ⟨ad, A9, c9, rfl, -, -, -, -, -, -, x5, -⟩ := atN_Span (Kd.C_below HR.out B1.out) i hx
        obtain ⟨A7, c7, rfl, hc7, h7⟩ := R_readsN (n := out.length) H1.out rfl
        have H7 := Aside0.mk h7
        generalize hml : out.length = m at *
        have HML := Aside0.mk hml
        have hm1 : (m : Int) ≤ 500000 := by omega
        clear hof hpg hpi hx h7 hml
        go_upto_block 2 with (fail)
        go_cut [9] from 24 to 44 (fun s9 wc => ∃ k : Nat, k ≤ m ∧ s9 = .int .i64 k ∧ Aside0 (Sort.ins (ltOf (cfOf l)) (i : Int) out = out.take k ++ (i : Int) :: out.drop k) ∧ ∃ q, wo.drewN q = wc)
        case first =>
          go_wp2
          go_loopg [9] m (fun gg s9 wr => ∃ k : Nat, k ≤ m ∧ k ≤ gg ∧ s9 = .int .i64 k ∧ Aside0 (∀ y ∈ out.drop k, ltOf (cfOf l) (i : Int) y = true) ∧ ∃ q, wo.drewN q = wr)
          case atStart => exact ⟨m, Nat.le_refl _, Nat.le_refl _, rfl, ⟨fun y hy => by rw [← HML.out, List.drop_length] at hy; cases hy⟩, 0, rfl⟩
          case round =>
            obtain ⟨k, hk, hgk, rfl, HB, q, rfl⟩ := hrel
            rcases Nat.eq_zero_or_pos k with h0 | h0
            · subst h0
              have hd : decide ((0 : Int) < ((0 : Nat) : Int)) = false := by simp
              have HI : Aside0 (Sort.ins (ltOf (cfOf l)) (i : Int) out = out.take 0 ++ (i : Int) :: out.drop 0) := ⟨by
                have h := Sort.ins_eq (lt := ltOf (cfOf l)) (x := (i : Int)) (A := []) (B := out) (fun y hy => HB.out y (by simpa using hy)) (fun y hy => by cases hy)
                simpa using h⟩
              clear HB
              go_wp2
              go_quiet (fail)
              go_wp2
              go_meet
              case rel => exact ⟨0, Nat.zero_le _, rfl, HI, ex_drewN _ _ _⟩
            · obtain ⟨t, rfl⟩ : ∃ t, k = t + 1 := ⟨k - 1, by omega⟩
              have ek : ((t + 1 : Nat) : Int) = (t : Int) + 1 := by omega
              rw [ek]
              obtain ⟨y0, hy⟩ : ∃ y, out[t]? = some y := ⟨_, List.getElem?_eq_getElem (by have := HML.out; omega)⟩
              obtain ⟨hy0, hy1⟩ := HIN.out y0 (List.mem_of_getElem? hy)
              obtain ⟨y, rfl⟩ := Int.eq_ofNat_of_zero_le hy0
              obtain ⟨a7, rfl, hyc⟩ := atN_int H7.out t hy
              obtain ⟨z, hz⟩ : ∃ z, l[y]? = some z := ⟨_, List.getElem?_eq_getElem (by omega)⟩
              obtain ⟨ad', A9', c9', e, -, -, -, -, -, -, z5, -⟩ := atN_Span (Kd.C_below HR.out B1.out) y hz
              cases e
              have hst := Tree.start_lt HX.out hz
              have ht1 : (t : Int) < (m : Int) := by omega
              have hyl : (y : Int) < (l.length : Int) := by omega
              by_cases hs : x.f5 < z.f5
              · have hs1 : decide (x.f5 < z.f5) = true := by simpa using hs
                have HB2 : Aside0 (∀ y ∈ out.drop t, ltOf (cfOf l) (i : Int) y = true) := ⟨by
                  intro u hu
                  have e : out.drop t = (y : Int) :: out.drop (t + 1) := by
                    rw [List.drop_eq_getElem_cons (by have := HML.out; omega)]
                    congr 1
                    exact (List.getElem?_eq_some_iff.1 hy).2
                  rw [e] at hu
                  rcases List.mem_cons.1 hu with rfl | hu
                  · rw [hst, hs1]
                  · exact HB.out u hu⟩
                clear hs hst hy hz ek HB
                go_wp2
                go_quiet (fail)
                go_wp2
                go_roundg t
                case measure => omega
                case rel => exact ⟨t, by omega, by omega, by go_num, HB2, _, rfl⟩
              · have hs1 : decide (x.f5 < z.f5) = false := by simpa using hs
                have HI : Aside0 (Sort.ins (ltOf (cfOf l)) (i : Int) out = out.take (t + 1) ++ (i : Int) :: out.drop (t + 1)) := ⟨by
                  have h := Sort.ins_eq (lt := ltOf (cfOf l)) (x := (i : Int)) (A := out.take (t + 1)) (B := out.drop (t + 1)) HB.out (fun u hu => by
                    rw [List.take_add_one, hy] at hu
                    simp at hu
                    rw [← hu, hst, hs1])
                  rwa [List.take_append_drop] at h⟩
                clear hs hst hy hz HB
                go_wp2
                go_quiet (fail)
                go_wp2
                go_meet
                case rel => exact ⟨t + 1, by omega, by rw [ek], HI, ex_drewN _ _ _⟩
        case rest =>
          obtain ⟨k, hk, rfl, HI, q, rfl⟩ := hcut
          have B2 := Aside0.mk (pw_below_drewN B1.out q)
          have H2 := Kd.R_drewN H1.out q
          clear H7 H1 B1 x5 hpc
          generalize wo.drewN q = wq at B2 H2 ⊢
          obtain ⟨inner, ho⟩ := Kd.R_own H2
          have HNEXT : Aside0 (([] ++ out.take k) ++ [(i : Int)] ++ out.drop k = Tree.refRow l p of (i + 1)) := ⟨by rw [HIT.out, HI.out]; simp⟩
          have hz := B2.out.size
          have hkm1 : (k : Int) ≤ (m : Int) := by omega
          have hmc1 : (m : Int) ≤ (c7 : Int) := by omega
          have hkc1 : (k : Int) ≤ (c7 : Int) := by omega
          rcases ho.2 with ⟨hv, h2⟩ | ⟨g, cap, cur, hv, hb, hg2, _⟩
          · injection hv with e1 e2 e3
            subst e1
            obtain rfl : out = [] := List.length_eq_zero_iff.1 (by rw [HML.out]; omega)
            obtain rfl : k = 0 := by omega
            obtain rfl : m = 0 := by omega
            obtain rfl : c7 = 0 := by omega
            have CT : Aside0 (∀ W, Below wq.heap.size wq W → Kd.C (Kd.int .i64) W none 0 ([] : List Int)) := ⟨fun W hW => Kd.C_nil _ _⟩
            have CD : Aside0 (∀ W, Below wq.heap.size wq W → Kd.C (Kd.int .i64) W none 0 ([] : List Int)) := ⟨fun W hW => Kd.C_nil _ _⟩
            have hB2 := Aside0.mk (Below.refl wq.heap.size wq)
            have hlk := Aside0.mk True.intro
            have HNEXT : Aside0 (([] ++ ([] : List Int)) ++ [(i : Int)] ++ ([] : List Int) = Tree.refRow l p of (i + 1)) := ⟨by rw [← HNEXT.out]; simp⟩
            clear H2 e2 e3 h2
            go_wp2
            go_region_law (first
              | (refine dup_step (w0 := wq) rfl (.const (.slice none 0 0)) (.tmp 47) rfl (.slice none 0 0) [] (([] : List Int)) none 0 0 (by simp [Act.eval, Act.put]) (by simp [Act.eval, Act.put]) wq.heap.size (Kd.R_nil _ _ _ _ _) (CT.out _ (by with_reducible first | exact below_drew hB2.out | exact below_drew (below_alloc hB2.out _))) (by with_reducible first | exact below_drew hB2.out | exact below_drew (below_alloc hB2.out _)) (by simp) (by simp) ?_; intro v1 w1 h1 hb1 hg1; have hc1 := below_app (Below.refl _ _) (Kd.R_nil (Kd.int .i64) 3 _ _ (fun _ => True)) hg1)
              | (refine dup_step (w0 := wq) rfl (.tmp 51) (.tmp 54) rfl v2 ([] ++ ([] : List Int) ++ [(i : Int)]) ([] : List Int) none 0 0 (by simp [Act.eval, Act.put]) (by simp [Act.eval, Act.put]) wq.heap.size h2 (CD.out _ hb2) hb2 hb2.size (by simp) ?_; intro v3 w3 h3 hb3 hg3)
              | (refine dup_step (w0 := wq) rfl (.tmp 48) (.tmp 50) rfl v1 ([] ++ ([] : List Int)) [(i : Int)] (some ⟨w1.heap.size, 0, none⟩) 1 1 (by simp [Act.eval, Act.put]) (by simp [Act.eval, Act.put]) wq.heap.size (by with_reducible first | exact h1 | exact RI_al h1 _) (by with_reducible first | exact one_C _ _ | exact Kd.C_below (Kd.C_drew (one_C _ _)) hc1) (by with_reducible first | exact hb1 | exact below_alloc hb1 _) (by with_reducible first | exact hb1.size | exact (below_alloc hb1 _).size) (by simp) ?_; intro v2 w2 h2 hb2 hg2)
              | (refine dup_step (w0 := wq) rfl (.tmp 48) (.tmp 50) rfl v1 ([] ++ ([] : List Int)) [(i : Int)] (some ⟨wq.heap.size, 0, none⟩) 1 1 (by simp [Act.eval, Act.put]) (by simp [Act.eval, Act.put]) wq.heap.size (by with_reducible first | exact h1 | exact RI_al h1 _) (by with_reducible first | exact one_C _ _ | exact Kd.C_below (Kd.C_drew (one_C _ _)) hc1) (by with_reducible first | exact hb1 | exact below_alloc hb1 _) (by with_reducible first | exact hb1.size | exact (below_alloc hb1 _).size) (by simp) ?_; intro v2 w2 h2 hb2 hg2))
            all_goals
              (rw [HNEXT.out] at h3
               clear h1 h2 hb1 hb2 hg1 hg2 hg3 hc1 CT CD HNEXT hlk hB2
               go_wp2
               go_roundg (l.length - (i + 1))
               case measure => omega
               case rel => exact ⟨i + 1, _, by omega, by omega, by go_num, rfl, ⟨Kd.R_lower h3 hz⟩, ⟨below_then B2.out hz hb3⟩⟩)
          · injection hv with e1 e2 e3
            subst e1
            have CC : ∀ W, Below wq.heap.size wq W → Kd.C (Kd.int .i64) W (some ⟨g, 0, none⟩) m out := fun W hW => by
              obtain ⟨A, c, e, -, h⟩ := R_readsN (n := m) (Kd.R_below H2 hW) HML.out
              injection e with e1 e2 e3
              rw [← e1] at h
              exact h
            have CT : Aside0 (∀ W, Below wq.heap.size wq W → Kd.C (Kd.int .i64) W (some ⟨g, 0, none⟩) k (out.take k)) := ⟨fun W hW => by
              have h := Kd.C_take (m := k) (k := Kd.int .i64) (xs := out) (by rw [HML.out]; exact CC W hW) (by rw [HML.out]; exact hk)
              rwa [List.length_take, HML.out, Nat.min_eq_left hk] at h⟩
            have CD : Aside0 (∀ W, Below wq.heap.size wq W → Kd.C (Kd.int .i64) W (if c7 = k then some ⟨g, 0, none⟩ else some ⟨g, k, none⟩) (m - k) (out.drop k)) := ⟨fun W hW => by
              have h := Kd.C_drop (m := k) (c := c7) (k := Kd.int .i64) (xs := out) (by rw [HML.out]; exact CC W hW) (by rw [HML.out]; exact hk) (by rw [HML.out]; exact hc7)
              rw [List.length_drop, HML.out] at h
              have e : ((some (⟨g, 0, none⟩ : Addr)).map (·.add (k * (Kd.int .i64).sz))) = some ⟨g, k, none⟩ := by
                show some ((⟨g, 0, none⟩ : Addr).add (k * 1)) = _
                rw [add_plain, Nat.mul_one]
              rwa [e] at h⟩
            have hB2 := Aside0.mk (Below.refl wq.heap.size wq)
            have hlk : Aside0 ((out.take k).length = k) := ⟨by rw [List.length_take, HML.out, Nat.min_eq_left hk]⟩
            clear CC H2 e2 e3 hb hg2
            go_wp2
            go_region_law (first
              | (refine dup_step (w0 := wq) rfl (.const (.slice none 0 0)) (.tmp 47) rfl (.slice none 0 0) [] (out.take k) (some ⟨g, 0, none⟩) k c7 (by simp [Act.eval, Act.put]) (by simp [Act.eval, Act.put]) wq.heap.size (Kd.R_nil _ _ _ _ _) (CT.out _ (by with_reducible first | exact below_drew hB2.out | exact below_drew (below_alloc hB2.out _))) (by with_reducible first | exact below_drew hB2.out | exact below_drew (below_alloc hB2.out _)) (by simp) (by simp; omega) ?_; intro v1 w1 h1 hb1 hg1; have hc1 := below_app (Below.refl _ _) (Kd.R_nil (Kd.int .i64) 3 _ _ (fun _ => True)) hg1)
              | (refine dup_step (w0 := wq) rfl (.tmp 51) (.tmp 54) rfl v2 ([] ++ out.take k ++ [(i : Int)]) (out.drop k) (if c7 = k then some ⟨g, 0, none⟩ else some ⟨g, k, none⟩) (m - k) (c7 - k) (by simp [Act.eval, Act.put]) (by simp [Act.eval, Act.put]) wq.heap.size h2 (CD.out _ hb2) hb2 hb2.size (by rw [List.nil_append, List.length_append, hlk.out, List.length_singleton]; omega) ?_; intro v3 w3 h3 hb3 hg3)
              | (refine dup_step (w0 := wq) rfl (.tmp 48) (.tmp 50) rfl v1 ([] ++ out.take k) [(i : Int)] (some ⟨w1.heap.size, 0, none⟩) 1 1 (by simp [Act.eval, Act.put]) (by simp [Act.eval, Act.put]) wq.heap.size (by with_reducible first | exact h1 | exact RI_al h1 _) (by with_reducible first | exact one_C _ _ | exact Kd.C_below (Kd.C_drew (one_C _ _)) hc1) (by with_reducible first | exact hb1 | exact below_alloc hb1 _) (by with_reducible first | exact hb1.size | exact (below_alloc hb1 _).size) (by rw [List.nil_append, hlk.out]; omega) ?_; intro v2 w2 h2 hb2 hg2)
              | (refine dup_step (w0 := wq) rfl (.tmp 48) (.tmp 50) rfl v1 ([] ++ out.take k) [(i : Int)] (some ⟨wq.heap.size, 0, none⟩) 1 1 (by simp [Act.eval, Act.put]) (by simp [Act.eval, Act.put]) wq.heap.size (by with_reducible first | exact h1 | exact RI_al h1 _) (by with_reducible first | exact one_C _ _ | exact Kd.C_below (Kd.C_drew (one_C _ _)) hc1) (by with_reducible first | exact hb1 | exact below_alloc hb1 _) (by with_reducible first | exact hb1.size | exact (below_alloc hb1 _).size) (by rw [List.nil_append, hlk.out]; omega) ?_; intro v2 w2 h2 hb2 hg2))
            · rw [HNEXT.out] at h3
              clear h1 h2 hb1 hb2 hg1 hg2 hg3 hc1 CT CD HNEXT hlk hB2
              go_wp2
              all_goals
                go_roundg (l.length - (i + 1))
                case measure => omega
                case rel => exact ⟨i + 1, _, by omega, by omega, by go_num, rfl, ⟨Kd.R_lower h3 hz⟩, ⟨below_then B2.out hz hb3⟩⟩
            · rw [HNEXT.out] at h3
              clear h1 h2 hb1 hb2 hg1 hg2 hg3 hc1 CT CD HNEXT hlk hB2
              go_wp2
              all_goals
                go_roundg (l.length - (i + 1))
                case measure => omega
                case rel => exact ⟨i + 1, _, by omega, by omega, by go_num, rfl, ⟨Kd.R_lower h3 hz⟩, ⟨below_then B2.out hz hb3⟩⟩
      · have hd0 : (pi != of) = true := by simpa using hof
        have H2 : Aside0 (RI wo w.heap.size s7 (Tree.refRow l p of (i + 1))) := ⟨by rw [Tree.refRow_miss (by rw [hpg]; exact hof)]; exact H1.out⟩
        clear hof hpg hpi hx H1
        go_wp2
        go_roundg (l.length - (i + 1))
        case measure => omega
        case rel => exact ⟨i + 1, _, by omega, by omega, by go_num, rfl, H2, B1⟩
    · obtain rfl : i = l.length := by omega
      have hd : decide ((l.length : Int) < (l.length : Int)) = false := by simp
      go_wp2
      go_ret
      exact ⟨_, rfl, H1.out, B1.out⟩
end Go.Proofs.Ytbfapgagmbiiaaa
