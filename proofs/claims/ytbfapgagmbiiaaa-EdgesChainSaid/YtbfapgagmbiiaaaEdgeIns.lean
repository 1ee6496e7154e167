/- slices.Insert of one edge into a row of edges of the call's own. -/
import Derived.Test.YtbfapgagmbiiaaaEdgeIdx
import Derived.Test.YtbfapgagmbiiaaaCopyK
import Derived.Lib.Overlaps
import Derived.Laws.Externs
import Derived.IntWalk
namespace Go.Proofs.Ytbfapgagmbiiaaa
open Gl Go.RowKit Go.Proofs.YtbfapgagmbiiaaaW.PrintWords
set_option linter.unusedVariables false
set_option linter.unusedSimpArgs false

theorem lt_of_heap' {W : World} {b : Nat} {o : Obj} (h : W.heap[b]? = some o) : b < W.heap.size := by
  rcases Nat.lt_or_ge b W.heap.size with h1 | h1
  · exact h1
  · rw [Array.getElem?_eq_none h1] at h
    cases h
abbrev RE (W : World) (base : Nat) (v : Value) (k : List SEdge) : Prop := Kd.R kEdge 36 W base (fun _ => True) v k
theorem one_edge {W : World} {vb : Nat} {key : SEdge} (h : W.heap[vb]? = some (.cells (edCells key) 36 (0, 0))) : Kd.C kEdge W (some ⟨vb, 0, none⟩) 1 [key] := by
  refine ⟨rfl, by omega, fun _ => ⟨_, rfl, fun j y hy => ?_⟩⟩
  rcases j with _ | j
  · injection hy with hy
    subst hy
    refine ⟨[.string key.f0, .string key.f1, .int .i64 key.f2, .int .i64 key.f3], rfl, kEdge_mk W key, fun e u hu => ?_⟩
    rw [add_plain, cell_of_row _ _ _ _ _ _ h]
    rcases e with _ | _ | _ | _ | e
    · exact hu
    · exact hu
    · exact hu
    · exact hu
    · simp at hu
  · simp at hy
def InsEnd (W : World) (base : Nat) (v : Value) (ys : List SEdge) (e : Ending) (w' : World) : Prop := ∃ v', e = .returned v' ∧ RE w' base v' ys ∧ W.grownBy w' v.ownBlock ∧ (v'.ownBlock = v.ownBlock ∨ ∃ b, v'.ownBlock = some b ∧ W.heap.size ≤ b)
set_option maxHeartbeats 2000000 in
theorem Insert_end.calls (W : World) (base : Nat) (v : Value) (xs : List SEdge) (key : SEdge) (vb : Nat) (HO : RE W base v xs) (hvb : W.heap[vb]? = some (.cells (edCells key) 36 (0, 0))) (hn : xs.length ≤ 100000) (hbase : base ≤ W.heap.size) :
    Calls Try.prog 38 #[v, .int .i64 xs.length, .slice (some ⟨vb, 0, none⟩) 1 1] W (InsEnd W base v (xs ++ [key])) := by
  obtain ⟨A, c, rfl, hc, -⟩ := R_readsN (n := xs.length) HO rfl
  have HO' := Aside0.mk HO
  have hc1 : (xs.length : Int) ≤ (c : Int) := by omega
  have HK := one_edge hvb
  clear HO hvb
  by_cases hcx : c = xs.length
  · subst hcx
    go_enter Try.func38, Try.ntmps38
    go_wp2_with (at_builtin; refine Kd.R_append_rows kEdge (w0 := W) base rfl (.tmp 23) (.tmp 24) 34 36 _ 48 rfl Try.underlying34 info36 rfl (by decide) (by decide) (.slice A xs.length xs.length) xs [key] _ 1 1 (fun _ => True) (fun _ => False) rfl rfl HO'.out HK (fun x cs h => (kEdge_open h) ▸ kEdge_mkM W base _ x) (fun _ h => h.elim) (fun _ _ => trivial) (Below.refl _ _) hbase (by omega) ?_; intro v1 w1 h1 _ hg1 hat1)
    go_ret
    exact ⟨v1, rfl, h1, hg1, hat1⟩
  · go_enter Try.func38, Try.ntmps38
    go_wp2_with (at_builtin; refine Kd.R_append_rows kEdge (w0 := W) base rfl (.tmp 23) (.tmp 24) 34 36 _ 48 rfl Try.underlying34 info36 rfl (by decide) (by decide) (.slice A xs.length c) xs [key] _ 1 1 (fun _ => True) (fun _ => False) rfl rfl HO'.out HK (fun x cs h => (kEdge_open h) ▸ kEdge_mkM W base _ x) (fun _ h => h.elim) (fun _ _ => trivial) (Below.refl _ _) hbase (by omega) ?_; intro v1 w1 h1 _ hg1 hat1)
    go_ret
    exact ⟨v1, rfl, h1, hg1, hat1⟩
/-- What an own row of edges is: nil, or a block known whole. -/
theorem RE_cases {W : World} {base : Nat} {v : Value} {xs : List SEdge} (h : RE W base v xs) : (v = .slice none 0 0 ∧ xs = []) ∨ ∃ g cap cur inner, v = .slice (some ⟨g, 0, none⟩) xs.length cap ∧ base ≤ g ∧ W.heap[g]? = some (.cells cur 36 (0, 0)) ∧ xs.length ≤ cap ∧ cap ≤ maxLen ∧ cur.size = cap * 4 ∧ cur.toList.take (xs.length * 4) = inner ∧
    Reps (fun x cs => cs = [.string x.f0, .string x.f1, .int .i64 x.f2, .int .i64 x.f3]) 4 xs inner := by
  obtain ⟨h0, inner, ⟨hl, ho⟩, hr⟩ := h
  rcases ho with ⟨h1, h2⟩ | ⟨g, cap, cur, h1, h2, h3, h4, h5, h6, h7⟩
  · exact .inl ⟨h1, List.length_eq_zero_iff.1 h2⟩
  · exact .inr ⟨g, cap, cur, inner, h1, h2, h3, h4, h5, h6, h7, hr.imp_ (fun x cs hx => kEdge_openM hx)⟩
theorem RE_mk {W : World} {base g cap : Nat} {cur : Array Value} {xs : List SEdge} {n : Nat} (hb : base ≤ g) (hg : W.heap[g]? = some (.cells cur 36 (0, 0))) (hn : xs.length = n) (hc : n ≤ cap) (hm : cap ≤ maxLen) (hs : cur.size = cap * 4)
    (hr : Reps (fun x cs => cs = [.string x.f0, .string x.f1, .int .i64 x.f2, .int .i64 x.f3]) 4 xs (cur.toList.take (n * 4))) : RE W base (.slice (some ⟨g, 0, none⟩) n cap) xs := by
  subst hn
  refine ⟨fun _ _ => trivial, cur.toList.take (xs.length * 4), ⟨?_, .inr ⟨g, cap, cur, rfl, hb, hg, hc, hm, hs, rfl⟩⟩, hr.imp_ (fun x cs hx => hx ▸ kEdge_mkM W base _ x)⟩
  rw [List.length_take, show cur.toList.length = cap * 4 by rw [Array.length_toList, hs]]
  exact Nat.min_eq_left (Nat.mul_le_mul_right _ hc)
abbrev RepE (xs : List SEdge) (cs : List Value) : Prop := Reps (fun x cs => cs = [.string x.f0, .string x.f1, .int .i64 x.f2, .int .i64 x.f3]) 4 xs cs
theorem RepE.one {xs : List SEdge} {cs : List Value} (h : RepE xs cs) : ∀ u ∈ cs, u.oneCell' = true := Kd.reps_one h (by omega) (fun x c hc u hu => by subst hc; simp at hu; rcases hu with rfl | rfl | rfl | rfl <;> rfl)
theorem RepE.ins {xs : List SEdge} {cs : List Value} (h : RepE xs cs) (key : SEdge) {i : Nat} (hi : i ≤ xs.length) : RepE (xs.take i ++ key :: xs.drop i) (cs.take (i * 4) ++ [.string key.f0, .string key.f1, .int .i64 key.f2, .int .i64 key.f3] ++ cs.drop (i * 4)) := by
  have h1 := Kd.reps_take h hi
  have h2 : RepE [key] [.string key.f0, .string key.f1, .int .i64 key.f2, .int .i64 key.f3] := Reps.none _ _ |>.snoc (p := key) (c := [.string key.f0, .string key.f1, .int .i64 key.f2, .int .i64 key.f3]) rfl rfl
  have h3 := Kd.reps_drop (m := i) h
  have h4 := Kd.reps_append (Kd.reps_append h1 h2) h3
  rw [List.append_assoc, List.singleton_append] at h4
  exact h4
/-- Shift up from i on, then lay the key at i. -/
theorem splice_room {L K C : List Value} {n i : Nat} (hC : L.take (n * 4) = C) (hL : (n + 1) * 4 ≤ L.length) (hi : i < n) (hK : K.length = 4) : (splice (splice L ((i + 1) * 4) (C.drop (i * 4))) (i * 4) K).take ((n + 1) * 4) = C.take (i * 4) ++ K ++ C.drop (i * 4) := by
  have hCl : C.length = n * 4 := by rw [← hC, List.length_take]; omega
  have hLC : L = C ++ L.drop (n * 4) := by rw [← hC, List.take_append_drop]
  have hd : (C.drop (i * 4)).length = (n - i) * 4 := by rw [List.length_drop, hCl]; omega
  apply List.ext_getElem?
  intro j
  unfold splice
  simp only [List.getElem?_take, List.getElem?_append, List.getElem?_drop, List.length_take, List.length_append, List.length_drop, hK, hCl]
  have hLl : L.length = n * 4 + (L.length - n * 4) := by omega
  have hget : ∀ k, k < n * 4 → L[k]? = C[k]? := fun k hk => by rw [← hC, List.getElem?_take, if_pos hk]
  repeat' split
  all_goals first
    | rfl
    | omega
    | (rw [hget _ (by omega)])
    | (rw [List.getElem?_eq_none (by omega)])
    | (congr 1; omega)
    | skip
set_option maxHeartbeats 4000000 in
set_option maxRecDepth 100000 in
/-- There is room: in place. -/
theorem Insert_room.calls (W : World) (base g cap : Nat) (cur : Array Value) (xs : List SEdge) (key : SEdge) (vb i : Nat) (inner : List Value) (hbg : base ≤ g) (hg : W.heap[g]? = some (.cells cur 36 (0, 0))) (hcs : cur.size = cap * 4) (hcm : cap ≤ maxLen)
    (hin : cur.toList.take (xs.length * 4) = inner) (hre : RepE xs inner) (hvb : W.heap[vb]? = some (.cells (edCells key) 36 (0, 0))) (hne : g ≠ vb) (hi : i < xs.length) (hroom : xs.length + 1 ≤ cap) :
    Calls Try.prog 38 #[.slice (some ⟨g, 0, none⟩) xs.length cap, .int .i64 i, .slice (some ⟨vb, 0, none⟩) 1 1] W (InsEnd W base (.slice (some ⟨g, 0, none⟩) xs.length cap) (xs.take i ++ key :: xs.drop i)) := by
  have hcapm : cap ≤ 9223372036854775807 := hcm
  have hvs : W.shape? vb = some (36, 4) := by simp [World.shape?, hvb, edCells]
  have hgs : W.shape? g = some (36, cap * 4) := by simp [World.shape?, hg, hcs]
  have hov : ∀ lb cb, (callFunc 47 #[.slice (some ⟨vb, 0, none⟩) 1 1, .slice (some ⟨g, (i + 1) * 4, none⟩) lb cb]).run Try.prog W = .ok (.value (.bool false)) W := fun lb cb => by
    rw [run_callFunc_extern (fn := Try.f47) (by kernel_rfl) (by kernel_rfl) (by kernel_rfl) (by kernel_rfl) (e := Extern.SlicesOverlaps.overlaps #[34, 34] #[4]) (by kernel_rfl),
      Lib.run_overlaps_apart W 34 4 36 Try.underlying34 4 (fun w => by kernel_rfl) ⟨vb, 0, none⟩ ⟨g, (i + 1) * 4, none⟩ 1 1 lb cb (fun e => hne e.symm) 36 36 4 (cap * 4) hvs hgs (by omega) (by simp [World.frozen?, hvb]) (by simp [World.frozen?, hvb])]
    rfl
  have hxl : xs.length ≤ 9223372036854775806 := by omega
  have hie : ((i : Int) == (xs.length : Int)) = false := by simp; omega
  have hi1 : (i : Int) < (xs.length : Int) := by omega
  have hr1 : (xs.length : Int) + 1 ≤ (cap : Int) := by omega
  have hb2 : ¬ cap = i := by omega
  have hb3 : ¬ cap = i + 1 := by omega
  have hc1 : (cap : Int) ≤ 9223372036854775807 := by omega
  have HG := Aside0.mk hg
  have HVB := Aside0.mk hvb
  have HIN := Aside0.mk hin
  have HRE := Aside0.mk hre
  have HCS := Aside0.mk hcs
  generalize hnl : xs.length = n at *
  have HNL := Aside0.mk hnl
  clear hg hvb hin hre hcs hnl hvs hgs
  go_enter Try.func38, Try.ntmps38
  go_upto_region 15 with (simp only [hov])
  clear hov
  have hil : inner.length = n * 4 := by rw [HRE.out.1, HNL.out]
  have hlen : (inner.drop (i * 4)).length = (n - i) * 4 := by rw [List.length_drop, hil]; omega
  have hmin1 : Nat.min (n + 1 - i) (n - i) = n - i := Nat.min_eq_right (by omega)
  have hmin2 : Nat.min 1 (n + 1 - i) = 1 := Nat.min_eq_left (by omega)
  have hget : ∀ (j : Nat) v, (inner.drop (i * 4))[j]? = some v → cur[i * 4 + j]? = some v := fun j v hj => by
    rw [List.getElem?_drop, ← HIN.out, List.getElem?_take] at hj
    split at hj
    · rw [← Array.getElem?_toList]; exact hj
    · cases hj
  have HC1 : Aside0 ((inner.drop (i * 4)).length = Nat.min (n + 1 - i) (n - i) * 4) := ⟨by rw [hlen, hmin1]⟩
  have HC2 : Aside0 (∀ (j : Nat) v, (inner.drop (i * 4))[j]? = some v → W.cell? ((⟨g, i * 4, none⟩ : Addr).add j) = some v) := ⟨fun j v hj => by
    rw [Addr.add_lit, cell_of_row _ _ _ _ _ _ HG.out]; exact hget j v hj⟩
  have HC3 : Aside0 ((i + 1) * 4 + (inner.drop (i * 4)).length ≤ cur.size) := ⟨by rw [hlen, HCS.out]; omega⟩
  have HC4 : Aside0 (∀ v ∈ inner.drop (i * 4), v.oneCell' = true) := ⟨fun v hv => HRE.out.one v (List.mem_of_mem_drop hv)⟩
  have HFIN : Aside0 ((splice (splice cur.toList ((i + 1) * 4) (inner.drop (i * 4))) (i * 4) [.string key.f0, .string key.f1, .int .i64 key.f2, .int .i64 key.f3]).take ((n + 1) * 4) = inner.take (i * 4) ++ [.string key.f0, .string key.f1, .int .i64 key.f2, .int .i64 key.f3] ++ inner.drop (i * 4)) := ⟨splice_room HIN.out (by rw [Array.length_toList, HCS.out]; omega) (by omega) rfl⟩
  have HSL : Aside0 ((splice cur.toList ((i + 1) * 4) (inner.drop (i * 4))).length = cap * 4) := ⟨by rw [length_splice _ _ _ (by rw [Array.length_toList]; exact HC3.out), Array.length_toList, HCS.out]⟩
  have HM2 := Aside0.mk hmin2
  clear hil hlen hmin1 hmin2 hget
  generalize hX : inner.drop (i * 4) = X at HC1 HC2 HC3 HC4 HFIN HSL
  have HX := Aside0.mk hX
  clear hX
  have hb5 : (i : Int) ≤ (n : Int) + 1 := by omega
  have hb6 : (i : Int) + 1 ≤ (n : Int) + 1 := by omega
  have hb7 : (0 : Int) ≤ (i : Int) + 1 := by omega
  have hw1 : IntKind.i64.wrap ((i : Int) + 1) = (i : Int) + 1 := IntWalk.i64_in _ (by omega)
  have htn : ((i : Int) + 1).toNat = i + 1 := by clear hw1; omega
  go_region_law (first | (refine step_copy_k rfl (.tmp 73) (.tmp 76) 34 34 rfl 36 4 Try.underlying34 (by kernel_rfl) (some ⟨g, (i + 1) * 4, none⟩) (some ⟨g, i * 4, none⟩) (n - i) (cap - (i + 1)) (n + 1 - i) (cap - i) (by simp [Act.eval, Act.put]) (by simp [Act.eval, Act.put]) g ((i + 1) * 4) cur 36 HG.out X HC1.out (fun _ => ⟨rfl, _, rfl, HC2.out⟩) HC3.out HC4.out ?_; intro w2 HG2 hgr2))
  all_goals
    clear hw1 htn
    have HV2 : Aside0 (∀ (j : Nat) v, ([.string key.f0, .string key.f1, .int .i64 key.f2, .int .i64 key.f3] : List Value)[j]? = some v → w2.cell? ((⟨vb, 0, none⟩ : Addr).add j) = some v) := ⟨fun j v hj => by
      have h := hgr2.block vb (by have := lt_of_heap' HVB.out; simpa using this) (fun e => hne (by injection e with e; exact e.symm))
      have h2 : w2.heap[vb]? = some (.cells (edCells key) 36 (0, 0)) := by rw [h]; exact HVB.out
      rw [add_plain, cell_of_row _ _ _ _ _ _ h2]
      rcases j with _ | _ | _ | _ | j
      · exact hj
      · exact hj
      · exact hj
      · exact hj
      · simp at hj⟩
    have HG3 := Aside0.mk hgr2
    clear hgr2 HC2
    generalize hkc : ([.string key.f0, .string key.f1, .int .i64 key.f2, .int .i64 key.f3] : List Value) = KC at HV2 HFIN
    have HKC := Aside0.mk hkc
    have HK4 : Aside0 (KC.length = Nat.min 1 (n + 1 - i) * 4) := ⟨by rw [← hkc, HM2.out]; rfl⟩
    have HK1 : Aside0 (∀ v ∈ KC, v.oneCell' = true) := ⟨by rw [← hkc]; intro q hq; simp at hq; rcases hq with rfl | rfl | rfl | rfl <;> rfl⟩
    have HK5 : Aside0 (i * 4 + KC.length ≤ (splice cur.toList ((i + 1) * 4) X).toArray.size) := ⟨by rw [← hkc]; simp only [List.size_toArray, HSL.out, List.length_cons, List.length_nil]; omega⟩
    clear hkc
    go_wp2_with (with_reducible refine wpList_copy_k rfl (.tmp 80) (.tmp 81) 34 34 rfl 36 4 Try.underlying34 (by kernel_rfl) (some ⟨g, i * 4, none⟩) (some ⟨vb, 0, none⟩) (n + 1 - i) (cap - i) 1 1 rfl rfl g (i * 4) (splice cur.toList ((i + 1) * 4) X).toArray 36 HG2.out KC HK4.out (fun _ => ⟨rfl, _, rfl, HV2.out⟩) HK5.out HK1.out ?_; intro w3 HG4 hgr4)
    go_ret
    refine ⟨_, rfl, ?_, ?_, .inl rfl⟩
    · refine RE_mk hbg HG4.out ?_ hroom hcm ?_ ?_
      · rw [List.length_append, List.length_cons, List.length_take, List.length_drop, HNL.out]; omega
      · rw [List.size_toArray, length_splice _ _ _ HK5.out]; exact HSL.out
      · have h := HRE.out.ins key (i := i) (by rw [HNL.out]; omega)
        rw [HKC.out, HX.out, ← HFIN.out] at h
        exact h
    · exact World.grownBy.trans (World.grownBy.trans (show W.grownBy W.drew (some g) from ⟨rfl, rfl, rfl, Nat.le_refl _, fun _ _ _ => rfl⟩) HG3.out) hgr4
/-- Lay the key at i, then what comes behind it. -/
theorem splice_grow {L K X : List Value} {n i : Nat} (hL : (n + 1) * 4 ≤ L.length) (hi : i < n) (hK : K.length = 4) (hX : X.length = (n - i) * 4) : (splice (splice L (i * 4) K) ((i + 1) * 4) X).take ((n + 1) * 4) = L.take (i * 4) ++ K ++ X := by
  have e1 : splice L (i * 4) K = (L.take (i * 4) ++ K) ++ L.drop (i * 4 + K.length) := by unfold splice; rw [List.append_assoc]
  have l1 : (L.take (i * 4) ++ K).length = (i + 1) * 4 := by rw [List.length_append, List.length_take, hK]; omega
  have e2 : (splice L (i * 4) K).take ((i + 1) * 4) = L.take (i * 4) ++ K := by rw [e1, ← l1, List.take_left]
  unfold splice at e2 ⊢
  rw [e2, ← List.append_assoc]
  have l2 : (L.take (i * 4) ++ K ++ X).length = (n + 1) * 4 := by rw [List.length_append, l1, hX]; omega
  rw [← l2, List.take_left]
set_option maxHeartbeats 4000000 in
set_option maxRecDepth 100000 in
/-- There is no room: a new row. -/
theorem Insert_grow.calls (W : World) (base g cap : Nat) (cur : Array Value) (xs : List SEdge) (key : SEdge) (vb i : Nat) (inner : List Value) (hbg : base ≤ g) (hg : W.heap[g]? = some (.cells cur 36 (0, 0))) (hcs : cur.size = cap * 4) (hcm : cap ≤ maxLen)
    (hin : cur.toList.take (xs.length * 4) = inner) (hre : RepE xs inner) (hvb : W.heap[vb]? = some (.cells (edCells key) 36 (0, 0))) (hne : g ≠ vb) (hi : i < xs.length) (hnc : xs.length ≤ cap) (hroom : cap < xs.length + 1) (hn : xs.length ≤ 100000) (hbase : base ≤ W.heap.size) :
    Calls Try.prog 38 #[.slice (some ⟨g, 0, none⟩) xs.length cap, .int .i64 i, .slice (some ⟨vb, 0, none⟩) 1 1] W (InsEnd W base (.slice (some ⟨g, 0, none⟩) xs.length cap) (xs.take i ++ key :: xs.drop i)) := by
  obtain ⟨i0, hi0, hz0, hz1, hz2⟩ := info_parts info36
  have hie : ((i : Int) == (xs.length : Int)) = false := by simp; omega
  have hi1 : (i : Int) < (xs.length : Int) := by omega
  have hr1 : (cap : Int) < (xs.length : Int) + 1 := by omega
  have hr2 : (xs.length : Int) ≤ (cap : Int) := by omega
  have hb2 : ¬ cap = i := by omega
  have hc1 : (cap : Int) ≤ 100000 := by omega
  have HG := Aside0.mk hg
  have HVB := Aside0.mk hvb
  have HIN := Aside0.mk hin
  have HRE := Aside0.mk hre
  generalize hnl : xs.length = n at *
  have HNL := Aside0.mk hnl
  have hil : inner.length = n * 4 := by rw [HRE.out.1, HNL.out]
  have hcells : ∀ (j : Nat) u, inner[j]? = some u → W.cell? ⟨g, j, none⟩ = some u := fun j u hj => by
    rw [cell_of_row _ _ _ _ _ _ HG.out, ← Array.getElem?_toList]
    rw [← HIN.out, List.getElem?_take] at hj
    split at hj
    · exact hj
    · cases hj
  obtain ⟨c2, w2, hrun, hown, hgr⟩ := run_zeros_grow (P := Try.prog) W base 34 3 34 36 i0 _ 4 48 Try.underlying34 Try.underlying3 hi0 hz0 hz1 hz2 rfl (by omega) (by omega) ⟨g, 0, none⟩ i cap (inner.take (i * 4)) (by rw [List.length_take, hil]; omega)
    (fun j u hj => by
      rw [add_plain]
      rw [List.getElem?_take] at hj
      split at hj
      · exact hcells j u hj
      · cases hj) .i64 (n + 1 - i) (by omega) (by omega) (by omega) hbase
  rw [show i + (n + 1 - i) = n + 1 by omega] at hrun hown
  rw [show ((n + 1 - i : Nat) : Int) = (n : Int) + 1 - (i : Int) by omega] at hrun
  obtain ⟨hol, ho2⟩ := hown
  rcases ho2 with ⟨h, _⟩ | ⟨g2, cap2, cur2, e2, hbg2, hg2, hnc2, hcm2, hcs2, htk2⟩
  · cases h
  injection e2 with e2 e3 e4
  injection e2 with e2
  injection e2 with e2
  subst e4
  have HB2 : Aside0 (g2 = W.heap.size) := ⟨e2.symm⟩
  rw [e2] at hrun
  clear e2 e3
  have hlen : (inner.drop (i * 4)).length = (n - i) * 4 := by rw [List.length_drop, hil]; omega
  have hb3 : ¬ c2 = i := by omega
  have hb4 : ¬ c2 = i + 1 := by omega
  have hmin1 : Nat.min (n - i) (n - i) = n - i := Nat.min_self _
  have hmin2 : Nat.min 1 (n + 1 - i) = 1 := Nat.min_eq_left (by omega)
  have hc2 : (n : Int) + 1 ≤ (c2 : Int) := by omega
  have hc3 : (c2 : Int) ≤ 9223372036854775807 := by have : c2 ≤ 9223372036854775807 := hcm2; omega
  have HG2 := Aside0.mk hg2
  have HCS2 := Aside0.mk hcs2
  have HRUN := Aside0.mk hrun
  have HGR := Aside0.mk hgr
  have HV2 : Aside0 (∀ (j : Nat) v, ([.string key.f0, .string key.f1, .int .i64 key.f2, .int .i64 key.f3] : List Value)[j]? = some v → w2.cell? ((⟨vb, 0, none⟩ : Addr).add j) = some v) := ⟨fun j v hj => by
    have h := hgr.block vb (lt_of_heap' HVB.out) (fun e => by cases e)
    have h2 : w2.heap[vb]? = some (.cells (edCells key) 36 (0, 0)) := by rw [h]; exact HVB.out
    rw [add_plain, cell_of_row _ _ _ _ _ _ h2]
    rcases j with _ | _ | _ | _ | j
    · exact hj
    · exact hj
    · exact hj
    · exact hj
    · simp at hj⟩
  have HX2 : Aside0 (∀ (j : Nat) v, (inner.drop (i * 4))[j]? = some v → w2.cell? ((⟨g, i * 4, none⟩ : Addr).add j) = some v) := ⟨fun j v hj => by
    have h := hgr.block g (lt_of_heap' HG.out) (fun e => by cases e)
    rw [Addr.add_lit]
    have h2 : w2.cell? ⟨g, i * 4 + j, none⟩ = W.cell? ⟨g, i * 4 + j, none⟩ := by simp [World.cell?, h]
    rw [h2]
    exact hcells _ v (by rw [List.getElem?_drop] at hj; exact hj)⟩
  have HL2 : cur2.toList.length = c2 * 4 := by rw [Array.length_toList, HCS2.out]
  have hgg : g ≠ g2 := fun e => by have := lt_of_heap' HG.out; rw [e, HB2.out] at this; omega
  have HX4 : Aside0 (∀ v ∈ inner.drop (i * 4), v.oneCell' = true) := ⟨fun v hv => HRE.out.one v (List.mem_of_mem_drop hv)⟩
  have htk3 : cur2.toList.take (i * 4) = inner.take (i * 4) := by
    have h := congrArg (List.take (i * 4)) htk2
    rw [List.take_take, Nat.min_eq_left (by omega), List.take_append_of_le_length (by rw [List.length_take, hil]; omega), List.take_take, Nat.min_self] at h
    exact h
  have HFIN : Aside0 ((splice (splice cur2.toList (i * 4) [.string key.f0, .string key.f1, .int .i64 key.f2, .int .i64 key.f3]) ((i + 1) * 4) (inner.drop (i * 4))).take ((n + 1) * 4) = inner.take (i * 4) ++ [.string key.f0, .string key.f1, .int .i64 key.f2, .int .i64 key.f3] ++ inner.drop (i * 4)) := ⟨by
    rw [splice_grow (by rw [HL2]; omega) (by omega) rfl hlen, htk3]⟩
  have HSL : Aside0 ((splice cur2.toList (i * 4) [.string key.f0, .string key.f1, .int .i64 key.f2, .int .i64 key.f3]).length = c2 * 4) := ⟨by rw [length_splice _ _ _ (by rw [HL2]; simp only [List.length_cons, List.length_nil]; omega), HL2]⟩
  have HXL : Aside0 ((inner.drop (i * 4)).length = Nat.min (n - i) (n - i) * 4) := ⟨by rw [hlen, hmin1]⟩
  have HM2 := Aside0.mk hmin2
  clear hmin1 hmin2 hg hvb hin hre hnl hil hcells hrun hgr hol hg2 hcs2 htk2 htk3 hlen hi0 hz0 hz1 hz2 hcs hroom hnc
  generalize hX : inner.drop (i * 4) = X at HX2 HX4 HFIN HXL
  have HX := Aside0.mk hX
  clear hX
  generalize hkc : ([.string key.f0, .string key.f1, .int .i64 key.f2, .int .i64 key.f3] : List Value) = KC at HV2 HFIN HSL
  have HKC := Aside0.mk hkc
  have HK4 : Aside0 (KC.length = Nat.min 1 (n + 1 - i) * 4) := ⟨by rw [← hkc, HM2.out]; rfl⟩
  have HK1 : Aside0 (∀ v ∈ KC, v.oneCell' = true) := ⟨by rw [← hkc]; intro q hq; simp at hq; rcases hq with rfl | rfl | rfl | rfl <;> rfl⟩
  have HK5 : Aside0 (i * 4 + KC.length ≤ cur2.size) := ⟨by rw [← hkc, HCS2.out]; simp only [List.length_cons, List.length_nil]; omega⟩
  clear hkc
  go_enter Try.func38, Try.ntmps38
  go_upto_region 11 with (first | (at_builtin; refine Lib.wpList_append_run _ rfl (.tmp 34) (.tmp 39) 34 3 rfl _ _ rfl rfl _ _ HRUN.out ?_) | (with_reducible refine wpList_copy_k rfl (.tmp 43) (.tmp 44) 34 34 rfl 36 4 Try.underlying34 (by kernel_rfl) (some ⟨g2, i * 4, none⟩) (some ⟨vb, 0, none⟩) (n + 1 - i) (c2 - i) 1 1 rfl rfl g2 (i * 4) cur2 36 HG2.out KC HK4.out (fun _ => ⟨rfl, _, rfl, HV2.out⟩) HK5.out HK1.out ?_; intro w3 HG3 hgr3))
  clear HL2
  have HX3 : Aside0 (∀ (j : Nat) v, X[j]? = some v → w3.cell? ((⟨g, i * 4, none⟩ : Addr).add j) = some v) := ⟨fun j v hj => by
    have h := hgr3.block g (by have := lt_of_heap' HG.out; have := HGR.out.size; omega) (fun e => hgg (by injection e))
    have h2 := HX2.out j v hj
    rw [Addr.add_lit] at h2 ⊢
    rw [← h2]
    simp [World.cell?, h]⟩
  have HG3' := Aside0.mk hgr3
  have HX5 : Aside0 ((i + 1) * 4 + X.length ≤ (splice cur2.toList (i * 4) KC).toArray.size) := ⟨by
    have h : (splice cur2.toList (i * 4) KC).toArray.size = c2 * 4 := by rw [List.size_toArray]; exact HSL.out
    rw [h, HXL.out]
    have : Nat.min (n - i) (n - i) = n - i := Nat.min_self _
    rw [this]
    omega⟩
  clear hgr3
  (try simp only [Act.put, List.setIfInBounds_toArray, List.set_cons_zero, List.set_cons_succ])
  have hb5 : (i : Int) ≤ (n : Int) := by omega
  have hb6 : (i : Int) + 1 ≤ (n : Int) + 1 := by omega
  have hb7 : (0 : Int) ≤ (i : Int) + 1 := by omega
  have hw1 : IntKind.i64.wrap ((i : Int) + 1) = (i : Int) + 1 := IntWalk.i64_in _ (by omega)
  have htn : ((i : Int) + 1).toNat = i + 1 := by clear hw1; omega
  go_region_law (first | (refine step_copy_k rfl (.tmp 50) (.tmp 53) 34 34 rfl 36 4 Try.underlying34 (by kernel_rfl) (some ⟨g2, (i + 1) * 4, none⟩) (some ⟨g, i * 4, none⟩) (n - i) (c2 - (i + 1)) (n - i) (cap - i) (by simp [Act.eval, Act.put]) (by simp [Act.eval, Act.put]) g2 ((i + 1) * 4) (splice cur2.toList (i * 4) KC).toArray 36 HG3.out X HXL.out (fun _ => ⟨rfl, _, rfl, HX3.out⟩) HX5.out HX4.out ?_; intro w4 HG4 hgr4))
  all_goals
    clear hw1 htn
    go_wp2
    go_ret
    refine ⟨_, rfl, ?_, ?_, .inr ⟨g2, rfl, by rw [HB2.out]; exact Nat.le_refl _⟩⟩
    · refine RE_mk hbg2 HG4.out ?_ hnc2 hcm2 ?_ ?_
      · rw [List.length_append, List.length_cons, List.length_take, List.length_drop, HNL.out]; omega
      · rw [List.size_toArray, length_splice _ _ _ HX5.out]; exact HSL.out
      · have h := HRE.out.ins key (i := i) (by rw [HNL.out]; omega)
        rw [HKC.out, HX.out, ← HFIN.out] at h
        exact h
    · have G3 : W.grownBy w3 none := ⟨HG3'.out.os.trans HGR.out.os, HG3'.out.tape.trans HGR.out.tape, HG3'.out.output.trans HGR.out.output, Nat.le_trans HGR.out.size HG3'.out.size, fun k hk _ => by
        rw [HG3'.out.block k (by have := HGR.out.size; omega) (fun e => by injection e with e; rw [e, HB2.out] at hk; omega)]
        exact HGR.out.block k hk (fun e => by cases e)⟩
      exact ⟨hgr4.os.trans G3.os, hgr4.tape.trans G3.tape, hgr4.output.trans G3.output, Nat.le_trans G3.size hgr4.size, fun k hk _ => by
        have h := hgr4.block k (by have := G3.size; simp; omega) (fun e => by injection e with e; rw [e, HB2.out] at hk; omega)
        rw [h]
        exact G3.block k hk (fun e => by cases e)⟩
theorem Insert.calls (W : World) (base : Nat) (v : Value) (xs : List SEdge) (key : SEdge) (vb i : Nat) (HO : RE W base v xs) (hvb : W.heap[vb]? = some (.cells (edCells key) 36 (0, 0))) (hne : v.ownBlock ≠ some vb) (hi : i ≤ xs.length) (hn : xs.length ≤ 100000) (hbase : base ≤ W.heap.size) :
    Calls Try.prog 38 #[v, .int .i64 i, .slice (some ⟨vb, 0, none⟩) 1 1] W (InsEnd W base v (xs.take i ++ key :: xs.drop i)) := by
  by_cases hin : i = xs.length
  · subst hin
    have h := Insert_end.calls W base v xs key vb HO hvb hn hbase
    rw [List.take_length, List.drop_length]
    exact h
  · rcases RE_cases HO with ⟨rfl, rfl⟩ | ⟨g, cap, cur, inner, rfl, h1, h2, h3, h4, h5, h6, h7⟩
    · simp at hi; simp at hin; omega
    · have hgv : g ≠ vb := fun e => hne (by rw [e]; rfl)
      by_cases hroom : xs.length + 1 ≤ cap
      · exact Insert_room.calls W base g cap cur xs key vb i inner h1 h2 h5 h4 h6 h7 hvb hgv (by omega) hroom
      · exact Insert_grow.calls W base g cap cur xs key vb i inner h1 h2 h5 h4 h6 h7 hvb hgv (by omega) h3 (by omega) hn hbase
end Go.Proofs.Ytbfapgagmbiiaaa
