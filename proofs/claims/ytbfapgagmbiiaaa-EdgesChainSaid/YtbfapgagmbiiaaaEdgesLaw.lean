/- gleaninglaw11.EdgesChain answers true. -/
import Derived.Test.YtbfapgagmbiiaaaEdgeAlive
import Derived.Deep.RegionLaw
import Derived.Laws.BitsLemmas
import Derived.BigRegion
import Derived.IntWalk
namespace Go.Proofs.Ytbfapgagmbiiaaa
open Gl Go.RowKit Go.Proofs.YtbfapgagmbiiaaaW.PrintWords
set_option linter.unusedVariables false
set_option linter.unusedSimpArgs false

theorem i64_and3 (n : Int) : bits .and .i64 n 3 = n % 4 := by
  have h127 : (BitVec.ofInt 64 3).toNat = 2 ^ 2 - 1 := by decide
  have key : (BitVec.ofInt 64 n &&& BitVec.ofInt 64 3).toNat = (n % ((2 ^ 64 : Nat) : Int)).toNat % 2 ^ 2 := by
    rw [BitVec.toNat_and, BitVec.toNat_ofInt, h127, Nat.and_two_pow_sub_one_eq_mod]
  show IntKind.i64.wrap ((BitVec.ofInt 64 n &&& BitVec.ofInt 64 3).toNat : Nat) = n % 4
  rw [key, IntKind.wrap_i64]
  omega
def kOf (x : Int) : Nat := (x % 4).toNat
theorem kOf_lt (x : Int) : kOf x < 4 := by unfold kOf; omega
theorem kOf_and (x : Int) : bits .and .i64 x 3 = (kOf x : Int) := by rw [i64_and3]; unfold kOf; omega
/-- A table of four times four numbers. -/
def arr16 (f : Nat → Nat → Int) : Array Value := #[.int .i64 (f 0 0), .int .i64 (f 0 1), .int .i64 (f 0 2), .int .i64 (f 0 3), .int .i64 (f 1 0), .int .i64 (f 1 1), .int .i64 (f 1 2), .int .i64 (f 1 3), .int .i64 (f 2 0), .int .i64 (f 2 1), .int .i64 (f 2 2), .int .i64 (f 2 3), .int .i64 (f 3 0), .int .i64 (f 3 1), .int .i64 (f 3 2), .int .i64 (f 3 3)]
def ArrOk (W : World) (b : Nat) (f : Nat → Nat → Int) : Prop := W.heap[b]? = some (.cells (arr16 f) 27 (0, 0))
theorem ArrOk.cell {W : World} {b : Nat} {f : Nat → Nat → Int} (h : ArrOk W b f) {p k : Nat} (hp : p < 4) (hk : k < 4) : W.cell? ⟨b, p * 4 + k, none⟩ = some (.int .i64 (f p k)) ∧ W.frozen? ⟨b, p * 4 + k, none⟩ = false := by
  refine ⟨?_, by simp [World.frozen?, show W.heap[b]? = _ from h]⟩
  rw [cell_of_row _ _ _ _ _ _ h]
  rcases p with _ | _ | _ | _ | p <;> first | (exfalso; omega) | (rcases k with _ | _ | _ | _ | k <;> first | (exfalso; omega) | rfl)
theorem ArrOk.set {W : World} {b : Nat} {f : Nat → Nat → Int} (h : ArrOk W b f) {p k : Nat} (hp : p < 4) (hk : k < 4) (x : Int) : ArrOk (W.setCell ⟨b, p * 4 + k, none⟩ (.int .i64 x)) b (fun a c => if a = p ∧ c = k then x else f a c) := by
  have hh : W.heap[b]? = some (.cells (arr16 f) 27 (0, 0)) := h
  unfold ArrOk
  rw [setCell_eq_setRow W b (p * 4 + k) _ _ _ _ hh, setRow_heap _ _ _ _ _ _ hh]
  congr 2
  rcases p with _ | _ | _ | _ | p <;> first | (exfalso; omega) | (rcases k with _ | _ | _ | _ | k <;> first | (exfalso; omega) | rfl)
theorem ArrOk.other {W : World} {b g j : Nat} {f : Nat → Nat → Int} (h : ArrOk W b f) (hne : g ≠ b) (v : Value) : ArrOk (W.setCell ⟨g, j, none⟩ v) b f := by
  unfold ArrOk
  rw [Below.heap_setCell _ _ _ _ (fun e => hne e.symm)]
  exact h
theorem nm_cut {k : Nat} (hk : k < 4) : (⟨#[97, 98, 99, 100]⟩ : ByteArray).extract k (k + 1) = nm k := by
  rcases k with _ | _ | _ | _ | k
  · decide +kernel
  · decide +kernel
  · decide +kernel
  · decide +kernel
  · omega
/-- append(v, x) as a step of a region that draws: x lies in a block known whole. -/
theorem app_step {α : Type} (d : Kd α) {ops : Array Oper} {o : Oper} {a : Act} {Kc : Act → World → Prop} {Q : Exit → Act → World → Prop} {W : World} (hw : Region.wanted o (yielded ops a.tmps) = true) (s x : Operand) (t e : TypeId) (z : Value) (bytes : Nat)
    (ho : o.op = .call { callee := .builtin .append, args := #[s, x], argTypes := #[t, t] }) (ht : Try.prog.underlying t = some (.slice e)) (hinfo : (Try.prog.info? e).map (fun i => (i.zero, i.size, i.bytes)) = some (some z, d.sz, bytes)) (hz : z.cells.size = d.sz) (hs0 : 0 < d.sz) (hb0 : 0 < bytes)
    (v : Value) (xs : List α) (p : α) (cs : List Value) (b : Nat) (hs : a.eval s = v) (hx : a.eval x = .slice (some ⟨b, 0, none⟩) 1 1) (base : Nat) (hM : ∀ W, d.M W base (fun _ => False) p cs) (hblk : W.heap[b]? = some (.cells cs.toArray e (0, 0)))
    (HO : d.R e W base (fun _ => True) v xs) (hbase : base ≤ W.heap.size) (hl : (xs.length + 1) * bytes ≤ 140737488355328)
    (h : ∀ v1 w1, d.R e w1 base (fun _ => True) v1 (xs ++ [p]) → W.grownBy w1 v.ownBlock → Kc (a.put o.dst v1) w1) :
    if Region.wanted o (yielded ops a.tmps) = true then Oper.wp Try.prog o a W Kc Q else Kc (a.put o.dst undef) W := by
  refine Kd.R_append_rows_step (Rr := fun y c => y = p ∧ c = cs) d (w0 := W) base hw s x t e z bytes ho ht hinfo hz hs0 hb0 v xs [p] (some ⟨b, 0, none⟩) 1 1 (fun _ => True) (fun _ => False) hs hx HO ⟨rfl, by omega, fun _ => ⟨_, rfl, fun j y hy => ?_⟩⟩ (fun y c hy => by rw [hy.1, hy.2]; exact hM W) (fun _ hk => hk.elim) (fun _ _ => trivial) (Below.refl _ _) hbase hl (fun v1 w1 h1 _ hg _ => h v1 w1 h1 hg)
  rcases j with _ | j
  · injection hy with hy
    subst hy
    refine ⟨cs, d.K_len (d.K_of_M (hM W)), ⟨rfl, rfl⟩, fun q u hu => ?_⟩
    rw [add_plain, cell_of_row _ _ _ _ _ _ hblk, Nat.zero_mul, Nat.zero_add]
    simpa using hu
  · simp at hy
theorem P16_take : ∀ p, p < 4 → ∀ k, k < 4 → P16.take (4 * p + k + 1) = P16.take (4 * p + k) ++ [(p, k)] := by decide
def wantTo (F : Nat → Nat → Int × Int) (j : Nat) : List Quad := (P16.take j).flatMap (one F)
theorem wantTo_zero (F : Nat → Nat → Int × Int) : wantTo F 0 = [] := rfl
theorem wantTo_all (F : Nat → Nat → Int × Int) : wantTo F 16 = edgesOf F := rfl
theorem wantTo_step (F : Nat → Nat → Int × Int) {p k : Nat} (hp : p < 4) (hk : k < 4) : wantTo F (4 * p + k + 1) = wantTo F (4 * p + k) ++ one F (p, k) := by
  unfold wantTo
  rw [P16_take p hp k hk, List.flatMap_append]
  simp
theorem wantTo_len (F : Nat → Nat → Int × Int) (j : Nat) : (wantTo F j).length ≤ 16 := by
  have h := flat_len F (P16.take j)
  have h2 : (P16.take j).length ≤ 16 := by rw [List.length_take]; exact Nat.min_le_right _ _
  unfold wantTo
  omega
def edgeCells (p k : Nat) (c e : Int) : List Value := [.string (nm p), .string (nm k), .int .i64 c, .int .i64 e]
/-- The cells of a span of the chain. -/
def chainCells (i : Nat) (s : ByteArray) (e : Bool) : List Value := [.int .u64 0, .int .u64 0, .int .u64 ((i : Int) + 1), .int .u64 i, .string s, .string ⟨#[111]⟩, .int .i64 0, .int .i64 0, .bool e, .slice none 0 0]
theorem cnt_first (ks : List Nat) (es : List Bool) (i : Nat) {p k : Nat} {y : Bool} (hp : ks.getD i 0 = p) (hk : ks.getD (i + 1) 0 = k) (hy : es.getD (i + 1) false = y) : (fun a b => (cnt ks es (i + 1 + 1) a b).1) = (fun a b => if a = p ∧ b = k then (cnt ks es (i + 1) p k).1 + 1 else (cnt ks es (i + 1) a b).1) := by
  funext a b
  rw [cnt_succ, hp, hk, hy]
  unfold addF
  split <;> rfl
theorem cnt_second (ks : List Nat) (es : List Bool) (i : Nat) {p k : Nat} (hp : ks.getD i 0 = p) (hk : ks.getD (i + 1) 0 = k) (hy : es.getD (i + 1) false = true) : (fun a b => (cnt ks es (i + 1 + 1) a b).2) = (fun a b => if a = p ∧ b = k then (cnt ks es (i + 1) p k).2 + 1 else (cnt ks es (i + 1) a b).2) := by
  funext a b
  rw [cnt_succ, hp, hk, hy]
  unfold addF
  split <;> rfl
theorem cnt_second_no (ks : List Nat) (es : List Bool) (i : Nat) {p k : Nat} (hp : ks.getD i 0 = p) (hk : ks.getD (i + 1) 0 = k) (hy : es.getD (i + 1) false = false) : (fun a b => (cnt ks es (i + 1 + 1) a b).2) = (fun a b => (cnt ks es (i + 1) a b).2) := by
  funext a b
  rw [cnt_succ, hp, hk, hy]
  unfold addF
  split
  · rename_i h
    rw [h.1, h.2]
    show (cnt ks es (i + 1) p k).2 + 0 = _
    omega
  · rfl
theorem ArrOk.grown {W w1 : World} {b : Nat} {f : Nat → Nat → Int} {row : Option Nat} (h : ArrOk W b f) (hg : W.grownBy w1 row) (hne : row ≠ some b) : ArrOk w1 b f := by
  have hl := lt_of_heap' h
  unfold ArrOk
  rw [hg.block b hl (fun e => hne e.symm)]
  exact h
set_option maxHeartbeats 8000000 in
set_option maxRecDepth 100000 in
theorem EdgesChain.calls (A B : Option Addr) (n m c d : Nat) (sv : List Int) (es : List Bool) (w : World) (hr : Kd.C (Kd.int .i64) w A n sv) (hb : Kd.C Kd.bool w B m es) :
    Calls Try.prog 3 #[.slice A n c, .slice B m d] w fun e w' => e = .returned (.bool true) ∧ Below w.heap.size w w' := by
  have hal := edgesAlive.calls w
  have hnl := hr.1
  have hml := hb.1
  have hn9 : (n : Int) ≤ 9223372036854775807 := by have := hr.2.1; omega
  have hm9 : (m : Int) ≤ 9223372036854775807 := by have := hb.2.1; omega
  by_cases hn1 : 40 < n
  · have hd : (40 : Int) < (n : Int) := by omega
    clear hr hb hnl hml
    go_enter Try.func3, Try.ntmps3
    go_wp2_with (go_at_call 8; refine hal.mono ?_; rintro e w1 ⟨rfl, hb1⟩)
    go_ret
    exact ⟨rfl, hb1⟩
  by_cases hn2 : m < n
  · have hd : (m : Int) < (n : Int) := by omega
    have hd2 : decide (m < n) = true := by simp; omega
    clear hr hb hnl hml
    go_enter Try.func3, Try.ntmps3
    go_wp2_with (go_at_call 8; refine hal.mono ?_; rintro e w1 ⟨rfl, hb1⟩)
    go_ret
    exact ⟨rfl, hb1⟩
  have hn3 : n ≤ 40 := by omega
  have hn4 : (n : Int) ≤ 40 := by omega
  have hn5 : n ≤ m := by omega
  have hd2 : decide (m < n) = false := by simp; omega
  have HR := Aside0.mk hr
  have HB := Aside0.mk hb
  clear hr hb
  go_enter Try.func3, Try.ntmps3
  go_upto_region 6 with (go_at_call 8; refine hal.mono ?_; rintro e w1 ⟨rfl, hb1⟩)
  go_wp2
  have hz1 : (w1.alloc (.cells (arr16 fun _ _ => 0) 27)).heap.size = w1.heap.size + 1 := by simp
  have N0 : Aside0 (ArrOk ((w1.alloc (.cells (arr16 fun _ _ => 0) 27)).alloc (.cells (arr16 fun _ _ => 0) 27)) w1.heap.size (fun a b => (cnt (sv.map kOf) es 0 a b).1)) := ⟨heap_alloc2_old _ _ _⟩
  have E0 : Aside0 (ArrOk ((w1.alloc (.cells (arr16 fun _ _ => 0) 27)).alloc (.cells (arr16 fun _ _ => 0) 27)) (w1.heap.size + 1) (fun a b => (cnt (sv.map kOf) es 0 a b).2)) := ⟨by
    have h := heap_alloc_new (w1.alloc (.cells (arr16 fun _ _ => 0) 27)) (.cells (arr16 fun _ _ => 0) 27)
    rw [hz1] at h
    exact h⟩
  have B0 : Aside0 (Below w.heap.size w ((w1.alloc (.cells (arr16 fun _ _ => 0) 27)).alloc (.cells (arr16 fun _ _ => 0) 27))) := ⟨below_alloc (below_alloc hb1 _) _⟩
  have hz2 : Aside0 (((w1.alloc (.cells (arr16 fun _ _ => 0) 27)).alloc (.cells (arr16 fun _ _ => 0) 27)).heap.size = w1.heap.size + 1 + 1) := ⟨by simp⟩
  have hw1 : Aside0 (w.heap.size ≤ w1.heap.size) := ⟨hb1.size⟩
  clear hz1
  show Code.wp _ _ _ _ ((w1.alloc (.cells (arr16 fun _ _ => 0) 27)).alloc (.cells (arr16 fun _ _ => 0) 27))
  generalize ((w1.alloc (.cells (arr16 fun _ _ => 0) 27)).alloc (.cells (arr16 fun _ _ => 0) 27)) = wz at N0 E0 B0 hz2 ⊢
  generalize hbn : w1.heap.size = bn at *
  have HBN : Aside0 (w.heap.size ≤ bn) := hw1
  have hks : Aside0 (∀ i x, sv[i]? = some x → (sv.map kOf).getD i 0 = kOf x) := ⟨fun i x h => by rw [List.getD_eq_getElem?_getD, List.getElem?_map, h]; rfl⟩
  have HK4 : Aside0 (∀ i, (sv.map kOf).getD i 0 < 4) := ⟨fun i => by
    rw [List.getD_eq_getElem?_getD, List.getElem?_map]
    cases sv[i]? with
    | none => simp
    | some x => exact kOf_lt x⟩
  generalize sv.map kOf = ks at *
  clear hal hb1 hw1 hbn hn1 hn2
  go_loopg [7, 10] n (fun gg s7 s10 wr => ∃ (i : Nat) (v : Value), i ≤ n ∧ n - i ≤ gg ∧ s10 = .int .i64 i ∧ v = s7 ∧ Aside0 (Kd.R kSpan 33 wr (bn + 1 + 1) (fun _ => True) v (chainL ⟨#[111]⟩ ks es i)) ∧ Aside0 (ArrOk wr bn (fun a b => (cnt ks es i a b).1)) ∧ Aside0 (ArrOk wr (bn + 1) (fun a b => (cnt ks es i a b).2)) ∧ Aside0 (Below w.heap.size w wr) ∧ Aside0 (bn + 1 + 1 ≤ wr.heap.size))
  case atStart => exact ⟨0, _, Nat.zero_le _, Nat.le_refl _, rfl, rfl, ⟨Kd.R_nil _ _ _ _ _⟩, N0, E0, B0, ⟨by rw [hz2.out]; exact Nat.le_refl _⟩⟩
  case round =>
    clear N0 E0 B0 hz2
    obtain ⟨i, v, hi, hg, rfl, rfl, HO, N1, E1, B1, Z1⟩ := hrel
    obtain ⟨wo, rfl⟩ : ∃ wo : World, wo = wr := ⟨_, rfl⟩
    by_cases hlt : i < n
    · have hi1 : (i : Int) < (n : Int) := by omega
      have hi2 : (i : Int) < (m : Int) := by omega
      obtain ⟨x, hx⟩ : ∃ x, sv[i]? = some x := ⟨_, List.getElem?_eq_getElem (by omega)⟩
      obtain ⟨ad, rfl, hxc⟩ := atN_int (Kd.C_below HR.out B1.out) i hx
      obtain ⟨y, hy⟩ : ∃ y, es[i]? = some y := ⟨_, List.getElem?_eq_getElem (by omega)⟩
      obtain ⟨bd, rfl, hyc⟩ := atN_bool (Kd.C_below HB.out B1.out) i hy
      have HK := Aside0.mk (hks.out i x hx)
      have HE : Aside0 (es.getD i false = y) := ⟨by rw [List.getD_eq_getElem?_getD, hy]; rfl⟩
      have HX := Aside0.mk hx
      clear hx hy
      go_upto_region 11 with (fail)
      rw [kOf_and x]
      have hk4 := kOf_lt x
      generalize kOf x = k at HK hk4 ⊢
      have hw1 : IntKind.i64.wrap ((i : Int) + 1) = (i : Int) + 1 := IntWalk.i64_in _ (by omega)
      have hw2 : IntKind.i64.wrap ((k : Int) + 1) = (k : Int) + 1 := IntWalk.i64_in _ (by clear hw1; omega)
      have hw3 : IntKind.u64.wrap ((i : Int) + 1) = (i : Int) + 1 := IntWalk.u64_in _ (by clear hw1 hw2; omega)
      have hw4 : IntKind.u64.wrap (i : Int) = (i : Int) := IntWalk.u64_in _ (by clear hw1 hw2 hw3; omega)
      have hs1 : (0 : Int) ≤ (k : Int) + 1 := by clear hw1 hw2 hw3 hw4; omega
      have hs2 : (k : Int) + 1 ≤ 4 := by clear hw1 hw2 hw3 hw4; omega
      have hs3 : (k : Int) ≤ (k : Int) + 1 := by clear hw1 hw2 hw3 hw4; omega
      have hs4 : ((k : Int) + 1).toNat = k + 1 := by clear hw1 hw2 hw3 hw4; omega
      have hcut := nm_cut hk4
      have HLEN : Aside0 (((chainL ⟨#[111]⟩ ks es i).length + 1) * 112 ≤ 140737488355328) := ⟨by rw [chainL_length]; clear hw1 hw2 hw3 hw4 hs4; omega⟩
      have HNX : Aside0 (chainL ⟨#[111]⟩ ks es i ++ [chainSp ⟨#[111]⟩ ks es i] = chainL ⟨#[111]⟩ ks es (i + 1)) := ⟨by unfold chainL; rw [List.range_succ, List.map_append]; rfl⟩
      have HSP : Aside0 (∀ W base, kSpan.M W base (fun _ => False) (chainSp ⟨#[111]⟩ ks es i) (chainCells i (nm k) y)) := ⟨fun W base => by
        have h := kSpan_mkM W base (fun _ => False) (chainSp ⟨#[111]⟩ ks es i) (v9 := .slice none 0 0) (Kd.R_nil _ _ _ _ _)
        have e1 : (chainSp ⟨#[111]⟩ ks es i).f3 = nm k := by show nm (ks.getD i 0) = _; rw [HK.out]
        have e2 : (chainSp ⟨#[111]⟩ ks es i).f7 = y := HE.out
        rw [e1, e2] at h
        exact h⟩
      have HBK : Aside0 ((wo.alloc (.cells (chainCells i (nm k) y).toArray 33)).heap[wo.heap.size]? = some (.cells (chainCells i (nm k) y).toArray 33 (0, 0))) := ⟨heap_alloc_new wo _⟩
      have HO3 : Aside0 (Kd.R kSpan 33 (wo.alloc (.cells (chainCells i (nm k) y).toArray 33)).drew (bn + 1 + 1) (fun _ => True) v (chainL ⟨#[111]⟩ ks es i)) := ⟨Kd.R_drew (Kd.R_below HO.out (below_alloc (Below.refl _ _) _))⟩
      have HZ3 : Aside0 (bn + 1 + 1 ≤ (wo.alloc (.cells (chainCells i (nm k) y).toArray 33)).drew.heap.size) := ⟨Nat.le_trans Z1.out (by show wo.heap.size ≤ (wo.alloc _).heap.size; simp)⟩
      go_region_law (first | (refine app_step kSpan rfl (.tmp 43) (.tmp 59) 25 33 _ 112 rfl Try.underlying25 info33 rfl (by decide) (by decide) v (chainL ⟨#[111]⟩ ks es i) (chainSp ⟨#[111]⟩ ks es i) (chainCells i (nm k) y) wo.heap.size (by simp [Act.eval, Act.put]) (by simp [Act.eval, Act.put]) (bn + 1 + 1) (fun W => HSP.out W _) HBK.out HO3.out HZ3.out HLEN.out ?_; intro v2 w2 h2 hg2))
      all_goals
        have R2 : Aside0 (Kd.R kSpan 33 w2 (bn + 1 + 1) (fun _ => True) v2 (chainL ⟨#[111]⟩ ks es (i + 1))) := ⟨by rw [HNX.out] at h2; exact h2⟩
        have hvb : ∀ b, v.ownBlock = some b → bn + 1 + 1 ≤ b := Kd.R_base HO.out
        have N2 : Aside0 (ArrOk w2 bn (fun a b => (cnt ks es i a b).1)) := ⟨ArrOk.grown (W := (wo.alloc (.cells (chainCells i (nm k) y).toArray 33)).drew) (by unfold ArrOk; exact (heap_alloc_old wo _ (lt_of_heap' N1.out)).trans N1.out) hg2 (fun e => by have := hvb _ e; omega)⟩
        have E2 : Aside0 (ArrOk w2 (bn + 1) (fun a b => (cnt ks es i a b).2)) := ⟨ArrOk.grown (W := (wo.alloc (.cells (chainCells i (nm k) y).toArray 33)).drew) (by unfold ArrOk; exact (heap_alloc_old wo _ (lt_of_heap' E1.out)).trans E1.out) hg2 (fun e => by have := hvb _ e; omega)⟩
        have B2 : Aside0 (Below w.heap.size w w2) := ⟨Below.grown (below_drew (below_alloc B1.out _)) hg2 (Nat.le_trans B1.out.size (by show wo.heap.size ≤ (wo.alloc _).heap.size; simp)) (fun b e => by have := hvb b e; have := HBN.out; omega)⟩
        have Z2 : Aside0 (bn + 1 + 1 ≤ w2.heap.size) := ⟨Nat.le_trans HZ3.out hg2.size⟩
        clear h2 hg2 HO N1 E1 HBK HO3 HZ3 HSP HNX HLEN hw1 hw2 hw3 hw4 hs1 hs2 hs3 hs4 hcut hvb
        rcases i with _ | i'
        · have C1 : (fun a b => (cnt ks es (0 + 1) a b).1) = (fun a b => (cnt ks es 0 a b).1) := by rw [cnt_one]
          have C2 : (fun a b => (cnt ks es (0 + 1) a b).2) = (fun a b => (cnt ks es 0 a b).2) := by rw [cnt_one]
          have N3 : Aside0 (ArrOk w2 bn (fun a b => (cnt ks es (0 + 1) a b).1)) := ⟨by rw [C1]; exact N2.out⟩
          have E3 : Aside0 (ArrOk w2 (bn + 1) (fun a b => (cnt ks es (0 + 1) a b).2)) := ⟨by rw [C2]; exact E2.out⟩
          clear C1 C2 N2 E2
          go_wp2
          go_roundg (n - (0 + 1))
          case measure => omega
          case rel => exact ⟨0 + 1, v2, by omega, by omega, by go_num, rfl, R2, N3, E3, B2, Z2⟩
        · obtain ⟨x', hx'⟩ : ∃ x, sv[i']? = some x := ⟨_, List.getElem?_eq_getElem (by omega)⟩
          obtain ⟨ad', e', hxc'⟩ := atN_int (Kd.C_below HR.out B2.out) i' hx'
          cases e'
          obtain ⟨bd', e', hyc'⟩ := atN_bool (Kd.C_below HB.out B2.out) (i' + 1) (show es[i' + 1]? = some y by
            have h := HE.out
            rw [List.getD_eq_getElem?_getD] at h
            rw [List.getElem?_eq_getElem (by omega)] at h ⊢
            rw [← h]; rfl)
          cases e'
          have HP := Aside0.mk (hks.out i' x' hx')
          have ei : ((i' + 1 : Nat) : Int) = (i' : Int) + 1 := by omega
          rw [ei] at hi1 hi2 ⊢
          have hi3 : (i' : Int) < (n : Int) := by omega
          clear hx' ei hxc hyc
          go_upto_region 14 with (fail)
          rw [kOf_and x']
          have hp4 := kOf_lt x'
          generalize kOf x' = p at HP hp4 ⊢
          obtain ⟨cn, fn⟩ := N2.out.cell hp4 hk4
          have hcn := cnt_ok ks es (i' + 1) p k
          have hcn1 : (cnt ks es (i' + 1) p k).1 ≤ 40 := by omega
          have hcn2 : (0 : Int) ≤ (cnt ks es (i' + 1) p k).1 := by omega
          have hce1 : (cnt ks es (i' + 1) p k).2 ≤ 40 := by omega
          have hce2 : (0 : Int) ≤ (cnt ks es (i' + 1) p k).2 := by omega
          have hp5 : (p : Int) < 4 := by omega
          have hk5 : (k : Int) < 4 := by omega
          have N3 : Aside0 (ArrOk (w2.setCell ⟨bn, p * 4 + k, none⟩ (.int .i64 ((cnt ks es (i' + 1) p k).1 + 1))) bn (fun a b => (cnt ks es (i' + 1 + 1) a b).1)) := ⟨by rw [cnt_first ks es i' HP.out HK.out HE.out]; exact N2.out.set hp4 hk4 _⟩
          have E3 : Aside0 (ArrOk (w2.setCell ⟨bn, p * 4 + k, none⟩ (.int .i64 ((cnt ks es (i' + 1) p k).1 + 1))) (bn + 1) (fun a b => (cnt ks es (i' + 1) a b).2)) := ⟨E2.out.other (by omega) _⟩
          have R3 : Aside0 (Kd.R kSpan 33 (w2.setCell ⟨bn, p * 4 + k, none⟩ (.int .i64 ((cnt ks es (i' + 1) p k).1 + 1))) (bn + 1 + 1) (fun _ => True) v2 (chainL ⟨#[111]⟩ ks es (i' + 1 + 1))) := ⟨Kd.R_set R2.out N2.out (fun q hq e => by subst e; revert hq; decide) _ _⟩
          have B3 : Aside0 (Below w.heap.size w (w2.setCell ⟨bn, p * 4 + k, none⟩ (.int .i64 ((cnt ks es (i' + 1) p k).1 + 1)))) := ⟨B2.out.setCell HBN.out _⟩
          have Z3 : Aside0 (bn + 1 + 1 ≤ (w2.setCell ⟨bn, p * 4 + k, none⟩ (.int .i64 ((cnt ks es (i' + 1) p k).1 + 1))).heap.size) := ⟨by simpa using Z2.out⟩
          generalize (cnt ks es (i' + 1) p k).1 = F at hcn1 hcn2 cn N3 E3 R3 B3 Z3
          have hwF : IntKind.i64.wrap (F + 1) = F + 1 := IntWalk.i64_in _ (by omega)
          clear hcn N2 E2 R2 B2 Z2
          go_region
          all_goals
            clear hwF cn fn
            obtain ⟨bd', e', hyc5⟩ := atN_bool (Kd.C_below HB.out B3.out) (i' + 1) (show es[i' + 1]? = some y by
              have h := HE.out
              rw [List.getD_eq_getElem?_getD] at h
              rw [List.getElem?_eq_getElem (by omega)] at h ⊢
              rw [← h]; rfl)
            cases e'
            clear hyc'
            rw [show bd.add (i' + 1) = ⟨bd.block, bd.off + (i' + 1), none⟩ by unfold Addr.add; simp] at hyc5
            generalize w2.setCell ⟨bn, p * 4 + k, none⟩ (.int .i64 (F + 1)) = w5 at N3 E3 R3 B3 Z3 hyc5 ⊢
            cases y
            · have E4 : Aside0 (ArrOk w5 (bn + 1) (fun a b => (cnt ks es (i' + 1 + 1) a b).2)) := ⟨by rw [cnt_second_no ks es i' HP.out HK.out HE.out]; exact E3.out⟩
              clear E3
              go_wp2
              go_roundg (n - (i' + 1 + 1))
              case measure => omega
              case rel => exact ⟨i' + 1 + 1, v2, by omega, by omega, by go_num, rfl, ⟨Kd.R_drew R3.out⟩, ⟨N3.out⟩, ⟨E4.out⟩, ⟨below_drew B3.out⟩, ⟨Z3.out⟩⟩
            · obtain ⟨ce, fe⟩ := E3.out.cell hp4 hk4
              have N4 : Aside0 (ArrOk (w5.setCell ⟨bn + 1, p * 4 + k, none⟩ (.int .i64 ((cnt ks es (i' + 1) p k).2 + 1))) bn (fun a b => (cnt ks es (i' + 1 + 1) a b).1)) := ⟨N3.out.other (by omega) _⟩
              have E4 : Aside0 (ArrOk (w5.setCell ⟨bn + 1, p * 4 + k, none⟩ (.int .i64 ((cnt ks es (i' + 1) p k).2 + 1))) (bn + 1) (fun a b => (cnt ks es (i' + 1 + 1) a b).2)) := ⟨by rw [cnt_second ks es i' HP.out HK.out HE.out]; exact E3.out.set hp4 hk4 _⟩
              have R4 : Aside0 (Kd.R kSpan 33 (w5.setCell ⟨bn + 1, p * 4 + k, none⟩ (.int .i64 ((cnt ks es (i' + 1) p k).2 + 1))) (bn + 1 + 1) (fun _ => True) v2 (chainL ⟨#[111]⟩ ks es (i' + 1 + 1))) := ⟨Kd.R_set R3.out E3.out (fun q hq e => by subst e; revert hq; decide) _ _⟩
              have B4 : Aside0 (Below w.heap.size w (w5.setCell ⟨bn + 1, p * 4 + k, none⟩ (.int .i64 ((cnt ks es (i' + 1) p k).2 + 1)))) := ⟨B3.out.setCell (by have := HBN.out; simp; omega) _⟩
              have Z4 : Aside0 (bn + 1 + 1 ≤ (w5.setCell ⟨bn + 1, p * 4 + k, none⟩ (.int .i64 ((cnt ks es (i' + 1) p k).2 + 1))).heap.size) := ⟨by simpa using Z3.out⟩
              generalize (cnt ks es (i' + 1) p k).2 = G at hce1 hce2 ce N4 E4 R4 B4 Z4
              have hwG : IntKind.i64.wrap (G + 1) = G + 1 := IntWalk.i64_in _ (by omega)
              clear N3 E3 R3 B3 Z3
              go_upto_region 16 with (fail)
              go_region
              all_goals
                clear hwG ce fe
                go_wp2
                go_roundg (n - (i' + 1 + 1))
                case measure => omega
                case rel => exact ⟨i' + 1 + 1, v2, by omega, by omega, by go_num, rfl, ⟨Kd.R_drewN (Kd.R_drew (Kd.R_drew R4.out)) 0⟩, ⟨N4.out⟩, ⟨E4.out⟩, ⟨below_drew (below_drew B4.out)⟩, ⟨Z4.out⟩⟩
    · obtain rfl : i = n := by omega
      have hd : decide ((i : Int) < (i : Int)) = false := by simp
      obtain ⟨Al, cl, rfl, -, -⟩ := R_readsN (n := i) HO.out (chainL_length _ _ _ _)
      go_wp2
      go_loopg [13, 14] 4 (fun gg s13 s14 wr => ∃ (p : Nat) (v : Value), p ≤ 4 ∧ 4 - p ≤ gg ∧ s14 = .int .i64 p ∧ v = s13 ∧ Aside0 (RE wr wo.heap.size v ((wantTo (cnt ks es i) (4 * p)).map ed)) ∧ Aside0 (Below wo.heap.size wo wr))
      case atStart => exact ⟨0, _, Nat.zero_le _, Nat.le_refl _, rfl, rfl, ⟨Kd.R_nil _ _ _ _ _⟩, ⟨Below.refl _ _⟩⟩
      case round =>
        obtain ⟨p, v13, hp, hgp, rfl, rfl, HW, BW⟩ := hrel
        obtain ⟨wp, rfl⟩ : ∃ wp : World, wp = wr := ⟨_, rfl⟩
        by_cases hlp : p < 4
        · have hp5 : (p : Int) < 4 := by omega
          go_wp2
          go_loopg [13, 15] 4 (fun gg s13 s15 wr => ∃ (k : Nat) (v : Value), k ≤ 4 ∧ 4 - k ≤ gg ∧ s15 = .int .i64 k ∧ v = s13 ∧ Aside0 (RE wr wo.heap.size v ((wantTo (cnt ks es i) (4 * p + k)).map ed)) ∧ Aside0 (Below wo.heap.size wo wr))
          case atStart => exact ⟨0, _, Nat.zero_le _, Nat.le_refl _, rfl, rfl, HW, BW⟩
          case round =>
            clear HW BW
            obtain ⟨k, v13, hk, hgk, rfl, rfl, HW, BW⟩ := hrel
            obtain ⟨wq, rfl⟩ : ∃ wq : World, wq = wr := ⟨_, rfl⟩
            by_cases hlk : k < 4
            · have hk5 : (k : Int) < 4 := by omega
              have N5 : ArrOk wq bn (fun a b => (cnt ks es i a b).1) := by unfold ArrOk; rw [BW.out.block _ (lt_of_heap' N1.out)]; exact N1.out
              have E5 : ArrOk wq (bn + 1) (fun a b => (cnt ks es i a b).2) := by unfold ArrOk; rw [BW.out.block _ (lt_of_heap' E1.out)]; exact E1.out
              obtain ⟨cn, -⟩ := N5.cell hlp hlk
              obtain ⟨ce, -⟩ := E5.cell hlp hlk
              have HST := Aside0.mk (wantTo_step (cnt ks es i) hlp hlk)
              have HL := Aside0.mk (wantTo_len (cnt ks es i) (4 * p + k))
              clear N5 E5
              by_cases hon : p ≠ k ∧ 0 < (cnt ks es i p k).1
              · obtain ⟨hpk, hF⟩ := hon
                have hd : ((p : Int) != (k : Int)) = true := by simp; omega
                have HN : Aside0 (wantTo (cnt ks es i) (4 * p + k) ++ [(p, k, (cnt ks es i p k).1, (cnt ks es i p k).2)] = wantTo (cnt ks es i) (4 * p + (k + 1))) := ⟨by
                  rw [← Nat.add_assoc, HST.out]
                  congr 1
                  exact (if_pos ⟨hpk, hF⟩).symm⟩
                have HXL : Aside0 ((((wantTo (cnt ks es i) (4 * p + k)).map ed).length + 1) * 48 ≤ 140737488355328) := ⟨by rw [List.length_map]; have := HL.out; omega⟩
                generalize (cnt ks es i p k).1 = F at cn HN hF
                generalize (cnt ks es i p k).2 = G at ce HN
                clear hpk HST HL
                go_upto_region 25 with (fail)
                have HBK : Aside0 ((wq.alloc (.cells (edgeCells p k F G).toArray 36)).heap[wq.heap.size]? = some (.cells (edgeCells p k F G).toArray 36 (0, 0))) := ⟨heap_alloc_new wq _⟩
                have HO3 : Aside0 (RE (wq.alloc (.cells (edgeCells p k F G).toArray 36)).drew wo.heap.size v13 ((wantTo (cnt ks es i) (4 * p + k)).map ed)) := ⟨Kd.R_drew (Kd.R_below HW.out (below_alloc (Below.refl _ _) _))⟩
                have HZ3 : Aside0 (wo.heap.size ≤ (wq.alloc (.cells (edgeCells p k F G).toArray 36)).drew.heap.size) := ⟨Nat.le_trans BW.out.size (by show wq.heap.size ≤ (wq.alloc _).heap.size; simp)⟩
                have HB3 : Aside0 (Below wo.heap.size wo (wq.alloc (.cells (edgeCells p k F G).toArray 36)).drew) := ⟨below_drew (below_alloc BW.out _)⟩
                have hw1 : IntKind.i64.wrap ((p : Int) + 1) = (p : Int) + 1 := IntWalk.i64_in _ (by omega)
                have hw2 : IntKind.i64.wrap ((k : Int) + 1) = (k : Int) + 1 := IntWalk.i64_in _ (by clear hw1; omega)
                have hs1 : (0 : Int) ≤ (k : Int) + 1 := by clear hw1 hw2; omega
                have hs2 : (k : Int) + 1 ≤ 4 := by clear hw1 hw2; omega
                have hs3 : (k : Int) ≤ (k : Int) + 1 := by clear hw1 hw2; omega
                have hs4 : ((k : Int) + 1).toNat = k + 1 := by clear hw1 hw2; omega
                have ht1 : (0 : Int) ≤ (p : Int) + 1 := by clear hw1 hw2 hs4; omega
                have ht2 : (p : Int) + 1 ≤ 4 := by clear hw1 hw2 hs4; omega
                have ht3 : (p : Int) ≤ (p : Int) + 1 := by clear hw1 hw2 hs4; omega
                have ht4 : ((p : Int) + 1).toNat = p + 1 := by clear hw1 hw2 hs4; omega
                have hcut := nm_cut hlk
                have hcut2 := nm_cut hlp
                go_region_law (first | (refine app_step kEdge rfl (.tmp 108) (.tmp 130) 34 36 _ 48 rfl Try.underlying34 info36 rfl (by decide) (by decide) v13 ((wantTo (cnt ks es i) (4 * p + k)).map ed) (ed (p, k, F, G)) (edgeCells p k F G) wq.heap.size (by simp [Act.eval, Act.put]) (by simp [Act.eval, Act.put]) wo.heap.size (fun W => kEdge_mkM W _ _ (ed (p, k, F, G))) HBK.out HO3.out HZ3.out HXL.out ?_; intro v2 w2 h2 hg2))
                all_goals
                  have R2 : Aside0 (RE w2 wo.heap.size v2 ((wantTo (cnt ks es i) (4 * p + (k + 1))).map ed)) := ⟨by
                    rw [← HN.out, List.map_append]
                    exact h2⟩
                  have B2 : Aside0 (Below wo.heap.size wo w2) := ⟨HB3.out.grown hg2 HZ3.out (fun b e => Kd.R_base HW.out b e)⟩
                  clear h2 hg2 HBK HO3 HZ3 HB3 hw1 hw2 hs1 hs2 hs3 hs4 ht1 ht2 ht3 ht4 hcut hcut2 HN HXL HW
                  go_wp2
                  go_roundg (4 - (k + 1))
                  case measure => omega
                  case rel => exact ⟨k + 1, v2, by omega, by omega, by go_num, rfl, R2, B2⟩
              · have HN : Aside0 (one (cnt ks es i) (p, k) = []) := ⟨if_neg hon⟩
                have HW2 : Aside0 (RE wq wo.heap.size v13 ((wantTo (cnt ks es i) (4 * p + (k + 1))).map ed)) := ⟨by
                  have h := HST.out
                  rw [HN.out, List.append_nil, Nat.add_assoc] at h
                  rw [h]; exact HW.out⟩
                generalize (cnt ks es i p k).1 = F at cn hon
                by_cases hpk : p = k
                · have hd : ((p : Int) != (k : Int)) = false := by simp [hpk]
                  clear hpk hon cn ce HST HN HW
                  go_wp2
                  go_roundg (4 - (k + 1))
                  case measure => omega
                  case rel => exact ⟨k + 1, v13, by omega, by omega, by go_num, rfl, HW2, BW⟩
                · have hd : ((p : Int) != (k : Int)) = true := by simp; omega
                  have hF : F ≤ 0 := by omega
                  clear hpk hon ce HST HN HW
                  go_wp2
                  go_roundg (4 - (k + 1))
                  case measure => omega
                  case rel => exact ⟨k + 1, v13, by omega, by omega, by go_num, rfl, HW2, BW⟩
            · obtain rfl : k = 4 := by omega
              have hd : decide (((4 : Nat) : Int) < 4) = false := by decide
              go_wp2
              go_roundg (4 - (p + 1))
              case measure => omega
              case rel => exact ⟨p + 1, v13, by omega, by omega, by go_num, rfl, by rw [show 4 * (p + 1) = 4 * p + 4 by omega]; exact HW, BW⟩
        · obtain rfl : p = 4 := by omega
          have hd : decide (((4 : Nat) : Int) < 4) = false := by decide
          have HSP : Kd.C kSpan wp Al i (chainL ⟨#[111]⟩ ks es i) := by
            obtain ⟨A', c', e', -, h⟩ := R_readsN (n := i) (Kd.R_below HO.out BW.out) (chainL_length _ _ _ _)
            injection e' with e1 e2 e3
            rw [← e1] at h
            exact h
          have hadd := Add.calls Al i cl ⟨#[111]⟩ ks es 1000 wp HSP (by decide) (by decide) HK4.out (by omega) (by omega) (by omega)
          have HW2 : Aside0 (RE wp wo.heap.size v13 ((edgesOf (cnt ks es i)).map ed)) := ⟨HW.out⟩
          have HBF := Aside0.mk (below_then B1.out B1.out.size BW.out)
          generalize hlq : ((edgesOf (cnt ks es i)).map ed).length = q at *
          have HLQ := Aside0.mk hlq
          obtain ⟨Aw, cw, rfl, -, -⟩ := R_readsN (n := q) HW2.out hlq
          clear HSP hlq HW HO N1 E1 B1
          go_wp2_with (first
            | (go_at_call 10; refine hadd.mono ?_; rintro e w8 ⟨v8, rfl, r8, hb8⟩; obtain ⟨A8, c8, rfl, -, h8⟩ := R_readsN (n := q) r8 HLQ.out; have hw8 : Kd.C kEdge w8 Aw q ((edgesOf (cnt ks es i)).map ed) := Kd.F_now (Kd.F_below (Kd.R_F HW2.out) hb8))
            | (go_at_call 9; refine (SameEdges.calls A8 Aw q c8 cw _ w8 h8 hw8).mono ?_; rintro e w9 ⟨rfl, z, rfl⟩))
          go_ret
          exact ⟨rfl, pw_below_drewN (below_then HBF.out HBF.out.size hb8) z⟩
end Go.Proofs.Ytbfapgagmbiiaaa
