/- span.Right and edges.caller at spans without attributes. -/
import Derived.Test.YtbfapgagmbiiaaaEdgeCmp
namespace Go.Proofs.Ytbfapgagmbiiaaa
open Gl Go.RowKit Go.Proofs.YtbfapgagmbiiaaaW.PrintWords
set_option linter.unusedVariables false
set_option linter.unusedSimpArgs false

theorem Name.calls (s : ByteArray) (w : World) (h1 : 1 ≤ s.size) (h2 : s.size ≤ 16) : Calls Try.prog 32 #[.string s] w fun e w' => e = .returned (.bool true) ∧ w = w' := by
  have h3 : decide ((1 : Int) ≤ (s.size : Int)) = true := by simp; omega
  have h4 : decide ((s.size : Int) ≤ 16) = true := by simp; omega
  have h5 : (1 : Int) ≤ (s.size : Int) := by omega
  have h6 : (s.size : Int) ≤ 16 := by omega
  go_enter Try.func32, Try.ntmps32
  go_wp2
  go_ret
  exact ⟨rfl, rfl⟩
theorem attrs0.calls (A : Option Addr) (c : Nat) (w : World) : Calls Try.prog 33 #[.slice A 0 c] w fun e w' => e = .returned (.bool true) ∧ w = w' := by
  go_enter Try.func33, Try.ntmps33
  go_wp2
  go_loopg [7] 0 (fun gg s7 wr => s7 = .int .i64 0 ∧ w = wr)
  case atStart => exact ⟨rfl, rfl⟩
  case round =>
    obtain ⟨rfl, rfl⟩ := hrel
    go_wp2
    go_ret
    exact ⟨rfl, rfl⟩
/-- A span without attributes, and of no length, that may be. -/
structure Plain (x : SSpan) : Prop where
  tr : x.f0 = zTrace
  s1 : 1 ≤ x.f3.size
  s2 : x.f3.size ≤ 16
  o1 : 1 ≤ x.f4.size
  o2 : x.f4.size ≤ 16
  st : x.f5 = 0
  du : x.f6 = 0
  at0 : x.f8 = []
abbrev spanV (a b : Int) (s o : ByteArray) (e : Bool) (A : Option Addr) (c : Nat) : Value := .agg #[.int .u64 0, .int .u64 0, .int .u64 a, .int .u64 b, .string s, .string o, .int .i64 0, .int .i64 0, .bool e, .slice A 0 c]
set_option maxHeartbeats 2000000 in
theorem Right.calls (a b : Int) (s o : ByteArray) (e : Bool) (A : Option Addr) (c : Nat) (w : World) (s1 : 1 ≤ s.size) (s2 : s.size ≤ 16) (o1 : 1 ≤ o.size) (o2 : o.size ≤ 16) :
    Calls Try.prog 23 #[spanV a b s o e A c] w fun e w' => e = .returned (.bool true) ∧ Below w.heap.size w w' := by
  have hs := fun W => Name.calls s W s1 s2
  have ho := fun W => Name.calls o W o1 o2
  have ha := fun W => attrs0.calls A c W
  clear s1 s2 o1 o2
  go_enter Try.func23, Try.ntmps23
  go_wp2_with (first
    | ((with_reducible go_at_call 32; refine (hs _).mono ?_); rintro e w2 ⟨rfl, rfl⟩)
    | ((with_reducible go_at_call 32; refine (ho _).mono ?_); rintro e w2 ⟨rfl, rfl⟩)
    | (go_at_call 33; refine (ha _).mono ?_; rintro e w2 ⟨rfl, rfl⟩))
  go_ret
  exact ⟨rfl, below_alloc (Below.refl _ _) _⟩
def findP (l : List SSpan) (b : Int) : Option SSpan := l.find? (fun x => x.f1 == b)
def callV (o : Option SSpan) (s : ByteArray) : Value := match o with
  | some x => .tuple #[.string x.f3, .bool (!(x.f3.toList == s.toList))]
  | none => .tuple #[.string ⟨#[]⟩, .bool false]
set_option maxHeartbeats 2000000 in
theorem caller.calls (P : Option Addr) (n c : Nat) (l : List SSpan) (a b : Int) (s o : ByteArray) (er : Bool) (A : Option Addr) (ca : Nat) (w : World) (hr : Kd.C kSpan w P n l) (hl : ∀ x ∈ l, Plain x) :
    Calls Try.prog 24 #[.slice P n c, spanV a b s o er A ca] w fun e w' => e = .returned (callV (findP l b) s) ∧ Below w.heap.size w w' := by
  obtain rfl : l.length = n := hr.1
  have hm : (l.length : Int) ≤ 9223372036854775807 := by have := hr.2.1; omega
  have HR := Aside0.mk hr
  have HL := Aside0.mk hl
  clear hr hl
  go_enter Try.func24, Try.ntmps24
  go_wp2
  have hbx : (w.alloc (.cells #[.int .u64 0, .int .u64 0, .int .u64 a, .int .u64 b, .string s, .string o, .int .i64 0, .int .i64 0, .bool er, .slice A 0 ca] 33)).heap[w.heap.size]? = some (.cells #[.int .u64 0, .int .u64 0, .int .u64 a, .int .u64 b, .string s, .string o, .int .i64 0, .int .i64 0, .bool er, .slice A 0 ca] 33 (0, 0)) := heap_alloc_new w _
  have HB0 := Aside0.mk (below_alloc (Below.refl w.heap.size w) (.cells #[.int .u64 0, .int .u64 0, .int .u64 a, .int .u64 b, .string s, .string o, .int .i64 0, .int .i64 0, .bool er, .slice A 0 ca] 33))
  have HZ : Aside0 (w.heap.size < (w.alloc (.cells #[.int .u64 0, .int .u64 0, .int .u64 a, .int .u64 b, .string s, .string o, .int .i64 0, .int .i64 0, .bool er, .slice A 0 ca] 33)).heap.size) := ⟨by simp⟩
  generalize (w.alloc (.cells #[.int .u64 0, .int .u64 0, .int .u64 a, .int .u64 b, .string s, .string o, .int .i64 0, .int .i64 0, .bool er, .slice A 0 ca] 33)) = W0 at hbx HB0 HZ ⊢
  have HBX := Aside0.mk hbx
  clear hbx
  go_loopg [10] l.length (fun gg s10 wr => ∃ k : Nat, k ≤ l.length ∧ l.length - k ≤ gg ∧ s10 = .int .i64 k ∧ Aside0 (∀ (j : Nat) x, j < k → l[j]? = some x → (x.f1 == b) = false) ∧ Aside0 (Below W0.heap.size W0 wr))
  case atStart => exact ⟨0, Nat.zero_le _, Nat.le_refl _, rfl, ⟨fun j x hj => absurd hj (Nat.not_lt_zero _)⟩, ⟨Below.refl _ _⟩⟩
  case round =>
    obtain ⟨k, hk, hg, rfl, HN, B1⟩ := hrel
    have B2 := Aside0.mk (below_then HB0.out HB0.out.size B1.out)
    by_cases hlt : k < l.length
    · obtain ⟨x, hx⟩ : ∃ x, l[k]? = some x := ⟨_, List.getElem?_eq_getElem hlt⟩
      have hpl := HL.out x (List.mem_of_getElem? hx)
      obtain ⟨ad, A9, c9, rfl, x0, x1, x2, x3, x4, x5, x6, x7, x8, x9, -⟩ := atN_Span (Kd.C_below HR.out B2.out) k hx
      rw [show x.f0.f0 = 0 by rw [hpl.tr]; rfl] at x0
      rw [show x.f0.f1 = 0 by rw [hpl.tr]; rfl] at x1
      rw [hpl.st] at x6
      rw [hpl.du] at x7
      rw [hpl.at0, List.length_nil] at x9
      have hk1 : (k : Int) < (l.length : Int) := by omega
      have hob : wr.heap[w.heap.size]? = some (.cells #[.int .u64 0, .int .u64 0, .int .u64 a, .int .u64 b, .string s, .string o, .int .i64 0, .int .i64 0, .bool er, .slice A 0 ca] 33 (0, 0)) := by rw [B1.out.block _ HZ.out]; exact HBX.out
      have y0 : wr.cell? ⟨w.heap.size, 0, none⟩ = some (.int .u64 0) := by rw [cell_of_row _ _ _ _ _ _ hob]; rfl
      have y1 : wr.cell? ⟨w.heap.size, 1, none⟩ = some (.int .u64 0) := by rw [cell_of_row _ _ _ _ _ _ hob]; rfl
      have y3 : wr.cell? ⟨w.heap.size, 3, none⟩ = some (.int .u64 b) := by rw [cell_of_row _ _ _ _ _ _ hob]; rfl
      have y4 : wr.cell? ⟨w.heap.size, 4, none⟩ = some (.string s) := by rw [cell_of_row _ _ _ _ _ _ hob]; rfl
      have z0 := cell_al y0
      have z1 := cell_al y1
      have z3 := cell_al y3
      have z4 := cell_al y4
      have hc := fun W => Right.calls x.f1 x.f2 x.f3 x.f4 x.f7 A9 c9 W hpl.s1 hpl.s2 hpl.o1 hpl.o2
      have HX := Aside0.mk hx
      have BX := Aside0.mk (below_alloc B1.out (.cells #[.int .u64 0, .int .u64 0, .int .u64 x.f1, .int .u64 x.f2, .string x.f3, .string x.f4, .int .i64 0, .int .i64 0, .bool x.f7, .slice A9 0 c9] 33))
      clear hx hpl hob
      by_cases hid : x.f1 = b
      · have hid1 : (x.f1 == b) = true := by simpa using hid
        have HE : Aside0 (callV (findP l b) s = .tuple #[.string x.f3, .bool (!(x.f3.toList == s.toList))]) := ⟨by
          have e : findP l b = some x := by
            unfold findP
            obtain ⟨hkl, hxe⟩ := List.getElem?_eq_some_iff.1 HX.out
            rw [List.find?_eq_some_iff_getElem]
            exact ⟨hid1, k, hkl, hxe, fun j hj => by
              have := HN.out j _ hj (List.getElem?_eq_getElem (by omega))
              rw [this]; rfl⟩
          rw [e]; rfl⟩
        have HW : Aside0 (∀ w2, Below (wr.alloc (.cells #[.int .u64 0, .int .u64 0, .int .u64 x.f1, .int .u64 x.f2, .string x.f3, .string x.f4, .int .i64 0, .int .i64 0, .bool x.f7, .slice A9 0 c9] 33)).heap.size (wr.alloc (.cells #[.int .u64 0, .int .u64 0, .int .u64 x.f1, .int .u64 x.f2, .string x.f3, .string x.f4, .int .i64 0, .int .i64 0, .bool x.f7, .slice A9 0 c9] 33)) w2 → w2.cell? ⟨wr.heap.size, 4, none⟩ = some (.string x.f3) ∧ w2.cell? ⟨w.heap.size, 4, none⟩ = some (.string s) ∧ Below w.heap.size w w2) := ⟨fun w2 hb2 => by
          refine ⟨pw_cell_below hb2 ?_, pw_cell_below hb2 (cell_al y4 _), below_then (below_then HB0.out HB0.out.size BX.out) (by have := B2.out.size; simp; omega) hb2⟩
          rw [cell_of_row _ _ _ _ _ _ (heap_alloc_new wr _)]
          rfl⟩
        clear hid
        go_wp2_with (go_at_call 23; refine (hc _).mono ?_; rintro e w2 ⟨rfl, hb2⟩; obtain ⟨q4, q5, hbb⟩ := HW.out _ hb2)
        go_quiet (fail)
        go_wp2
        go_ret2
        exact ⟨by rw [HE.out]; rfl, pw_below_drewN hbb _⟩
      · have hid1 : (x.f1 == b) = false := by simpa using hid
        clear hid
        go_wp2_with fail
        go_roundg (l.length - (k + 1))
        case measure => omega
        case rel => exact ⟨k + 1, by omega, by omega, by go_num, ⟨fun j y hj hy => by
          rcases Nat.lt_or_ge j k with h | h
          · exact HN.out j y h hy
          · obtain rfl : j = k := by omega
            rw [HX.out] at hy
            injection hy with hy
            rw [← hy]
            exact hid1⟩, BX⟩
    · obtain rfl : k = l.length := by omega
      have hd : decide ((l.length : Int) < (l.length : Int)) = false := by simp
      have HE : Aside0 (callV (findP l b) s = .tuple #[.string ⟨#[]⟩, .bool false]) := ⟨by
        have e : findP l b = none := by
          unfold findP
          rw [List.find?_eq_none]
          intro x hx
          obtain ⟨j, hj, e⟩ := List.mem_iff_getElem.1 hx
          rw [HN.out j x hj (by rw [List.getElem?_eq_getElem hj, e])]
          simp
        rw [e]; rfl⟩
      go_wp2
      go_ret2
      exact ⟨by rw [HE.out]; rfl, B2.out⟩
end Go.Proofs.Ytbfapgagmbiiaaa
