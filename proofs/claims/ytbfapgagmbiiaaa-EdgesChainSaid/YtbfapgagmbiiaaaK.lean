import Derived.Test.YtbfapgagmbiiaaaPl
import Derived.Test.YtbfapgagmbiiaaaProg
import Derived.Test.YtbfapgagmbiiaaaWNEv
namespace Go.Proofs.Ytbfapgagmbiiaaa
open Gl Go.RowKit Go.Proofs.YtbfapgagmbiiaaaW.PrintWords
set_option linter.unusedVariables false
set_option linter.unusedSimpArgs false
theorem info3 : (Try.prog.info? 3).map (fun i => (i.zero, i.size, i.bytes)) = some (some (.int .i64 0), 1, 8) := by kernel_rfl
theorem info4 : (Try.prog.info? 4).map (fun i => (i.zero, i.size, i.bytes)) = some (some (.bool false), 1, 1) := by kernel_rfl
theorem info22 : (Try.prog.info? 22).map (fun i => (i.zero, i.size, i.bytes)) = some (some (.slice none 0 0), 1, 24) := by kernel_rfl
theorem info33 : (Try.prog.info? 33).map (fun i => (i.zero, i.size, i.bytes)) = some (some (.agg #[(.int .u64 0), (.int .u64 0), (.int .u64 0), (.int .u64 0), (.string ⟨#[]⟩), (.string ⟨#[]⟩), (.int .i64 0), (.int .i64 0), (.bool false), (.slice none 0 0)]), 10, 112) := by kernel_rfl
theorem info36 : (Try.prog.info? 36).map (fun i => (i.zero, i.size, i.bytes)) = some (some (.agg #[(.string ⟨#[]⟩), (.string ⟨#[]⟩), (.int .i64 0), (.int .i64 0)]), 4, 48) := by kernel_rfl
theorem info69 : (Try.prog.info? 69).map (fun i => (i.zero, i.size, i.bytes)) = some (some (.agg #[(.string ⟨#[]⟩), (.string ⟨#[]⟩)]), 2, 32) := by kernel_rfl
/-! #### struct type 30 -/
def zTrace : STrace := ⟨(0 : Int), (0 : Int)⟩
def kTrace : Kd STrace := Kd.iso (Kd.pair (Kd.int .u64) (Kd.int .u64)) (fun x : STrace => (x.f0, x.f1))
theorem kTrace_open {w : World} {x : STrace} {cs : List Value} (h : kTrace.K w x cs) : cs = [.int .u64 x.f0, .int .u64 x.f1] := by
  obtain ⟨_, _, rfl, rfl, rfl⟩ := h
  exact rfl
theorem kTrace_openM {w : World} {base : Nat} {ok : Nat → Prop} {x : STrace} {cs : List Value} (h : kTrace.M w base ok x cs) : cs = [.int .u64 x.f0, .int .u64 x.f1] := by
  obtain ⟨_, _, rfl, rfl, rfl⟩ := h
  exact rfl
theorem kTrace_mk (w : World) (x : STrace)  : kTrace.K w x [.int .u64 x.f0, .int .u64 x.f1] := ⟨[.int .u64 x.f0], [.int .u64 x.f1], rfl, rfl, rfl⟩
theorem kTrace_mkM (w : World) (base : Nat) (ok : Nat → Prop) (x : STrace)  : kTrace.M w base ok x [.int .u64 x.f0, .int .u64 x.f1] := ⟨[.int .u64 x.f0], [.int .u64 x.f1], rfl, rfl, rfl⟩
def rd_Trace (xs : List STrace) (i : Int) : STrace := xs.getD i.toNat zTrace
theorem at_Trace {w : World} {A : Option Addr} {n : Nat} {xs : List STrace} (h : Kd.C kTrace w A n xs) (i : Int) (h0 : 0 ≤ i) (h1 : i < n) : ∃ ad , A = some ad ∧ w.cell? (ad.add (i.toNat * 2)) = some (.int .u64 (rd_Trace xs i).f0) ∧ w.cell? ⟨(ad.add (i.toNat * 2)).block, (ad.add (i.toNat * 2)).off + 1, none⟩ = some (.int .u64 (rd_Trace xs i).f1) := by
  obtain ⟨ad, c, e, _, hK, hc0⟩ := Kd.C_get h zTrace i h0 h1
  have hc : ∀ j u, c[j]? = some u → w.cell? (ad.add (i.toNat * 2 + j)) = some u := hc0
  obtain rfl := kTrace_open hK
  exact ⟨ad, e, hc 0 _ rfl, by rw [← add_field _ _ 1 (by omega)]; exact hc 1 _ rfl⟩

/-! #### struct type 69 -/
def zAttr : SAttr := ⟨(⟨#[]⟩ : ByteArray), (⟨#[]⟩ : ByteArray)⟩
def kAttr : Kd SAttr := Kd.iso (Kd.pair Kd.string Kd.string) (fun x : SAttr => (x.f0, x.f1))
theorem kAttr_open {w : World} {x : SAttr} {cs : List Value} (h : kAttr.K w x cs) : cs = [.string x.f0, .string x.f1] := by
  obtain ⟨_, _, rfl, rfl, rfl⟩ := h
  exact rfl
theorem kAttr_openM {w : World} {base : Nat} {ok : Nat → Prop} {x : SAttr} {cs : List Value} (h : kAttr.M w base ok x cs) : cs = [.string x.f0, .string x.f1] := by
  obtain ⟨_, _, rfl, rfl, rfl⟩ := h
  exact rfl
theorem kAttr_mk (w : World) (x : SAttr)  : kAttr.K w x [.string x.f0, .string x.f1] := ⟨[.string x.f0], [.string x.f1], rfl, rfl, rfl⟩
theorem kAttr_mkM (w : World) (base : Nat) (ok : Nat → Prop) (x : SAttr)  : kAttr.M w base ok x [.string x.f0, .string x.f1] := ⟨[.string x.f0], [.string x.f1], rfl, rfl, rfl⟩
def rd_Attr (xs : List SAttr) (i : Int) : SAttr := xs.getD i.toNat zAttr
theorem at_Attr {w : World} {A : Option Addr} {n : Nat} {xs : List SAttr} (h : Kd.C kAttr w A n xs) (i : Int) (h0 : 0 ≤ i) (h1 : i < n) : ∃ ad , A = some ad ∧ w.cell? (ad.add (i.toNat * 2)) = some (.string (rd_Attr xs i).f0) ∧ w.cell? ⟨(ad.add (i.toNat * 2)).block, (ad.add (i.toNat * 2)).off + 1, none⟩ = some (.string (rd_Attr xs i).f1) := by
  obtain ⟨ad, c, e, _, hK, hc0⟩ := Kd.C_get h zAttr i h0 h1
  have hc : ∀ j u, c[j]? = some u → w.cell? (ad.add (i.toNat * 2 + j)) = some u := hc0
  obtain rfl := kAttr_open hK
  exact ⟨ad, e, hc 0 _ rfl, by rw [← add_field _ _ 1 (by omega)]; exact hc 1 _ rfl⟩

def rd_LAttr (xs : List (List SAttr)) (i : Int) : (List SAttr) := xs.getD i.toNat ([] : List SAttr)
theorem at_LAttr {w : World} {A : Option Addr} {n : Nat} {xs : List (List SAttr)} (h : Kd.C (Kd.slice 69 kAttr) w A n xs) (i : Int) (h0 : 0 ≤ i) (h1 : i < n) : ∃ ad A0 c0, A = some ad ∧ w.cell? (ad.add i.toNat) = some (.slice A0 (rd_LAttr xs i).length c0) ∧ (rd_LAttr xs i).length ≤ c0 ∧ kAttr.C w A0 (rd_LAttr xs i).length (rd_LAttr xs i) := by
  obtain ⟨ad, c, e, _, hK, hc0⟩ := Kd.C_get h ([] : List SAttr) i h0 h1
  have hc : ∀ j u, c[j]? = some u → w.cell? (ad.add (i.toNat * 1 + j)) = some u := hc0
  obtain ⟨A0, c0, rfl, l0, g0⟩ := hK
  exact ⟨ad, A0, c0, e, by have hq := hc 0 _ rfl; rwa [Nat.mul_one, Nat.add_zero] at hq, l0, g0⟩

/-! #### struct type 33 -/
def zSpan : SSpan := ⟨zTrace, (0 : Int), (0 : Int), (⟨#[]⟩ : ByteArray), (⟨#[]⟩ : ByteArray), (0 : Int), (0 : Int), false, ([] : List SAttr)⟩
def kSpan : Kd SSpan := Kd.iso (Kd.pair kTrace (Kd.pair (Kd.int .u64) (Kd.pair (Kd.int .u64) (Kd.pair Kd.string (Kd.pair Kd.string (Kd.pair (Kd.int .i64) (Kd.pair (Kd.int .i64) (Kd.pair Kd.bool (Kd.slice 69 kAttr))))))))) (fun x : SSpan => (x.f0, x.f1, x.f2, x.f3, x.f4, x.f5, x.f6, x.f7, x.f8))
theorem kSpan_open {w : World} {x : SSpan} {cs : List Value} (h : kSpan.K w x cs) : ∃ A9 c9, cs = [.int .u64 x.f0.f0, .int .u64 x.f0.f1, .int .u64 x.f1, .int .u64 x.f2, .string x.f3, .string x.f4, .int .i64 x.f5, .int .i64 x.f6, .bool x.f7, .slice A9 x.f8.length c9] ∧ x.f8.length ≤ c9 ∧ kAttr.C w A9 x.f8.length x.f8 := by
  obtain ⟨_, _, rfl, s0, ⟨_, _, rfl, rfl, ⟨_, _, rfl, rfl, ⟨_, _, rfl, rfl, ⟨_, _, rfl, rfl, ⟨_, _, rfl, rfl, ⟨_, _, rfl, rfl, ⟨_, _, rfl, rfl, ⟨A9, c9, rfl, l9, g9⟩⟩⟩⟩⟩⟩⟩⟩⟩ := h
  obtain rfl := kTrace_open s0
  exact ⟨A9, c9, rfl, l9, g9⟩
theorem kSpan_openM {w : World} {base : Nat} {ok : Nat → Prop} {x : SSpan} {cs : List Value} (h : kSpan.M w base ok x cs) : ∃ v9, cs = [.int .u64 x.f0.f0, .int .u64 x.f0.f1, .int .u64 x.f1, .int .u64 x.f2, .string x.f3, .string x.f4, .int .i64 x.f5, .int .i64 x.f6, .bool x.f7, v9] ∧ kAttr.R 69 w base ok v9 x.f8 := by
  obtain ⟨_, _, rfl, s0, ⟨_, _, rfl, rfl, ⟨_, _, rfl, rfl, ⟨_, _, rfl, rfl, ⟨_, _, rfl, rfl, ⟨_, _, rfl, rfl, ⟨_, _, rfl, rfl, ⟨_, _, rfl, rfl, ⟨v9, rfl, g9⟩⟩⟩⟩⟩⟩⟩⟩⟩ := h
  obtain rfl := kTrace_openM s0
  exact ⟨v9, rfl, g9⟩
theorem kSpan_mk (w : World) (x : SSpan) {A9 : Option Addr} {c9 : Nat} (l9 : x.f8.length ≤ c9) (g9 : kAttr.C w A9 x.f8.length x.f8) : kSpan.K w x [.int .u64 x.f0.f0, .int .u64 x.f0.f1, .int .u64 x.f1, .int .u64 x.f2, .string x.f3, .string x.f4, .int .i64 x.f5, .int .i64 x.f6, .bool x.f7, .slice A9 x.f8.length c9] := ⟨[.int .u64 x.f0.f0, .int .u64 x.f0.f1], [.int .u64 x.f1, .int .u64 x.f2, .string x.f3, .string x.f4, .int .i64 x.f5, .int .i64 x.f6, .bool x.f7, .slice A9 x.f8.length c9], rfl, (kTrace_mk w x.f0 ), ⟨[.int .u64 x.f1], [.int .u64 x.f2, .string x.f3, .string x.f4, .int .i64 x.f5, .int .i64 x.f6, .bool x.f7, .slice A9 x.f8.length c9], rfl, rfl, ⟨[.int .u64 x.f2], [.string x.f3, .string x.f4, .int .i64 x.f5, .int .i64 x.f6, .bool x.f7, .slice A9 x.f8.length c9], rfl, rfl, ⟨[.string x.f3], [.string x.f4, .int .i64 x.f5, .int .i64 x.f6, .bool x.f7, .slice A9 x.f8.length c9], rfl, rfl, ⟨[.string x.f4], [.int .i64 x.f5, .int .i64 x.f6, .bool x.f7, .slice A9 x.f8.length c9], rfl, rfl, ⟨[.int .i64 x.f5], [.int .i64 x.f6, .bool x.f7, .slice A9 x.f8.length c9], rfl, rfl, ⟨[.int .i64 x.f6], [.bool x.f7, .slice A9 x.f8.length c9], rfl, rfl, ⟨[.bool x.f7], [.slice A9 x.f8.length c9], rfl, rfl, ⟨A9, c9, rfl, l9, g9⟩⟩⟩⟩⟩⟩⟩⟩⟩
theorem kSpan_mkM (w : World) (base : Nat) (ok : Nat → Prop) (x : SSpan) {v9 : Value} (g9 : kAttr.R 69 w base ok v9 x.f8) : kSpan.M w base ok x [.int .u64 x.f0.f0, .int .u64 x.f0.f1, .int .u64 x.f1, .int .u64 x.f2, .string x.f3, .string x.f4, .int .i64 x.f5, .int .i64 x.f6, .bool x.f7, v9] := ⟨[.int .u64 x.f0.f0, .int .u64 x.f0.f1], [.int .u64 x.f1, .int .u64 x.f2, .string x.f3, .string x.f4, .int .i64 x.f5, .int .i64 x.f6, .bool x.f7, v9], rfl, (kTrace_mkM w base ok x.f0 ), ⟨[.int .u64 x.f1], [.int .u64 x.f2, .string x.f3, .string x.f4, .int .i64 x.f5, .int .i64 x.f6, .bool x.f7, v9], rfl, rfl, ⟨[.int .u64 x.f2], [.string x.f3, .string x.f4, .int .i64 x.f5, .int .i64 x.f6, .bool x.f7, v9], rfl, rfl, ⟨[.string x.f3], [.string x.f4, .int .i64 x.f5, .int .i64 x.f6, .bool x.f7, v9], rfl, rfl, ⟨[.string x.f4], [.int .i64 x.f5, .int .i64 x.f6, .bool x.f7, v9], rfl, rfl, ⟨[.int .i64 x.f5], [.int .i64 x.f6, .bool x.f7, v9], rfl, rfl, ⟨[.int .i64 x.f6], [.bool x.f7, v9], rfl, rfl, ⟨[.bool x.f7], [v9], rfl, rfl, ⟨v9, rfl, g9⟩⟩⟩⟩⟩⟩⟩⟩⟩
def rd_Span (xs : List SSpan) (i : Int) : SSpan := xs.getD i.toNat zSpan
theorem at_Span {w : World} {A : Option Addr} {n : Nat} {xs : List SSpan} (h : Kd.C kSpan w A n xs) (i : Int) (h0 : 0 ≤ i) (h1 : i < n) : ∃ ad A9 c9, A = some ad ∧ w.cell? (ad.add (i.toNat * 10)) = some (.int .u64 (rd_Span xs i).f0.f0) ∧ w.cell? ⟨(ad.add (i.toNat * 10)).block, (ad.add (i.toNat * 10)).off + 1, none⟩ = some (.int .u64 (rd_Span xs i).f0.f1) ∧ w.cell? ⟨(ad.add (i.toNat * 10)).block, (ad.add (i.toNat * 10)).off + 2, none⟩ = some (.int .u64 (rd_Span xs i).f1) ∧ w.cell? ⟨(ad.add (i.toNat * 10)).block, (ad.add (i.toNat * 10)).off + 3, none⟩ = some (.int .u64 (rd_Span xs i).f2) ∧ w.cell? ⟨(ad.add (i.toNat * 10)).block, (ad.add (i.toNat * 10)).off + 4, none⟩ = some (.string (rd_Span xs i).f3) ∧ w.cell? ⟨(ad.add (i.toNat * 10)).block, (ad.add (i.toNat * 10)).off + 5, none⟩ = some (.string (rd_Span xs i).f4) ∧ w.cell? ⟨(ad.add (i.toNat * 10)).block, (ad.add (i.toNat * 10)).off + 6, none⟩ = some (.int .i64 (rd_Span xs i).f5) ∧ w.cell? ⟨(ad.add (i.toNat * 10)).block, (ad.add (i.toNat * 10)).off + 7, none⟩ = some (.int .i64 (rd_Span xs i).f6) ∧ w.cell? ⟨(ad.add (i.toNat * 10)).block, (ad.add (i.toNat * 10)).off + 8, none⟩ = some (.bool (rd_Span xs i).f7) ∧ w.cell? ⟨(ad.add (i.toNat * 10)).block, (ad.add (i.toNat * 10)).off + 9, none⟩ = some (.slice A9 (rd_Span xs i).f8.length c9) ∧ (rd_Span xs i).f8.length ≤ c9 ∧ kAttr.C w A9 (rd_Span xs i).f8.length (rd_Span xs i).f8 := by
  obtain ⟨ad, c, e, _, hK, hc0⟩ := Kd.C_get h zSpan i h0 h1
  have hc : ∀ j u, c[j]? = some u → w.cell? (ad.add (i.toNat * 10 + j)) = some u := hc0
  obtain ⟨A9, c9, rfl, l9, g9⟩ := kSpan_open hK
  exact ⟨ad, A9, c9, e, hc 0 _ rfl, by rw [← add_field _ _ 1 (by omega)]; exact hc 1 _ rfl, by rw [← add_field _ _ 2 (by omega)]; exact hc 2 _ rfl, by rw [← add_field _ _ 3 (by omega)]; exact hc 3 _ rfl, by rw [← add_field _ _ 4 (by omega)]; exact hc 4 _ rfl, by rw [← add_field _ _ 5 (by omega)]; exact hc 5 _ rfl, by rw [← add_field _ _ 6 (by omega)]; exact hc 6 _ rfl, by rw [← add_field _ _ 7 (by omega)]; exact hc 7 _ rfl, by rw [← add_field _ _ 8 (by omega)]; exact hc 8 _ rfl, by rw [← add_field _ _ 9 (by omega)]; exact hc 9 _ rfl, l9, g9⟩

def rd_LSpan (xs : List (List SSpan)) (i : Int) : (List SSpan) := xs.getD i.toNat ([] : List SSpan)
theorem at_LSpan {w : World} {A : Option Addr} {n : Nat} {xs : List (List SSpan)} (h : Kd.C (Kd.slice 33 kSpan) w A n xs) (i : Int) (h0 : 0 ≤ i) (h1 : i < n) : ∃ ad A0 c0, A = some ad ∧ w.cell? (ad.add i.toNat) = some (.slice A0 (rd_LSpan xs i).length c0) ∧ (rd_LSpan xs i).length ≤ c0 ∧ kSpan.C w A0 (rd_LSpan xs i).length (rd_LSpan xs i) := by
  obtain ⟨ad, c, e, _, hK, hc0⟩ := Kd.C_get h ([] : List SSpan) i h0 h1
  have hc : ∀ j u, c[j]? = some u → w.cell? (ad.add (i.toNat * 1 + j)) = some u := hc0
  obtain ⟨A0, c0, rfl, l0, g0⟩ := hK
  exact ⟨ad, A0, c0, e, by have hq := hc 0 _ rfl; rwa [Nat.mul_one, Nat.add_zero] at hq, l0, g0⟩

/-! #### struct type 36 -/
def zEdge : SEdge := ⟨(⟨#[]⟩ : ByteArray), (⟨#[]⟩ : ByteArray), (0 : Int), (0 : Int)⟩
def kEdge : Kd SEdge := Kd.iso (Kd.pair Kd.string (Kd.pair Kd.string (Kd.pair (Kd.int .i64) (Kd.int .i64)))) (fun x : SEdge => (x.f0, x.f1, x.f2, x.f3))
theorem kEdge_open {w : World} {x : SEdge} {cs : List Value} (h : kEdge.K w x cs) : cs = [.string x.f0, .string x.f1, .int .i64 x.f2, .int .i64 x.f3] := by
  obtain ⟨_, _, rfl, rfl, ⟨_, _, rfl, rfl, ⟨_, _, rfl, rfl, rfl⟩⟩⟩ := h
  exact rfl
theorem kEdge_openM {w : World} {base : Nat} {ok : Nat → Prop} {x : SEdge} {cs : List Value} (h : kEdge.M w base ok x cs) : cs = [.string x.f0, .string x.f1, .int .i64 x.f2, .int .i64 x.f3] := by
  obtain ⟨_, _, rfl, rfl, ⟨_, _, rfl, rfl, ⟨_, _, rfl, rfl, rfl⟩⟩⟩ := h
  exact rfl
theorem kEdge_mk (w : World) (x : SEdge)  : kEdge.K w x [.string x.f0, .string x.f1, .int .i64 x.f2, .int .i64 x.f3] := ⟨[.string x.f0], [.string x.f1, .int .i64 x.f2, .int .i64 x.f3], rfl, rfl, ⟨[.string x.f1], [.int .i64 x.f2, .int .i64 x.f3], rfl, rfl, ⟨[.int .i64 x.f2], [.int .i64 x.f3], rfl, rfl, rfl⟩⟩⟩
theorem kEdge_mkM (w : World) (base : Nat) (ok : Nat → Prop) (x : SEdge)  : kEdge.M w base ok x [.string x.f0, .string x.f1, .int .i64 x.f2, .int .i64 x.f3] := ⟨[.string x.f0], [.string x.f1, .int .i64 x.f2, .int .i64 x.f3], rfl, rfl, ⟨[.string x.f1], [.int .i64 x.f2, .int .i64 x.f3], rfl, rfl, ⟨[.int .i64 x.f2], [.int .i64 x.f3], rfl, rfl, rfl⟩⟩⟩
def rd_Edge (xs : List SEdge) (i : Int) : SEdge := xs.getD i.toNat zEdge
theorem at_Edge {w : World} {A : Option Addr} {n : Nat} {xs : List SEdge} (h : Kd.C kEdge w A n xs) (i : Int) (h0 : 0 ≤ i) (h1 : i < n) : ∃ ad , A = some ad ∧ w.cell? (ad.add (i.toNat * 4)) = some (.string (rd_Edge xs i).f0) ∧ w.cell? ⟨(ad.add (i.toNat * 4)).block, (ad.add (i.toNat * 4)).off + 1, none⟩ = some (.string (rd_Edge xs i).f1) ∧ w.cell? ⟨(ad.add (i.toNat * 4)).block, (ad.add (i.toNat * 4)).off + 2, none⟩ = some (.int .i64 (rd_Edge xs i).f2) ∧ w.cell? ⟨(ad.add (i.toNat * 4)).block, (ad.add (i.toNat * 4)).off + 3, none⟩ = some (.int .i64 (rd_Edge xs i).f3) := by
  obtain ⟨ad, c, e, _, hK, hc0⟩ := Kd.C_get h zEdge i h0 h1
  have hc : ∀ j u, c[j]? = some u → w.cell? (ad.add (i.toNat * 4 + j)) = some u := hc0
  obtain rfl := kEdge_open hK
  exact ⟨ad, e, hc 0 _ rfl, by rw [← add_field _ _ 1 (by omega)]; exact hc 1 _ rfl, by rw [← add_field _ _ 2 (by omega)]; exact hc 2 _ rfl, by rw [← add_field _ _ 3 (by omega)]; exact hc 3 _ rfl⟩

def rd_LEdge (xs : List (List SEdge)) (i : Int) : (List SEdge) := xs.getD i.toNat ([] : List SEdge)
theorem at_LEdge {w : World} {A : Option Addr} {n : Nat} {xs : List (List SEdge)} (h : Kd.C (Kd.slice 36 kEdge) w A n xs) (i : Int) (h0 : 0 ≤ i) (h1 : i < n) : ∃ ad A0 c0, A = some ad ∧ w.cell? (ad.add i.toNat) = some (.slice A0 (rd_LEdge xs i).length c0) ∧ (rd_LEdge xs i).length ≤ c0 ∧ kEdge.C w A0 (rd_LEdge xs i).length (rd_LEdge xs i) := by
  obtain ⟨ad, c, e, _, hK, hc0⟩ := Kd.C_get h ([] : List SEdge) i h0 h1
  have hc : ∀ j u, c[j]? = some u → w.cell? (ad.add (i.toNat * 1 + j)) = some u := hc0
  obtain ⟨A0, c0, rfl, l0, g0⟩ := hK
  exact ⟨ad, A0, c0, e, by have hq := hc 0 _ rfl; rwa [Nat.mul_one, Nat.add_zero] at hq, l0, g0⟩

def rd_Lbool (xs : List (List Bool)) (i : Int) : (List Bool) := xs.getD i.toNat ([] : List Bool)
theorem at_Lbool {w : World} {A : Option Addr} {n : Nat} {xs : List (List Bool)} (h : Kd.C (Kd.slice 4 Kd.bool) w A n xs) (i : Int) (h0 : 0 ≤ i) (h1 : i < n) : ∃ ad A0 c0, A = some ad ∧ w.cell? (ad.add i.toNat) = some (.slice A0 (rd_Lbool xs i).length c0) ∧ (rd_Lbool xs i).length ≤ c0 ∧ Kd.bool.C w A0 (rd_Lbool xs i).length (rd_Lbool xs i) := by
  obtain ⟨ad, c, e, _, hK, hc0⟩ := Kd.C_get h ([] : List Bool) i h0 h1
  have hc : ∀ j u, c[j]? = some u → w.cell? (ad.add (i.toNat * 1 + j)) = some u := hc0
  obtain ⟨A0, c0, rfl, l0, g0⟩ := hK
  exact ⟨ad, A0, c0, e, by have hq := hc 0 _ rfl; rwa [Nat.mul_one, Nat.add_zero] at hq, l0, g0⟩

def rd_Li64 (xs : List (List Int)) (i : Int) : (List Int) := xs.getD i.toNat ([] : List Int)
theorem at_Li64 {w : World} {A : Option Addr} {n : Nat} {xs : List (List Int)} (h : Kd.C (Kd.slice 3 (Kd.int .i64)) w A n xs) (i : Int) (h0 : 0 ≤ i) (h1 : i < n) : ∃ ad A0 c0, A = some ad ∧ w.cell? (ad.add i.toNat) = some (.slice A0 (rd_Li64 xs i).length c0) ∧ (rd_Li64 xs i).length ≤ c0 ∧ (Kd.int .i64).C w A0 (rd_Li64 xs i).length (rd_Li64 xs i) := by
  obtain ⟨ad, c, e, _, hK, hc0⟩ := Kd.C_get h ([] : List Int) i h0 h1
  have hc : ∀ j u, c[j]? = some u → w.cell? (ad.add (i.toNat * 1 + j)) = some u := hc0
  obtain ⟨A0, c0, rfl, l0, g0⟩ := hK
  exact ⟨ad, A0, c0, e, by have hq := hc 0 _ rfl; rwa [Nat.mul_one, Nat.add_zero] at hq, l0, g0⟩

def rd_LLi64 (xs : List (List (List Int))) (i : Int) : (List (List Int)) := xs.getD i.toNat ([] : List (List Int))
theorem at_LLi64 {w : World} {A : Option Addr} {n : Nat} {xs : List (List (List Int))} (h : Kd.C (Kd.slice 22 (Kd.slice 3 (Kd.int .i64))) w A n xs) (i : Int) (h0 : 0 ≤ i) (h1 : i < n) : ∃ ad A0 c0, A = some ad ∧ w.cell? (ad.add i.toNat) = some (.slice A0 (rd_LLi64 xs i).length c0) ∧ (rd_LLi64 xs i).length ≤ c0 ∧ (Kd.slice 3 (Kd.int .i64)).C w A0 (rd_LLi64 xs i).length (rd_LLi64 xs i) := by
  obtain ⟨ad, c, e, _, hK, hc0⟩ := Kd.C_get h ([] : List (List Int)) i h0 h1
  have hc : ∀ j u, c[j]? = some u → w.cell? (ad.add (i.toNat * 1 + j)) = some u := hc0
  obtain ⟨A0, c0, rfl, l0, g0⟩ := hK
  exact ⟨ad, A0, c0, e, by have hq := hc 0 _ rfl; rwa [Nat.mul_one, Nat.add_zero] at hq, l0, g0⟩

theorem atN_Trace {w : World} {A : Option Addr} {n : Nat} {xs : List STrace} (h : Kd.C kTrace w A n xs) (i : Nat) {x : STrace} (hx : xs[i]? = some x) : ∃ ad , A = some ad ∧ w.cell? (ad.add (i * 2)) = some (.int .u64 x.f0) ∧ w.cell? ⟨(ad.add (i * 2)).block, (ad.add (i * 2)).off + 1, none⟩ = some (.int .u64 x.f1) := by
  have hl := (List.getElem?_eq_some_iff.1 hx).1
  have h2 := at_Trace h (i : Int) (by omega) (by have := h.1; omega)
  have e : rd_Trace xs (i : Int) = x := by unfold rd_Trace; rw [Int.toNat_natCast, List.getD_eq_getElem?_getD, hx]; rfl
  rw [e] at h2
  simp only [Int.toNat_natCast] at h2
  exact h2
theorem atN_Attr {w : World} {A : Option Addr} {n : Nat} {xs : List SAttr} (h : Kd.C kAttr w A n xs) (i : Nat) {x : SAttr} (hx : xs[i]? = some x) : ∃ ad , A = some ad ∧ w.cell? (ad.add (i * 2)) = some (.string x.f0) ∧ w.cell? ⟨(ad.add (i * 2)).block, (ad.add (i * 2)).off + 1, none⟩ = some (.string x.f1) := by
  have hl := (List.getElem?_eq_some_iff.1 hx).1
  have h2 := at_Attr h (i : Int) (by omega) (by have := h.1; omega)
  have e : rd_Attr xs (i : Int) = x := by unfold rd_Attr; rw [Int.toNat_natCast, List.getD_eq_getElem?_getD, hx]; rfl
  rw [e] at h2
  simp only [Int.toNat_natCast] at h2
  exact h2
theorem atN_LAttr {w : World} {A : Option Addr} {n : Nat} {xs : List (List SAttr)} (h : Kd.C (Kd.slice 69 kAttr) w A n xs) (i : Nat) {x : (List SAttr)} (hx : xs[i]? = some x) : ∃ ad A0 c0, A = some ad ∧ w.cell? (ad.add i) = some (.slice A0 x.length c0) ∧ x.length ≤ c0 ∧ kAttr.C w A0 x.length x := by
  have hl := (List.getElem?_eq_some_iff.1 hx).1
  have h2 := at_LAttr h (i : Int) (by omega) (by have := h.1; omega)
  have e : rd_LAttr xs (i : Int) = x := by unfold rd_LAttr; rw [Int.toNat_natCast, List.getD_eq_getElem?_getD, hx]; rfl
  rw [e] at h2
  simp only [Int.toNat_natCast] at h2
  exact h2
theorem atN_Span {w : World} {A : Option Addr} {n : Nat} {xs : List SSpan} (h : Kd.C kSpan w A n xs) (i : Nat) {x : SSpan} (hx : xs[i]? = some x) : ∃ ad A9 c9, A = some ad ∧ w.cell? (ad.add (i * 10)) = some (.int .u64 x.f0.f0) ∧ w.cell? ⟨(ad.add (i * 10)).block, (ad.add (i * 10)).off + 1, none⟩ = some (.int .u64 x.f0.f1) ∧ w.cell? ⟨(ad.add (i * 10)).block, (ad.add (i * 10)).off + 2, none⟩ = some (.int .u64 x.f1) ∧ w.cell? ⟨(ad.add (i * 10)).block, (ad.add (i * 10)).off + 3, none⟩ = some (.int .u64 x.f2) ∧ w.cell? ⟨(ad.add (i * 10)).block, (ad.add (i * 10)).off + 4, none⟩ = some (.string x.f3) ∧ w.cell? ⟨(ad.add (i * 10)).block, (ad.add (i * 10)).off + 5, none⟩ = some (.string x.f4) ∧ w.cell? ⟨(ad.add (i * 10)).block, (ad.add (i * 10)).off + 6, none⟩ = some (.int .i64 x.f5) ∧ w.cell? ⟨(ad.add (i * 10)).block, (ad.add (i * 10)).off + 7, none⟩ = some (.int .i64 x.f6) ∧ w.cell? ⟨(ad.add (i * 10)).block, (ad.add (i * 10)).off + 8, none⟩ = some (.bool x.f7) ∧ w.cell? ⟨(ad.add (i * 10)).block, (ad.add (i * 10)).off + 9, none⟩ = some (.slice A9 x.f8.length c9) ∧ x.f8.length ≤ c9 ∧ kAttr.C w A9 x.f8.length x.f8 := by
  have hl := (List.getElem?_eq_some_iff.1 hx).1
  have h2 := at_Span h (i : Int) (by omega) (by have := h.1; omega)
  have e : rd_Span xs (i : Int) = x := by unfold rd_Span; rw [Int.toNat_natCast, List.getD_eq_getElem?_getD, hx]; rfl
  rw [e] at h2
  simp only [Int.toNat_natCast] at h2
  exact h2
theorem atN_LSpan {w : World} {A : Option Addr} {n : Nat} {xs : List (List SSpan)} (h : Kd.C (Kd.slice 33 kSpan) w A n xs) (i : Nat) {x : (List SSpan)} (hx : xs[i]? = some x) : ∃ ad A0 c0, A = some ad ∧ w.cell? (ad.add i) = some (.slice A0 x.length c0) ∧ x.length ≤ c0 ∧ kSpan.C w A0 x.length x := by
  have hl := (List.getElem?_eq_some_iff.1 hx).1
  have h2 := at_LSpan h (i : Int) (by omega) (by have := h.1; omega)
  have e : rd_LSpan xs (i : Int) = x := by unfold rd_LSpan; rw [Int.toNat_natCast, List.getD_eq_getElem?_getD, hx]; rfl
  rw [e] at h2
  simp only [Int.toNat_natCast] at h2
  exact h2
theorem atN_Edge {w : World} {A : Option Addr} {n : Nat} {xs : List SEdge} (h : Kd.C kEdge w A n xs) (i : Nat) {x : SEdge} (hx : xs[i]? = some x) : ∃ ad , A = some ad ∧ w.cell? (ad.add (i * 4)) = some (.string x.f0) ∧ w.cell? ⟨(ad.add (i * 4)).block, (ad.add (i * 4)).off + 1, none⟩ = some (.string x.f1) ∧ w.cell? ⟨(ad.add (i * 4)).block, (ad.add (i * 4)).off + 2, none⟩ = some (.int .i64 x.f2) ∧ w.cell? ⟨(ad.add (i * 4)).block, (ad.add (i * 4)).off + 3, none⟩ = some (.int .i64 x.f3) := by
  have hl := (List.getElem?_eq_some_iff.1 hx).1
  have h2 := at_Edge h (i : Int) (by omega) (by have := h.1; omega)
  have e : rd_Edge xs (i : Int) = x := by unfold rd_Edge; rw [Int.toNat_natCast, List.getD_eq_getElem?_getD, hx]; rfl
  rw [e] at h2
  simp only [Int.toNat_natCast] at h2
  exact h2
theorem atN_LEdge {w : World} {A : Option Addr} {n : Nat} {xs : List (List SEdge)} (h : Kd.C (Kd.slice 36 kEdge) w A n xs) (i : Nat) {x : (List SEdge)} (hx : xs[i]? = some x) : ∃ ad A0 c0, A = some ad ∧ w.cell? (ad.add i) = some (.slice A0 x.length c0) ∧ x.length ≤ c0 ∧ kEdge.C w A0 x.length x := by
  have hl := (List.getElem?_eq_some_iff.1 hx).1
  have h2 := at_LEdge h (i : Int) (by omega) (by have := h.1; omega)
  have e : rd_LEdge xs (i : Int) = x := by unfold rd_LEdge; rw [Int.toNat_natCast, List.getD_eq_getElem?_getD, hx]; rfl
  rw [e] at h2
  simp only [Int.toNat_natCast] at h2
  exact h2
theorem atN_Lbool {w : World} {A : Option Addr} {n : Nat} {xs : List (List Bool)} (h : Kd.C (Kd.slice 4 Kd.bool) w A n xs) (i : Nat) {x : (List Bool)} (hx : xs[i]? = some x) : ∃ ad A0 c0, A = some ad ∧ w.cell? (ad.add i) = some (.slice A0 x.length c0) ∧ x.length ≤ c0 ∧ Kd.bool.C w A0 x.length x := by
  have hl := (List.getElem?_eq_some_iff.1 hx).1
  have h2 := at_Lbool h (i : Int) (by omega) (by have := h.1; omega)
  have e : rd_Lbool xs (i : Int) = x := by unfold rd_Lbool; rw [Int.toNat_natCast, List.getD_eq_getElem?_getD, hx]; rfl
  rw [e] at h2
  simp only [Int.toNat_natCast] at h2
  exact h2
theorem atN_Li64 {w : World} {A : Option Addr} {n : Nat} {xs : List (List Int)} (h : Kd.C (Kd.slice 3 (Kd.int .i64)) w A n xs) (i : Nat) {x : (List Int)} (hx : xs[i]? = some x) : ∃ ad A0 c0, A = some ad ∧ w.cell? (ad.add i) = some (.slice A0 x.length c0) ∧ x.length ≤ c0 ∧ (Kd.int .i64).C w A0 x.length x := by
  have hl := (List.getElem?_eq_some_iff.1 hx).1
  have h2 := at_Li64 h (i : Int) (by omega) (by have := h.1; omega)
  have e : rd_Li64 xs (i : Int) = x := by unfold rd_Li64; rw [Int.toNat_natCast, List.getD_eq_getElem?_getD, hx]; rfl
  rw [e] at h2
  simp only [Int.toNat_natCast] at h2
  exact h2
theorem atN_LLi64 {w : World} {A : Option Addr} {n : Nat} {xs : List (List (List Int))} (h : Kd.C (Kd.slice 22 (Kd.slice 3 (Kd.int .i64))) w A n xs) (i : Nat) {x : (List (List Int))} (hx : xs[i]? = some x) : ∃ ad A0 c0, A = some ad ∧ w.cell? (ad.add i) = some (.slice A0 x.length c0) ∧ x.length ≤ c0 ∧ (Kd.slice 3 (Kd.int .i64)).C w A0 x.length x := by
  have hl := (List.getElem?_eq_some_iff.1 hx).1
  have h2 := at_LLi64 h (i : Int) (by omega) (by have := h.1; omega)
  have e : rd_LLi64 xs (i : Int) = x := by unfold rd_LLi64; rw [Int.toNat_natCast, List.getD_eq_getElem?_getD, hx]; rfl
  rw [e] at h2
  simp only [Int.toNat_natCast] at h2
  exact h2
end Go.Proofs.Ytbfapgagmbiiaaa
