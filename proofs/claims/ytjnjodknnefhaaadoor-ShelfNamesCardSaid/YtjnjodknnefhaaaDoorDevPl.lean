/-
  THE DEVICE (package device), ITS STATE AS PLAIN DATA, AND WHERE IT LIES: 'Dev B w a s': block a of w is a device in the state s. Plain laws; no walk.
-/
import Derived.Test.YtjnjodknnefhaaaDoorProg
import Derived.WalkKit
import Derived.Below
import Derived.Maps.Own
import Derived.Maps.OwnOps
import Derived.Maps.OwnSet
import Derived.KernelRfl
namespace Go.Proofs.YtjnjodknnefhaaaDoor.Dev
open Go.RowKit
open Go.Maps (Keyed)
set_option linter.unusedSimpArgs false
set_option linter.unusedVariables false

/-- WHAT A CALL LEAVES: every block but those of S. -/
structure Kept (S : Nat → Prop) (w w' : World) : Prop where
  os : w'.os = w.os
  tape : w'.tape = w.tape
  output : w'.output = w.output
  size : w.heap.size ≤ w'.heap.size
  block : ∀ k, k < w.heap.size → ¬ S k → w'.heap[k]? = w.heap[k]?

theorem Kept.refl (S : Nat → Prop) (w : World) : Kept S w w := ⟨rfl, rfl, rfl, Nat.le_refl _, fun _ _ _ => rfl⟩
theorem Kept.trans {S S' : Nat → Prop} {a b c : World} (h : Kept S a b) (k : Kept S' b c) (hS : ∀ x, x < a.heap.size → S' x → S x) : Kept S a c :=
  ⟨k.os.trans h.os, k.tape.trans h.tape, k.output.trans h.output, Nat.le_trans h.size k.size, fun x hx hn =>
    (k.block x (Nat.lt_of_lt_of_le hx h.size) (fun h' => hn (hS x hx h'))).trans (h.block x hx hn)⟩
theorem Kept.mono {S S' : Nat → Prop} {a b : World} (h : Kept S a b) (hS : ∀ x, x < a.heap.size → S x → S' x) : Kept S' a b :=
  ⟨h.os, h.tape, h.output, h.size, fun x hx hn => h.block x hx (fun h' => hn (hS x hx h'))⟩
theorem Kept.drew {S : Nat → Prop} {a w : World} (h : Kept S a w) : Kept S a w.drew := ⟨h.os, h.tape, h.output, h.size, h.block⟩
theorem Kept.alloc {S : Nat → Prop} {a w : World} (h : Kept S a w) (o : Obj) : Kept S a (w.alloc o) :=
  ⟨h.os, h.tape, h.output, by simp; have := h.size; omega, fun x hx hn => (Below.heap_alloc w o x (Nat.lt_of_lt_of_le hx h.size)).trans (h.block x hx hn)⟩
theorem Kept.setCell {S : Nat → Prop} {a w : World} (h : Kept S a w) {p : Addr} (hp : p.block < a.heap.size → S p.block) (u : Value) : Kept S a (w.setCell p u) :=
  ⟨h.os, h.tape, h.output, by simp; exact h.size, fun x hx hn => (Below.heap_setCell w p u x (fun e => hn (by rw [e]; exact hp (e ▸ hx)))).trans (h.block x hx hn)⟩
theorem Kept.grown {S : Nat → Prop} {a w w' : World} {row : Option Nat} (h : Kept S a w) (hg : w.grownBy w' row) (hr : ∀ k, row = some k → k < a.heap.size → S k) : Kept S a w' :=
  ⟨hg.os.trans h.os, hg.tape.trans h.tape, hg.output.trans h.output, Nat.le_trans h.size hg.size, fun x hx hn =>
    (hg.block x (Nat.lt_of_lt_of_le hx h.size) (fun e => hn (hr x e.symm hx))).trans (h.block x hx hn)⟩
theorem Kept.below {S : Nat → Prop} {B : Nat} {a w : World} (h : Kept S a w) (hB : B ≤ a.heap.size) (hS : ∀ k, k < B → ¬ S k) : Below B a w :=
  ⟨h.os, h.tape, h.output, h.size, fun k hk => h.block k (Nat.lt_of_lt_of_le hk hB) (hS k hk)⟩

/-- A file. -/
structure DF where
  name : List UInt8
  blk : Nat
  row : Value
  data : List UInt8
  sure : Nat

/-- A device's state. -/
structure DS where
  room : Int
  used : Int
  fuse : Int
  mp : Option Nat
  fs : List DF

def find (fs : List DF) (n : List UInt8) : Option DF := fs.find? (fun f => f.name == n)
def ent (f : DF) : Lit × DataW Unit := (.string f.name, .lit (.int .i64 f.blk))
def datum (fs : List DF) : DataW Unit := .map (fs.map ent)
def insF (f : DF) : List DF → List DF
  | [] => [f]
  | g :: r => if Lit.before (.string f.name) (.string g.name) then f :: g :: r else g :: insF f r
def delF (fs : List DF) (n : List UInt8) : List DF := fs.filter (fun f => !(f.name == n))
def putF (fs : List DF) (f : DF) : List DF := insF f (delF fs f.name)
def setF (fs : List DF) (f : DF) : List DF := fs.map (fun g => if g.name == f.name then f else g)

theorem find_name {fs : List DF} {n : List UInt8} {f : DF} (h : find fs n = some f) : f.name = n := by
  have := List.find?_some h
  simpa using this
theorem find_mem {fs : List DF} {n : List UInt8} {f : DF} (h : find fs n = some f) : f ∈ fs := List.mem_of_find?_eq_some h

theorem find_del (fs : List DF) (n m : List UInt8) : find (delF fs n) m = if m = n then none else find fs m := by
  induction fs with
  | nil => simp [find, delF]
  | cons g r ih =>
    unfold find delF at *
    by_cases hg : g.name = n
    · by_cases hm : m = n
      · simp only [List.filter_cons, hg, beq_self_eq_true, Bool.not_true, if_neg (by simp : ¬ (false = true)), ih]
        simp [hm]
      · have : (g.name == m) = false := by simp [hg]; exact fun e => hm e.symm
        simp only [List.filter_cons, hg, beq_self_eq_true, Bool.not_true, if_neg (by simp : ¬ (false = true)), ih]
        rw [hg] at this
        simp [List.find?_cons, hg, this, hm]
    · have hgn : (g.name == n) = false := by simp [hg]
      simp only [List.filter_cons, hgn, Bool.not_false, if_true, List.find?_cons]
      by_cases hm : m = n
      · have : (g.name == m) = false := by simp [hm, hg]
        simp only [this]
        rw [ih, if_pos hm]
      · rw [if_neg hm]
        by_cases hgm : (g.name == m) = true
        · simp [hgm]
        · have hgm' : (g.name == m) = false := by simpa using hgm
          simp only [hgm']
          rw [ih, if_neg hm]

theorem find_ins (f : DF) (fs : List DF) (h : find fs f.name = none) (m : List UInt8) : find (insF f fs) m = if m = f.name then some f else find fs m := by
  induction fs with
  | nil =>
    by_cases hm : m = f.name
    · simp [find, insF, hm]
    · simp [find, insF, hm]; exact fun e => hm e.symm
  | cons g r ih =>
    have hg : (g.name == f.name) = false := by
      cases hx : (g.name == f.name)
      · rfl
      · simp [find, List.find?_cons, hx] at h
    have hr : find r f.name = none := by simpa [find, List.find?_cons, hg] using h
    unfold insF
    by_cases hb : Lit.before (.string f.name) (.string g.name) = true
    · rw [if_pos hb]
      by_cases hm : m = f.name
      · simp [find, hm]
      · have : (f.name == m) = false := by simp; exact fun e => hm e.symm
        simp [find, List.find?_cons, this, hm]
    · rw [if_neg hb]
      by_cases hm : m = f.name
      · have : (g.name == m) = false := by rw [hm]; exact hg
        simp only [find, List.find?_cons, this] at ih ⊢
        have := ih hr
        simpa [find, hm] using this
      · have h2 := ih hr
        simp only [find, List.find?_cons] at h2 ⊢
        rw [if_neg hm] at h2 ⊢
        rw [h2]

theorem find_put (fs : List DF) (f : DF) (m : List UInt8) : find (putF fs f) m = if m = f.name then some f else find fs m := by
  unfold putF
  rw [find_ins f _ (by rw [find_del]; simp)]
  by_cases hm : m = f.name
  · simp [hm]
  · rw [if_neg hm, if_neg hm, find_del, if_neg hm]

theorem find_set (fs : List DF) (f : DF) (m : List UInt8) : find (setF fs f) m = if m = f.name ∧ (find fs m).isSome = true then some f else find fs m := by
  induction fs with
  | nil => simp [find, setF]
  | cons g r ih =>
    unfold find setF at *
    by_cases hg : g.name = f.name
    · by_cases hm : m = f.name
      · simp [List.find?_cons, hg, hm]
      · have h1 : (f.name == m) = false := by simp; exact fun e => hm e.symm
        simp only [List.map_cons, hg, beq_self_eq_true, if_true, List.find?_cons, h1, ih]
    · have hgf : (g.name == f.name) = false := by simp [hg]
      simp only [List.map_cons, hgf, if_neg (by simp : ¬ (false = true)), List.find?_cons]
      by_cases hgm : (g.name == m) = true
      · have : m ≠ f.name := fun e => hg ((beq_iff_eq.1 hgm).trans e)
        simp [hgm, this]
      · have hgm' : (g.name == m) = false := by simpa using hgm
        simp only [hgm', ih]

theorem datum_atKey (fs : List DF) (n : List UInt8) : (datum fs).atKey (.string n) .nil = match find fs n with | some f => .lit (.int .i64 f.blk) | none => .nil := by
  unfold DataW.atKey datum find
  simp only []
  rw [List.find?_map]
  have : ((fun p : Lit × DataW Unit => p.1.sameKey (.string n)) ∘ ent) = (fun f => f.name == n) := by
    funext f
    simp [ent, Lit.sameKey]
  rw [this]
  cases fs.find? (fun f => f.name == n) <;> rfl

theorem datum_filter (fs : List DF) (n : List UInt8) : (fs.map ent).filter (fun p => !p.1.sameKey (.string n)) = (delF fs n).map ent := by
  unfold delF
  rw [List.filter_map]
  congr 1

theorem datum_ins (f : DF) (fs : List DF) : DataW.insert (ent f) (fs.map ent) = (insF f fs).map ent := by
  induction fs with
  | nil => rfl
  | cons g r ih =>
    simp only [List.map_cons, DataW.insert, insF]
    by_cases hb : Lit.before (.string f.name) (.string g.name) = true
    · have h2 : (ent f).1.before (ent g).1 = true := hb
      rw [if_pos hb, if_pos h2]; rfl
    · have h2 : ¬ (ent f).1.before (ent g).1 = true := hb
      rw [if_neg hb, if_neg h2, ih]; rfl

theorem datum_put (fs : List DF) (f : DF) : (datum fs).put (.string f.name) (.lit (.int .i64 f.blk)) = datum (putF fs f) := by
  unfold DataW.put datum putF
  simp only []
  rw [datum_filter]
  exact congrArg _ (datum_ins f _)

theorem datum_del (fs : List DF) (n : List UInt8) : (datum fs).del (.string n) = datum (delF fs n) := by
  unfold DataW.del datum
  simp only []
  rw [datum_filter]

theorem datum_set (fs : List DF) (f : DF) (h : ∀ g ∈ fs, g.name = f.name → g.blk = f.blk) : datum (setF fs f) = datum fs := by
  unfold datum setF
  rw [List.map_map]
  congr 1
  apply List.map_congr_left
  intro g hg
  by_cases hn : g.name = f.name
  · simp [ent, hn, h g hg hn]
  · simp [hn]

/-- HOW A MAP's ELEMENT READS: a file's block. -/
def ptrR : Value → Option (DataW Unit × List MemPlace)
  | .pointer (some ⟨b, 0, none⟩) => some (.lit (.int .i64 b), [])
  | .pointer none => some (.nil, [])
  | _ => none
def ptrOf : Option DF → Value
  | some f => .pointer (some ⟨f.blk, 0, none⟩)
  | none => .pointer none

theorem ptrR_lit {v : Value} {b : Nat} {ps : List MemPlace} (h : ptrR v = some (.lit (.int .i64 b), ps)) : v = .pointer (some ⟨b, 0, none⟩) := by
  unfold ptrR at h
  split at h
  · injection h with h; injection h with h1 h2; injection h1 with h1; injection h1 with _ h1
    have := Int.ofNat.inj h1
    rw [this]
  · injection h with h; injection h with h1 h2; cases h1
  · cases h
theorem ptrR_nil {v : Value} {ps : List MemPlace} (h : ptrR v = some (.nil, ps)) : v = .pointer none := by
  unfold ptrR at h
  split at h
  · injection h with h; injection h with h1 h2; cases h1
  · rfl
  · cases h

/-- THE FILES STAND BY THEIR NAMES. -/
def Srt (fs : List DF) : Prop := fs.Pairwise (fun f g => Lit.before (.string f.name) (.string g.name) = true)

theorem srt_del {fs : List DF} (h : Srt fs) (n : List UInt8) : Srt (delF fs n) := List.Pairwise.filter _ h
theorem srt_ins (f : DF) : ∀ {fs : List DF}, Srt fs → (∀ g ∈ fs, g.name ≠ f.name) → Srt (insF f fs)
  | [], _, _ => by simp [Srt, insF]
  | g :: r, h, hn => by
    obtain ⟨h1, h2⟩ := List.pairwise_cons.1 h
    unfold insF
    by_cases hb : Lit.before (.string f.name) (.string g.name) = true
    · rw [if_pos hb]
      refine List.pairwise_cons.2 ⟨fun x hx => ?_, h⟩
      rcases List.mem_cons.1 hx with rfl | hx
      · exact hb
      · exact WideShapes.before_trans hb (h1 x hx)
    · rw [if_neg hb]
      refine List.pairwise_cons.2 ⟨fun x hx => ?_, srt_ins f h2 (fun y hy => hn y (List.mem_cons_of_mem _ hy))⟩
      have hgf : Lit.before (.string g.name) (.string f.name) = true := by
        rcases ChangeMaps.before_total (a := .string g.name) (b := .string f.name) ⟨_, rfl⟩ ⟨_, rfl⟩ (fun e => hn g (List.mem_cons_self ..) (by injection e)) with h3 | h3
        · exact h3
        · exact absurd h3 hb
      have hm : ∀ (l : List DF), x ∈ insF f l → x = f ∨ x ∈ l := by
        intro l
        induction l with
        | nil => intro hx; simp [insF] at hx; exact .inl hx
        | cons y l ih =>
          intro hx
          unfold insF at hx
          split at hx
          · rcases List.mem_cons.1 hx with rfl | hx
            · exact .inl rfl
            · exact .inr hx
          · rcases List.mem_cons.1 hx with rfl | hx
            · exact .inr (List.mem_cons_self ..)
            · rcases ih hx with h' | h'
              · exact .inl h'
              · exact .inr (List.mem_cons_of_mem _ h')
      rcases hm r hx with rfl | hx
      · exact hgf
      · exact h1 x hx
theorem srt_put {fs : List DF} (h : Srt fs) (f : DF) : Srt (putF fs f) :=
  srt_ins f (srt_del h _) (fun g hg => by simpa using (List.mem_filter.1 hg).2)
theorem srt_set {fs : List DF} (h : Srt fs) (f : DF) : Srt (setF fs f) := by
  unfold Srt setF at *
  rw [List.pairwise_map]
  refine h.imp ?_
  intro a b hab
  have : ∀ g : DF, (if (g.name == f.name) = true then f else g).name = g.name := fun g => by
    split
    · rename_i e; exact (beq_iff_eq.1 e).symm
    · rfl
  rw [this, this]; exact hab
theorem find_of_mem : ∀ {fs : List DF}, Srt fs → ∀ {g : DF}, g ∈ fs → find fs g.name = some g
  | x :: r, h, g, hg => by
    obtain ⟨h1, h2⟩ := List.pairwise_cons.1 h
    rcases List.mem_cons.1 hg with rfl | hg
    · simp [find]
    · have hne : (x.name == g.name) = false := by
        cases hx : (x.name == g.name)
        · rfl
        · have := h1 g hg
          rw [beq_iff_eq.1 hx] at this
          rw [WideShapes.before_irrefl] at this; cases this
      have := find_of_mem h2 hg
      simpa [find, hne] using this

inductive Part where
  | top | map | file (n : List UInt8) | row (n : List UInt8)

def DS.at (s : DS) (a : Nat) : Part → Option Nat
  | .top => some a
  | .map => s.mp
  | .file n => (find s.fs n).map DF.blk
  | .row n => (find s.fs n).bind (fun f => f.row.ownBlock)
/-- THE BLOCKS OF A DEVICE. -/
def DS.foot (s : DS) (a : Nat) (b : Nat) : Prop := ∃ p, s.at a p = some b

def u8 (x : UInt8) : Value := .int .u8 (x.toNat : Int)

/-- BLOCK a OF w IS A DEVICE IN THE STATE s; what it is made of lies from block B on. -/
structure Lies (B : Nat) (w : World) (a : Nat) (s : DS) : Prop where
  top : w.heap[a]? = some (.cells #[.int .i64 s.room, .int .i64 s.used, .int .u32 (if s.mp.isSome then 1 else 0), .int .i32 0, .int .u32 0, .map s.mp, .int .i64 s.fuse] 51 (0, 0))
  map : ∀ m, s.mp = some m → w.ownsMap Tryd.prog 9 ptrR m s.fs.length (datum s.fs)
  bare : s.mp = none → s.fs = []
  file : ∀ n f, find s.fs n = some f → w.heap[f.blk]? = some (.cells #[f.row, .int .i64 (f.sure : Int)] 58 (0, 0)) ∧ w.ownsRow B 5 1 f.row f.data.length (f.data.map u8)
  apart : ∀ p q b, s.at a p = some b → s.at a q = some b → p = q
  base : ∀ p b, s.at a p = some b → B ≤ b
  srt : Srt s.fs

/-- WHAT HOLDS OF A DEVICE's NUMBERS between its calls. -/
structure DS.Ok (s : DS) : Prop where
  sum : s.used = ((s.fs.map fun f => f.data.length).sum : Nat)
  fits : s.used ≤ s.room
  rm : s.room ≤ 9223372036854775807
  fs0 : -1 ≤ s.fuse
  fs1 : s.fuse ≤ 9223372036854775807

/-- A FILE THAT NO DEVICE HAS. -/
structure Loose (B : Nat) (w : World) (f : DF) : Prop where
  cells : w.heap[f.blk]? = some (.cells #[f.row, .int .i64 (f.sure : Int)] 58 (0, 0))
  row : w.ownsRow B 5 1 f.row f.data.length (f.data.map u8)
  base : B ≤ f.blk
  self : f.row.ownBlock ≠ some f.blk

theorem map_tight {w : World} {b n : Nat} {l : List (Lit × DataW Unit)} (h : w.ownsMap Tryd.prog 9 ptrR b n (.map l)) : w.ownsMap Tryd.prog 9 ptrR b l.length (.map l) := by
  obtain ⟨es, clock, hb, F, hs, hD⟩ := h
  refine ⟨es, clock, hb, F, ?_, hD⟩
  injection hD with hD
  rw [hD, length_sorted]
  simp

theorem Lies.lt {B : Nat} {w : World} {a : Nat} {s : DS} (h : Lies B w a s) (p : Part) (b : Nat) (hp : s.at a p = some b) : b < w.heap.size := by
  cases p with
  | top => injection hp with hp; subst hp; exact (Array.getElem?_eq_some_iff.1 h.top).1
  | map => exact (h.map b hp).lt
  | file n =>
    simp only [DS.at, Option.map_eq_some_iff] at hp
    obtain ⟨f, hf, rfl⟩ := hp
    exact (Array.getElem?_eq_some_iff.1 (h.file n f hf).1).1
  | row n =>
    simp only [DS.at, Option.bind_eq_some_iff] at hp
    obtain ⟨f, hf, hb⟩ := hp
    exact ((h.file n f hf).2.lt b hb).2

theorem row_stays {B : Nat} {w w' : World} {e : TypeId} {v : Value} {n : Nat} {xs : List Value} (h : w.ownsRow B e 1 v n xs) (hb : ∀ g, v.ownBlock = some g → w'.heap[g]? = w.heap[g]?) : w'.ownsRow B e 1 v n xs := by
  refine ⟨h.1, ?_⟩
  rcases h.2 with hn | ⟨g, cap, cur, hv, hbg, hgg, rest⟩
  · exact .inl hn
  · exact .inr ⟨g, cap, cur, hv, hbg, (hb g (by simp [hv, Value.ownBlock])).trans hgg, rest⟩

theorem map_stays {w w' : World} {m n : Nat} {D : DataW Unit} (h : w.ownsMap Tryd.prog 9 ptrR m n D) (hb : w'.heap[m]? = w.heap[m]?) : w'.ownsMap Tryd.prog 9 ptrR m n D := by
  obtain ⟨es, clock, hb', F, hs, hD⟩ := h
  exact ⟨es, clock, hb.trans hb', F, hs, hD⟩

/-- A device stays what it is while other blocks turn. -/
theorem Lies.kept {B : Nat} {w w' : World} {a : Nat} {s : DS} {S : Nat → Prop} (h : Lies B w a s) (hk : Kept S w w') (hS : ∀ b, s.foot a b → ¬ S b) : Lies B w' a s := by
  have hb : ∀ p b, s.at a p = some b → w'.heap[b]? = w.heap[b]? := fun p b hp => hk.block b (h.lt p b hp) (hS b ⟨p, hp⟩)
  exact { h with
    top := (hb .top a rfl).trans h.top
    map := fun m hm => map_stays (h.map m hm) (hb .map m hm)
    file := fun n f hf => ⟨(hb (.file n) f.blk (by simp [DS.at, hf])).trans (h.file n f hf).1, row_stays (h.file n f hf).2 (fun g hg => hb (.row n) g (by simp [DS.at, hf, hg]))⟩ }

/-- The numbers of a device turn, and nothing else. -/
theorem Lies.tops {B : Nat} {w w' : World} {a : Nat} {s s' : DS} (h : Lies B w a s) (hk : Kept (fun b => b = a) w w') (hmp : s'.mp = s.mp) (hfs : s'.fs = s.fs)
    (htop : w'.heap[a]? = some (.cells #[.int .i64 s'.room, .int .i64 s'.used, .int .u32 (if s'.mp.isSome then 1 else 0), .int .i32 0, .int .u32 0, .map s'.mp, .int .i64 s'.fuse] 51 (0, 0))) : Lies B w' a s' := by
  have hat : ∀ p, s'.at a p = s.at a p := fun p => by cases p <;> simp [DS.at, hmp, hfs]
  have hb : ∀ p b, p ≠ Part.top → s.at a p = some b → w'.heap[b]? = w.heap[b]? := fun p b hp hb => hk.block b (h.lt p b hb) (fun e => hp (h.apart p .top b hb (by rw [e]; rfl)))
  exact {
    top := htop
    map := fun m hm => by rw [hfs]; rw [hmp] at hm; exact map_stays (h.map m hm) (hb .map m (by simp) hm)
    bare := fun hm => by rw [hfs]; exact h.bare (hmp ▸ hm)
    file := fun n f hf => by
      rw [hfs] at hf
      exact ⟨(hb (.file n) f.blk (by simp) (by simp [DS.at, hf])).trans (h.file n f hf).1, row_stays (h.file n f hf).2 (fun g hg => hb (.row n) g (by simp) (by simp [DS.at, hf, hg]))⟩
    apart := fun p q b hp hq => h.apart p q b (hat p ▸ hp) (hat q ▸ hq)
    base := fun p b hp => h.base p b (hat p ▸ hp)
    srt := by rw [hfs]; exact h.srt }

/-- A file is laid into the map, instead of one that bears its name. -/
theorem Lies.attach {B : Nat} {w w' : World} {a m n : Nat} {s : DS} (h : Lies B w a s) (hm : s.mp = some m) {f : DF} (l : Loose B w f)
    (hf : ¬ s.foot a f.blk) (hr : ∀ g, f.row.ownBlock = some g → ¬ s.foot a g)
    (hmap : w'.ownsMap Tryd.prog 9 ptrR m n ((datum s.fs).put (.string f.name) (.lit (.int .i64 f.blk)))) (hk : w.grownBy w' (some m)) : Lies B w' a { s with fs := putF s.fs f } := by
  have hb : ∀ p b, p ≠ Part.map → s.at a p = some b → w'.heap[b]? = w.heap[b]? := fun p b hp hb => hk.block b (h.lt p b hb) (fun e => hp (h.apart p .map b hb (by injection e with e; simp [DS.at, hm, e])))
  have hfm : f.blk ≠ m := fun e => hf ⟨.map, by simp [DS.at, hm, e]⟩
  have hbf : w'.heap[f.blk]? = w.heap[f.blk]? := hk.block _ (Array.getElem?_eq_some_iff.1 l.cells).1 (fun e => hfm (by injection e))
  have hbr : ∀ g, f.row.ownBlock = some g → w'.heap[g]? = w.heap[g]? := fun g hg => hk.block _ (l.row.lt g hg).2 (fun e => hr g hg ⟨.map, by injection e with e; simp [DS.at, hm, e]⟩)
  have hat : ∀ p b, DS.at { s with fs := putF s.fs f } a p = some b → (s.at a p = some b ∧ p ≠ .file f.name ∧ p ≠ .row f.name) ∨ (p = .file f.name ∧ b = f.blk) ∨ (p = .row f.name ∧ f.row.ownBlock = some b) := by
    intro p b hp
    cases p with
    | top => exact .inl ⟨hp, by simp, by simp⟩
    | map => exact .inl ⟨hp, by simp, by simp⟩
    | file x =>
      simp only [DS.at, find_put] at hp
      by_cases hx : x = f.name
      · rw [if_pos hx] at hp; simp at hp; exact .inr (.inl ⟨by rw [hx], hp.symm⟩)
      · rw [if_neg hx] at hp; exact .inl ⟨hp, by simpa using hx, by simp⟩
    | row x =>
      simp only [DS.at, find_put] at hp
      by_cases hx : x = f.name
      · rw [if_pos hx] at hp; simp at hp; exact .inr (.inr ⟨by rw [hx], hp⟩)
      · rw [if_neg hx] at hp; exact .inl ⟨hp, by simp, by simpa using hx⟩
  exact {
    top := (hb .top a (by simp) rfl).trans h.top
    map := fun m' hm' => by
      have hm'' : s.mp = some m' := hm'
      rw [hm] at hm''; injection hm'' with e; subst e
      rw [datum_put] at hmap
      have := map_tight hmap
      simpa [datum] using this
    bare := fun hm' => by have : s.mp = none := hm'; rw [hm] at this; cases this
    file := fun x g hg => by
      have hg' : find (putF s.fs f) x = some g := hg
      rw [find_put] at hg'
      by_cases hx : x = f.name
      · rw [if_pos hx] at hg'; injection hg' with e; subst e
        exact ⟨hbf.trans l.cells, row_stays l.row hbr⟩
      · rw [if_neg hx] at hg'
        exact ⟨(hb (.file x) g.blk (by simp) (by simp [DS.at, hg'])).trans (h.file x g hg').1, row_stays (h.file x g hg').2 (fun b hb' => hb (.row x) b (by simp) (by simp [DS.at, hg', hb']))⟩
    apart := fun p q b hp hq => by
      rcases hat p b hp with ⟨hp', hp1, hp2⟩ | ⟨rfl, rfl⟩ | ⟨rfl, hp'⟩ <;> rcases hat q _ hq with ⟨hq', hq1, hq2⟩ | ⟨rfl, hq'⟩ | ⟨rfl, hq'⟩
      · exact h.apart p q b hp' hq'
      · exact absurd ⟨p, hq' ▸ hp'⟩ hf
      · exact absurd ⟨p, hp'⟩ (hr b hq')
      · exact absurd ⟨q, hq'⟩ hf
      · rfl
      · exact absurd hq' l.self
      · exact absurd ⟨q, hq'⟩ (hr b hp')
      · exact absurd (hq' ▸ hp') l.self
      · rfl
    base := fun p b hp => by
      rcases hat p b hp with ⟨hp', _⟩ | ⟨rfl, rfl⟩ | ⟨rfl, hp'⟩
      · exact h.base p b hp'
      · exact l.base
      · exact (l.row.lt b hp').1
    srt := srt_put h.srt f }

/-- A name is struck. -/
theorem Lies.detach {B : Nat} {w w' : World} {a m n : Nat} {s : DS} (h : Lies B w a s) (hm : s.mp = some m) (nm : List UInt8)
    (hmap : w'.ownsMap Tryd.prog 9 ptrR m n ((datum s.fs).del (.string nm))) (hk : w.grownBy w' (some m)) : Lies B w' a { s with fs := delF s.fs nm } := by
  have hb : ∀ p b, p ≠ Part.map → s.at a p = some b → w'.heap[b]? = w.heap[b]? := fun p b hp hb => hk.block b (h.lt p b hb) (fun e => hp (h.apart p .map b hb (by injection e with e; simp [DS.at, hm, e])))
  have hat : ∀ p b, DS.at { s with fs := delF s.fs nm } a p = some b → s.at a p = some b := by
    intro p b hp
    cases p with
    | top => exact hp
    | map => exact hp
    | file x =>
      simp only [DS.at, find_del] at hp ⊢
      by_cases hx : x = nm
      · rw [if_pos hx] at hp; cases hp
      · rw [if_neg hx] at hp; exact hp
    | row x =>
      simp only [DS.at, find_del] at hp ⊢
      by_cases hx : x = nm
      · rw [if_pos hx] at hp; cases hp
      · rw [if_neg hx] at hp; exact hp
  exact {
    top := (hb .top a (by simp) rfl).trans h.top
    map := fun m' hm' => by
      have hm'' : s.mp = some m' := hm'
      rw [hm] at hm''; injection hm'' with e; subst e
      rw [datum_del] at hmap
      have := map_tight hmap
      simpa [datum] using this
    bare := fun hm' => by have : s.mp = none := hm'; rw [hm] at this; cases this
    file := fun x g hg => by
      have hg' : find (delF s.fs nm) x = some g := hg
      rw [find_del] at hg'
      by_cases hx : x = nm
      · rw [if_pos hx] at hg'; cases hg'
      · rw [if_neg hx] at hg'
        exact ⟨(hb (.file x) g.blk (by simp) (by simp [DS.at, hg'])).trans (h.file x g hg').1, row_stays (h.file x g hg').2 (fun b hb' => hb (.row x) b (by simp) (by simp [DS.at, hg', hb']))⟩
    apart := fun p q b hp hq => h.apart p q b (hat p b hp) (hat q b hq)
    base := fun p b hp => h.base p b (hat p b hp)
    srt := srt_del h.srt nm }

/-- .. and the file that bore it is loose. -/
theorem Lies.loose {B : Nat} {w w' : World} {a m : Nat} {s : DS} (h : Lies B w a s) (hm : s.mp = some m) (nm : List UInt8) {f : DF} (hf : find s.fs nm = some f) (hk : w.grownBy w' (some m)) :
    Loose B w' f ∧ (¬ DS.foot { s with fs := delF s.fs nm } a f.blk) ∧ ∀ g, f.row.ownBlock = some g → ¬ DS.foot { s with fs := delF s.fs nm } a g := by
  have hb : ∀ p b, p ≠ Part.map → s.at a p = some b → w'.heap[b]? = w.heap[b]? := fun p b hp hb => hk.block b (h.lt p b hb) (fun e => hp (h.apart p .map b hb (by injection e with e; simp [DS.at, hm, e])))
  have pf : s.at a (.file nm) = some f.blk := by simp [DS.at, hf]
  have pr : ∀ g, f.row.ownBlock = some g → s.at a (.row nm) = some g := fun g hg => by simp [DS.at, hf, hg]
  have hat : ∀ p b, DS.at { s with fs := delF s.fs nm } a p = some b → s.at a p = some b ∧ p ≠ .file nm ∧ p ≠ .row nm := by
    intro p b hp
    cases p with
    | top => exact ⟨hp, by simp, by simp⟩
    | map => exact ⟨hp, by simp, by simp⟩
    | file x =>
      simp only [DS.at, find_del] at hp ⊢
      by_cases hx : x = nm
      · rw [if_pos hx] at hp; cases hp
      · rw [if_neg hx] at hp; exact ⟨hp, by simpa using hx, by simp⟩
    | row x =>
      simp only [DS.at, find_del] at hp ⊢
      by_cases hx : x = nm
      · rw [if_pos hx] at hp; cases hp
      · rw [if_neg hx] at hp; exact ⟨hp, by simp, by simpa using hx⟩
  refine ⟨⟨(hb _ _ (by simp) pf).trans (h.file nm f hf).1, row_stays (h.file nm f hf).2 (fun g hg => hb _ _ (by simp) (pr g hg)), h.base _ _ pf, fun e => ?_⟩, fun ⟨p, hp⟩ => ?_, fun g hg ⟨p, hp⟩ => ?_⟩
  · exact absurd (h.apart _ _ _ pf (pr _ e)) (by simp)
  · obtain ⟨h1, h2, h3⟩ := hat p _ hp
    exact h2 (h.apart _ _ _ h1 pf)
  · obtain ⟨h1, h2, h3⟩ := hat p _ hp
    exact h3 (h.apart _ _ _ h1 (pr g hg))

/-- What a file has turns. -/
theorem Lies.turned {B : Nat} {w w' : World} {a : Nat} {s : DS} (h : Lies B w a s) (nm : List UInt8) {f f' : DF} (hf : find s.fs nm = some f) (hn : f'.name = nm) (hblk : f'.blk = f.blk)
    (hk : Kept (fun b => b = f.blk ∨ f.row.ownBlock = some b) w w') (hc : w'.heap[f.blk]? = some (.cells #[f'.row, .int .i64 (f'.sure : Int)] 58 (0, 0)))
    (hrow : w'.ownsRow B 5 1 f'.row f'.data.length (f'.data.map u8)) (hnew : ∀ g, f'.row.ownBlock = some g → f.row.ownBlock = some g ∨ w.heap.size ≤ g) :
    Lies B w' a { s with fs := setF s.fs f' } := by
  have pf : s.at a (.file nm) = some f.blk := by simp [DS.at, hf]
  have pr : ∀ g, f.row.ownBlock = some g → s.at a (.row nm) = some g := fun g hg => by simp [DS.at, hf, hg]
  have hb : ∀ p b, p ≠ Part.file nm → p ≠ Part.row nm → s.at a p = some b → w'.heap[b]? = w.heap[b]? := fun p b hp1 hp2 hb => hk.block b (h.lt p b hb) (fun e => by
    rcases e with e | e
    · exact hp1 (h.apart _ _ b hb (e ▸ pf))
    · exact hp2 (h.apart _ _ b hb (pr b e)))
  have hfind : ∀ x, find (setF s.fs f') x = if x = nm then some f' else find s.fs x := fun x => by
    rw [find_set, hn]
    by_cases hx : x = nm
    · subst hx; simp [hf]
    · simp [hx]
  have hat : ∀ p b, DS.at { s with fs := setF s.fs f' } a p = some b → (s.at a p = some b ∧ p ≠ .row nm) ∨ (p = .row nm ∧ f'.row.ownBlock = some b) := by
    intro p b hp
    cases p with
    | top => exact .inl ⟨hp, by simp⟩
    | map => exact .inl ⟨hp, by simp⟩
    | file x =>
      simp only [DS.at, hfind] at hp ⊢
      by_cases hx : x = nm
      · subst hx; rw [if_pos rfl] at hp; simp [hf] at hp ⊢; exact hblk ▸ hp
      · rw [if_neg hx] at hp; exact .inl ⟨hp, by simp⟩
    | row x =>
      simp only [DS.at, hfind] at hp ⊢
      by_cases hx : x = nm
      · subst hx; rw [if_pos rfl] at hp; exact .inr ⟨rfl, by simpa using hp⟩
      · rw [if_neg hx] at hp; exact .inl ⟨hp, by simpa using hx⟩
  have hdat : datum (setF s.fs f') = datum s.fs := datum_set s.fs f' (fun g hg hgn => by
    have h1 := find_of_mem h.srt hg
    rw [hgn, hn, hf] at h1
    injection h1 with h1
    rw [← h1]; exact hblk.symm)
  exact {
    top := (hb .top a (by simp) (by simp) rfl).trans h.top
    map := fun m' hm' => by
      have := map_stays (h.map m' hm') (hb .map m' (by simp) (by simp) hm')
      have e : (setF s.fs f').length = s.fs.length := by simp [setF]
      show World.ownsMap _ _ _ _ _ (setF s.fs f').length (datum (setF s.fs f'))
      rw [hdat, e]; exact this
    bare := fun hm' => by show setF s.fs f' = []; rw [h.bare hm']; rfl
    file := fun x g hg => by
      have hg' : find (setF s.fs f') x = some g := hg
      rw [hfind] at hg'
      by_cases hx : x = nm
      · rw [if_pos hx] at hg'; injection hg' with e; subst e
        exact ⟨hblk ▸ hc, hrow⟩
      · rw [if_neg hx] at hg'
        exact ⟨(hb (.file x) g.blk (by simpa using hx) (by simp) (by simp [DS.at, hg'])).trans (h.file x g hg').1, row_stays (h.file x g hg').2 (fun b hb' => hb (.row x) b (by simp) (by simpa using hx) (by simp [DS.at, hg', hb']))⟩
    apart := fun p q b hp hq => by
      have hold : ∀ r, f'.row.ownBlock = some b → s.at a r = some b → r ≠ .row nm → False := fun r h1 h2 h3 => by
        rcases hnew b h1 with h4 | h4
        · exact h3 (h.apart _ _ b h2 (pr b h4))
        · exact absurd (h.lt r b h2) (by omega)
      rcases hat p b hp with ⟨hp', hp1⟩ | ⟨rfl, hp'⟩ <;> rcases hat q b hq with ⟨hq', hq1⟩ | ⟨rfl, hq'⟩
      · exact h.apart p q b hp' hq'
      · exact absurd (hold p hq' hp' hp1) id
      · exact absurd (hold q hp' hq' hq1) id
      · rfl
    base := fun p b hp => by
      rcases hat p b hp with ⟨hp', _⟩ | ⟨rfl, hp'⟩
      · exact h.base p b hp'
      · exact (hrow.lt b hp').1
    srt := srt_set h.srt f' }
end Go.Proofs.YtjnjodknnefhaaaDoor.Dev
