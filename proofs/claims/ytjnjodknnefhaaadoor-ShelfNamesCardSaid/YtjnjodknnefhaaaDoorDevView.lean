/-
  WHAT A DEVICE's CALLS ANSWER, AS PLAIN DATA: 'V': the room, the fuse, the files by their names.
-/
import Derived.Test.YtjnjodknnefhaaaDoorDevTurn
namespace Go.Proofs.YtjnjodknnefhaaaDoor.Dev
open Go.RowKit
set_option linter.unusedSimpArgs false
set_option linter.unusedVariables false

/-- A file, plainly: its name, its bytes, and how many of them are sure. -/
structure PF where
  name : List UInt8
  data : List UInt8
  sure : Nat
deriving DecidableEq

structure V where
  room : Int
  fuse : Int
  fs : List PF
deriving DecidableEq

def DF.pf (f : DF) : PF := ⟨f.name, f.data, f.sure⟩
def DS.view (s : DS) : V := ⟨s.room, s.fuse, s.fs.map DF.pf⟩

def vfind (fs : List PF) (n : List UInt8) : Option PF := fs.find? (fun f => f.name == n)
def vins (f : PF) : List PF → List PF
  | [] => [f]
  | g :: r => if Lit.before (.string f.name) (.string g.name) then f :: g :: r else g :: vins f r
def vdel (fs : List PF) (n : List UInt8) : List PF := fs.filter (fun f => !(f.name == n))
def vput (fs : List PF) (f : PF) : List PF := vins f (vdel fs f.name)
def vset (fs : List PF) (f : PF) : List PF := fs.map (fun g => if g.name == f.name then f else g)
def V.used (v : V) : Int := ((v.fs.map fun f => f.data.length).sum : Nat)

theorem vfind_eq (fs : List DF) (n : List UInt8) : vfind (fs.map DF.pf) n = (find fs n).map DF.pf := by
  unfold vfind find
  rw [List.find?_map]
  rfl
theorem vdel_eq (fs : List DF) (n : List UInt8) : vdel (fs.map DF.pf) n = (delF fs n).map DF.pf := by
  unfold vdel delF
  rw [List.filter_map]
  rfl
theorem vins_eq (f : DF) (fs : List DF) : vins f.pf (fs.map DF.pf) = (insF f fs).map DF.pf := by
  induction fs with
  | nil => rfl
  | cons g r ih =>
    simp only [List.map_cons, vins, insF]
    by_cases hb : Lit.before (.string f.name) (.string g.name) = true
    · have h2 : Lit.before (.string f.pf.name) (.string g.pf.name) = true := hb
      rw [if_pos hb, if_pos h2]; rfl
    · have h2 : ¬ Lit.before (.string f.pf.name) (.string g.pf.name) = true := hb
      rw [if_neg hb, if_neg h2, ih]; rfl
theorem vput_eq (f : DF) (fs : List DF) : vput (fs.map DF.pf) f.pf = (putF fs f).map DF.pf := by
  unfold vput putF
  show vins f.pf (vdel (fs.map DF.pf) f.name) = _
  rw [vdel_eq, vins_eq]
theorem vset_eq (f : DF) (fs : List DF) : vset (fs.map DF.pf) f.pf = (setF fs f).map DF.pf := by
  unfold vset setF
  rw [List.map_map, List.map_map]
  apply List.map_congr_left
  intro g _
  show (if (g.name == f.name) = true then f.pf else g.pf) = DF.pf (if (g.name == f.name) = true then f else g)
  split <;> rfl
theorem vused_eq (s : DS) (ok : s.Ok) : s.view.used = s.used := by
  rw [ok.sum]
  simp [DS.view, V.used, List.map_map, DF.pf, Function.comp_def]

/-! ### the sums -/
def total (fs : List DF) : Nat := (fs.map fun f => f.data.length).sum
theorem total_ins (f : DF) (fs : List DF) : total (insF f fs) = f.data.length + total fs := by
  induction fs with
  | nil => simp [total, insF]
  | cons g r ih =>
    unfold insF
    split
    · simp [total]
    · have : total (g :: insF f r) = g.data.length + total (insF f r) := by simp [total]
      rw [this, ih]
      have : total (g :: r) = g.data.length + total r := by simp [total]
      omega
theorem total_del {fs : List DF} (h : Srt fs) (n : List UInt8) : total (delF fs n) + (match find fs n with | some f => f.data.length | none => 0) = total fs := by
  induction fs with
  | nil => simp [total, delF, find]
  | cons g r ih =>
    obtain ⟨h1, h2⟩ := List.pairwise_cons.1 h
    have e1 : total (g :: r) = g.data.length + total r := by simp [total]
    by_cases hg : (g.name == n) = true
    · have hd : delF (g :: r) n = delF r n := by simp [delF, hg]
      have hr : find r n = none := by
        cases hf : find r n with
        | none => rfl
        | some f =>
          have := h1 f (find_mem hf)
          rw [find_name hf, beq_iff_eq.1 hg, WideShapes.before_irrefl] at this; cases this
      have hf : find (g :: r) n = some g := by simp [find, hg]
      have := ih h2
      rw [hr] at this
      rw [hd, hf, e1]
      simp at this ⊢
      omega
    · have hg' : (g.name == n) = false := by simpa using hg
      have hd : delF (g :: r) n = g :: delF r n := by simp [delF, hg']
      have hf : find (g :: r) n = find r n := by simp [find, hg']
      have := ih h2
      have e2 : total (g :: delF r n) = g.data.length + total (delF r n) := by simp [total]
      rw [hd, hf, e1, e2]
      omega
theorem total_put {fs : List DF} (h : Srt fs) (f : DF) : total (putF fs f) + (match find fs f.name with | some g => g.data.length | none => 0) = f.data.length + total fs := by
  have := total_del h f.name
  unfold putF
  rw [total_ins]
  omega
theorem total_set {fs : List DF} (h : Srt fs) (f g : DF) (hf : find fs f.name = some g) : total (setF fs f) + g.data.length = f.data.length + total fs := by
  induction fs with
  | nil => simp [find] at hf
  | cons x r ih =>
    obtain ⟨h1, h2⟩ := List.pairwise_cons.1 h
    have e1 : total (x :: r) = x.data.length + total r := by simp [total]
    by_cases hx : (x.name == f.name) = true
    · have hg : x = g := by simpa [find, hx] using hf
      have hr : setF r f = r := by
        unfold setF
        conv => rhs; rw [← List.map_id r]
        apply List.map_congr_left
        intro y hy
        have hy1 := h1 y hy
        have : ¬ (y.name == f.name) = true := fun e => by
          rw [beq_iff_eq.1 e, beq_iff_eq.1 hx, WideShapes.before_irrefl] at hy1; cases hy1
        rw [if_neg this]; rfl
      have e2 : setF (x :: r) f = (if (x.name == f.name) = true then f else x) :: setF r f := rfl
      rw [if_pos hx, hr] at e2
      have e3 : total (f :: r) = f.data.length + total r := by simp [total]
      rw [e2, e3, e1, hg]; omega
    · have hx' : (x.name == f.name) = false := by simpa using hx
      have hf' : find r f.name = some g := by simpa [find, hx'] using hf
      have e2 : setF (x :: r) f = (if (x.name == f.name) = true then f else x) :: setF r f := rfl
      rw [if_neg hx] at e2
      have e3 : total (x :: setF r f) = x.data.length + total (setF r f) := by simp [total]
      have := ih h2 hf'
      rw [e2, e3, e1]; omega

/-! ### the calls -/
/-- Append. -/
def V.append (v : V) (n bs : List UInt8) : V × Int :=
  if v.fuse = 0 then (v, 5) else if n = [] then (v, 1) else if (bs.length : Int) > v.room - v.used then (v, 3) else
  ({ v with fuse := burn v.fuse, fs := match vfind v.fs n with | some f => vset v.fs ⟨n, f.data ++ bs, f.sure⟩ | none => vput v.fs ⟨n, bs, 0⟩ }, 0)
/-- Sync. -/
def V.sync (v : V) (n : List UInt8) : V × Int :=
  if v.fuse = 0 then (v, 5) else match vfind v.fs n with
  | none => (v, 4)
  | some f => ({ v with fuse := burn v.fuse, fs := vset v.fs ⟨n, f.data, f.data.length⟩ }, 0)
/-- Delete. -/
def V.delete (v : V) (n : List UInt8) : V × Int :=
  if v.fuse = 0 then (v, 5) else match vfind v.fs n with
  | none => (v, 4)
  | some _ => ({ v with fuse := burn v.fuse, fs := vdel v.fs n }, 0)
/-- Rename. -/
def V.rename (v : V) (x y : List UInt8) : V × Int :=
  if v.fuse = 0 then (v, 5) else match vfind v.fs x with
  | none => (v, 4)
  | some f => if y = [] then (v, 1) else ({ v with fuse := burn v.fuse, fs := if x = y then v.fs else vput (vdel (vdel v.fs y) x) ⟨y, f.data, f.sure⟩ }, 0)
/-- Read. -/
def V.read (v : V) (n : List UInt8) : Option (List UInt8) := (vfind v.fs n).map PF.data

/-- WHAT A CALL LEAVES OF A DEVICE. -/
structure Turn (B : Nat) (w w' : World) (a : Nat) (s s' : DS) : Prop where
  lies : Lies B w' a s'
  ok : s'.Ok
  kept : Kept (s.foot a) w w'
  foot : ∀ b, b < w.heap.size → s'.foot a b → s.foot a b
theorem Turn.refl {B : Nat} {w : World} {a : Nat} {s : DS} (h : Lies B w a s) (ok : s.Ok) : Turn B w w a s s := ⟨h, ok, Kept.refl _ _, fun _ _ h => h⟩
theorem Turn.trans {B : Nat} {w w1 w2 : World} {a : Nat} {s s1 s2 : DS} (h : Turn B w w1 a s s1) (k : Turn B w1 w2 a s1 s2) : Turn B w w2 a s s2 :=
  ⟨k.lies, k.ok, h.kept.trans k.kept (fun x hx h' => h.foot x hx h'), fun b hb h' => h.foot b hb (k.foot b (Nat.lt_of_lt_of_le hb h.kept.size) h')⟩

/-! ### the blocks of a device -/
theorem foot_same {s t : DS} {a b : Nat} (h1 : s.mp = t.mp) (h2 : s.fs = t.fs) (h : s.foot a b) : t.foot a b := by
  obtain ⟨p, hp⟩ := h
  refine ⟨p, ?_⟩
  cases p <;> simp only [DS.at] at hp ⊢
  · exact hp
  · rw [← h1]; exact hp
  · rw [← h2]; exact hp
  · rw [← h2]; exact hp
theorem foot_top (s : DS) (a : Nat) : s.foot a a := ⟨.top, rfl⟩
theorem foot_ready {s : DS} {a b m : Nat} (h : DS.foot { s with mp := some m } a b) : s.foot a b ∨ b = m := by
  obtain ⟨p, hp⟩ := h
  cases p with
  | top => exact .inl ⟨.top, hp⟩
  | map => injection hp with hp; exact .inr hp.symm
  | file n => exact .inl ⟨.file n, hp⟩
  | row n => exact .inl ⟨.row n, hp⟩
theorem foot_set {s : DS} {a b : Nat} {f f' : DF} (hf : find s.fs f'.name = some f) (hb : f'.blk = f.blk) (h : DS.foot { s with fs := setF s.fs f' } a b) : s.foot a b ∨ f'.row.ownBlock = some b := by
  obtain ⟨p, hp⟩ := h
  cases p with
  | top => exact .inl ⟨.top, hp⟩
  | map => exact .inl ⟨.map, hp⟩
  | file n =>
    simp only [DS.at, find_set] at hp
    by_cases hn : n = f'.name
    · rw [if_pos ⟨hn, by rw [hn, hf]; rfl⟩] at hp
      exact .inl ⟨.file n, by simp only [DS.at]; rw [hn, hf]; simpa [hb] using hp⟩
    · rw [if_neg (fun e => hn e.1)] at hp
      exact .inl ⟨.file n, hp⟩
  | row n =>
    simp only [DS.at, find_set] at hp
    by_cases hn : n = f'.name
    · rw [if_pos ⟨hn, by rw [hn, hf]; rfl⟩] at hp
      exact .inr (by simpa using hp)
    · rw [if_neg (fun e => hn e.1)] at hp
      exact .inl ⟨.row n, hp⟩
theorem foot_put {s : DS} {a b : Nat} {f : DF} (h : DS.foot { s with fs := putF s.fs f } a b) : s.foot a b ∨ b = f.blk ∨ f.row.ownBlock = some b := by
  obtain ⟨p, hp⟩ := h
  cases p with
  | top => exact .inl ⟨.top, hp⟩
  | map => exact .inl ⟨.map, hp⟩
  | file n =>
    simp only [DS.at, find_put] at hp
    by_cases hn : n = f.name
    · rw [if_pos hn] at hp
      exact .inr (.inl (by simpa using hp.symm))
    · rw [if_neg hn] at hp
      exact .inl ⟨.file n, hp⟩
  | row n =>
    simp only [DS.at, find_put] at hp
    by_cases hn : n = f.name
    · rw [if_pos hn] at hp
      exact .inr (.inr (by simpa using hp))
    · rw [if_neg hn] at hp
      exact .inl ⟨.row n, hp⟩
theorem foot_del {s : DS} {a b : Nat} {n : List UInt8} (h : DS.foot { s with fs := delF s.fs n } a b) : s.foot a b := by
  obtain ⟨p, hp⟩ := h
  cases p with
  | top => exact ⟨.top, hp⟩
  | map => exact ⟨.map, hp⟩
  | file x =>
    simp only [DS.at, find_del] at hp
    by_cases hn : x = n
    · rw [if_pos hn] at hp; cases hp
    · rw [if_neg hn] at hp; exact ⟨.file x, hp⟩
  | row x =>
    simp only [DS.at, find_del] at hp
    by_cases hn : x = n
    · rw [if_pos hn] at hp; cases hp
    · rw [if_neg hn] at hp; exact ⟨.row x, hp⟩
theorem set_ins {f0 f : DF} (hn : f.name = f0.name) : ∀ {l : List DF}, (∀ g ∈ l, g.name ≠ f0.name) → setF (insF f0 l) f = insF f l
  | [], _ => by simp [setF, insF, hn]
  | g :: r, h => by
    have hr : ∀ g ∈ r, g.name ≠ f0.name := fun x hx => h x (List.mem_cons_of_mem _ hx)
    have hs : ∀ l : List DF, (∀ g ∈ l, g.name ≠ f0.name) → setF l f = l := fun l hl => by
      unfold setF
      conv => rhs; rw [← List.map_id l]
      apply List.map_congr_left
      intro x hx
      rw [if_neg (by rw [hn]; simpa using hl x hx)]; rfl
    unfold insF
    rw [hn]
    by_cases hb : Lit.before (.string f0.name) (.string g.name) = true
    · rw [if_pos hb, if_pos hb]
      have : setF (f0 :: g :: r) f = (if (f0.name == f.name) = true then f else f0) :: setF (g :: r) f := rfl
      rw [this, hs _ h, if_pos (by simp [hn])]
    · rw [if_neg hb, if_neg hb]
      have : setF (g :: insF f0 r) f = (if (g.name == f.name) = true then f else g) :: setF (insF f0 r) f := rfl
      rw [this, set_ins hn hr, if_neg (by rw [hn]; simpa using h g (List.mem_cons_self ..))]
theorem set_put {f0 f : DF} (hn : f.name = f0.name) (fs : List DF) : setF (putF fs f0) f = putF fs f := by
  unfold putF
  rw [hn]
  exact set_ins hn (fun g hg => by simpa using (List.mem_filter.1 hg).2)
theorem burn_lo {x : Int} (h : -1 ≤ x) : -1 ≤ burn x := by unfold burn; split <;> omega
theorem burn_hi {x : Int} (h : x ≤ 9223372036854775807) : burn x ≤ 9223372036854775807 := by unfold burn; split <;> omega
end Go.Proofs.YtjnjodknnefhaaaDoor.Dev
