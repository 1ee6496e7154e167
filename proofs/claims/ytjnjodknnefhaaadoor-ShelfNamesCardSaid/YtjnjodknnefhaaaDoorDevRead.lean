/-
  THE DEVICE's Read (and bytes.Clone), and New.
-/
import Derived.Test.YtjnjodknnefhaaaDoorDevRename
import Derived.Lib.SliceRun
namespace Go.Proofs.YtjnjodknnefhaaaDoor.Dev
open Go.RowKit Go.Proofs.YtjnjodknnefhaaaDoor.Once
open Go.Maps (Keyed)
set_option linter.unusedSimpArgs false
set_option linter.unusedVariables false
set_option maxRecDepth 100000
set_option maxHeartbeats 1600000

theorem Clone_nil.calls (w : World) :
    Calls Tryd.prog 18 #[.slice none 0 0] w fun e w' => e = .returned (.slice none 0 0) ∧ w' = w := by
  have qT : ∀ (w : World) (a : Option Addr) (n c n' c' : Nat), (binOp .eql 30 (.slice a n c) (.slice none n' c')).run Tryd.prog w = .ok (.bool a.isNone) w := fun w a n c n' c' => Lib.run_eql_slice_nil w _ _ a n c n' c' Tryd.underlying30
  go_enter Tryd.func18, Tryd.ntmps18
  go_wp2
  go_ret
  exact ⟨rfl, rfl⟩

theorem Clone_some.calls (w : World) (ad : Addr) (n c : Nat) (xs : List Value) (hl : xs.length = n) (h1 : ∀ u ∈ xs, u.oneCell' = true) (hlt : ad.block < w.heap.size) (hc : ∀ j u, xs[j]? = some u → w.cell? (ad.add j) = some u) (hn : n ≤ 140737488355328) :
    Calls Tryd.prog 18 #[.slice (some ad) n c] w fun e w' => ∃ v', e = .returned v' ∧ w'.ownsRow w.heap.size 5 1 v' n xs ∧ Kept (fun _ => False) w w' := by
  have qT : ∀ (w : World) (a : Option Addr) (n c n' c' : Nat), (binOp .eql 30 (.slice a n c) (.slice none n' c')).run Tryd.prog w = .ok (.bool a.isNone) w := fun w a n c n' c' => Lib.run_eql_slice_nil w _ _ a n c n' c' Tryd.underlying30
  obtain ⟨i0, hi, hz0, hz1, hz2⟩ : ∃ i, Tryd.prog.info? 5 = some i ∧ i.zero = some (.int .u8 0) ∧ i.size = 1 ∧ i.bytes = 1 := info_parts (by kernel_rfl)
  have hown : (w.alloc (.cells #[] 5)).ownsRow w.heap.size 5 1 (.slice (some ⟨w.heap.size, 0, none⟩) 0 0) 0 [] := World.ownsRow_made w #[] 0 (Nat.le_refl _) (Nat.zero_le _) rfl
  have hca : ∀ j u, xs[j]? = some u → (w.alloc (.cells #[] 5)).cell? (ad.add j) = some u := fun j u hj => by
    have hb : (ad.add j).block = ad.block := by unfold Addr.add; split <;> rfl
    rw [World.cell?_of_block (w := w) (by rw [hb]; exact Below.heap_alloc _ _ _ hlt)]
    exact hc j u hj
  go_enter Tryd.func18, Tryd.ntmps18
  go_wp2_with (at_builtin; go_loud (refine wpList_append_own_at _ rfl _ _ 30 rfl w.heap.size 5 i0 (.int .u8 0) 1 1 Tryd.underlying30 hi hz0 hz1 hz2 rfl (by decide) _ 0 [] rfl hown ad n c xs rfl (by simpa using hl) hca h1 (by unfold maxLen; omega) (by omega) (by simp) ?_); intro v' w3 hown3 hgrow3 hnil3 hat3)
  go_ret
  rw [Nat.zero_add, List.nil_append] at hown3
  refine ⟨_, rfl, hown3, ?_⟩
  exact ((Kept.refl (fun _ => False) w).alloc _).grown hgrow3 (fun k hk hlt' => by
    have e : w.heap.size = k := by
      have h2 : some w.heap.size = some k := hk
      injection h2
    exact absurd hlt' (by rw [e]; exact Nat.lt_irrefl _))

/-- WHAT Read HANDS BACK. -/
def ReadGives (w w' : World) (o : Option (List UInt8)) (e : Ending) : Prop :=
  match o with
  | none => e = .returned (.tuple #[.slice none 0 0, .bool false]) ∧ w' = w
  | some bs => ∃ v', e = .returned (.tuple #[v', .bool true]) ∧ w'.ownsRow w.heap.size 5 1 v' bs.length (bs.map u8) ∧ Kept (fun _ => False) w w'

theorem Read.calls {B : Nat} {w : World} {a : Nat} {s : DS} (h : Lies B w a s) (nm : ByteArray) (hs : nm.size ≤ maxLen) (hlim : ∀ f, find s.fs nm.data.toList = some f → f.data.length ≤ 140737488355328) :
    Calls Tryd.prog 10 #[dp a, .string nm] w fun e w' => ReadGives w w' (s.view.read nm.data.toList) e := by
  have hc5 := h.c5
  have hlook := h.look nm hs
  have hv : s.view.read nm.data.toList = (find s.fs nm.data.toList).map DF.data := by
    unfold V.read
    show (vfind (s.fs.map DF.pf) _).map _ = _
    rw [vfind_eq, Option.map_map]; rfl
  rw [hv]
  cases hfd : find s.fs nm.data.toList with
  | none =>
    simp only [hfd, ptrOf] at hlook
    go_enter Tryd.func10, Tryd.ntmps10
    go_wp2
    go_ret2
    exact ⟨rfl, rfl⟩
  | some f =>
    simp only [hfd, ptrOf] at hlook
    have hrow : w.cell? ⟨f.blk, 0, none⟩ = some f.row := cell_of_row w f.blk 0 _ _ _ (h.file _ f hfd).1
    have hown := (h.file _ f hfd).2
    rcases hown.2 with ⟨hv0, hn0⟩ | ⟨g, cap, cur, hv0, hbg, hgg, hcap, hmax, hcur, htake⟩
    · rw [hv0] at hrow
      go_enter Tryd.func10, Tryd.ntmps10
      go_wp2_with (go_at_call 18; refine (Clone_nil.calls _).mono ?_; rintro e w' ⟨rfl, rfl⟩)
      go_ret2
      have hd0 : f.data = [] := List.eq_nil_of_length_eq_zero hn0
      show ∃ v', _
      refine ⟨_, rfl, ?_, Kept.refl _ _⟩
      show World.ownsRow _ _ _ _ _ f.data.length (f.data.map u8)
      rw [hd0]; exact World.ownsRow_nil _ _ _ _
    · rw [hv0] at hrow
      have hcells : ∀ j u, (f.data.map u8)[j]? = some u → w.cell? ((⟨g, 0, none⟩ : Addr).add j) = some u := hown.cells (by rw [hv0]; rfl)
      go_enter Tryd.func10, Tryd.ntmps10
      go_wp2_with (go_at_call 18; refine (Clone_some.calls _ ⟨g, 0, none⟩ f.data.length cap (f.data.map u8) (by simp) (u8_one _) (Array.getElem?_eq_some_iff.1 hgg).1 hcells (hlim f hfd)).mono ?_; rintro e w' ⟨v', rfl, hown', k'⟩)
      go_ret2
      exact ⟨v', rfl, hown', k'⟩

theorem lies_new (w : World) (room : Int) : Lies w.heap.size (w.alloc (.cells #[.int .i64 room, .int .i64 0, .int .u32 0, .int .i32 0, .int .u32 0, .map none, .int .i64 (-1)] 51)) w.heap.size ⟨room, 0, -1, none, []⟩ where
  top := heap_alloc_new w _
  map := fun m hm => by cases hm
  bare := fun _ => rfl
  file := fun n f hf => by simp [find] at hf
  apart := fun p q b hp hq => by
    cases p <;> cases q <;> simp [DS.at, find] at hp hq ⊢
  base := fun p b hp => by
    cases p <;> simp [DS.at, find] at hp
    rw [hp]; exact Nat.le_refl _
  srt := List.Pairwise.nil

/-- New. -/
theorem New.calls (room : Int) (h1 : room ≤ 9223372036854775807) (w : World) :
    Calls Tryd.prog 8 #[.int .i64 room] w fun e w' => e = .returned (dp w.heap.size) ∧
      Lies w.heap.size w' w.heap.size ⟨max 0 room, 0, -1, none, []⟩ ∧ Kept (fun _ => False) w w' := by
  go_enter Tryd.func8, Tryd.ntmps8
  go_wp2
  all_goals go_ret
  all_goals refine ⟨rfl, ?_, (Kept.refl _ w).alloc _⟩
  · have e : max 0 room = room := by omega
    rw [e]; exact lies_new w room
  · have e : max 0 room = 0 := by omega
    rw [e]; exact lies_new w 0
theorem new_ok (room : Int) (h1 : room ≤ 9223372036854775807) : DS.Ok ⟨max 0 room, 0, -1, none, []⟩ :=
  ⟨rfl, by show (0 : Int) ≤ max 0 room; omega, by show max 0 room ≤ _; omega, by show (-1 : Int) ≤ -1; omega, by show (-1 : Int) ≤ _; omega⟩
end Go.Proofs.YtjnjodknnefhaaaDoor.Dev
