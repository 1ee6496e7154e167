/-
  THE DEVICE's Sync, Delete, Rename, Read.
-/
import Derived.Test.YtjnjodknnefhaaaDoorDevAppend
import Derived.StillTailTactics
namespace Go.Proofs.YtjnjodknnefhaaaDoor.Dev
open Go.RowKit Go.Proofs.YtjnjodknnefhaaaDoor.Once
open Go.Maps (Keyed)
set_option linter.unusedSimpArgs false
set_option linter.unusedVariables false
set_option maxRecDepth 100000
set_option maxHeartbeats 1600000

theorem Lies.sureTo {B : Nat} {w : World} {a : Nat} {s : DS} (h : Lies B w a s) (nm : List UInt8) {f : DF} (hf : find s.fs nm = some f) (n : Nat) :
    Lies B (w.setCell ⟨f.blk, 1, none⟩ (.int .i64 (n : Int))) a { s with fs := setF s.fs { f with sure := n } } ∧ Kept (s.foot a) w (w.setCell ⟨f.blk, 1, none⟩ (.int .i64 (n : Int))) := by
  have pf : s.at a (.file nm) = some f.blk := by simp [DS.at, hf]
  have pr : ∀ g, f.row.ownBlock = some g → s.at a (.row nm) = some g := fun g hg => by simp [DS.at, hf, hg]
  have hk : Kept (fun b => b = f.blk ∨ f.row.ownBlock = some b) w (w.setCell ⟨f.blk, 1, none⟩ (.int .i64 (n : Int))) := (Kept.refl _ w).setCell (fun _ => .inl rfl) _
  refine ⟨h.turned nm (f := f) (f' := { f with sure := n }) hf (show f.name = nm from find_name hf) rfl hk ?_ ?_ (fun g hg => .inl hg), (Kept.refl _ w).setCell (fun _ => ⟨_, pf⟩) _⟩
  · rw [heap_setCell_self w f.blk 1 _ (h.file nm f hf).1]; rfl
  · refine row_stays (h.file nm f hf).2 (fun g hg => Below.heap_setCell _ _ _ _ (fun e => ?_))
    have e' : g = f.blk := e
    exact absurd (h.apart _ _ _ pf (pr _ (e' ▸ hg))) (by simp)

theorem Sync.calls {B : Nat} {w : World} {a : Nat} {s : DS} (h : Lies B w a s) (ok : s.Ok) (nm : ByteArray) (hs : nm.size ≤ maxLen) :
    Calls Tryd.prog 16 #[dp a, .string nm] w fun e w' => e = .returned (.int .i64 (s.view.sync nm.data.toList).2) ∧ ∃ s', Turn B w w' a s s' ∧ s'.view = (s.view.sync nm.data.toList).1 := by
  have hm := h.may_calls
  have hc5 := h.c5
  have hlook := h.look nm hs
  by_cases hf : s.fuse = 0
  · rw [if_pos hf] at hm
    have e : s.view.sync nm.data.toList = (s.view, 5) := by unfold V.sync; rw [if_pos (show s.view.fuse = 0 from hf)]
    rw [e]
    go_enter Tryd.func16, Tryd.ntmps16
    go_wp2_with (go_at_call 20; refine hm.mono ?_; rintro e w' ⟨rfl, rfl⟩)
    go_ret
    exact ⟨rfl, s, Turn.refl h ok, rfl⟩
  · rw [if_neg hf] at hm
    cases hfd : find s.fs nm.data.toList with
    | none =>
      have e : s.view.sync nm.data.toList = (s.view, 4) := by
        unfold V.sync; rw [if_neg (show ¬ s.view.fuse = 0 from hf)]
        show (match vfind (s.fs.map DF.pf) _ with | none => _ | some f => _) = _
        rw [vfind_eq, hfd]; rfl
      rw [e]
      simp only [hfd, ptrOf] at hlook
      go_enter Tryd.func16, Tryd.ntmps16
      go_wp2_with (go_at_call 20; refine hm.mono ?_; rintro e w' ⟨rfl, rfl⟩)
      go_ret
      exact ⟨rfl, s, Turn.refl h ok, rfl⟩
    | some f =>
      have e : s.view.sync nm.data.toList = ({ s.view with fuse := burn s.view.fuse, fs := vset s.view.fs ⟨nm.data.toList, f.data, f.data.length⟩ }, 0) := by
        unfold V.sync; rw [if_neg (show ¬ s.view.fuse = 0 from hf)]
        show (match vfind (s.fs.map DF.pf) _ with | none => _ | some f => _) = _
        rw [vfind_eq, hfd]; rfl
      rw [e]
      simp only [hfd, ptrOf] at hlook
      obtain ⟨ao, c, hrow⟩ := own_form (h.file _ f hfd).2
      have hcell : w.cell? ⟨f.blk, 0, none⟩ = some (.slice ao f.data.length c) := by rw [← hrow]; exact cell_of_row w f.blk 0 _ _ _ (h.file _ f hfd).1
      have hcell1 : w.cell? ⟨f.blk, 1, none⟩ = some (.int .i64 (f.sure : Int)) := cell_of_row w f.blk 1 _ _ _ (h.file _ f hfd).1
      have hz1 : w.frozen? ⟨f.blk, 1, none⟩ = false := frozen_of_row w f.blk 1 _ _ (h.file _ f hfd).1
      obtain ⟨l1, k1⟩ := h.sureTo _ hfd f.data.length
      have hfn : f.name = nm.data.toList := find_name hfd
      go_enter Tryd.func16, Tryd.ntmps16
      go_wp2_with (first
        | (go_at_call 20; refine hm.mono ?_; rintro e w' ⟨rfl, rfl⟩)
        | (go_at_call 22; refine (l1.done_calls ok.fs1).mono ?_; rintro e w5 ⟨rfl, l5, k5⟩))
      go_ret
      have hset := total_set h.srt { f with sure := f.data.length } f (by show find s.fs f.name = _; rw [hfn]; exact hfd)
      have htot : s.used = (total s.fs : Nat) := ok.sum
      refine ⟨rfl, _, ⟨l5, ⟨?_, ok.fits, ok.rm, burn_lo ok.fs0, burn_hi ok.fs1⟩, k1.trans k5 (fun x _ hx => hx ▸ foot_top s a), ?_⟩, ?_⟩
      · show s.used = ((total (setF s.fs { f with sure := f.data.length }) : Nat) : Int)
        have : total (setF s.fs { f with sure := f.data.length }) = total s.fs := by
          have := hset
          simp only [] at this
          omega
        rw [this]; exact htot
      · intro b hb hx
        rcases foot_set (s := s) (f := f) (f' := { f with sure := f.data.length }) (by show find s.fs f.name = _; rw [hfn]; exact hfd) rfl (foot_same (t := { s with fs := _ }) rfl rfl hx) with h1 | h1
        · exact h1
        · exact ⟨.row nm.data.toList, by simp only [DS.at]; rw [hfd]; exact h1⟩
      · have e2 := vset_eq { f with sure := f.data.length } s.fs
        have e3 : (DF.pf { f with sure := f.data.length }) = ⟨nm.data.toList, f.data, f.data.length⟩ := by rw [← hfn]; rfl
        rw [e3] at e2
        show V.mk s.room (burn s.fuse) ((setF s.fs { f with sure := f.data.length }).map DF.pf) = V.mk s.room (burn s.fuse) (vset (s.fs.map DF.pf) _)
        rw [e2]

/-- 'drop', of a file that is there. -/
theorem drop_some.calls {B : Nat} {w : World} {a : Nat} {s : DS} (h : Lies B w a s) (nm : ByteArray) (hs : nm.size ≤ maxLen) {f : DF} (hfd : find s.fs nm.data.toList = some f) {m : Nat} (hm : s.mp = some m)
    (h0 : (f.data.length : Int) ≤ s.used) (h1 : s.used ≤ 9223372036854775807) :
    Calls Tryd.prog 21 #[dp a, .string nm] w fun e w' => e = .returned (.tuple #[]) ∧ Lies B w' a { s with used := s.used - f.data.length, fs := delF s.fs nm.data.toList } ∧ Kept (fun b => b = a ∨ b = m) w w' := by
  have hc5 : w.cell? ⟨a, 5, none⟩ = some (.map (some m)) := by have := h.c5; rw [hm] at this; exact this
  have hlook : (Instr.lookup 49 (.map (some m)) (.string nm) false).run Tryd.prog w = .ok (.pointer (some ⟨f.blk, 0, none⟩)) w := by
    have hl := h.look nm hs
    simp only [hfd, ptrOf, hm] at hl
    exact hl
  obtain ⟨ao, c, hrow⟩ := own_form (h.file _ f hfd).2
  have hcell : w.cell? ⟨f.blk, 0, none⟩ = some (.slice ao f.data.length c) := by rw [← hrow]; exact cell_of_row w f.blk 0 _ _ _ (h.file _ f hfd).1
  have hkey := WideMaps.keyOf_string_mk (P := Tryd.prog) Tryd.underlying9 hs
  have hneg : wrap64 (-(f.data.length : Int)) = -(f.data.length : Int) := IntWalk.wrap64_in _ (by omega)
  have hneg2 : IntKind.i64.wrap (-(f.data.length : Int)) = -(f.data.length : Int) := IntWalk.i64_in _ (by omega)
  go_enter Tryd.func21, Tryd.ntmps21
  go_wp2
  go_still_tail 9, (by kernel_rfl)
  change wpList _ _ _ _ _ w.drew
  go_wp2_with (first
    | (go_at_call 26; refine (Lies.add_calls (w := w.drew) h.drew (-(f.data.length : Int)) (by omega) (by omega)).mono ?_; rintro e w3 ⟨rfl, l3, k3⟩
       have hc53 : w3.cell? ⟨a, 5, none⟩ = some (.map (some m)) := by have := l3.c5; simp only [hm] at this; exact this)
    | (at_delete; refine wpList_delete_own _ rfl _ _ 49 9 rfl 55 keyed Tryd.underlying49 ptrR m s.fs.length (datum s.fs) rfl (l3.map m hm) _ _ rfl hkey ?_; intro w4 hown4 hturn4))
  go_end0
  have l4 := l3.detach hm nm.data.toList hown4 hturn4.grown
  refine ⟨rfl, ?_, ?_⟩
  · have e : s.used - (f.data.length : Int) = s.used + -(f.data.length : Int) := by omega
    rw [e]; simp only [hm] at l4; exact l4
  · have kd : Kept (fun b => b = a ∨ b = m) w w3 := ((Kept.refl (fun b => b = a ∨ b = m) w).drew).trans k3 (fun x _ hx => .inl hx)
    exact kd.grown hturn4.grown (fun k hk _ => .inr (by injection hk with e; exact e.symm))

/-- Delete. -/
theorem Delete.calls {B : Nat} {w : World} {a : Nat} {s : DS} (h : Lies B w a s) (ok : s.Ok) (nm : ByteArray) (hs : nm.size ≤ maxLen) :
    Calls Tryd.prog 14 #[dp a, .string nm] w fun e w' => e = .returned (.int .i64 (s.view.delete nm.data.toList).2) ∧ ∃ s', Turn B w w' a s s' ∧ s'.view = (s.view.delete nm.data.toList).1 := by
  have hm := h.may_calls
  have hc5 := h.c5
  have hlook := h.look nm hs
  by_cases hf : s.fuse = 0
  · rw [if_pos hf] at hm
    have e : s.view.delete nm.data.toList = (s.view, 5) := by unfold V.delete; rw [if_pos (show s.view.fuse = 0 from hf)]
    rw [e]
    go_enter Tryd.func14, Tryd.ntmps14
    go_wp2_with (go_at_call 20; refine hm.mono ?_; rintro e w' ⟨rfl, rfl⟩)
    go_ret
    exact ⟨rfl, s, Turn.refl h ok, rfl⟩
  · rw [if_neg hf] at hm
    cases hfd : find s.fs nm.data.toList with
    | none =>
      have e : s.view.delete nm.data.toList = (s.view, 4) := by
        unfold V.delete; rw [if_neg (show ¬ s.view.fuse = 0 from hf)]
        show (match vfind (s.fs.map DF.pf) _ with | none => _ | some f => _) = _
        rw [vfind_eq, hfd]; rfl
      rw [e]
      simp only [hfd, ptrOf] at hlook
      go_enter Tryd.func14, Tryd.ntmps14
      go_wp2_with (go_at_call 20; refine hm.mono ?_; rintro e w' ⟨rfl, rfl⟩)
      go_ret
      exact ⟨rfl, s, Turn.refl h ok, rfl⟩
    | some f =>
      have e : s.view.delete nm.data.toList = ({ s.view with fuse := burn s.view.fuse, fs := vdel s.view.fs nm.data.toList }, 0) := by
        unfold V.delete; rw [if_neg (show ¬ s.view.fuse = 0 from hf)]
        show (match vfind (s.fs.map DF.pf) _ with | none => _ | some f => _) = _
        rw [vfind_eq, hfd]; rfl
      rw [e]
      simp only [hfd, ptrOf] at hlook
      obtain ⟨m, hmm⟩ : ∃ m, s.mp = some m := by
        cases hmp : s.mp with
        | none => rw [h.bare hmp] at hfd; cases hfd
        | some m => exact ⟨m, rfl⟩
      simp only [hmm] at hlook hc5
      have htd : total (delF s.fs nm.data.toList) + f.data.length = total s.fs := by
        have := total_del h.srt nm.data.toList
        rw [hfd] at this
        exact this
      have htot : s.used = (total s.fs : Nat) := ok.sum
      have hdr := drop_some.calls h nm hs hfd hmm (by omega) (by have := ok.fits; have := ok.rm; omega)
      go_enter Tryd.func14, Tryd.ntmps14
      go_wp2_with (first
        | (go_at_call 20; refine hm.mono ?_; rintro e w' ⟨rfl, rfl⟩)
        | (go_at_call 21; go_loud (refine hdr.mono ?_); rintro e w1 ⟨rfl, l1, k1⟩)
        | (go_at_call 22; refine (l1.done_calls ok.fs1).mono ?_; rintro e w5 ⟨rfl, l5, k5⟩))
      go_ret
      have kAll : Kept (s.foot a) w' w5 := (k1.mono (fun x _ hx => hx.elim (fun e => e ▸ foot_top s a) (fun e => ⟨.map, by rw [e]; exact hmm⟩))).trans k5 (fun x _ hx => hx ▸ foot_top s a)
      refine ⟨rfl, _, ⟨l5, ⟨?_, ?_, ok.rm, burn_lo ok.fs0, burn_hi ok.fs1⟩, kAll, ?_⟩, ?_⟩
      · show s.used - (f.data.length : Int) = ((total (delF s.fs nm.data.toList) : Nat) : Int)
        omega
      · show s.used - (f.data.length : Int) ≤ s.room
        have := ok.fits
        omega
      · intro b hb hx
        exact foot_del (s := s) (foot_same (t := { s with fs := delF s.fs nm.data.toList }) rfl rfl hx)
      · show V.mk s.room (burn s.fuse) ((delF s.fs nm.data.toList).map DF.pf) = V.mk s.room (burn s.fuse) (vdel (s.fs.map DF.pf) _)
        rw [vdel_eq]

/-- 'drop', of a name that no file bears. -/
theorem drop_none.calls {B : Nat} {w : World} {a : Nat} {s : DS} (h : Lies B w a s) (nm : ByteArray) (hs : nm.size ≤ maxLen) (hfd : find s.fs nm.data.toList = none) :
    Calls Tryd.prog 21 #[dp a, .string nm] w fun e w' => e = .returned (.tuple #[]) ∧ w' = w := by
  have hc5 := h.c5
  have hlook := h.look nm hs
  simp only [hfd, ptrOf] at hlook
  go_enter Tryd.func21, Tryd.ntmps21
  go_wp2
  first | go_end0 | (simp only [Exit.inBlock, Exit.then]; refine bodyPost_ret (results_none rfl _ _ _) rfl ?_) | refine bodyPost_ret (results_none rfl _ _ _) rfl ?_
  exact ⟨rfl, rfl⟩

/-- 'drop'. -/
theorem drop.calls {B : Nat} {w : World} {a : Nat} {s : DS} (h : Lies B w a s) (ok : s.Ok) (nm : ByteArray) (hs : nm.size ≤ maxLen) {m : Nat} (hm : s.mp = some m) :
    Calls Tryd.prog 21 #[dp a, .string nm] w fun e w' => e = .returned (.tuple #[]) ∧
      ∃ u : Int, Lies B w' a { s with used := u, fs := delF s.fs nm.data.toList } ∧ u = ((total (delF s.fs nm.data.toList) : Nat) : Int) ∧ Kept (fun b => b = a ∨ b = m) w w' := by
  have htot : s.used = (total s.fs : Nat) := ok.sum
  have htd := total_del h.srt nm.data.toList
  cases hfd : find s.fs nm.data.toList with
  | none =>
    refine (drop_none.calls h nm hs hfd).mono ?_
    rintro e w' ⟨rfl, rfl⟩
    have hd : delF s.fs nm.data.toList = s.fs := by
      unfold delF
      rw [List.filter_eq_self]
      intro x hx
      have := find_of_mem h.srt hx
      cases hxn : (x.name == nm.data.toList)
      · rfl
      · rw [beq_iff_eq.1 hxn, hfd] at this; cases this
    refine ⟨rfl, s.used, ?_, ?_, Kept.refl _ _⟩
    · rw [hd]; exact h
    · rw [hd]; exact htot
  | some f =>
    rw [hfd] at htd
    have htd' : total (delF s.fs nm.data.toList) + f.data.length = total s.fs := htd
    refine (drop_some.calls h nm hs hfd hm (by omega) (by have := ok.fits; have := ok.rm; omega)).mono ?_
    rintro e w' ⟨rfl, l1, k1⟩
    exact ⟨rfl, _, l1, by omega, k1⟩
end Go.Proofs.YtjnjodknnefhaaaDoor.Dev
