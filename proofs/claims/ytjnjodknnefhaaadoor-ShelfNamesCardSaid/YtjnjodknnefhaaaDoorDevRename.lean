/-
  THE DEVICE's Rename and Read.
-/
import Derived.Test.YtjnjodknnefhaaaDoorDevRest
namespace Go.Proofs.YtjnjodknnefhaaaDoor.Dev
open Go.RowKit Go.Proofs.YtjnjodknnefhaaaDoor.Once
open Go.Maps (Keyed)
set_option linter.unusedSimpArgs false
set_option linter.unusedVariables false
set_option maxRecDepth 100000
set_option maxHeartbeats 1600000

theorem Rename_down.calls {B : Nat} {w : World} {a : Nat} {s : DS} (h : Lies B w a s) (x y : ByteArray) (hf : s.fuse = 0) :
    Calls Tryd.prog 17 #[dp a, .string x, .string y] w fun e w' => e = .returned (.int .i64 5) ∧ w' = w := by
  have hm := h.may_calls
  rw [if_pos hf] at hm
  go_enter Tryd.func17, Tryd.ntmps17
  go_wp2_with (go_at_call 20; refine hm.mono ?_; rintro e w' ⟨rfl, rfl⟩)
  go_ret
  exact ⟨rfl, rfl⟩

theorem Rename_none.calls {B : Nat} {w : World} {a : Nat} {s : DS} (h : Lies B w a s) (x y : ByteArray) (hx : x.size ≤ maxLen) (hf : ¬ s.fuse = 0) (hfd : find s.fs x.data.toList = none) :
    Calls Tryd.prog 17 #[dp a, .string x, .string y] w fun e w' => e = .returned (.int .i64 4) ∧ w' = w := by
  have hm := h.may_calls
  rw [if_neg hf] at hm
  have hc5 := h.c5
  have hlook := h.look x hx
  simp only [hfd, ptrOf] at hlook
  go_enter Tryd.func17, Tryd.ntmps17
  go_wp2_with (go_at_call 20; refine hm.mono ?_; rintro e w' ⟨rfl, rfl⟩)
  go_ret
  exact ⟨rfl, rfl⟩

theorem Rename_arg.calls {B : Nat} {w : World} {a : Nat} {s : DS} (h : Lies B w a s) (x y : ByteArray) (hx : x.size ≤ maxLen) (hf : ¬ s.fuse = 0) {f : DF} (hfd : find s.fs x.data.toList = some f) (hy : y = ⟨#[]⟩) :
    Calls Tryd.prog 17 #[dp a, .string x, .string y] w fun e w' => e = .returned (.int .i64 1) ∧ w' = w := by
  subst hy
  have hm := h.may_calls
  rw [if_neg hf] at hm
  have hc5 := h.c5
  have hlook := h.look x hx
  simp only [hfd, ptrOf] at hlook
  go_enter Tryd.func17, Tryd.ntmps17
  go_wp2_with (go_at_call 20; refine hm.mono ?_; rintro e w' ⟨rfl, rfl⟩)
  go_ret
  exact ⟨rfl, rfl⟩

theorem Rename_same.calls {B : Nat} {w : World} {a : Nat} {s : DS} (h : Lies B w a s) (ok : s.Ok) (x : ByteArray) (hx : x.size ≤ maxLen) (hf : ¬ s.fuse = 0) {f : DF} (hfd : find s.fs x.data.toList = some f) (hy : x.data.toList ≠ []) :
    Calls Tryd.prog 17 #[dp a, .string x, .string x] w fun e w' => e = .returned (.int .i64 0) ∧ Lies B w' a { s with fuse := burn s.fuse } ∧ Kept (fun b => b = a) w w' := by
  have hm := h.may_calls
  rw [if_neg hf] at hm
  have hc5 := h.c5
  have hlook := h.look x hx
  simp only [hfd, ptrOf] at hlook
  have hy' : x.toList.isEmpty = false := by rw [ByteArray.toList_eq]; simpa using hy
  go_enter Tryd.func17, Tryd.ntmps17
  go_wp2_with (first
    | (go_at_call 20; refine hm.mono ?_; rintro e w' ⟨rfl, rfl⟩)
    | (go_at_call 22; refine (h.done_calls ok.fs1).mono ?_; rintro e w5 ⟨rfl, l5, k5⟩))
  go_ret
  exact ⟨rfl, l5, k5⟩

theorem Rename_goes.calls {B : Nat} {w : World} {a : Nat} {s : DS} (h : Lies B w a s) (ok : s.Ok) (x y : ByteArray) (hx : x.size ≤ maxLen) (hy : y.size ≤ maxLen) (hf : ¬ s.fuse = 0) {f : DF} (hfd : find s.fs x.data.toList = some f) (hyn : y.data.toList ≠ []) (hxy : x.data.toList ≠ y.data.toList) (hcnt : s.fs.length < maxLen) :
    Calls Tryd.prog 17 #[dp a, .string x, .string y] w fun e w' => e = .returned (.int .i64 0) ∧ ∃ s', Turn B w w' a s s' ∧
      s'.view = ⟨s.room, burn s.fuse, vput (vdel (vdel (s.fs.map DF.pf) y.data.toList) x.data.toList) ⟨y.data.toList, f.data, f.sure⟩⟩ := by
  have hm := h.may_calls
  rw [if_neg hf] at hm
  obtain ⟨m, hmm⟩ : ∃ m, s.mp = some m := by
    cases hmp : s.mp with
    | none => rw [h.bare hmp] at hfd; cases hfd
    | some m => exact ⟨m, rfl⟩
  have hc5 := h.c5
  have hlook := h.look x hx
  simp only [hfd, ptrOf, hmm] at hlook hc5
  have hy' : y.toList.isEmpty = false := by rw [ByteArray.toList_eq]; simpa using hyn
  have hxy2 : (!x.toList == y.toList) = true := by rw [ByteArray.toList_eq, ByteArray.toList_eq]; simpa using hxy
  have hfd1 : find (delF s.fs y.data.toList) x.data.toList = some f := by rw [find_del, if_neg hxy]; exact hfd
  have hkx := WideMaps.keyOf_string_mk (P := Tryd.prog) Tryd.underlying9 hx
  have hky := WideMaps.keyOf_string_mk (P := Tryd.prog) Tryd.underlying9 hy
  go_enter Tryd.func17, Tryd.ntmps17
  go_wp2_with (first
    | (go_at_call 20; refine hm.mono ?_; rintro e w' ⟨rfl, rfl⟩)
    | (go_at_call 21; refine (drop.calls h ok y hy hmm).mono ?_; rintro e w1 ⟨rfl, u, l1, hu, k1⟩
       have hc51 : w1.cell? ⟨a, 5, none⟩ = some (.map (some m)) := by have := l1.c5; simp only [hmm] at this; exact this)
    | (at_delete; refine wpList_delete_own _ rfl _ _ 49 9 rfl 55 keyed Tryd.underlying49 ptrR m (delF s.fs y.data.toList).length (datum (delF s.fs y.data.toList)) rfl (l1.map m hmm) _ _ rfl hkx ?_; intro w2 hown2 hturn2
       have l2 := l1.detach hmm x.data.toList hown2 hturn2.grown
       have hc52 : w2.cell? ⟨a, 5, none⟩ = some (.map (some m)) := by have := l2.c5; simp only [hmm] at this; exact this)
    | (at_mapUpdate; refine wpList_mapUpdate_own _ rfl _ _ _ 49 rfl 9 55 keyed Tryd.underlying49 ptrR m (delF (delF s.fs y.data.toList) x.data.toList).length (datum (delF (delF s.fs y.data.toList) x.data.toList)) rfl (l2.map m hmm) (Nat.lt_of_le_of_lt (Nat.le_trans (List.length_filter_le _ _) (List.length_filter_le _ _)) hcnt) _ _ (.string y.data.toList) rfl rfl hky (.lit (.int .i64 f.blk)) [] rfl ?_; intro w3 hmap3 hgrow3
       obtain ⟨lo, hnf, hnr⟩ := l1.loose hmm x.data.toList hfd1 hturn2.grown
       have lo' : Loose B w2 { f with name := y.data.toList } := ⟨lo.cells, lo.row, lo.base, lo.self⟩
       have l3 := l2.attach hmm lo' hnf hnr hmap3 hgrow3)
    | (go_at_call 22; refine (l3.done_calls ok.fs1).mono ?_; rintro e w5 ⟨rfl, l5, k5⟩))
  go_ret
  have kAll : Kept (s.foot a) w' w5 :=
    (((k1.mono (fun x _ hx => hx.elim (fun e => e ▸ foot_top s a) (fun e => ⟨.map, by rw [e]; exact hmm⟩))).grown hturn2.grown (fun k hk _ => ⟨.map, by injection hk with e; rw [← e]; exact hmm⟩)).grown hgrow3 (fun k hk _ => ⟨.map, by injection hk with e; rw [← e]; exact hmm⟩)).trans k5 (fun x _ hx => hx ▸ foot_top s a)
  have hd2 := total_del (srt_del h.srt y.data.toList) x.data.toList
  rw [hfd1] at hd2
  have hd2' : total (delF (delF s.fs y.data.toList) x.data.toList) + f.data.length = total (delF s.fs y.data.toList) := hd2
  have hd1 := total_del h.srt y.data.toList
  have hp := total_put (srt_del (srt_del h.srt y.data.toList) x.data.toList) { f with name := y.data.toList }
  have hnoy : find (delF (delF s.fs y.data.toList) x.data.toList) y.data.toList = none := by
    rw [find_del, if_neg (fun e => hxy e.symm), find_del, if_pos rfl]
  have hp' : total (putF (delF (delF s.fs y.data.toList) x.data.toList) { f with name := y.data.toList }) = f.data.length + total (delF (delF s.fs y.data.toList) x.data.toList) := by
    have := hp
    simp only [hnoy] at this
    exact this
  have htot : s.used = (total s.fs : Nat) := ok.sum
  have hle : total (delF s.fs y.data.toList) ≤ total s.fs := by omega
  refine ⟨rfl, _, ⟨l5, ⟨?_, ?_, ok.rm, burn_lo ok.fs0, burn_hi ok.fs1⟩, kAll, ?_⟩, ?_⟩
  · show u = ((total (putF (delF (delF s.fs y.data.toList) x.data.toList) { f with name := y.data.toList }) : Nat) : Int)
    rw [hp', hu]
    omega
  · show u ≤ s.room
    have := ok.fits
    omega
  · intro b hb hx
    rcases foot_put (s := { s with fs := delF (delF s.fs y.data.toList) x.data.toList }) (foot_same (t := { s with fs := putF (delF (delF s.fs y.data.toList) x.data.toList) { f with name := y.data.toList } }) rfl rfl hx) with h1 | h1 | h1
    · exact foot_del (s := s) (foot_del (s := { s with fs := delF s.fs y.data.toList }) h1)
    · exact ⟨.file x.data.toList, by simp only [DS.at]; rw [hfd]; rw [h1]; rfl⟩
    · exact ⟨.row x.data.toList, by simp only [DS.at]; rw [hfd]; exact h1⟩
  · have e2 := vput_eq { f with name := y.data.toList } (delF (delF s.fs y.data.toList) x.data.toList)
    show V.mk s.room (burn s.fuse) ((putF (delF (delF s.fs y.data.toList) x.data.toList) { f with name := y.data.toList }).map DF.pf) = _
    rw [← e2, vdel_eq, vdel_eq]
    rfl

/-- Rename. -/
theorem Rename.calls {B : Nat} {w : World} {a : Nat} {s : DS} (h : Lies B w a s) (ok : s.Ok) (x y : ByteArray) (hx : x.size ≤ maxLen) (hy : y.size ≤ maxLen) (hcnt : s.fs.length < maxLen) :
    Calls Tryd.prog 17 #[dp a, .string x, .string y] w fun e w' => e = .returned (.int .i64 (s.view.rename x.data.toList y.data.toList).2) ∧ ∃ s', Turn B w w' a s s' ∧ s'.view = (s.view.rename x.data.toList y.data.toList).1 := by
  by_cases hf : s.fuse = 0
  · have e : s.view.rename x.data.toList y.data.toList = (s.view, 5) := by unfold V.rename; rw [if_pos (show s.view.fuse = 0 from hf)]
    rw [e]
    refine (Rename_down.calls h x y hf).mono ?_
    rintro e w' ⟨rfl, rfl⟩
    exact ⟨rfl, s, Turn.refl h ok, rfl⟩
  · cases hfd : find s.fs x.data.toList with
    | none =>
      have e : s.view.rename x.data.toList y.data.toList = (s.view, 4) := by
        unfold V.rename; rw [if_neg (show ¬ s.view.fuse = 0 from hf)]
        show (match vfind (s.fs.map DF.pf) _ with | none => _ | some f => _) = _
        rw [vfind_eq, hfd]; rfl
      rw [e]
      refine (Rename_none.calls h x y hx hf hfd).mono ?_
      rintro e w' ⟨rfl, rfl⟩
      exact ⟨rfl, s, Turn.refl h ok, rfl⟩
    | some f =>
      have e : s.view.rename x.data.toList y.data.toList = if y.data.toList = [] then (s.view, 1) else ({ s.view with fuse := burn s.view.fuse, fs := if x.data.toList = y.data.toList then s.view.fs else vput (vdel (vdel s.view.fs y.data.toList) x.data.toList) ⟨y.data.toList, f.data, f.sure⟩ }, 0) := by
        unfold V.rename; rw [if_neg (show ¬ s.view.fuse = 0 from hf)]
        show (match vfind (s.fs.map DF.pf) _ with | none => _ | some f => _) = _
        rw [vfind_eq, hfd]; rfl
      rw [e]
      by_cases hyn : y.data.toList = []
      · rw [if_pos hyn]
        have hy0 : y = ⟨#[]⟩ := by
          cases y with
          | mk d => simpa using hyn
        refine (Rename_arg.calls h x y hx hf hfd hy0).mono ?_
        rintro e w' ⟨rfl, rfl⟩
        exact ⟨rfl, s, Turn.refl h ok, rfl⟩
      · rw [if_neg hyn]
        by_cases hxy : x.data.toList = y.data.toList
        · have hxy0 : x = y := by
            cases x with
            | mk d => cases y with
              | mk d' => simpa using hxy
          subst hxy0
          refine (Rename_same.calls h ok x hx hf hfd hyn).mono ?_
          rintro e w' ⟨rfl, l5, k5⟩
          refine ⟨rfl, _, ⟨l5, ⟨ok.sum, ok.fits, ok.rm, burn_lo ok.fs0, burn_hi ok.fs1⟩, k5.mono (fun x _ hx => hx ▸ foot_top s a), fun b _ hb => foot_same rfl rfl hb⟩, ?_⟩
          rw [if_pos rfl]; rfl
        · refine (Rename_goes.calls h ok x y hx hy hf hfd hyn hxy hcnt).mono ?_
          rintro e w' ⟨rfl, s', t, hv⟩
          refine ⟨rfl, s', t, ?_⟩
          rw [hv, if_neg hxy]; rfl
end Go.Proofs.YtjnjodknnefhaaaDoor.Dev
