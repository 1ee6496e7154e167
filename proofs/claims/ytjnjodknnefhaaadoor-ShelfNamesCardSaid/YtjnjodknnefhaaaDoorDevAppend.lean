/-
  THE DEVICE's Append.
-/
import Derived.Test.YtjnjodknnefhaaaDoorDevView
import Derived.Deep.QuietTactic
import Derived.BigQuiet
import Derived.Shelf.Abstract
import Derived.Laws.AppendOwn
import Derived.Maps.AppendAt
import Derived.OwnWalk
namespace Go.Proofs.YtjnjodknnefhaaaDoor.Dev
open Go.RowKit Go.Proofs.YtjnjodknnefhaaaDoor.Once
open Go.Maps (Keyed)
set_option linter.unusedSimpArgs false
set_option linter.unusedVariables false
set_option maxRecDepth 100000
set_option maxHeartbeats 1600000

/-- WHAT IS APPENDED: bytes that lie outside the device. -/
def Src (w : World) (out : Nat → Prop) (v : Value) (bs : List UInt8) : Prop :=
  ∃ (ad : Addr) (c : Nat), v = .slice (some ad) bs.length c ∧ ad.block < w.heap.size ∧ ¬ out ad.block ∧ ∀ j u, (bs.map u8)[j]? = some u → w.cell? (ad.add j) = some u

theorem Append_down.calls {B : Nat} {w : World} {a : Nat} {s : DS} (h : Lies B w a s) (nm : ByteArray) (v : Value) (hf : s.fuse = 0) :
    Calls Tryd.prog 15 #[dp a, .string nm, v] w fun e w' => e = .returned (.int .i64 5) ∧ w' = w := by
  have hm := h.may_calls
  rw [if_pos hf] at hm
  go_enter Tryd.func15, Tryd.ntmps15
  go_wp2_with (go_at_call 20; refine hm.mono ?_; rintro e w' ⟨rfl, rfl⟩)
  go_ret
  exact ⟨rfl, rfl⟩

theorem Append_arg.calls {B : Nat} {w : World} {a : Nat} {s : DS} (h : Lies B w a s) (nm : ByteArray) (v : Value) (hf : ¬ s.fuse = 0) (hn : nm = ⟨#[]⟩) :
    Calls Tryd.prog 15 #[dp a, .string nm, v] w fun e w' => e = .returned (.int .i64 1) ∧ w' = w := by
  have hm := h.may_calls
  rw [if_neg hf] at hm
  subst hn
  go_enter Tryd.func15, Tryd.ntmps15
  go_wp2_with (go_at_call 20; refine hm.mono ?_; rintro e w' ⟨rfl, rfl⟩)
  go_ret
  exact ⟨rfl, rfl⟩

theorem Append_full.calls {B : Nat} {w : World} {a : Nat} {s : DS} (h : Lies B w a s) (ok : s.Ok) (nm : ByteArray) (ad : Option Addr) (m c : Nat) (hf : ¬ s.fuse = 0) (hn : nm.data.toList ≠ []) (hg : (m : Int) > s.room - s.used) :
    Calls Tryd.prog 15 #[dp a, .string nm, .slice ad m c] w fun e w' => e = .returned (.int .i64 3) ∧ ∃ n, w' = w.drewN n := by
  have hm := h.may_calls
  rw [if_neg hf] at hm
  have hc0 := h.c0
  have hn' : nm.toList.isEmpty = false := by rw [ByteArray.toList_eq]; simpa using hn
  have hg' : s.room - s.used < (m : Int) := hg
  have hw : IntKind.i64.wrap (s.room - s.used) = s.room - s.used := IntWalk.i64_in _ (by have := ok.rm; have := ok.fits; have := ok.sum; omega)
  have hw2 : wrap64 (s.room - s.used) = s.room - s.used := IntWalk.wrap64_in _ (by have := ok.rm; have := ok.fits; have := ok.sum; omega)
  go_enter Tryd.func15, Tryd.ntmps15
  go_wp2_with (go_at_call 20; refine hm.mono ?_; rintro e w' ⟨rfl, rfl⟩)
  go_quiet ((go_at_call 23; exact Calls.quiet_of_same (h.drewN _).used_calls))
  go_wp2
  go_ret
  exact ⟨rfl, _, rfl⟩

theorem src_stays {S : Nat → Prop} {w w1 : World} {ad : Addr} {xs : List Value} (k : Kept S w w1) (hlt : ad.block < w.heap.size) (hS : ¬ S ad.block) (h : ∀ j u, xs[j]? = some u → w.cell? (ad.add j) = some u) :
    ∀ j u, xs[j]? = some u → w1.cell? (ad.add j) = some u := fun j u hj => by
  have hb : (ad.add j).block = ad.block := by unfold Addr.add; split <;> rfl
  rw [World.cell?_of_block (w := w) (by rw [hb]; exact k.block _ hlt hS)]
  exact h j u hj
theorem own_form {w : World} {B : Nat} {e : TypeId} {sz n : Nat} {v : Value} {xs : List Value} (h : w.ownsRow B e sz v n xs) : ∃ ao c, v = .slice ao n c := by
  rcases h.2 with ⟨hv, hn⟩ | ⟨g, cap, cur, hv, _⟩
  · exact ⟨_, _, by rw [hn]; exact hv⟩
  · exact ⟨_, _, hv⟩
theorem u8_one (bs : List UInt8) : ∀ u ∈ bs.map u8, u.oneCell' = true := fun u hu => by
  obtain ⟨b, _, rfl⟩ := List.mem_map.1 hu
  rfl

/-- The file's bytes grow: the device's state behind it. -/
theorem Lies.grow {B : Nat} {w w2 : World} {a : Nat} {s : DS} (h : Lies B w a s) (nm : List UInt8) {f : DF} (hf : find s.fs nm = some f) (bs : List UInt8) {v' : Value}
    (hown : w2.ownsRow B 5 1 v' (f.data.length + bs.length) (f.data.map u8 ++ bs.map u8)) (hgrow : w.grownBy w2 f.row.ownBlock) (hat : v'.ownBlock = f.row.ownBlock ∨ v'.ownBlock = some w.heap.size) :
    Lies B (w2.setCell ⟨f.blk, 0, none⟩ v') a { s with fs := setF s.fs { f with row := v', data := f.data ++ bs } } ∧ Kept (s.foot a) w (w2.setCell ⟨f.blk, 0, none⟩ v') ∧
      w2.cell? ⟨f.blk, 0, none⟩ = some f.row ∧ w2.frozen? ⟨f.blk, 0, none⟩ = false := by
  have hlies : v'.ownBlock = f.row.ownBlock ∨ ∀ g, v'.ownBlock = some g → w.heap.size ≤ g := by
    rcases hat with h1 | h1
    · exact .inl h1
    · exact .inr (fun g hg => by rw [h1] at hg; injection hg with e; omega)
  have pf : s.at a (.file nm) = some f.blk := by simp [DS.at, hf]
  have pr : ∀ g, f.row.ownBlock = some g → s.at a (.row nm) = some g := fun g hg => by simp [DS.at, hf, hg]
  have hne : some f.blk ≠ f.row.ownBlock := fun e => absurd (h.apart _ _ _ pf (pr _ e.symm)) (by simp)
  have hc := (h.file nm f hf).1
  have hlt := h.lt _ _ pf
  have hc2 : w2.heap[f.blk]? = some (.cells #[f.row, .int .i64 (f.sure : Int)] 58 (0, 0)) := (hgrow.block _ hlt hne).trans hc
  have hk : Kept (fun b => b = f.blk ∨ f.row.ownBlock = some b) w (w2.setCell ⟨f.blk, 0, none⟩ v') :=
    ((Kept.refl _ w).grown hgrow (fun k hk _ => .inr hk)).setCell (fun _ => .inl rfl) _
  refine ⟨h.turned nm (f := f) (f' := { f with row := v', data := f.data ++ bs }) hf (show f.name = nm from find_name hf) rfl hk ?_ ?_ ?_, hk.mono ?_, cell_of_row w2 _ 0 _ _ _ hc2, frozen_of_row w2 _ 0 _ _ hc2⟩
  · rw [heap_setCell_self w2 f.blk 0 v' hc2]; rfl
  · have : w2.ownsRow B 5 1 v' (f.data ++ bs).length ((f.data ++ bs).map u8) := by rw [List.length_append, List.map_append]; exact hown
    refine row_stays this (fun g hg => Below.heap_setCell _ _ _ _ (fun e => ?_))
    have e' : g = f.blk := e
    rcases hlies with h1 | h1
    · exact hne (by rw [← h1, hg, e'])
    · have := h1 g hg; omega
  · intro g hg
    rcases hlies with h1 | h1
    · exact .inl (h1 ▸ hg)
    · exact .inr (h1 g hg)
  · rintro x _ (rfl | hx)
    · exact ⟨_, pf⟩
    · exact ⟨_, pr x hx⟩

def newF (nm : List UInt8) (b : Nat) : DF := ⟨nm, b, .slice none 0 0, [], 0⟩

/-- A new file. -/
theorem Lies.fresh {B n : Nat} {w1 w2 : World} {a m : Nat} {s : DS} (l1 : Lies B w1 a s) (hm : s.mp = some m) (hB : B ≤ w1.heap.size) (nm : List UInt8)
    (hmap2 : w2.ownsMap Tryd.prog 9 ptrR m n ((datum s.fs).put (.string nm) (.lit (.int .i64 w1.heap.size)))) (hg : (w1.alloc (.cells #[.slice none 0 0, .int .i64 0] 58)).grownBy w2 (some m)) :
    Lies B w2 a { s with fs := putF s.fs (newF nm w1.heap.size) } ∧ Kept (s.foot a) w1 w2 := by
  have hnot : ¬ s.foot a w1.heap.size := fun ⟨p, hp⟩ => absurd (l1.lt p _ hp) (Nat.lt_irrefl _)
  have la : Lies B (w1.alloc (.cells #[.slice none 0 0, .int .i64 0] 58)) a s := l1.kept ((Kept.refl (fun _ => False) w1).alloc _) (fun _ _ h => h)
  refine ⟨la.attach hm (f := newF nm w1.heap.size) ⟨heap_alloc_new w1 _, World.ownsRow_nil _ _ _ _, hB, by simp [newF, Value.ownBlock]⟩ hnot (fun g hg => by simp [newF, Value.ownBlock] at hg) hmap2 hg, ?_⟩
  exact ((Kept.refl (s.foot a) w1).alloc _).grown hg (fun k hk _ => ⟨.map, by injection hk with e; rw [← e]; exact hm⟩)

theorem Lies.grow0 {B : Nat} {w w2 : World} {a : Nat} {s : DS} (h : Lies B w a s) (nm : List UInt8) {N : Nat} (hf : find s.fs nm = some (newF nm N)) (bs : List UInt8) {v' : Value}
    (hown : w2.ownsRow B 5 1 v' bs.length (bs.map u8)) (hgrow : w.grownBy w2 none) (hat : v'.ownBlock = none ∨ v'.ownBlock = some w.heap.size) :
    Lies B (w2.setCell ⟨N, 0, none⟩ v') a { s with fs := setF s.fs ⟨nm, N, v', bs, 0⟩ } ∧ Kept (s.foot a) w (w2.setCell ⟨N, 0, none⟩ v') ∧
      w2.cell? ⟨N, 0, none⟩ = some (.slice none 0 0) ∧ w2.frozen? ⟨N, 0, none⟩ = false := by
  have := h.grow nm hf bs (w2 := w2) (v' := v') (by simpa [newF] using hown) hgrow hat
  simpa [newF] using this

set_option maxHeartbeats 4000000 in
theorem Append_old.calls {B : Nat} {w : World} {a : Nat} {s : DS} (h : Lies B w a s) (ok : s.Ok) (hB : B ≤ w.heap.size) (nm : ByteArray) (hs : nm.size ≤ maxLen) (v : Value) (bs : List UInt8) (src : Src w (s.foot a) v bs)
    (hf : ¬ s.fuse = 0) (hn : nm.data.toList ≠ []) (hg : (bs.length : Int) ≤ s.room - s.used) {f : DF} (hfd : find s.fs nm.data.toList = some f) (hlim : f.data.length + bs.length ≤ 140737488355328) :
    Calls Tryd.prog 15 #[dp a, .string nm, v] w fun e w' => e = .returned (.int .i64 0) ∧ ∃ s', Turn B w w' a s s' ∧ s'.view = (s.view.append nm.data.toList bs).1 := by
  obtain ⟨ad, c, rfl, hadlt, hadout, hcells⟩ := src
  have hm := h.may_calls
  rw [if_neg hf] at hm
  have hc0 := h.c0
  have hn' : nm.toList.isEmpty = false := by rw [ByteArray.toList_eq]; simpa using hn
  have hg' : ¬ s.room - s.used < (bs.length : Int) := by omega
  have hw : IntKind.i64.wrap (s.room - s.used) = s.room - s.used := IntWalk.i64_in _ (by have := ok.rm; have := ok.fits; have := ok.sum; omega)
  have hw2 : wrap64 (s.room - s.used) = s.room - s.used := IntWalk.wrap64_in _ (by have := ok.rm; have := ok.fits; have := ok.sum; omega)
  have hmf : ∀ (fn : Fn) (first cap : Array Value) (w : World), (Instr.makeFunc fn first cap).run Tryd.prog w = .ok (.func fn first cap) w := fun _ _ _ _ => rfl
  obtain ⟨i0, hi, hz0, hz1, hz2⟩ : ∃ i, Tryd.prog.info? 5 = some i ∧ i.zero = some (.int .u8 0) ∧ i.size = 1 ∧ i.bytes = 1 := info_parts (by kernel_rfl)
  go_enter Tryd.func15, Tryd.ntmps15
  go_wp2_with (go_at_call 20; refine hm.mono ?_; rintro e w' ⟨rfl, rfl⟩)
  go_quiet ((go_at_call 23; exact Calls.quiet_of_same (h.drewN _).used_calls))
  go_wp2_with (first
    | (go_at_call 24; refine (Lies.once_calls (w := World.drewN _ nq) (h.drewN nq) hB).mono ?_; rintro e w1 ⟨rfl, m, l1, k1, hm1⟩
       have hc5 : w1.cell? ⟨a, 5, none⟩ = some (.map (some m)) := l1.c5
       have hlook : (Instr.lookup 49 (.map (some m)) (.string nm) false).run Tryd.prog w1 = .ok (.pointer (some ⟨f.blk, 0, none⟩)) w1 := by
         have hl := l1.look nm hs
         simp only [hfd, ptrOf] at hl
         exact hl
       have hrow : w1.cell? ⟨f.blk, 0, none⟩ = some f.row := cell_of_row w1 f.blk 0 _ _ _ (l1.file _ f hfd).1
       have hown := (l1.file _ f hfd).2
       have hB1 : B ≤ w1.heap.size := Nat.le_trans hB k1.size
       have hcells1 : ∀ j u, (bs.map u8)[j]? = some u → w1.cell? (ad.add j) = some u := src_stays k1 hadlt (fun e => hadout ⟨.top, by rw [e]; rfl⟩) hcells)
    | (at_builtin; go_loud (refine wpList_append_own_at _ rfl _ _ 30 rfl B 5 i0 (.int .u8 0) 1 1 Tryd.underlying30 hi hz0 hz1 hz2 rfl (by decide) f.row f.data.length (f.data.map u8) rfl hown ad bs.length c (bs.map u8) rfl (by simp) hcells1 (u8_one bs) (by unfold maxLen; omega) (by omega) hB1 ?_); intro v' w2 hown2 hgrow2 hnil2 hat2
       obtain ⟨ao, c', rfl⟩ := own_form hown2
       obtain ⟨l3, k3, hcell2, hfz2⟩ := l1.grow nm.data.toList hfd bs hown2 hgrow2 hat2)
    | (go_at_call 26; refine (l3.add_calls (bs.length : Int) (by have := ok.sum; show -9223372036854775808 ≤ s.used + _; omega) (by have := ok.rm; show s.used + _ ≤ _; omega)).mono ?_; rintro e w4 ⟨rfl, l4, k4⟩)
    | (go_at_call 22; refine (l4.done_calls ok.fs1).mono ?_; rintro e w5 ⟨rfl, l5, k5⟩))
  go_ret
  have hmge : ∀ b, b < w'.heap.size → DS.foot { s with mp := some m } a b → s.foot a b := fun b hb hx => by
    rcases foot_ready hx with h1 | h1
    · exact h1
    · rcases hm1 with h2 | h2
      · exact ⟨.map, by rw [h1]; exact h2⟩
      · exact absurd hb (by rw [h1]; exact Nat.not_lt.2 h2)
  have hfn : f.name = nm.data.toList := find_name hfd
  have k01 : Kept (fun b => b = a) w' w1 := (kept_drewN _ w' nq).trans k1 (fun x _ hx => hx)
  have kAll : Kept (s.foot a) w' w5 := (((k01.mono (S' := s.foot a) (fun x _ hx => hx ▸ foot_top s a)).trans k3 hmge).trans k4 (fun x _ hx => hx ▸ foot_top s a)).trans k5 (fun x _ hx => hx ▸ foot_top s a)
  have hut := vused_eq s ok
  have htot : s.used = (total s.fs : Nat) := ok.sum
  have hset := total_set h.srt { f with row := .slice ao (f.data.length + bs.length) c', data := f.data ++ bs } f (by show find s.fs f.name = _; rw [hfn]; exact hfd)
  refine ⟨rfl, _, ⟨l5, ⟨?_, ?_, ok.rm, burn_lo ok.fs0, burn_hi ok.fs1⟩, kAll, ?_⟩, ?_⟩
  · have hset' : total (setF s.fs { f with row := .slice ao (f.data.length + bs.length) c', data := f.data ++ bs }) = bs.length + total s.fs := by
      have := hset
      simp only [List.length_append] at this
      omega
    show s.used + (bs.length : Int) = ((total (setF s.fs { f with row := .slice ao (f.data.length + bs.length) c', data := f.data ++ bs }) : Nat) : Int)
    rw [hset', htot]
    omega
  · show s.used + (bs.length : Int) ≤ s.room
    omega
  · intro b hb hx
    rcases foot_set (s := { s with mp := some m }) (f := f) (f' := { f with row := .slice ao (f.data.length + bs.length) c', data := f.data ++ bs }) (by show find s.fs f.name = _; rw [hfn]; exact hfd) rfl (foot_same (t := { s with mp := some m, fs := _ }) rfl rfl hx) with h1 | h1
    · exact hmge b hb h1
    · rcases hat2 with h2 | h2
      · exact ⟨.row nm.data.toList, by simp only [DS.at]; rw [hfd]; show f.row.ownBlock = some b; exact h2.symm.trans h1⟩
      · have e := h2.symm.trans h1
        injection e with e
        have := k01.size
        omega
  · unfold V.append
    rw [if_neg (show ¬ s.view.fuse = 0 from hf), if_neg hn, if_neg (show ¬ (bs.length : Int) > s.view.room - s.view.used from by rw [hut]; show ¬ (bs.length : Int) > s.room - s.used; omega)]
    show V.mk _ _ _ = V.mk _ _ _
    have e1 : vfind s.view.fs nm.data.toList = some f.pf := by show vfind (s.fs.map DF.pf) _ = _; rw [vfind_eq, hfd]; rfl
    rw [e1]
    have e2 := vset_eq { f with row := .slice ao (f.data.length + bs.length) c', data := f.data ++ bs } s.fs
    have e3 : (DF.pf { f with row := .slice ao (f.data.length + bs.length) c', data := f.data ++ bs }) = ⟨nm.data.toList, f.pf.data ++ bs, f.pf.sure⟩ := by rw [← hfn]; rfl
    rw [e3] at e2
    show V.mk _ _ _ = V.mk _ _ (vset (s.fs.map DF.pf) _)
    rw [e2]
    rfl
set_option maxHeartbeats 4000000 in
theorem Append_new.calls {B : Nat} {w : World} {a : Nat} {s : DS} (h : Lies B w a s) (ok : s.Ok) (hB : B ≤ w.heap.size) (nm : ByteArray) (hs : nm.size ≤ maxLen) (v : Value) (bs : List UInt8) (src : Src w (s.foot a) v bs)
    (hf : ¬ s.fuse = 0) (hn : nm.data.toList ≠ []) (hg : (bs.length : Int) ≤ s.room - s.used) (hfd : find s.fs nm.data.toList = none) (hlim : bs.length ≤ 140737488355328) (hcnt : s.fs.length < maxLen) :
    Calls Tryd.prog 15 #[dp a, .string nm, v] w fun e w' => e = .returned (.int .i64 0) ∧ ∃ s', Turn B w w' a s s' ∧ s'.view = (s.view.append nm.data.toList bs).1 := by
  obtain ⟨ad, c, rfl, hadlt, hadout, hcells⟩ := src
  have hm := h.may_calls
  rw [if_neg hf] at hm
  have hc0 := h.c0
  have hn' : nm.toList.isEmpty = false := by rw [ByteArray.toList_eq]; simpa using hn
  have hg' : ¬ s.room - s.used < (bs.length : Int) := by omega
  have hw : IntKind.i64.wrap (s.room - s.used) = s.room - s.used := IntWalk.i64_in _ (by have := ok.rm; have := ok.fits; have := ok.sum; omega)
  have hw2 : wrap64 (s.room - s.used) = s.room - s.used := IntWalk.wrap64_in _ (by have := ok.rm; have := ok.fits; have := ok.sum; omega)
  have hmf : ∀ (fn : Fn) (first cap : Array Value) (w : World), (Instr.makeFunc fn first cap).run Tryd.prog w = .ok (.func fn first cap) w := fun _ _ _ _ => rfl
  obtain ⟨i0, hi, hz0, hz1, hz2⟩ : ∃ i, Tryd.prog.info? 5 = some i ∧ i.zero = some (.int .u8 0) ∧ i.size = 1 ∧ i.bytes = 1 := info_parts (by kernel_rfl)
  go_enter Tryd.func15, Tryd.ntmps15
  go_wp2_with (go_at_call 20; refine hm.mono ?_; rintro e w' ⟨rfl, rfl⟩)
  go_quiet ((go_at_call 23; exact Calls.quiet_of_same (h.drewN _).used_calls))
  have hkey := WideMaps.keyOf_string_mk (P := Tryd.prog) Tryd.underlying9 hs
  go_wp2_with (first
    | (go_at_call 24; refine (Lies.once_calls (w := World.drewN _ nq) (h.drewN nq) hB).mono ?_; rintro e w1 ⟨rfl, m, l1, k1, hm1⟩
       have hc5 : w1.cell? ⟨a, 5, none⟩ = some (.map (some m)) := l1.c5
       have hlook : (Instr.lookup 49 (.map (some m)) (.string nm) false).run Tryd.prog w1 = .ok (.pointer none) w1 := by
         have hl := l1.look nm hs
         simp only [hfd, ptrOf] at hl
         exact hl
       have hB1 : B ≤ w1.heap.size := Nat.le_trans hB k1.size
       have hcells1 : ∀ j u, (bs.map u8)[j]? = some u → w1.cell? (ad.add j) = some u := src_stays k1 hadlt (fun e => hadout ⟨.top, by rw [e]; rfl⟩) hcells
       have hc5a : (w1.alloc (.cells #[.slice none 0 0, .int .i64 0] 58)).cell? ⟨a, 5, none⟩ = some (.map (some m)) := by rw [World.cell?_alloc_past _ _ _ l1.alt]; exact hc5)
    | (at_mapUpdate; go_loud (refine wpList_mapUpdate_own _ rfl _ _ _ 49 rfl 9 55 keyed Tryd.underlying49 ptrR m s.fs.length (datum s.fs) rfl ((l1.map m rfl).alloc _) hcnt _ _ (.string nm.data.toList) rfl rfl hkey (.lit (.int .i64 w1.heap.size)) [] rfl ?_); intro w2 hmap2 hgrow2
       obtain ⟨l2, k2⟩ := l1.fresh rfl hB1 nm.data.toList hmap2 hgrow2
       have hfd2 : find (putF s.fs (newF nm.data.toList w1.heap.size)) nm.data.toList = some (newF nm.data.toList w1.heap.size) := by rw [find_put]; exact if_pos rfl
       have hrow2 : w2.cell? ⟨w1.heap.size, 0, none⟩ = some (.slice none 0 0) := cell_of_row w2 w1.heap.size 0 _ _ _ (l2.file _ _ hfd2).1
       have hB2 : B ≤ w2.heap.size := Nat.le_trans hB1 k2.size
       have hown2 : w2.ownsRow B 5 1 (.slice none 0 0) 0 [] := World.ownsRow_nil _ _ _ _
       have hcells2 : ∀ j u, (bs.map u8)[j]? = some u → w2.cell? (ad.add j) = some u := src_stays k2 (Nat.lt_of_lt_of_le hadlt k1.size) (fun e => hadout (by
         rcases foot_ready e with h1 | h1
         · exact h1
         · rcases hm1 with h2 | h2
           · exact ⟨.map, by rw [h1]; exact h2⟩
           · have h3 : _ < _ := hadlt
             rw [h1] at h3
             exact absurd h3 (Nat.not_lt.2 h2))) hcells1)
    | (at_builtin; go_loud (refine wpList_append_own_at _ rfl _ _ 30 rfl B 5 i0 (.int .u8 0) 1 1 Tryd.underlying30 hi hz0 hz1 hz2 rfl (by decide) (.slice none 0 0) 0 [] rfl hown2 ad bs.length c (bs.map u8) rfl (by simp) hcells2 (u8_one bs) (by unfold maxLen; omega) (by omega) hB2 ?_); intro v' w3 hown3 hgrow3 hnil3 hat3
       rw [Nat.zero_add, List.nil_append] at hown3
       obtain ⟨ao, c', rfl⟩ := own_form hown3
       obtain ⟨l4, k4, hcell3, hfz3⟩ := l2.grow0 nm.data.toList hfd2 bs hown3 hgrow3 hat3)
    | (go_at_call 26; refine (l4.add_calls (bs.length : Int) (by have := ok.sum; show -9223372036854775808 ≤ s.used + _; omega) (by have := ok.rm; show s.used + _ ≤ _; omega)).mono ?_; rintro e w5 ⟨rfl, l5, k5⟩)
    | (go_at_call 22; refine (l5.done_calls ok.fs1).mono ?_; rintro e w6 ⟨rfl, l6, k6⟩))
  go_ret
  have hmge : ∀ b, b < w'.heap.size → DS.foot { s with mp := some m } a b → s.foot a b := fun b hb hx => by
    rcases foot_ready hx with h1 | h1
    · exact h1
    · rcases hm1 with h2 | h2
      · exact ⟨.map, by rw [h1]; exact h2⟩
      · exact absurd hb (by rw [h1]; exact Nat.not_lt.2 h2)
  have k01 : Kept (fun b => b = a) w' w1 := (kept_drewN _ w' nq).trans k1 (fun x _ hx => hx)
  have hput : ∀ b, b < w'.heap.size → DS.foot { s with mp := some m, fs := putF s.fs (newF nm.data.toList w1.heap.size) } a b → s.foot a b := fun b hb hx => by
    rcases foot_put (s := { s with mp := some m }) hx with h1 | h1 | h1
    · exact hmge b hb h1
    · have h2 : b = w1.heap.size := h1
      have := k01.size
      omega
    · cases h1
  have kAll : Kept (s.foot a) w' w6 := ((((k01.mono (S' := s.foot a) (fun x _ hx => hx ▸ foot_top s a)).trans k2 hmge).trans k4 hput).trans k5 (fun x _ hx => hx ▸ foot_top s a)).trans k6 (fun x _ hx => hx ▸ foot_top s a)
  have hut := vused_eq s ok
  have htot : s.used = (total s.fs : Nat) := ok.sum
  have hsp : setF (putF s.fs (newF nm.data.toList w1.heap.size)) ⟨nm.data.toList, w1.heap.size, .slice ao bs.length c', bs, 0⟩ = putF s.fs ⟨nm.data.toList, w1.heap.size, .slice ao bs.length c', bs, 0⟩ := set_put (f0 := newF nm.data.toList w1.heap.size) (f := ⟨nm.data.toList, w1.heap.size, .slice ao bs.length c', bs, 0⟩) rfl _
  have hset := total_put h.srt ⟨nm.data.toList, w1.heap.size, .slice ao bs.length c', bs, 0⟩
  refine ⟨rfl, _, ⟨l6, ⟨?_, ?_, ok.rm, burn_lo ok.fs0, burn_hi ok.fs1⟩, kAll, ?_⟩, ?_⟩
  · have hset' : total (putF s.fs ⟨nm.data.toList, w1.heap.size, .slice ao bs.length c', bs, 0⟩) = bs.length + total s.fs := by
      have := hset
      simp only [hfd] at this
      omega
    show s.used + (bs.length : Int) = ((total (setF (putF s.fs (newF nm.data.toList w1.heap.size)) ⟨nm.data.toList, w1.heap.size, .slice ao bs.length c', bs, 0⟩) : Nat) : Int)
    rw [hsp, hset', htot]
    omega
  · show s.used + (bs.length : Int) ≤ s.room
    omega
  · intro b hb hx
    have hx' : DS.foot { s with mp := some m, fs := putF s.fs ⟨nm.data.toList, w1.heap.size, .slice ao bs.length c', bs, 0⟩ } a b := foot_same (s := { s with mp := some m, fs := setF (putF s.fs (newF nm.data.toList w1.heap.size)) ⟨nm.data.toList, w1.heap.size, .slice ao bs.length c', bs, 0⟩ }) rfl hsp (foot_same rfl rfl hx)
    rcases foot_put (s := { s with mp := some m }) hx' with h1 | h1 | h1
    · exact hmge b hb h1
    · have h2 : b = w1.heap.size := h1
      have := k01.size
      omega
    · rcases hat3 with h2 | h2
      · have h3 : (Value.slice ao bs.length c').ownBlock = none := h2
        rw [h3] at h1; cases h1
      · have h3 : (Value.slice ao bs.length c').ownBlock = some w2.heap.size := h2
        rw [h3] at h1
        injection h1 with e
        have := k01.size
        have := k2.size
        omega
  · unfold V.append
    rw [if_neg (show ¬ s.view.fuse = 0 from hf), if_neg hn, if_neg (show ¬ (bs.length : Int) > s.view.room - s.view.used from by rw [hut]; show ¬ (bs.length : Int) > s.room - s.used; omega)]
    show V.mk _ _ _ = V.mk _ _ _
    have e1 : vfind s.view.fs nm.data.toList = none := by show vfind (s.fs.map DF.pf) _ = _; rw [vfind_eq, hfd]; rfl
    rw [e1]
    have e2 := vput_eq ⟨nm.data.toList, w1.heap.size, .slice ao bs.length c', bs, 0⟩ s.fs
    show V.mk s.room (burn s.fuse) ((setF (putF s.fs (newF nm.data.toList w1.heap.size)) ⟨nm.data.toList, w1.heap.size, .slice ao bs.length c', bs, 0⟩).map DF.pf) = V.mk _ _ (vput (s.fs.map DF.pf) _)
    rw [hsp]
    show V.mk _ _ _ = V.mk _ _ (vput (s.fs.map DF.pf) (DF.pf ⟨nm.data.toList, w1.heap.size, .slice ao bs.length c', bs, 0⟩))
    rw [e2]
    rfl

/-- APPEND, of bytes that are not nil. -/
theorem Append.calls {B : Nat} {w : World} {a : Nat} {s : DS} (h : Lies B w a s) (ok : s.Ok) (hB : B ≤ w.heap.size) (nm : ByteArray) (hs : nm.size ≤ maxLen) (v : Value) (bs : List UInt8) (src : Src w (s.foot a) v bs)
    (hlim : ∀ f, find s.fs nm.data.toList = some f → f.data.length + bs.length ≤ 140737488355328) (hlim0 : bs.length ≤ 140737488355328) (hcnt : s.fs.length < maxLen) :
    Calls Tryd.prog 15 #[dp a, .string nm, v] w fun e w' => e = .returned (.int .i64 (s.view.append nm.data.toList bs).2) ∧ ∃ s', Turn B w w' a s s' ∧ s'.view = (s.view.append nm.data.toList bs).1 := by
  have hut := vused_eq s ok
  by_cases hf : s.fuse = 0
  · have e : s.view.append nm.data.toList bs = (s.view, 5) := by unfold V.append; rw [if_pos (show s.view.fuse = 0 from hf)]
    rw [e]
    refine (Append_down.calls h nm v hf).mono ?_
    rintro e w' ⟨rfl, rfl⟩
    exact ⟨rfl, s, Turn.refl h ok, rfl⟩
  · by_cases hn : nm.data.toList = []
    · have e : s.view.append nm.data.toList bs = (s.view, 1) := by unfold V.append; rw [if_neg (show ¬ s.view.fuse = 0 from hf), if_pos hn]
      rw [e]
      have hn' : nm = ⟨#[]⟩ := by
        cases nm with
        | mk d => simpa using hn
      refine (Append_arg.calls h nm v hf hn').mono ?_
      rintro e w' ⟨rfl, rfl⟩
      exact ⟨rfl, s, Turn.refl h ok, rfl⟩
    · by_cases hg : (bs.length : Int) > s.room - s.used
      · have e : s.view.append nm.data.toList bs = (s.view, 3) := by
          unfold V.append; rw [if_neg (show ¬ s.view.fuse = 0 from hf), if_neg hn, if_pos (by rw [hut]; exact hg)]
        rw [e]
        obtain ⟨ad, c, rfl, _⟩ := src
        refine (Append_full.calls h ok nm (some ad) bs.length c hf hn hg).mono ?_
        rintro e w' ⟨rfl, n, rfl⟩
        exact ⟨rfl, s, ⟨h.drewN n, ok, kept_drewN _ _ _, fun _ _ hx => hx⟩, rfl⟩
      · have e : (s.view.append nm.data.toList bs).2 = 0 := by
          unfold V.append; rw [if_neg (show ¬ s.view.fuse = 0 from hf), if_neg hn, if_neg (by rw [hut]; exact hg)]
        rw [e]
        cases hfd : find s.fs nm.data.toList with
        | none => exact Append_new.calls h ok hB nm hs v bs src hf hn (by omega) hfd hlim0 hcnt
        | some f => exact Append_old.calls h ok hB nm hs v bs src hf hn (by omega) hfd (hlim f hfd)
end Go.Proofs.YtjnjodknnefhaaaDoor.Dev
