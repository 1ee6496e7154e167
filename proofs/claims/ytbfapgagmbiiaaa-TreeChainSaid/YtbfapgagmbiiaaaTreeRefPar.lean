/- gleaningref28.Parents comes to the same plain function. -/
import Derived.Test.YtbfapgagmbiiaaaTreeRows
import Derived.Test.YtbfapgagmbiiaaaTreeRefPl
namespace Go.Proofs.Ytbfapgagmbiiaaa
open Gl Go.RowKit Go.Proofs.YtbfapgagmbiiaaaW.PrintWords
set_option linter.unusedVariables false
set_option linter.unusedSimpArgs false

/-- The first i are told. -/
def Tree.upsTo (l : List SSpan) (i : Nat) : List Int := (List.range l.length).map fun j => if j < i then Tree.named l j else 0
theorem Tree.upsTo_length (l : List SSpan) (i : Nat) : (Tree.upsTo l i).length = l.length := by simp [Tree.upsTo]
theorem Tree.upsTo_zero (l : List SSpan) : Tree.upsTo l 0 = List.replicate l.length 0 := by
  apply List.ext_getElem?
  intro j
  by_cases h : j < l.length <;> simp [Tree.upsTo, h]
theorem Tree.upsTo_all (l : List SSpan) : Tree.upsTo l l.length = Tree.ups l := by
  apply List.ext_getElem?
  intro j
  by_cases h : j < l.length <;> simp [Tree.upsTo, Tree.ups, h]
theorem Tree.upsTo_set (l : List SSpan) {i : Nat} (hi : i < l.length) : (Tree.upsTo l i).set i (Tree.named l i) = Tree.upsTo l (i + 1) := by
  apply List.ext_getElem?
  intro j
  by_cases e : i = j
  · subst e
    simp [Tree.upsTo, hi]
  · rw [List.getElem?_set_ne e]
    have : (j < i) ↔ (j < i + 1) := by omega
    by_cases h : j < l.length <;> simp [Tree.upsTo, this, h]
theorem RI_made0 {W : World} {n b : Nat} (hb : b = W.heap.size) (hn : n ≤ 500000) : RI (W.alloc (.cells (madeCells #[.int .i64 0] n) 3)) b (.slice (some ⟨b, 0, none⟩) n n) (List.replicate n 0) := by
  subst hb
  have h := World.ownsRow_lit (base := W.heap.size) (e := 3) (size := 1) W (madeCells #[.int .i64 0] n) n (Nat.le_refl _) (by simp [maxLen]; omega) (by simp [size_madeCells])
  have hr := Kd.reps_made (R := fun (x : Int) cs => (Kd.int .i64).M (W.alloc (.cells (madeCells #[.int .i64 0] n) 3)) W.heap.size (fun _ => True ∧ True) x cs) (z := .int .i64 0) (size := 1) (z0 := 0) rfl (by omega) rfl n
  refine ⟨fun _ _ => trivial, (madeCells #[.int .i64 0] n).toList, by rw [List.length_replicate]; exact h, ?_⟩
  have e : madeCells (Value.int .i64 0).cells (n * 1) = madeCells #[.int .i64 0] n := by rw [Nat.mul_one]; rfl
  rw [e] at hr
  exact hr
theorem at0_int {w : World} {k : IntKind} {g n : Nat} {xs : List Int} (h : (Kd.int k).C w (some ⟨g, 0, none⟩) n xs) (i : Nat) {x : Int} (hx : xs[i]? = some x) : w.cell? ⟨g, i, none⟩ = some (.int k x) := by
  obtain ⟨ad, e, hc⟩ := atN_int h i hx
  cases e
  rw [add_plain] at hc
  exact hc
/-- append(nil, xs...) of a row that reads: behind 'at_builtin'. -/
theorem dup_i64 {ops : Array Oper} {rest : List Oper} {o : Oper} {a : Act} {Q : Exit → Act → World → Prop} {W : World} (hgd : o.guard = none) (s x : Operand)
    (ho : o.op = .call { callee := .builtin .append, args := #[s, x], argTypes := #[22, 22] }) (v : Value) (xs ys : List Int) (A : Option Addr) (m c : Nat) (hs : a.eval s = v) (hx : a.eval x = .slice A m c)
    (base : Nat) (HO : RI W base v xs) (HR : Kd.C (Kd.int .i64) W A m ys) (hbase : base ≤ W.heap.size) (hl : (xs.length + m) * 8 ≤ 140737488355328)
    (h : ∀ v1 w1, RI w1 base v1 (xs ++ ys) → W.grownBy w1 v.ownBlock → (v1.ownBlock = v.ownBlock ∨ ∃ b, v1.ownBlock = some b ∧ W.heap.size ≤ b) → wpList Try.prog ops Q rest (a.put o.dst v1) w1) :
    wpList Try.prog ops Q (o :: rest) a W :=
  Kd.R_append_row (w0 := W) (.int .i64) 0 base hgd s x 22 3 (.int .i64 0) 8 ho Try.underlying22 info3 rfl (by decide) v xs ys A m c (fun _ => True) hs hx (fun _ _ => trivial) HO HR (Below.refl _ _) hbase hl
    fun v1 w1 h1 _ hg hat => h v1 w1 h1 hg hat

set_option maxHeartbeats 8000000 in
set_option maxRecDepth 100000 in
theorem RefParents.calls (A : Option Addr) (n c : Nat) (l : List SSpan) (w : World) (hr : Kd.C kSpan w A n l) (hn : n ≤ 500000) :
    Calls Try.prog 16 #[.slice A n c] w fun e w' => ∃ v, e = .returned v ∧ RI w' w.heap.size v (Tree.parents l) ∧ Below w.heap.size w w' := by
  obtain rfl : l.length = n := hr.1
  have HR := Aside0.mk hr
  have hn1 : (l.length : Int) ≤ 500000 := by omega
  have hmk := run_make_row' (P := Try.prog) 22 3 (.int .i64 0) 8 Try.underlying22 info3 rfl .i64 .i64 l.length (by omega) (by omega)
  clear hr
  go_enter Try.func16, Try.ntmps16
  go_wp2
  have P0 : Aside0 (RI (w.alloc (.cells (madeCells #[.int .i64 0] l.length) 3)) w.heap.size (.slice (some ⟨w.heap.size, 0, none⟩) l.length l.length) (Tree.upsTo l 0)) := ⟨by rw [Tree.upsTo_zero]; exact RI_made0 rfl hn⟩
  have B0 : Aside0 (Below w.heap.size w (w.alloc (.cells (madeCells #[.int .i64 0] l.length) 3))) := ⟨below_alloc (Below.refl _ _) _⟩
  clear hmk
  go_loopg [4] l.length (fun gg s4 wr => ∃ i : Nat, i ≤ l.length ∧ l.length - i ≤ gg ∧ s4 = .int .i64 i ∧ Aside0 (RI wr w.heap.size (.slice (some ⟨w.heap.size, 0, none⟩) l.length l.length) (Tree.upsTo l i)) ∧ Aside0 (Below w.heap.size w wr))
  case atStart => exact ⟨0, Nat.zero_le _, Nat.le_refl _, rfl, P0, B0⟩
  case round =>
    clear P0 B0
    obtain ⟨i, hi, hg, rfl, P1, B1⟩ := hrel
    by_cases hlt : i < l.length
    · obtain ⟨y, hy⟩ : ∃ y, l[i]? = some y := ⟨_, List.getElem?_eq_getElem hlt⟩
      have HY := Aside0.mk hy
      have hi1 : (i : Int) < (l.length : Int) := by omega
      obtain ⟨z, -, hzc, hzf⟩ := cell_i64 P1.out i hlt
      have P2 : Aside0 (RI (wr.setCell ⟨w.heap.size, i, none⟩ (.int .i64 (-1))) w.heap.size (.slice (some ⟨w.heap.size, 0, none⟩) l.length l.length) ((Tree.upsTo l i).set i (Tree.namedFrom l i l.length))) := ⟨by rw [Tree.namedFrom_end]; exact put_i64 P1.out i (-1)⟩
      have B2 : Aside0 (Below w.heap.size w (wr.setCell ⟨w.heap.size, i, none⟩ (.int .i64 (-1)))) := ⟨B1.out.setCell (Nat.le_refl _) _⟩
      clear P1 B1 hy
      go_wp2
      generalize wr.setCell ⟨w.heap.size, i, none⟩ (.int .i64 (-1)) = wo at P2 B2 ⊢
      clear hzc hzf
      go_loopg [5] l.length (fun gg s5 wr => ∃ t : Nat, t ≤ l.length ∧ t ≤ gg ∧ s5 = .int .i64 ((t : Int) - 1) ∧ Aside0 (RI wr w.heap.size (.slice (some ⟨w.heap.size, 0, none⟩) l.length l.length) ((Tree.upsTo l i).set i (Tree.namedFrom l i t))) ∧ Aside0 (Below w.heap.size w wr))
      case atStart => exact ⟨l.length, Nat.le_refl _, Nat.le_refl _, rfl, P2, B2⟩
      case round =>
        clear P2 B2
        obtain ⟨t, ht, hgt, rfl, P1, B1⟩ := hrel
        rcases Nat.eq_zero_or_pos t with h0 | h0
        · subst h0
          have e := Tree.namedFrom_zero l i
          have P3 : Aside0 (RI wr w.heap.size (.slice (some ⟨w.heap.size, 0, none⟩) l.length l.length) (Tree.upsTo l (i + 1))) := ⟨by have h := P1.out; rw [e, Tree.upsTo_set l hlt] at h; exact h⟩
          have hd : decide ((0 : Int) ≤ ((0 : Nat) : Int) - 1) = false := by simp
          clear e P1
          go_wp2
          go_roundg (l.length - (i + 1))
          case measure => omega
          case rel => exact ⟨i + 1, by omega, by omega, by go_num, P3, B1⟩
        · obtain ⟨k, rfl⟩ : ∃ k, t = k + 1 := ⟨t - 1, by omega⟩
          have hk : k < l.length := by omega
          have ek : ((k + 1 : Nat) : Int) - 1 = (k : Int) := by omega
          rw [ek]
          have hk1 : (k : Int) < (l.length : Int) := by omega
          obtain ⟨x, hx⟩ : ∃ x, l[k]? = some x := ⟨_, List.getElem?_eq_getElem hk⟩
          obtain ⟨ad, A9, c9, rfl, -, -, x2, -⟩ := atN_Span (Kd.C_below HR.out B1.out) k hx
          obtain ⟨ad', A9', c9', e, -, -, -, y3, -⟩ := atN_Span (Kd.C_below HR.out B1.out) i HY.out
          cases e
          obtain ⟨z, -, hzc, hzf⟩ := cell_i64 P1.out i hlt
          by_cases hki : k = i
          · have hd : ((k : Int) != (i : Int)) = false := by simp [hki]
            have P3 : Aside0 (RI wr w.heap.size (.slice (some ⟨w.heap.size, 0, none⟩) l.length l.length) ((Tree.upsTo l i).set i (Tree.namedFrom l i k))) := ⟨by rw [Tree.namedFrom_miss (by unfold Tree.hits; simp [hki])]; exact P1.out⟩
            clear hki hx P1 ek
            go_wp2
            go_quiet (fail)
            go_wp2
            go_roundg k
            case measure => omega
            case rel => exact ⟨k, by omega, by omega, rfl, ⟨Kd.R_drewN P3.out _⟩, ⟨pw_below_drewN B1.out _⟩⟩
          · have hd : ((k : Int) != (i : Int)) = true := by simp; omega
            by_cases hm : x.f1 = y.f2
            · have hm1 : (x.f1 == y.f2) = true := by simpa using hm
              have P3 : Aside0 (RI (wr.setCell ⟨w.heap.size, i, none⟩ (.int .i64 k)) w.heap.size (.slice (some ⟨w.heap.size, 0, none⟩) l.length l.length) ((Tree.upsTo l i).set i (Tree.namedFrom l i k))) := ⟨by
                have h := put_i64 P1.out i (k : Int)
                rw [List.set_set] at h
                rw [Tree.namedFrom_hit hk (by unfold Tree.hits; rw [hx, HY.out]; simp [hki, hm])]
                exact h⟩
              have B3 : Aside0 (Below w.heap.size w (wr.setCell ⟨w.heap.size, i, none⟩ (.int .i64 k))) := ⟨B1.out.setCell (Nat.le_refl _) _⟩
              clear hm hki hx P1 ek
              go_wp2
              go_quiet (fail)
              go_wp2
              go_roundg k
              case measure => omega
              case rel => exact ⟨k, by omega, by omega, rfl, ⟨Kd.R_drewN P3.out _⟩, ⟨pw_below_drewN B3.out _⟩⟩
            · have hm1 : (x.f1 == y.f2) = false := by simpa using hm
              have P3 : Aside0 (RI wr w.heap.size (.slice (some ⟨w.heap.size, 0, none⟩) l.length l.length) ((Tree.upsTo l i).set i (Tree.namedFrom l i k))) := ⟨by rw [Tree.namedFrom_miss (by unfold Tree.hits; rw [hx, HY.out]; simp [hm])]; exact P1.out⟩
              clear hm hki hx P1 ek
              go_wp2
              go_quiet (fail)
              go_wp2
              go_roundg k
              case measure => omega
              case rel => exact ⟨k, by omega, by omega, rfl, ⟨Kd.R_drewN P3.out _⟩, ⟨pw_below_drewN B1.out _⟩⟩
    · obtain rfl : i = l.length := by omega
      have hd : decide ((l.length : Int) < (l.length : Int)) = false := by simp
      obtain ⟨wo, rfl⟩ : ∃ wo : World, wo = wr := ⟨_, rfl⟩
      have P2 := P1.out
      rw [Tree.upsTo_all] at P2
      obtain ⟨-, hrd⟩ := Kd.R_reads' P2
      have PR : Kd.C (Kd.int .i64) wo (some ⟨w.heap.size, 0, none⟩) l.length (Tree.ups l) := by
        obtain ⟨A, c, e, -, h⟩ := R_readsN (n := l.length) P2 (Tree.ups_length l)
        injection e with e1 e2 e3
        subst e1
        exact h
      have PF := Aside0.mk (Kd.F_mono (Kd.F_bound (Kd.R_F P2)) (fun k h => h.2))
      have hz := B1.out.size
      clear P1 hrd P2
      go_wp2_with (at_builtin; refine dup_i64 rfl _ _ rfl _ [] (Tree.ups l) _ _ _ rfl rfl wo.heap.size (Kd.R_nil _ _ _ _ _) PR (Nat.le_refl _) (by simp; omega) ?_; intro v1 w1 h1 hg1 hat1)
      rw [List.nil_append] at h1
      have hb1 : Below wo.heap.size wo w1 := below_app (Below.refl _ _) (Kd.R_nil (Kd.int .i64) 3 _ _ (fun _ => True)) hg1
      have H0 : Aside0 (RI w1 wo.heap.size v1 (Tree.cutTo (Tree.ups l) 0)) := ⟨by rw [Tree.cutTo_zero]; exact h1⟩
      have HU0 : Aside0 (Kd.F (Kd.int .i64) w1 (fun k => k < wo.heap.size) (some ⟨w.heap.size, 0, none⟩) l.length (Tree.ups l)) := ⟨Kd.F_below PF.out hb1⟩
      have B2 : Aside0 (Below w.heap.size w w1) := ⟨below_then B1.out hz hb1⟩
      have hz2 : w.heap.size ≤ wo.heap.size := hz
      obtain ⟨wb, rfl⟩ : ∃ wb : World, wb = wo := ⟨_, rfl⟩
      clear PF PR h1 hg1 hat1 hb1 B1 hz
      go_loopg [7] l.length (fun gg s7 wr => ∃ i : Nat, i ≤ l.length ∧ l.length - i ≤ gg ∧ s7 = .int .i64 i ∧ Aside0 (RI wr wb.heap.size v1 (Tree.cutTo (Tree.ups l) i)) ∧ Aside0 (Kd.F (Kd.int .i64) wr (fun k => k < wb.heap.size) (some ⟨w.heap.size, 0, none⟩) l.length (Tree.ups l)) ∧ Aside0 (Below w.heap.size w wr))
      case atStart => exact ⟨0, Nat.zero_le _, Nat.le_refl _, rfl, H0, HU0, B2⟩
      case round =>
        clear H0 HU0 B2
        obtain ⟨i, hi, hg, rfl, H1, HU, B1⟩ := hrel
        obtain ⟨wo, rfl⟩ : ∃ wo : World, wo = wr := ⟨_, rfl⟩
        by_cases hlt : i < l.length
        · have hi1 : (i : Int) < (l.length : Int) := by omega
          obtain ⟨y, hy⟩ : ∃ y, (Tree.ups l)[i]? = some y := ⟨_, List.getElem?_eq_getElem (by rw [Tree.ups_length]; exact hlt)⟩
          have hyc := at0_int (Kd.F_now HU.out) i hy
          have HOK := Aside0.mk (Tree.ups_ok l y (List.mem_of_getElem? hy))
          obtain ⟨g, cap, rfl, hbg, hgl, -⟩ := R_formN (n := l.length) H1.out (by rw [Tree.cutTo_length, Tree.ups_length]) (by omega)
          obtain ⟨z, -, hzc, hzf⟩ := cell_i64 H1.out i hlt
          generalize hres : Tree.refGo (Tree.ups l) i l.length true y = res
          have HRES : Aside0 (res = Tree.refAt (Tree.ups l) i) := ⟨by rw [← hres, Tree.refAt, List.getD_eq_getElem?_getD, hy, Tree.ups_length]; rfl⟩
          have HG0 : Aside0 (Tree.refGo (Tree.ups l) i l.length true y = res) := ⟨hres⟩
          have HY0 : Aside0 (y = -1 ∨ (0 ≤ y ∧ y < l.length)) := ⟨by have := HOK.out; rwa [Tree.ups_length] at this⟩
          clear hy hres HOK
          go_wp2
          go_loopg [8, 9, 10] l.length (fun gg s8 s9 s10 wr => ∃ (b : Bool) (k : Int) (m : Nat), m ≤ l.length ∧ l.length - m = gg ∧ s8 = .bool b ∧ s9 = .int .i64 k ∧ s10 = .int .i64 m ∧ Aside0 (k = -1 ∨ (0 ≤ k ∧ k < l.length)) ∧ Aside0 (Tree.refGo (Tree.ups l) i gg b k = res) ∧ wo = wr)
          case atStart => exact ⟨_, _, 0, Nat.zero_le _, rfl, rfl, rfl, rfl, HY0, HG0, rfl⟩
          case round =>
            clear HY0 HG0
            obtain ⟨b, k, m, hm, hgm, rfl, rfl, rfl, HK, HG, rfl⟩ := hrel
            by_cases h1 : m < l.length
            · have h1' : (m : Int) < (l.length : Int) := by omega
              obtain ⟨q, rfl⟩ : ∃ q, gk = q + 1 := ⟨gk - 1, by omega⟩
              by_cases h2 : k = -1
              · subst h2
                have HG' : Aside0 (res = (b, -1)) := ⟨by rw [← HG.out, Tree.refGo, if_pos (by omega)]⟩
                have hne : ¬ ((-1 : Int) = (i : Int)) := by omega
                have hd4 : ((-1 : Int) == (i : Int)) = false := by simp
                clear HG HK
                have hhit : ¬ Tree.refHit (Tree.ups l) i = true := by unfold Tree.refHit; rw [← HRES.out, HG'.out]; simp [hne]
                have H2 : Aside0 (RI wo wb.heap.size (.slice (some ⟨g, 0, none⟩) l.length cap) (Tree.cutTo (Tree.ups l) (i + 1))) := ⟨by rw [Tree.cutTo_ref (Tree.ups_ok l) (by rw [Tree.ups_length]; exact hlt), if_neg hhit]; exact H1.out⟩
                clear hhit HG' HRES hne
                go_wp2
                go_roundg (l.length - (i + 1))
                case measure => omega
                case rel => exact ⟨i + 1, by omega, by omega, by go_num, H2, HU, B1⟩
              · have hk2 : 0 ≤ k ∧ k < (l.length : Int) := by rcases HK.out with h | h; exact absurd h h2; exact h
                obtain ⟨hk0, hkl⟩ := hk2
                obtain ⟨kk, rfl⟩ := Int.eq_ofNat_of_zero_le hk0
                clear h2
                by_cases h3 : (kk : Int) = (i : Int)
                · obtain rfl : kk = i := by omega
                  have HG' : Aside0 (res = (b, (kk : Int))) := ⟨by rw [← HG.out, Tree.refGo, if_neg (by omega), if_pos rfl]⟩
                  clear HG HK h3
                  obtain ⟨i, rfl⟩ : ∃ i, i = kk := ⟨_, rfl⟩
                  cases b
                  · 
                    have hhit : ¬ Tree.refHit (Tree.ups l) i = true := by unfold Tree.refHit; rw [← HRES.out, HG'.out]; simp 
                    have H2 : Aside0 (RI wo wb.heap.size (.slice (some ⟨g, 0, none⟩) l.length cap) (Tree.cutTo (Tree.ups l) (i + 1))) := ⟨by rw [Tree.cutTo_ref (Tree.ups_ok l) (by rw [Tree.ups_length]; exact hlt), if_neg hhit]; exact H1.out⟩
                    clear hhit HG' HRES 
                    go_wp2
                    go_roundg (l.length - (i + 1))
                    case measure => omega
                    case rel => exact ⟨i + 1, by omega, by omega, by go_num, H2, HU, B1⟩
                  · 
                    have hhit : Tree.refHit (Tree.ups l) i = true := by unfold Tree.refHit; rw [← HRES.out, HG'.out]; simp
                    have H2 : Aside0 (RI (wo.setCell ⟨g, i, none⟩ (.int .i64 (-1))) wb.heap.size (.slice (some ⟨g, 0, none⟩) l.length cap) (Tree.cutTo (Tree.ups l) (i + 1))) := ⟨by rw [Tree.cutTo_ref (Tree.ups_ok l) (by rw [Tree.ups_length]; exact hlt), if_pos hhit]; exact put_i64 H1.out i (-1)⟩
                    have C2 : Aside0 (Kd.F (Kd.int .i64) (wo.setCell ⟨g, i, none⟩ (.int .i64 (-1))) (fun k => k < wb.heap.size) (some ⟨w.heap.size, 0, none⟩) l.length (Tree.ups l)) := ⟨Kd.F_far HU.out (fun j hj e => by simp only at e; omega) _⟩
                    have B2 : Aside0 (Below w.heap.size w (wo.setCell ⟨g, i, none⟩ (.int .i64 (-1)))) := ⟨B1.out.setCell (by simp; omega) _⟩
                    clear hhit HG' HRES
                    go_wp2
                    go_roundg (l.length - (i + 1))
                    case measure => omega
                    case rel => exact ⟨i + 1, by omega, by omega, by go_num, H2, C2, B2⟩
                · have hd3 : ((kk : Int) != (i : Int)) = true := by simpa using h3
                  obtain ⟨z2, hz2⟩ : ∃ z2, (Tree.ups l)[kk]? = some z2 := ⟨_, List.getElem?_eq_getElem (by rw [Tree.ups_length]; omega)⟩
                  have hz2c := at0_int (Kd.F_now HU.out) kk hz2
                  have HG' : Aside0 (Tree.refGo (Tree.ups l) i q (b && decide ((i : Int) < (kk : Int))) z2 = res) := ⟨by rw [← HG.out, Tree.refGo, if_neg (by omega), if_neg h3, Int.toNat_natCast, List.getD_eq_getElem?_getD, hz2]; rfl⟩
                  have HK2 : Aside0 (z2 = -1 ∨ (0 ≤ z2 ∧ z2 < l.length)) := ⟨by have := Tree.ups_ok l z2 (List.mem_of_getElem? hz2); rwa [Tree.ups_length] at this⟩
                  clear HG HK h3 hz2
                  cases b <;> rcases Nat.lt_or_ge i kk with h5 | h5
                  · have HG2 : Aside0 (Tree.refGo (Tree.ups l) i q false z2 = res) := ⟨by have h := HG'.out; simpa using h⟩
                    clear HG'
                    go_wp2
                    go_roundg q
                    case measure => omega
                    case rel => exact ⟨_, _, m + 1, by omega, by omega, rfl, rfl, by go_num, HK2, HG2, rfl⟩
                  · have HG2 : Aside0 (Tree.refGo (Tree.ups l) i q false z2 = res) := ⟨by have h := HG'.out; simpa using h⟩
                    clear HG'
                    go_wp2
                    go_roundg q
                    case measure => omega
                    case rel => exact ⟨_, _, m + 1, by omega, by omega, rfl, rfl, by go_num, HK2, HG2, rfl⟩
                  · have HG2 : Aside0 (Tree.refGo (Tree.ups l) i q true z2 = res) := ⟨by have h := HG'.out; have e : decide ((i : Int) < (kk : Int)) = true := (by simp; omega); rw [e] at h; exact h⟩
                    have h6 : decide (i < kk) = true := by simp; omega
                    have h7 : decide ((i : Int) < (kk : Int)) = true := by simp; omega
                    clear HG'
                    go_wp2
                    go_roundg q
                    case measure => omega
                    case rel => exact ⟨_, _, m + 1, by omega, by omega, rfl, rfl, by go_num, HK2, HG2, rfl⟩
                  · have HG2 : Aside0 (Tree.refGo (Tree.ups l) i q false z2 = res) := ⟨by have h := HG'.out; have e : decide ((i : Int) < (kk : Int)) = false := (by simp; omega); rw [e] at h; exact h⟩
                    have h6 : decide (i < kk) = false := by simp; omega
                    have h7 : decide ((i : Int) < (kk : Int)) = false := by simp; omega
                    clear HG'
                    go_wp2
                    go_roundg q
                    case measure => omega
                    case rel => exact ⟨_, _, m + 1, by omega, by omega, rfl, rfl, by go_num, HK2, HG2, rfl⟩
            · have HG' : Aside0 (res = (b, k)) := ⟨by rw [← HG.out, show gk = 0 by omega]; rfl⟩
              obtain rfl : m = l.length := by omega
              have h1' : decide ((l.length : Int) < (l.length : Int)) = false := by simp
              clear HG HK h1
              by_cases h3 : k = (i : Int)
              · subst h3
                cases b
                · 
                  have hhit : ¬ Tree.refHit (Tree.ups l) i = true := by unfold Tree.refHit; rw [← HRES.out, HG'.out]; simp 
                  have H2 : Aside0 (RI wo wb.heap.size (.slice (some ⟨g, 0, none⟩) l.length cap) (Tree.cutTo (Tree.ups l) (i + 1))) := ⟨by rw [Tree.cutTo_ref (Tree.ups_ok l) (by rw [Tree.ups_length]; exact hlt), if_neg hhit]; exact H1.out⟩
                  clear hhit HG' HRES 
                  go_wp2
                  go_roundg (l.length - (i + 1))
                  case measure => omega
                  case rel => exact ⟨i + 1, by omega, by omega, by go_num, H2, HU, B1⟩
                · 
                  have hhit : Tree.refHit (Tree.ups l) i = true := by unfold Tree.refHit; rw [← HRES.out, HG'.out]; simp
                  have H2 : Aside0 (RI (wo.setCell ⟨g, i, none⟩ (.int .i64 (-1))) wb.heap.size (.slice (some ⟨g, 0, none⟩) l.length cap) (Tree.cutTo (Tree.ups l) (i + 1))) := ⟨by rw [Tree.cutTo_ref (Tree.ups_ok l) (by rw [Tree.ups_length]; exact hlt), if_pos hhit]; exact put_i64 H1.out i (-1)⟩
                  have C2 : Aside0 (Kd.F (Kd.int .i64) (wo.setCell ⟨g, i, none⟩ (.int .i64 (-1))) (fun k => k < wb.heap.size) (some ⟨w.heap.size, 0, none⟩) l.length (Tree.ups l)) := ⟨Kd.F_far HU.out (fun j hj e => by simp only at e; omega) _⟩
                  have B2 : Aside0 (Below w.heap.size w (wo.setCell ⟨g, i, none⟩ (.int .i64 (-1)))) := ⟨B1.out.setCell (by simp; omega) _⟩
                  clear hhit HG' HRES
                  go_wp2
                  go_roundg (l.length - (i + 1))
                  case measure => omega
                  case rel => exact ⟨i + 1, by omega, by omega, by go_num, H2, C2, B2⟩
              · have hd3 : (k == (i : Int)) = false := by simpa using h3
                have hhit : ¬ Tree.refHit (Tree.ups l) i = true := by unfold Tree.refHit; rw [← HRES.out, HG'.out]; simp [h3]
                have H2 : Aside0 (RI wo wb.heap.size (.slice (some ⟨g, 0, none⟩) l.length cap) (Tree.cutTo (Tree.ups l) (i + 1))) := ⟨by rw [Tree.cutTo_ref (Tree.ups_ok l) (by rw [Tree.ups_length]; exact hlt), if_neg hhit]; exact H1.out⟩
                clear hhit HG' HRES h3
                go_wp2
                go_roundg (l.length - (i + 1))
                case measure => omega
                case rel => exact ⟨i + 1, by omega, by omega, by go_num, H2, HU, B1⟩
        · obtain rfl : i = l.length := by omega
          have hd : decide ((l.length : Int) < (l.length : Int)) = false := by simp
          have hfin : Aside0 (RI wo w.heap.size v1 (Tree.parents l)) := ⟨Kd.R_lower H1.out hz2⟩
          clear H1 HU
          go_wp2
          go_ret
          exact ⟨_, rfl, hfin.out, B1.out⟩
end Go.Proofs.Ytbfapgagmbiiaaa
