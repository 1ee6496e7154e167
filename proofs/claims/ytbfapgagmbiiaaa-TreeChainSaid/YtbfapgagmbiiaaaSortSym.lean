/- slices.symMergeCmpFunc at int. -/
import Derived.Test.YtbfapgagmbiiaaaSortSymA
import Derived.Test.YtbfapgagmbiiaaaSortSymB
import Derived.Deep.Cut
namespace Go.Proofs.Ytbfapgagmbiiaaa
open Gl Go.RowKit Go.Proofs.YtbfapgagmbiiaaaW.PrintWords
set_option linter.unusedVariables false
set_option linter.unusedSimpArgs false

/-- What symMerge does, of parts of at most N elements. -/
def SymOk (f : FuncId) (lb : Array Value) (S : Int → Prop) (cf : Int → Int → Int) (w0 : World) (g cap n : Nat) (N : Nat) : Prop :=
  ∀ (w : World) (P A B Q : List Int) (a m b : Nat), P.length = a → a + A.length = m → m + B.length = b → 0 < A.length → 0 < B.length → b - a ≤ N → (∀ y ∈ A, S y) → (∀ y ∈ B, S y) → Sort.Sd (ltOf cf) A → Sort.Sd (ltOf cf) B → Own w0 w g cap n (P ++ (A ++ (B ++ Q))) →
    Calls Try.prog 59 #[.slice (some ⟨g, 0, none⟩) n cap, .int .i64 a, .int .i64 m, .int .i64 b, .func (.func f) #[] lb] w fun e w' => e = .returned (.tuple #[]) ∧ Own w0 w' g cap n (P ++ Sort.isort (ltOf cf) (A ++ B) ++ Q)

set_option maxRecDepth 100000 in
set_option maxHeartbeats 16000000 in
theorem sym.step (f : FuncId) (lb : Array Value) (S : Int → Prop) (cf : Int → Int → Int) (w0 : World) (g cap n : Nat) (hcmp : CmpOk f lb S cf w0 g) (eg : ∀ args w, (callFunc f args).run Try.prog w = .ok (.enter f args) w)
    (hswo : Sort.Swo (ltOf cf) S) (hn : n ≤ 2305843009213693952) (N : Nat) (ih : SymOk f lb S cf w0 g cap n N) (w : World) (P A B Q : List Int) (a m b : Nat) (ha : P.length = a) (hm : a + A.length = m) (hb : m + B.length = b) (hA1 : 1 < A.length) (hB1 : 1 < B.length) (hN : b - a ≤ N + 1)
    (hA : ∀ y ∈ A, S y) (hB : ∀ y ∈ B, S y) (sA : Sort.Sd (ltOf cf) A) (sB : Sort.Sd (ltOf cf) B) (hO : Own w0 w g cap n (P ++ (A ++ (B ++ Q)))) :
    Calls Try.prog 59 #[.slice (some ⟨g, 0, none⟩) n cap, .int .i64 a, .int .i64 m, .int .i64 b, .func (.func f) #[] lb] w fun e w' => e = .returned (.tuple #[]) ∧ Own w0 w' g cap n (P ++ Sort.isort (ltOf cf) (A ++ B) ++ Q) := by
  have hbn : b ≤ n := by have := hO.len; simp at this; omega
  have ham : a + 1 < m := by omega
  have hmb : m + 1 < b := by omega
  have hAl : A.length = m - a := by omega
  have hBl : B.length = b - m := by omega
  have hAD : Aside0 (∀ c, a ≤ c → c < m → (P ++ (A ++ (B ++ Q)))[c]? = A[c - a]?) := ⟨fun c h1 h2 => by rw [List.getElem?_append_right (by omega), List.getElem?_append_left (by omega), ha]⟩
  have hBD : Aside0 (∀ c, m ≤ c → c < b → (P ++ (A ++ (B ++ Q)))[c]? = B[c - m]?) := ⟨fun c h1 h2 => by rw [List.getElem?_append_right (by omega), List.getElem?_append_right (by omega), List.getElem?_append_left (by omega)]; congr 1; omega⟩
  have HMC : Aside0 (∀ i k, i ≤ A.length → k ≤ B.length → (∀ z y, 0 < i → A[i - 1]? = some z → B[k]? = some y → ltOf cf y z = false) → (∀ y z, 0 < k → B[k - 1]? = some y → A[i]? = some z → ltOf cf y z = true) → Sort.isort (ltOf cf) (A ++ B) = Sort.isort (ltOf cf) (A.take i ++ B.take k) ++ Sort.isort (ltOf cf) (A.drop i ++ B.drop k)) := ⟨fun i k hi hk h1 h2 => Sort.merge_cut hswo hA hB sA sB i k h1 h2 hi hk⟩
  have HSS : Aside0 ((∀ y ∈ A, S y) ∧ (∀ y ∈ B, S y) ∧ Sort.Sd (ltOf cf) A ∧ Sort.Sd (ltOf cf) B) := ⟨hA, hB, sA, sB⟩
  have HL : Aside0 (P.length = a ∧ A.length = m - a ∧ B.length = b - m) := ⟨ha, hAl, hBl⟩
  have HCMP := Aside0.mk hcmp
  have HSW := Aside0.mk hswo
  have IH := Aside0.mk ih
  have HS := Aside0.mk hO
  have t1 : ((m : Int) - (a : Int) == 1) = false := by simp; omega
  have t2 : ((b : Int) - (m : Int) == 1) = false := by simp; omega
  clear hcmp hswo ih hA hB sA sB hO ha hm hb hAl hBl hA1 hB1
  obtain ⟨mid, hmid⟩ : ∃ mid, (a + b) / 2 = mid := ⟨_, rfl⟩
  have q1 : ((a : Int) + (b : Int)) / 2 = (mid : Int) := by omega
  have HMID := Aside0.mk hmid
  have hmb2 : mid ≤ b := by omega
  have ham2 : a ≤ mid := by omega
  clear hmid
  go_enter Try.func59, Try.ntmps59
  go_upto_if 140 with (fail)
  go_cut [20, 21] from 25 (fun s20 s21 wc => ∃ lo hi : Nat, s20 = .int .i64 lo ∧ s21 = .int .i64 hi ∧ a ≤ lo ∧ lo ≤ hi ∧ hi ≤ m ∧ hi ≤ mid ∧ mid + m ≤ b + lo ∧ Aside0 (lo = a ∨ mid + m = b + lo) ∧ Aside0 (hi = m ∨ hi = mid) ∧ Aside0 (mid + m - (hi - 1) ≥ m + 1) ∧ Aside0 (Own w0 wc g cap n (P ++ (A ++ (B ++ Q)))))
  case first =>
    as_aux_lemma =>
      by_cases hmm : mid < m
      · have q2 : (mid : Int) + (m : Int) - (b : Int) = ((mid + m - b : Nat) : Int) := by have := HMID.out; omega
        go_wp2
        go_meet
        case rel => exact ⟨mid + m - b, mid, rfl, rfl, by have := HMID.out; omega, by have := HMID.out; omega, by omega, Nat.le_refl _, by omega, ⟨.inr (by have := HMID.out; omega)⟩, ⟨.inr rfl⟩, ⟨by omega⟩, HS⟩
      · go_wp2
        go_meet
        case rel => exact ⟨a, m, rfl, rfl, Nat.le_refl _, by omega, Nat.le_refl _, by omega, by have := HMID.out; omega, ⟨.inl rfl⟩, ⟨.inl rfl⟩, ⟨by omega⟩, HS⟩
  case rest =>
    as_aux_lemma =>
      obtain ⟨lo, hi, rfl, rfl, h1, h2, h3, h4, h5, HLO, HHI, H7, HS⟩ := hcut
      go_wp2
      go_loopg [20, 21] (hi - lo) (fun gg s20 s21 wr => ∃ (st r : Nat), lo ≤ st ∧ st ≤ r ∧ r ≤ hi ∧ r - st ≤ gg ∧ s20 = .int .i64 st ∧ s21 = .int .i64 r ∧ Aside0 (∀ z y, lo < st → (P ++ (A ++ (B ++ Q)))[st - 1]? = some z → (P ++ (A ++ (B ++ Q)))[mid + m - st]? = some y → ltOf cf y z = false) ∧ Aside0 (∀ y z, r < hi → (P ++ (A ++ (B ++ Q)))[mid + m - 1 - r]? = some y → (P ++ (A ++ (B ++ Q)))[r]? = some z → ltOf cf y z = true) ∧ Aside0 (Own w0 wr g cap n (P ++ (A ++ (B ++ Q)))))
      case atStart => exact ⟨lo, hi, Nat.le_refl _, h2, Nat.le_refl _, Nat.le_refl _, rfl, rfl, ⟨fun z y h => absurd h (Nat.lt_irrefl _)⟩, ⟨fun y z h => absurd h (Nat.lt_irrefl _)⟩, HS⟩
      case round =>
        clear HS
        obtain ⟨st, r, hl1, hl2, hl3, hg, rfl, rfl, H1, H2, HO⟩ := hrel
        by_cases hlt : st < r
        · obtain ⟨c, hc⟩ : ∃ c, (st + r) / 2 = c := ⟨_, rfl⟩
          have q2 : ((st : Int) + (r : Int)) / 2 = (c : Int) := by omega
          have q3 : st ≤ c := by omega
          have q4 : c < r := by omega
          clear hc
          obtain ⟨pc, hpc⟩ : ∃ pc, mid + m - 1 - c = pc := ⟨_, rfl⟩
          have q5 : (mid : Int) + (m : Int) - 1 - (c : Int) = (pc : Int) := by omega
          have q6 : m ≤ pc := by omega
          have q7 : pc < b := by omega
          have HPC := Aside0.mk hpc
          clear hpc
          have hlen := HO.out.len
          obtain ⟨y, hy⟩ : ∃ y, (P ++ (A ++ (B ++ Q)))[pc]? = some y := ⟨_, List.getElem?_eq_getElem (by omega)⟩
          obtain ⟨z, hz⟩ : ∃ z, (P ++ (A ++ (B ++ Q)))[c]? = some z := ⟨_, List.getElem?_eq_getElem (by omega)⟩
          have hSy : S y := HSS.out.2.1 y (List.mem_of_getElem? ((hBD.out pc q6 q7).symm.trans hy))
          have hSz : S z := HSS.out.1 z (List.mem_of_getElem? ((hAD.out c (by omega) (by omega)).symm.trans hz))
          obtain ⟨c1, f1⟩ := HO.out.cell pc hy
          obtain ⟨c2, f2⟩ := HO.out.cell c hz
          have hcall : ∀ k, Calls Try.prog f (#[.int .i64 y, .int .i64 z] ++ lb) (wr.drewN k) fun e w' => e = .returned (.int .i64 (cf y z)) ∧ ∃ q, w' = (wr.drewN k).drewN q := fun k => HCMP.out _ (HO.out.drewN k).2 y z hSy hSz
          have HYZ : Aside0 ((P ++ (A ++ (B ++ Q)))[pc]? = some y ∧ (P ++ (A ++ (B ++ Q)))[c]? = some z) := ⟨hy, hz⟩
          have q8 : (c : Int) < (n : Int) := by omega
          have q9 : (pc : Int) < (n : Int) := by omega
          clear hy hz hSy hSz hlen
          go_wp2
          go_quiet ((go_at_fn f; exact Calls.quiet_of (hcall _)))
          go_wp2_with fail
          · have hq : (!decide (cf y z < 0)) = true := by assumption
            have hlt2 : ¬ cf y z < 0 := by simpa using hq
            have H1' : Aside0 (∀ z' y', lo < c + 1 → (P ++ (A ++ (B ++ Q)))[c + 1 - 1]? = some z' → (P ++ (A ++ (B ++ Q)))[mid + m - (c + 1)]? = some y' → ltOf cf y' z' = false) := ⟨fun z' y' _ hz' hy' => by
              rw [Nat.add_sub_cancel, HYZ.out.2] at hz'
              rw [show mid + m - (c + 1) = pc by have := HPC.out; omega, HYZ.out.1] at hy'
              injection hz' with hz'
              injection hy' with hy'
              rw [← hz', ← hy']; exact decide_eq_false hlt2⟩
            go_roundg (r - (c + 1))
            case measure => omega
            case rel => exact ⟨c + 1, r, by omega, by omega, hl3, by omega, by go_num, rfl, H1', H2, ⟨HO.out.drewN _⟩⟩
          · have hq : (!decide (cf y z < 0)) = false := by assumption
            have hlt2 : cf y z < 0 := by simpa using hq
            have H2' : Aside0 (∀ y' z', c < hi → (P ++ (A ++ (B ++ Q)))[mid + m - 1 - c]? = some y' → (P ++ (A ++ (B ++ Q)))[c]? = some z' → ltOf cf y' z' = true) := ⟨fun y' z' _ hy' hz' => by
              rw [HYZ.out.2] at hz'
              rw [HPC.out, HYZ.out.1] at hy'
              injection hz' with hz'
              injection hy' with hy'
              rw [← hz', ← hy']; exact decide_eq_true hlt2⟩
            go_roundg (c - st)
            case measure => omega
            case rel => exact ⟨st, c, by omega, by omega, by omega, by omega, rfl, rfl, H1, H2', ⟨HO.out.drewN _⟩⟩
        · obtain rfl : st = r := by omega
          have hd : decide ((st : Int) < (st : Int)) = false := by simp
          have HE : Aside0 (Sort.isort (ltOf cf) (A ++ B) = Sort.isort (ltOf cf) (A.take (st - a) ++ B.take (mid - st)) ++ Sort.isort (ltOf cf) (A.drop (st - a) ++ B.drop (mid - st))) := by
            obtain ⟨l1, l2, l3⟩ := HL.out
            refine ⟨HMC.out (st - a) (mid - st) (by omega) (by omega) (fun z y h0 hz hy => ?_) (fun y z h0 hy hz => ?_)⟩
            · rcases Nat.lt_or_ge lo st with hlt' | hge
              · refine H1.out z y hlt' ?_ ?_
                · rw [hAD.out (st - 1) (by omega) (by omega), show st - 1 - a = st - a - 1 by omega]; exact hz
                · rw [hBD.out (mid + m - st) (by omega) (by have := (List.getElem?_eq_some_iff.1 hy).1; omega), show mid + m - st - m = mid - st by omega]; exact hy
              · exfalso
                rcases HLO.out with e | e
                · omega
                · have := (List.getElem?_eq_some_iff.1 hy).1; omega
            · rcases Nat.lt_or_ge st hi with hlt' | hge
              · refine H2.out y z hlt' ?_ ?_
                · rw [hBD.out (mid + m - 1 - st) (by omega) (by omega), show mid + m - 1 - st - m = mid - st - 1 by omega]; exact hy
                · rw [hAD.out st (by omega) (by omega)]; exact hz
              · exfalso
                rcases HHI.out with e | e
                · have := (List.getElem?_eq_some_iff.1 hz).1; omega
                · omega
          obtain ⟨A1, A2, hA0, hA1, hA2, hA3, hA4⟩ : ∃ A1 A2, A = A1 ++ A2 ∧ a + A1.length = st ∧ st + A2.length = m ∧ A.take (st - a) = A1 ∧ A.drop (st - a) = A2 := ⟨_, _, (List.take_append_drop (st - a) A).symm, by simp; have := HL.out; omega, by simp; have := HL.out; omega, rfl, rfl⟩
          obtain ⟨en, hen⟩ : ∃ en, mid + m - st = en := ⟨_, rfl⟩
          obtain ⟨B1, B2, hB0, hB1, hB2, hB3, hB4⟩ : ∃ B1 B2, B = B1 ++ B2 ∧ m + B1.length = en ∧ en + B2.length = b ∧ B.take (mid - st) = B1 ∧ B.drop (mid - st) = B2 := ⟨_, _, (List.take_append_drop (mid - st) B).symm, by simp; have := HL.out; omega, by simp; have := HL.out; omega, rfl, rfl⟩
          rw [hA3, hA4, hB3, hB4] at HE
          have HO1 : Aside0 (Own w0 wr g cap n ((P ++ A1) ++ (A2 ++ (B1 ++ (B2 ++ Q))))) := ⟨by have := HO.out; rw [hA0, hB0] at this; simpa using this⟩
          obtain ⟨⟨sS1, sS2, sS3, sS4⟩, -⟩ : ((∀ y ∈ A1 ++ B1, S y) ∧ (∀ y ∈ A2 ++ B2, S y) ∧ Sort.Sd (ltOf cf) (A1 ++ A2) ∧ Sort.Sd (ltOf cf) (B1 ++ B2)) ∧ True := by
            obtain ⟨s1, s2, s3, s4⟩ := HSS.out
            rw [hA0] at s1 s3
            rw [hB0] at s2 s4
            refine ⟨⟨fun y hy => ?_, fun y hy => ?_, s3, s4⟩, trivial⟩
            · rcases List.mem_append.1 hy with h | h
              · exact s1 y (List.mem_append_left _ h)
              · exact s2 y (List.mem_append_left _ h)
            · rcases List.mem_append.1 hy with h | h
              · exact s1 y (List.mem_append_right _ h)
              · exact s2 y (List.mem_append_right _ h)
          have HX : Aside0 ((∀ y ∈ A1 ++ B1, S y) ∧ (∀ y ∈ A2 ++ B2, S y) ∧ Sort.Sd (ltOf cf) (A1 ++ A2) ∧ Sort.Sd (ltOf cf) (B1 ++ B2) ∧ P.length = a ∧ a + A1.length = st ∧ st + A2.length = m ∧ m + B1.length = en ∧ en + B2.length = b ∧ mid + m = en + st) := ⟨sS1, sS2, sS3, sS4, HL.out.1, hA1, hA2, hB1, hB2, by omega⟩
          have q2 : (mid : Int) + (m : Int) - (st : Int) = (en : Int) := by omega
          have q3 : m ≤ en := by omega
          have q4 : en ≤ b := by omega
          have q5 : a ≤ st := by omega
          have q6 : st ≤ mid := by omega
          have q7 : mid ≤ en := by omega
          have q8 : st ≤ m := by omega
          clear HO H1 H2 hA0 hA1 hA2 hA3 hA4 hB0 hB1 hB2 hB3 hB4 hen sS1 sS2 sS3 sS4 HMC hAD hBD HLO HHI H7
          go_upto_region 39 with (fail)
          go_cut [185] from 25 (fun s185 wc => ∃ t : Bool, s185 = .bool t ∧ Aside0 (t = true ↔ st < m ∧ m < en) ∧ wc = wr)
          case first =>
            as_aux_lemma =>
              by_cases b1 : st < m
              · by_cases b2 : m < en
                · go_wp2; go_meet; case rel => exact ⟨true, rfl, ⟨by simp [b1, b2]⟩, rfl⟩
                · have e2 : decide (m < en) = false := decide_eq_false b2
                  go_wp2; go_meet; case rel => exact ⟨false, rfl, ⟨by simp [b2]⟩, rfl⟩
              · have e1 : decide (st < m) = false := decide_eq_false b1
                go_wp2; go_meet; case rel => exact ⟨false, rfl, ⟨by simp [b1]⟩, rfl⟩
          case rest =>
            as_aux_lemma =>
              obtain ⟨t, rfl, HT, rfl⟩ := hcut
              go_upto_if 185 with (fail)
              go_cut [] from 25 (fun wc => Aside0 (Own w0 wc g cap n (P ++ (A1 ++ (B1 ++ (A2 ++ (B2 ++ Q)))))))
              case first =>
                as_aux_lemma =>
                  cases t with
                  | true =>
                    obtain ⟨b1, b2⟩ := HT.out.1 rfl
                    obtain ⟨-, -, -, -, x1, x2, x3, x4, x5, x6⟩ := HX.out
                    have hc := rotate.calls (.func (.func f) #[] lb) w0 wc g cap n (P ++ A1) A2 B1 (B2 ++ Q) st m en (by simp; omega) x3 x4 (by omega) (by omega) HO1.out (by omega)
                    clear x1 x2 x3 x4 x5 x6
                    go_wp2_with (go_at_call 60; refine hc.mono ?_; rintro e w2 ⟨rfl, hO2⟩)
                    go_meet
                    case rel => exact ⟨by simpa using hO2⟩
                  | false =>
                    have hE : Aside0 (A2 = [] ∨ B1 = []) := by
                      obtain ⟨-, -, -, -, x1, x2, x3, x4, x5, x6⟩ := HX.out
                      refine ⟨?_⟩
                      by_cases b1 : st < m
                      · right
                        refine List.length_eq_zero_iff.1 ?_
                        rcases Nat.lt_or_ge m en with b2 | b2
                        · exact absurd (HT.out.2 ⟨b1, b2⟩) (by simp)
                        · omega
                      · exact .inl (List.length_eq_zero_iff.1 (by omega))
                    go_wp2
                    go_meet
                    case rel => exact ⟨by rcases hE.out with e | e <;> (have := HO1.out; simpa [e] using this)⟩
              case rest =>
                as_aux_lemma =>
                  clear HO1 HT
                  have HO1 := hcut
                  clear hcut
                  go_upto_region 41 with (fail)
                  obtain ⟨wv, rfl⟩ : ∃ wv : World, wv = wc := ⟨_, rfl⟩
                  go_cut [199] from 25 (fun s199 wc => ∃ t : Bool, s199 = .bool t ∧ Aside0 (t = true ↔ a < st ∧ st < mid) ∧ wc = wv)
                  case first =>
                    as_aux_lemma =>
                      by_cases b1 : a < st
                      · by_cases b2 : st < mid
                        · go_wp2; go_meet; case rel => exact ⟨true, rfl, ⟨by simp [b1, b2]⟩, rfl⟩
                        · have e2 : decide (st < mid) = false := decide_eq_false b2
                          go_wp2; go_meet; case rel => exact ⟨false, rfl, ⟨by simp [b2]⟩, rfl⟩
                      · have e1 : decide (a < st) = false := decide_eq_false b1
                        go_wp2; go_meet; case rel => exact ⟨false, rfl, ⟨by simp [b1]⟩, rfl⟩
                  case rest =>
                    as_aux_lemma =>
                      obtain ⟨t, rfl, HT, rfl⟩ := hcut
                      go_upto_if 199 with (fail)
                      go_cut [] from 25 (fun wc => Aside0 (Own w0 wc g cap n (P ++ (Sort.isort (ltOf cf) (A1 ++ B1) ++ (A2 ++ (B2 ++ Q))))))
                      case first =>
                        as_aux_lemma =>
                          cases t with
                          | true =>
                            obtain ⟨b1, b2⟩ := HT.out.1 rfl
                            obtain ⟨s1, s2, s3, s4, x1, x2, x3, x4, x5, x6⟩ := HX.out
                            have hc := IH.out wc P A1 B1 (A2 ++ (B2 ++ Q)) a st mid x1 x2 (by omega) (by omega) (by omega) (by omega) (fun y hy => s1 y (List.mem_append_left _ hy)) (fun y hy => s1 y (List.mem_append_right _ hy)) (Sort.sd_append.1 s3).1 (Sort.sd_append.1 s4).1 HO1.out
                            clear s1 s2 s3 s4 x1 x2 x3 x4 x5 x6
                            go_wp2_with (go_at_call 59; refine hc.mono ?_; rintro e w2 ⟨rfl, hO2⟩)
                            go_meet
                            case rel => exact ⟨by simpa using hO2⟩
                          | false =>
                            have hE : Aside0 (Sort.isort (ltOf cf) (A1 ++ B1) = A1 ++ B1) := by
                              obtain ⟨s1, s2, s3, s4, x1, x2, x3, x4, x5, x6⟩ := HX.out
                              refine ⟨Sort.isort_sorted HSW.out s1 ?_⟩
                              by_cases b1 : a < st
                              · have e : B1 = [] := List.length_eq_zero_iff.1 (by
                                  rcases Nat.lt_or_ge st mid with b2 | b2
                                  · exact absurd (HT.out.2 ⟨b1, b2⟩) (by simp)
                                  · omega)
                                rw [e, List.append_nil]; exact (Sort.sd_append.1 s3).1
                              · have e : A1 = [] := List.length_eq_zero_iff.1 (by omega)
                                rw [e, List.nil_append]; exact (Sort.sd_append.1 s4).1
                            go_wp2
                            go_meet
                            case rel => exact ⟨by rw [hE.out]; have := HO1.out; simpa using this⟩
                      case rest =>
                        as_aux_lemma =>
                          clear HO1 HT
                          have HO1 := hcut
                          clear hcut
                          obtain ⟨wv, rfl⟩ : ∃ wv : World, wv = wc := ⟨_, rfl⟩
                          have HF : Aside0 (∀ ww, Own w0 ww g cap n (P ++ (Sort.isort (ltOf cf) (A1 ++ B1) ++ (Sort.isort (ltOf cf) (A2 ++ B2) ++ Q))) → Own w0 ww g cap n (P ++ Sort.isort (ltOf cf) (A ++ B) ++ Q)) := ⟨fun ww h => by rw [HE.out]; simpa using h⟩
                          go_upto_region 43 with (fail)
                          go_cut [213] from 25 (fun s213 wc => ∃ t : Bool, s213 = .bool t ∧ Aside0 (t = true ↔ mid < en ∧ en < b) ∧ wc = wv)
                          case first =>
                            as_aux_lemma =>
                              by_cases b1 : mid < en
                              · by_cases b2 : en < b
                                · go_wp2; go_meet; case rel => exact ⟨true, rfl, ⟨by simp [b1, b2]⟩, rfl⟩
                                · have e2 : decide (en < b) = false := decide_eq_false b2
                                  go_wp2; go_meet; case rel => exact ⟨false, rfl, ⟨by simp [b2]⟩, rfl⟩
                              · have e1 : decide (mid < en) = false := decide_eq_false b1
                                go_wp2; go_meet; case rel => exact ⟨false, rfl, ⟨by simp [b1]⟩, rfl⟩
                          case rest =>
                            as_aux_lemma =>
                              obtain ⟨t, rfl, HT, rfl⟩ := hcut
                              cases t with
                              | true =>
                                obtain ⟨b1, b2⟩ := HT.out.1 rfl
                                obtain ⟨s1, s2, s3, s4, x1, x2, x3, x4, x5, x6⟩ := HX.out
                                have hc := IH.out wc (P ++ Sort.isort (ltOf cf) (A1 ++ B1)) A2 B2 Q mid en b (by simp [Sort.isort_length]; omega) (by omega) (by omega) (by omega) (by omega) (by omega) (fun y hy => s2 y (List.mem_append_left _ hy)) (fun y hy => s2 y (List.mem_append_right _ hy)) (Sort.sd_append.1 s3).2.1 (Sort.sd_append.1 s4).2.1 (by have := HO1.out; simpa using this)
                                clear s1 s2 s3 s4 x1 x2 x3 x4 x5 x6
                                go_wp2_with (go_at_call 59; refine hc.mono ?_; rintro e w2 ⟨rfl, hO2⟩)
                                go_end0
                                exact ⟨rfl, HF.out _ (by simpa using hO2)⟩
                              | false =>
                                have hE : Aside0 (Sort.isort (ltOf cf) (A2 ++ B2) = A2 ++ B2) := by
                                  obtain ⟨s1, s2, s3, s4, x1, x2, x3, x4, x5, x6⟩ := HX.out
                                  refine ⟨Sort.isort_sorted HSW.out s2 ?_⟩
                                  by_cases b1 : mid < en
                                  · have e : B2 = [] := List.length_eq_zero_iff.1 (by
                                      rcases Nat.lt_or_ge en b with b2 | b2
                                      · exact absurd (HT.out.2 ⟨b1, b2⟩) (by simp)
                                      · omega)
                                    rw [e, List.append_nil]; exact (Sort.sd_append.1 s3).2.1
                                  · have e : A2 = [] := List.length_eq_zero_iff.1 (by omega)
                                    rw [e, List.nil_append]; exact (Sort.sd_append.1 s4).2.1
                                go_wp2
                                go_end0
                                exact ⟨rfl, HF.out _ (by rw [hE.out]; have := HO1.out; simpa using this)⟩
end Go.Proofs.Ytbfapgagmbiiaaa
