/- Plain: stable sorting, as slices.SortStableFunc does it. -/
namespace Gl.Sort
variable {α : Type}

/-- x behind all that are not behind it: from the right, past what x is less than. -/
def ins (lt : α → α → Bool) (x : α) (l : List α) : List α := (l.reverse.dropWhile (lt x)).reverse ++ x :: (l.reverse.takeWhile (lt x)).reverse
def isort (lt : α → α → Bool) (l : List α) : List α := l.foldl (fun acc x => ins lt x acc) []

theorem dropWhile_append_true {p : α → Bool} : ∀ {l₁ l₂ : List α}, (∀ y ∈ l₁, p y = true) → (l₁ ++ l₂).dropWhile p = l₂.dropWhile p
  | [], _, _ => rfl
  | a :: l₁, l₂, h => by
    rw [List.cons_append, List.dropWhile_cons_of_pos (h a List.mem_cons_self)]
    exact dropWhile_append_true fun y hy => h y (List.mem_cons_of_mem _ hy)
theorem takeWhile_append_true {p : α → Bool} : ∀ {l₁ l₂ : List α}, (∀ y ∈ l₁, p y = true) → (l₁ ++ l₂).takeWhile p = l₁ ++ l₂.takeWhile p
  | [], _, _ => rfl
  | a :: l₁, l₂, h => by
    rw [List.cons_append, List.takeWhile_cons_of_pos (h a List.mem_cons_self), takeWhile_append_true fun y hy => h y (List.mem_cons_of_mem _ hy), List.cons_append]
theorem ins_eq {lt : α → α → Bool} {x : α} {A B : List α} (hB : ∀ y ∈ B, lt x y = true) (hA : ∀ y, A.getLast? = some y → lt x y = false) : ins lt x (A ++ B) = A ++ x :: B := by
  have hr : (A ++ B).reverse = B.reverse ++ A.reverse := List.reverse_append
  have hB' : ∀ y ∈ B.reverse, lt x y = true := fun y hy => hB y (List.mem_reverse.1 hy)
  unfold ins
  rw [hr, dropWhile_append_true hB', takeWhile_append_true hB']
  have : A.reverse.dropWhile (lt x) = A.reverse ∧ A.reverse.takeWhile (lt x) = [] := by
    rcases h : A.reverse with _ | ⟨a, t⟩
    · exact ⟨rfl, rfl⟩
    · have ha : A.getLast? = some a := by
        have : A = t.reverse ++ [a] := by
          have := congrArg List.reverse h
          simpa using this
        rw [this]; simp
      have hf := hA a ha
      exact ⟨by rw [List.dropWhile_cons_of_neg (by simp [hf])], by rw [List.takeWhile_cons_of_neg (by simp [hf])]⟩
  rw [this.1, this.2]
  simp
theorem ins_perm (lt : α → α → Bool) (x : α) (l : List α) : (ins lt x l).Perm (x :: l) := by
  unfold ins
  have h : l.Perm ((l.reverse.dropWhile (lt x)).reverse ++ (l.reverse.takeWhile (lt x)).reverse) := by
    rw [← List.reverse_append, List.takeWhile_append_dropWhile, List.reverse_reverse]
  exact (List.perm_middle).trans (h.symm.cons x)
theorem isort_snoc (lt : α → α → Bool) (l : List α) (x : α) : isort lt (l ++ [x]) = ins lt x (isort lt l) := by simp [isort]
theorem isort_nil (lt : α → α → Bool) : isort lt [] = [] := rfl
theorem list_snoc_induction {p : List α → Prop} (h0 : p []) (h1 : ∀ l x, p l → p (l ++ [x])) : ∀ l, p l := by
  intro l
  have : ∀ r : List α, p r.reverse := by
    intro r
    induction r with
    | nil => exact h0
    | cons a r ih => rw [List.reverse_cons]; exact h1 _ _ ih
  have := this l.reverse
  rwa [List.reverse_reverse] at this
theorem isort_perm (lt : α → α → Bool) : ∀ l : List α, (isort lt l).Perm l := by
  intro l
  induction l using list_snoc_induction with
  | h0 => exact List.Perm.refl _
  | h1 l x ih =>
    rw [isort_snoc]
    exact (ins_perm lt x _).trans ((ih.cons x).trans (List.perm_append_singleton x l).symm)
theorem isort_length (lt : α → α → Bool) (l : List α) : (isort lt l).length = l.length := (isort_perm lt l).length_eq
theorem isort_one (lt : α → α → Bool) (x : α) : isort lt [x] = [x] := rfl

/-- A strict weak order on what S holds of. -/
structure Swo (lt : α → α → Bool) (S : α → Prop) : Prop where
  irr : ∀ x, S x → lt x x = false
  tr : ∀ x y z, S x → S y → S z → lt y x = false → lt z y = false → lt z x = false
  asym : ∀ x y, S x → S y → lt x y = true → lt y x = false
/-- Sorted: none behind is less. -/
def Sd (lt : α → α → Bool) (l : List α) : Prop := l.Pairwise fun x y => lt y x = false
def eqv (lt : α → α → Bool) (x y : α) : Bool := !lt x y && !lt y x
/-- l' is l, sorted, equals as they came. -/
def Is (lt : α → α → Bool) (l l' : List α) : Prop := Sd lt l' ∧ (∀ x, l'.filter (eqv lt x) = l.filter (eqv lt x)) ∧ l'.Perm l

theorem ins_split (lt : α → α → Bool) (x : α) (l : List α) : ∃ A B, l = A ++ B ∧ (∀ y ∈ B, lt x y = true) ∧ (∀ y, A.getLast? = some y → lt x y = false) ∧ ins lt x l = A ++ x :: B := by
  refine ⟨(l.reverse.dropWhile (lt x)).reverse, (l.reverse.takeWhile (lt x)).reverse, ?_, ?_, ?_, rfl⟩
  · rw [← List.reverse_append, List.takeWhile_append_dropWhile, List.reverse_reverse]
  · intro y hy
    rw [List.mem_reverse] at hy
    have : ∀ (q : List α), ∀ y ∈ q.takeWhile (lt x), lt x y = true := by
      intro q
      induction q with
      | nil => intro y hy; simp at hy
      | cons a q ih =>
        intro y hy
        by_cases h : lt x a = true
        · rw [List.takeWhile_cons_of_pos h] at hy
          rcases List.mem_cons.1 hy with rfl | hy
          · exact h
          · exact ih y hy
        · rw [List.takeWhile_cons_of_neg h] at hy; simp at hy
    exact this _ y hy
  · intro y hy
    rw [List.getLast?_reverse] at hy
    have : ∀ (q : List α) y, (q.dropWhile (lt x)).head? = some y → lt x y = false := by
      intro q
      induction q with
      | nil => intro y hy; simp at hy
      | cons a q ih =>
        intro y hy
        by_cases h : lt x a = true
        · rw [List.dropWhile_cons_of_pos h] at hy
          exact ih y hy
        · rw [List.dropWhile_cons_of_neg h] at hy
          simp at hy
          rw [← hy]
          simpa using h
    exact this _ y hy
theorem sd_append {lt : α → α → Bool} {A B : List α} : Sd lt (A ++ B) ↔ Sd lt A ∧ Sd lt B ∧ ∀ a ∈ A, ∀ b ∈ B, lt b a = false := List.pairwise_append
theorem ins_sd {lt : α → α → Bool} {S : α → Prop} (h : Swo lt S) {x : α} {l : List α} (hx : S x) (hl : ∀ y ∈ l, S y) (hs : Sd lt l) : Sd lt (ins lt x l) := by
  obtain ⟨A, B, rfl, hB, hA, he⟩ := ins_split lt x l
  rw [he]
  obtain ⟨h1, h2, h3⟩ := sd_append.1 hs
  rw [sd_append]
  refine ⟨h1, List.pairwise_cons.2 ⟨fun y hy => h.asym x y hx (hl y (List.mem_append_right _ hy)) (hB y hy), h2⟩, fun a ha b hb => ?_⟩
  rcases List.mem_cons.1 hb with rfl | hb
  · rcases hq : A.getLast? with _ | z
    · rw [List.getLast?_eq_none_iff] at hq
      subst hq
      simp at ha
    · have hz := hA z hq
      obtain ⟨A', rfl⟩ : ∃ A', A = A' ++ [z] := by
        rw [List.getLast?_eq_some_iff] at hq
        exact hq
      rcases List.mem_append.1 ha with ha' | ha'
      · have h4 := (sd_append.1 h1).2.2 a ha' z (by simp)
        exact h.tr a z b (hl a (by simp [ha'])) (hl z (by simp)) hx h4 hz
      · simp at ha'
        rw [ha']; exact hz
  · exact h3 a ha b hb
theorem isort_sd {lt : α → α → Bool} {S : α → Prop} (h : Swo lt S) : ∀ {l : List α}, (∀ y ∈ l, S y) → Sd lt (isort lt l) := by
  intro l
  induction l using list_snoc_induction with
  | h0 => intro _; exact List.Pairwise.nil
  | h1 l x ih =>
    intro hl
    rw [isort_snoc]
    exact ins_sd h (hl x (by simp)) (fun y hy => hl y (List.mem_append_left _ ((isort_perm lt l).mem_iff.1 hy))) (ih fun y hy => hl y (List.mem_append_left _ hy))
theorem eqv_not_lt {lt : α → α → Bool} {S : α → Prop} (h : Swo lt S) {x y z : α} (hx : S x) (hy : S y) (hz : S z) (h1 : eqv lt z x = true) (h2 : eqv lt z y = true) : lt x y = false := by
  simp [eqv] at h1 h2
  exact h.tr y z x hy hz hx h2.1 h1.2
theorem ins_filter {lt : α → α → Bool} {S : α → Prop} (h : Swo lt S) {x z : α} {l : List α} (hz : S z) (hx : S x) (hl : ∀ y ∈ l, S y) : (ins lt x l).filter (eqv lt z) = (l ++ [x]).filter (eqv lt z) := by
  obtain ⟨A, B, rfl, hB, hA, he⟩ := ins_split lt x l
  rw [he]
  simp only [List.filter_append, List.filter_cons, List.filter_nil, List.append_assoc]
  by_cases hzx : eqv lt z x = true
  · have : B.filter (eqv lt z) = [] := by
      rw [List.filter_eq_nil_iff]
      intro y hy hzy
      have := eqv_not_lt h hx (hl y (List.mem_append_right _ hy)) hz hzx hzy
      rw [hB y hy] at this
      cases this
    simp [this]
  · simp [hzx]
theorem isort_filter {lt : α → α → Bool} {S : α → Prop} (h : Swo lt S) {z : α} (hz : S z) : ∀ {l : List α}, (∀ y ∈ l, S y) → (isort lt l).filter (eqv lt z) = l.filter (eqv lt z) := by
  intro l
  induction l using list_snoc_induction with
  | h0 => intro _; rfl
  | h1 l x ih =>
    intro hl
    rw [isort_snoc, ins_filter h hz (hl x (by simp)) (fun y hy => hl y (List.mem_append_left _ ((isort_perm lt l).mem_iff.1 hy))), List.filter_append, ih (fun y hy => hl y (List.mem_append_left _ hy)), List.filter_append]
/-- Two sorted lists with the same equals in the same order are one. -/
theorem stable_unique {lt : α → α → Bool} {S : α → Prop} (h : Swo lt S) : ∀ {l1 l2 : List α}, (∀ y ∈ l1, S y) → (∀ y ∈ l2, S y) → Sd lt l1 → Sd lt l2 → (∀ z, S z → l1.filter (eqv lt z) = l2.filter (eqv lt z)) → l1 = l2
  | [], [], _, _, _, _, _ => rfl
  | [], y :: l2, _, h2, _, _, hf => by
    have := hf y (h2 y List.mem_cons_self)
    rw [List.filter_nil, List.filter_cons_of_pos (by simp [eqv, h.irr y (h2 y List.mem_cons_self)])] at this
    cases this
  | x :: l1, [], h1, _, _, _, hf => by
    have := hf x (h1 x List.mem_cons_self)
    rw [List.filter_nil, List.filter_cons_of_pos (by simp [eqv, h.irr x (h1 x List.mem_cons_self)])] at this
    cases this
  | x :: l1, y :: l2, h1, h2, s1, s2, hf => by
    have hx := h1 x List.mem_cons_self
    have hy := h2 y List.mem_cons_self
    have hxx : eqv lt x x = true := by simp [eqv, h.irr x hx]
    have hyy : eqv lt y y = true := by simp [eqv, h.irr y hy]
    have mx : x ∈ y :: l2 := by
      have : x ∈ (y :: l2).filter (eqv lt x) := by rw [← hf x hx, List.filter_cons_of_pos hxx]; exact List.mem_cons_self
      exact (List.mem_filter.1 this).1
    have my : y ∈ x :: l1 := by
      have : y ∈ (x :: l1).filter (eqv lt y) := by rw [hf y hy, List.filter_cons_of_pos hyy]; exact List.mem_cons_self
      exact (List.mem_filter.1 this).1
    have e1 : lt x y = false := by
      rcases List.mem_cons.1 mx with e | e
      · rw [e]; exact h.irr y hy
      · exact (List.pairwise_cons.1 s2).1 x e
    have e2 : lt y x = false := by
      rcases List.mem_cons.1 my with e | e
      · rw [e]; exact h.irr x hx
      · exact (List.pairwise_cons.1 s1).1 y e
    have exy : x = y := by
      have := hf x hx
      rw [List.filter_cons_of_pos hxx, List.filter_cons_of_pos (by simp [eqv, e1, e2])] at this
      injection this
    subst exy
    congr 1
    refine stable_unique h (fun z hz => h1 z (List.mem_cons_of_mem _ hz)) (fun z hz => h2 z (List.mem_cons_of_mem _ hz)) (List.pairwise_cons.1 s1).2 (List.pairwise_cons.1 s2).2 (fun z hz => ?_)
    have := hf z hz
    by_cases hq : eqv lt z x = true
    · rw [List.filter_cons_of_pos hq, List.filter_cons_of_pos hq] at this
      injection this
    · rwa [List.filter_cons_of_neg hq, List.filter_cons_of_neg hq] at this
theorem isort_of {lt : α → α → Bool} {S : α → Prop} (h : Swo lt S) {l l' : List α} (hl : ∀ y ∈ l, S y) (hl' : ∀ y ∈ l', S y) (hs : Sd lt l') (hf : ∀ z, S z → l'.filter (eqv lt z) = l.filter (eqv lt z)) : isort lt l = l' :=
  stable_unique h (fun y hy => hl y ((isort_perm lt l).mem_iff.1 hy)) hl' (isort_sd h hl) hs (fun z hz => by rw [isort_filter h hz hl, hf z hz])
theorem isort_sorted {lt : α → α → Bool} {S : α → Prop} (h : Swo lt S) {l : List α} (hl : ∀ y ∈ l, S y) (hs : Sd lt l) : isort lt l = l := isort_of h hl hl hs (fun _ _ => rfl)
/-- The two halves' sorting, put together. -/
theorem isort_halves {lt : α → α → Bool} {S : α → Prop} (h : Swo lt S) {A B : List α} (hA : ∀ y ∈ A, S y) (hB : ∀ y ∈ B, S y) : isort lt (isort lt A ++ isort lt B) = isort lt (A ++ B) := by
  have mA : ∀ y ∈ isort lt A, S y := fun y hy => hA y ((isort_perm lt A).mem_iff.1 hy)
  have mB : ∀ y ∈ isort lt B, S y := fun y hy => hB y ((isort_perm lt B).mem_iff.1 hy)
  have hAB : ∀ y ∈ A ++ B, S y := fun y hy => (List.mem_append.1 hy).elim (hA y) (hB y)
  refine isort_of h (fun y hy => (List.mem_append.1 hy).elim (mA y) (mB y)) (fun y hy => hAB y ((isort_perm lt _).mem_iff.1 hy)) (isort_sd h hAB) (fun z hz => ?_)
  rw [isort_filter h hz hAB, List.filter_append, List.filter_append, isort_filter h hz hA, isort_filter h hz hB]
/-- A cut that the merge makes. -/
theorem isort_cut {lt : α → α → Bool} {S : α → Prop} (h : Swo lt S) {A1 A2 B1 B2 : List α} (hS : ∀ y, y ∈ A1 ∨ y ∈ A2 ∨ y ∈ B1 ∨ y ∈ B2 → S y) (sA : Sd lt (A1 ++ A2)) (sB : Sd lt (B1 ++ B2))
    (h1 : ∀ a ∈ A1, ∀ b ∈ B2, lt b a = false) (h2 : ∀ b ∈ B1, ∀ a ∈ A2, lt b a = true) : isort lt (A1 ++ A2 ++ (B1 ++ B2)) = isort lt (A1 ++ B1) ++ isort lt (A2 ++ B2) := by
  have m1 : ∀ y ∈ A1 ++ B1, S y := fun y hy => hS y (by rcases List.mem_append.1 hy with h | h <;> simp [h])
  have m2 : ∀ y ∈ A2 ++ B2, S y := fun y hy => hS y (by rcases List.mem_append.1 hy with h | h <;> simp [h])
  have ha := (sd_append.1 sA).2.2
  have hb := (sd_append.1 sB).2.2
  refine isort_of h (fun y hy => hS y ?_) (fun y hy => ?_) ?_ (fun z hz => ?_)
  · rcases List.mem_append.1 hy with hy | hy <;> rcases List.mem_append.1 hy with hy | hy <;> simp [hy]
  · rcases List.mem_append.1 hy with hy | hy
    · exact m1 y ((isort_perm lt _).mem_iff.1 hy)
    · exact m2 y ((isort_perm lt _).mem_iff.1 hy)
  · refine sd_append.2 ⟨isort_sd h m1, isort_sd h m2, fun a ha' b hb' => ?_⟩
    have ha'' := (isort_perm lt _).mem_iff.1 ha'
    have hb'' := (isort_perm lt _).mem_iff.1 hb'
    rcases List.mem_append.1 ha'' with p | p <;> rcases List.mem_append.1 hb'' with q | q
    · exact ha a p b q
    · exact h1 a p b q
    · exact h.asym a b (m1 a ha'') (m2 b hb'') (h2 a p b q)
    · exact hb a p b q
  · rw [List.filter_append, isort_filter h hz m1, isort_filter h hz m2]
    simp only [List.filter_append, List.append_assoc]
    congr 1
    rw [← List.append_assoc, ← List.append_assoc]
    congr 1
    by_cases e : B1.filter (eqv lt z) = []
    · simp [e]
    · have : A2.filter (eqv lt z) = [] := by
        rw [List.filter_eq_nil_iff]
        intro y hy hzy
        obtain ⟨b, hb1⟩ := List.exists_mem_of_ne_nil _ e
        obtain ⟨hb1, hb2⟩ := List.mem_filter.1 hb1
        have := eqv_not_lt h (hS b (by simp [hb1])) (hS y (by simp [hy])) hz hb2 hzy
        rw [h2 b hb1 y hy] at this
        cases this
      simp [this]

theorem sd_get {lt : α → α → Bool} {S : α → Prop} (h : Swo lt S) {l : List α} (hl : ∀ y ∈ l, S y) (hs : Sd lt l) {i j : Nat} {x y : α} (hij : i ≤ j) (hx : l[i]? = some x) (hy : l[j]? = some y) : lt y x = false := by
  obtain ⟨hi, rfl⟩ := List.getElem?_eq_some_iff.1 hx
  obtain ⟨hj, rfl⟩ := List.getElem?_eq_some_iff.1 hy
  rcases Nat.lt_or_ge i j with hlt | hge
  · exact List.pairwise_iff_getElem.1 hs i j hi hj hlt
  · have : i = j := by omega
    subst this
    exact h.irr _ (hl _ (List.getElem_mem _))
theorem mem_take_get {l : List α} {k : Nat} {x : α} (h : x ∈ l.take k) : ∃ i, i < k ∧ l[i]? = some x := by
  obtain ⟨i, hi, rfl⟩ := List.mem_iff_getElem.1 h
  simp at hi
  exact ⟨i, by omega, by simp [List.getElem?_eq_getElem (show i < l.length by omega)]⟩
theorem mem_drop_get {l : List α} {k : Nat} {x : α} (h : x ∈ l.drop k) : ∃ i, k ≤ i ∧ l[i]? = some x := by
  obtain ⟨i, hi, rfl⟩ := List.mem_iff_getElem.1 h
  simp at hi
  exact ⟨k + i, by omega, by simp [List.getElem?_eq_getElem (show k + i < l.length by omega)]⟩
theorem sd_sub {lt : α → α → Bool} {l l' : List α} (hs : Sd lt l) (h : l'.Sublist l) : Sd lt l' := List.Pairwise.sublist h hs
theorem merge_cut {lt : α → α → Bool} {S : α → Prop} (h : Swo lt S) {A B : List α} (hA : ∀ y ∈ A, S y) (hB : ∀ y ∈ B, S y) (sA : Sd lt A) (sB : Sd lt B) (i k : Nat)
    (h1 : ∀ z y, 0 < i → A[i - 1]? = some z → B[k]? = some y → lt y z = false) (h2 : ∀ y z, 0 < k → B[k - 1]? = some y → A[i]? = some z → lt y z = true) (hi : i ≤ A.length) (hk : k ≤ B.length) :
    isort lt (A ++ B) = isort lt (A.take i ++ B.take k) ++ isort lt (A.drop i ++ B.drop k) := by
  have key := isort_cut h (A1 := A.take i) (A2 := A.drop i) (B1 := B.take k) (B2 := B.drop k) (fun y hy => by
    rcases hy with hy | hy | hy | hy
    · exact hA y (List.mem_of_mem_take hy)
    · exact hA y (List.mem_of_mem_drop hy)
    · exact hB y (List.mem_of_mem_take hy)
    · exact hB y (List.mem_of_mem_drop hy)) (by rw [List.take_append_drop]; exact sA) (by rw [List.take_append_drop]; exact sB)
    (fun a ha b hb => by
      obtain ⟨p, hp, ha⟩ := mem_take_get ha
      obtain ⟨q, hq, hb⟩ := mem_drop_get hb
      have hql := (List.getElem?_eq_some_iff.1 hb).1
      obtain ⟨z, hz⟩ : ∃ z, A[i - 1]? = some z := ⟨_, List.getElem?_eq_getElem (by omega)⟩
      obtain ⟨y, hy⟩ : ∃ y, B[k]? = some y := ⟨_, List.getElem?_eq_getElem (by omega)⟩
      have e1 := sd_get h hA sA (show p ≤ i - 1 by omega) ha hz
      have e2 := sd_get h hB sB hq hy hb
      have e3 := h1 z y (by omega) hz hy
      have ma := hA a (List.mem_of_getElem? ha)
      have mz := hA z (List.mem_of_getElem? hz)
      have my := hB y (List.mem_of_getElem? hy)
      have mb := hB b (List.mem_of_getElem? hb)
      exact h.tr a y b ma my mb (h.tr a z y ma mz my e1 e3) e2)
    (fun b hb a ha => by
      obtain ⟨p, hp, hb⟩ := mem_take_get hb
      obtain ⟨q, hq, ha⟩ := mem_drop_get ha
      have hql := (List.getElem?_eq_some_iff.1 ha).1
      obtain ⟨u, hu⟩ : ∃ u, B[k - 1]? = some u := ⟨_, List.getElem?_eq_getElem (by omega)⟩
      obtain ⟨v, hv⟩ : ∃ v, A[i]? = some v := ⟨_, List.getElem?_eq_getElem (by omega)⟩
      have e1 := sd_get h hB sB (show p ≤ k - 1 by omega) hb hu
      have e2 := sd_get h hA sA hq hv ha
      have e3 := h2 u v (by omega) hu hv
      have ma := hA a (List.mem_of_getElem? ha)
      have mv := hA v (List.mem_of_getElem? hv)
      have mu := hB u (List.mem_of_getElem? hu)
      have mb := hB b (List.mem_of_getElem? hb)
      cases hc : lt b a
      · have := h.tr v b u mv mb mu (h.tr v a b mv ma mb e2 hc) e1
        rw [this] at e3
        cases e3
      · rfl)
  simp only [List.take_append_drop] at key
  exact key
theorem merge_left {lt : α → α → Bool} {S : α → Prop} (h : Swo lt S) {x : α} {B : List α} (hx : S x) (hB : ∀ y ∈ B, S y) (sB : Sd lt B) (k : Nat) (hk : k ≤ B.length)
    (h1 : ∀ y, 0 < k → B[k - 1]? = some y → lt y x = true) (h2 : ∀ y, B[k]? = some y → lt y x = false) : isort lt (x :: B) = B.take k ++ x :: B.drop k := by
  have hA : ∀ y ∈ [x], S y := fun y hy => by simp at hy; rw [hy]; exact hx
  have key := merge_cut h (A := [x]) hA hB (List.pairwise_singleton _ _) sB 0 k (fun _ _ h0 => absurd h0 (Nat.lt_irrefl 0)) (fun y z h0 hy hz => by simp at hz; rw [← hz]; exact h1 y h0 hy) (Nat.zero_le _) hk
  simp only [List.take_zero, List.nil_append, List.drop_zero, List.cons_append] at key
  rw [key, isort_sorted h (fun y hy => hB y (List.mem_of_mem_take hy)) (sd_sub sB (List.take_sublist _ _)), isort_sorted h (l := x :: B.drop k) (fun y hy => ?_) ?_]
  · refine List.pairwise_cons.2 ⟨fun y hy => ?_, sd_sub sB (List.drop_sublist _ _)⟩
    obtain ⟨q, hq, hy⟩ := mem_drop_get hy
    have hql := (List.getElem?_eq_some_iff.1 hy).1
    obtain ⟨v, hv⟩ : ∃ v, B[k]? = some v := ⟨_, List.getElem?_eq_getElem (by omega)⟩
    exact h.tr x v y hx (hB v (List.mem_of_getElem? hv)) (hB y (List.mem_of_getElem? hy)) (h2 v hv) (sd_get h hB sB hq hv hy)
  · rcases List.mem_cons.1 hy with rfl | hy
    · exact hx
    · exact hB y (List.mem_of_mem_drop hy)
theorem merge_right {lt : α → α → Bool} {S : α → Prop} (h : Swo lt S) {x : α} {A : List α} (hx : S x) (hA : ∀ y ∈ A, S y) (sA : Sd lt A) (i : Nat) (hi : i ≤ A.length)
    (h1 : ∀ y, 0 < i → A[i - 1]? = some y → lt x y = false) (h2 : ∀ y, A[i]? = some y → lt x y = true) : isort lt (A ++ [x]) = A.take i ++ x :: A.drop i := by
  rw [isort_snoc, isort_sorted h hA sA]
  have e : A = A.take i ++ A.drop i := (List.take_append_drop i A).symm
  conv => lhs; rw [e]
  refine ins_eq (fun y hy => ?_) (fun y hy => ?_)
  · obtain ⟨q, hq, hy⟩ := mem_drop_get hy
    have hql := (List.getElem?_eq_some_iff.1 hy).1
    obtain ⟨v, hv⟩ : ∃ v, A[i]? = some v := ⟨_, List.getElem?_eq_getElem (by omega)⟩
    have e3 := h2 v hv
    cases hc : lt x y
    · have := h.tr v y x (hA v (List.mem_of_getElem? hv)) (hA y (List.mem_of_getElem? hy)) hx (sd_get h hA sA hq hv hy) hc
      rw [this] at e3
      cases e3
    · rfl
  · rw [List.getLast?_eq_getElem?] at hy
    have hl : (A.take i).length = i := by simp; omega
    rw [hl] at hy
    have h0 : 0 < i := by
      rcases Nat.eq_zero_or_pos i with h0 | h0
      · subst h0; simp at hy
      · exact h0
    refine h1 y h0 ?_
    rw [List.getElem?_take_of_lt (by omega)] at hy
    exact hy

/-- Sorted piece by piece, k at a time. -/
def cs (lt : α → α → Bool) (k : Nat) (l : List α) : List α :=
  if _h : l.length ≤ k ∨ k = 0 then isort lt l else isort lt (l.take k) ++ cs lt k (l.drop k)
termination_by l.length
decreasing_by simp; omega
theorem cs_le {lt : α → α → Bool} {k : Nat} {l : List α} (h : l.length ≤ k) : cs lt k l = isort lt l := by
  rw [cs, dif_pos (.inl h)]
theorem cs_ge {lt : α → α → Bool} {k : Nat} {l : List α} (hk : 0 < k) (h : k ≤ l.length) : cs lt k l = isort lt (l.take k) ++ cs lt k (l.drop k) := by
  rcases Nat.lt_or_ge k l.length with h' | h'
  · rw [cs, dif_neg (by omega)]
  · have e : l.length = k := by omega
    rw [cs_le (by omega), cs_le (l := l.drop k) (by simp; omega), List.drop_eq_nil_of_le (by omega), List.take_of_length_le (by omega), isort_nil, List.append_nil]
end Gl.Sort
