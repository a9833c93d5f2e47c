/-
  Plain facts on traces of expressions. No program in sight.
-/
import Derived.Test.YtlnkkjmejmhaiaaPlainK
import Derived.Test.YtlnkkjmejmhaiaaPlainT
namespace Go.Proofs.Ytlnkkjmejmhaiaa
set_option linter.unusedVariables false

def atomAt (t : List Int) (i : Nat) : Int := t.getD (2 * i) 0
def actAt (t : List Int) (i : Nat) : Int := t.getD (2 * i + 1) 0

def starB (R : Nat → Nat → Bool) : Nat → Nat → Nat → Bool
  | 0, f, t => f == t
  | k + 1, f, t => f == t || (List.range (t - f)).any fun i => R f (f + 1 + i) && starB R k (f + 1 + i) t

/-- The part of a trace from one atom to another one is a trace of an expression. -/
def inB (tr : List Int) : Tr → Nat → Nat → Bool
  | .leaf s, f, t => if s ≤ 15 then f == t && (bitI s (atomAt tr f) == 1) else t == f + 1 && (actAt tr f == s)
  | .star a, f, t => starB (inB tr a) (t - f) f t
  | .bin s a b, f, t => if s = 20 then inB tr a f t || inB tr b f t else (List.range (t + 1 - f)).any fun i => inB tr a f (f + i) && inB tr b (f + i) t

theorem starB_fuel {R : Nat → Nat → Bool} (k : Nat) : ∀ {j f t : Nat}, t - f ≤ k → t - f ≤ j → starB R k f t = starB R j f t := by
  induction k with
  | zero =>
    intro j f t h1 h2
    cases j with
    | zero => rfl
    | succ j => simp [starB, show t - f = 0 by omega]
  | succ k ih =>
    intro j f t h1 h2
    cases j with
    | zero => simp [starB, show t - f = 0 by omega]
    | succ j =>
      simp only [starB]
      congr 1
      rw [Bool.eq_iff_iff]
      simp only [List.any_eq_true, List.mem_range, Bool.and_eq_true]
      constructor
      · rintro ⟨i, hi, h3, h4⟩
        exact ⟨i, hi, h3, by rw [← ih (j := j) (by omega) (by omega)]; exact h4⟩
      · rintro ⟨i, hi, h3, h4⟩
        exact ⟨i, hi, h3, by rw [ih (j := j) (by omega) (by omega)]; exact h4⟩

theorem star_unfold (tr : List Int) (a : Tr) (f t : Nat) :
    inB tr (.star a) f t = (f == t || (List.range (t - f)).any fun i => inB tr a f (f + 1 + i) && inB tr (.star a) (f + 1 + i) t) := by
  have h : inB tr (.star a) f t = starB (inB tr a) ((t - f) + 1) f t := starB_fuel _ (by omega) (by omega)
  rw [h]
  simp only [starB]
  congr 1
  rw [Bool.eq_iff_iff]
  simp only [List.any_eq_true, List.mem_range, Bool.and_eq_true]
  constructor
  · rintro ⟨i, hi, h3, h4⟩
    exact ⟨i, hi, h3, by show starB _ _ _ _ = true; rw [starB_fuel _ (j := t - f) (by omega) (by omega)]; exact h4⟩
  · rintro ⟨i, hi, h3, h4⟩
    exact ⟨i, hi, h3, by rw [starB_fuel _ (j := t - (f + 1 + i)) (by omega) (by omega)]; exact h4⟩

theorem star_refl (tr : List Int) (a : Tr) (f : Nat) : inB tr (.star a) f f = true := by rw [star_unfold]; simp
theorem star_of (tr : List Int) (a : Tr) {f t : Nat} (hf : f ≤ t) (h : inB tr a f t = true) : inB tr (.star a) f t = true := by
  rw [star_unfold]
  by_cases e : f = t
  · simp [e]
  · have : ((List.range (t - f)).any fun i => inB tr a f (f + 1 + i) && inB tr (.star a) (f + 1 + i) t) = true := by
      simp only [List.any_eq_true, List.mem_range, Bool.and_eq_true]
      exact ⟨t - f - 1, by omega, by rw [show f + 1 + (t - f - 1) = t by omega]; exact h, by rw [show f + 1 + (t - f - 1) = t by omega]; exact star_refl _ _ _⟩
    rw [this]; simp

theorem plus_unfold (tr : List Int) (a b : Tr) (f t : Nat) : inB tr (.bin 20 a b) f t = (inB tr a f t || inB tr b f t) := by simp [inB]
theorem then_unfold (tr : List Int) (a b : Tr) (f t : Nat) : inB tr (.bin 19 a b) f t = (List.range (t + 1 - f)).any fun i => inB tr a f (f + i) && inB tr b (f + i) t := by simp [inB]

/-! a part of a trace stands for itself -/
theorem inB_congr {tr tr' : List Int} {n : Nat} (hA : ∀ i, i ≤ n → atomAt tr i = atomAt tr' i) (hB : ∀ i, i < n → actAt tr i = actAt tr' i) (e : Tr) :
    ∀ f t, f ≤ t → t ≤ n → inB tr e f t = inB tr' e f t := by
  induction e with
  | leaf s =>
    intro f t hf ht
    simp only [inB]
    rw [hA f (by omega)]
    split
    · rfl
    · by_cases h : t = f + 1
      · rw [hB f (by omega)]
      · have e : (t == f + 1) = false := by simpa using h
        rw [e]; rfl
  | star a ih =>
    have key : ∀ k f t, f ≤ t → t ≤ n → starB (inB tr a) k f t = starB (inB tr' a) k f t := by
      intro k
      induction k with
      | zero => intro f t _ _; rfl
      | succ k ihk =>
        intro f t hf ht
        simp only [starB]
        congr 1
        rw [Bool.eq_iff_iff]
        simp only [List.any_eq_true, List.mem_range, Bool.and_eq_true]
        constructor
        · rintro ⟨i, hi, h3, h4⟩
          exact ⟨i, hi, by rw [← ih _ _ (by omega) (by omega)]; exact h3, by rw [← ihk _ _ (by omega) (by omega)]; exact h4⟩
        · rintro ⟨i, hi, h3, h4⟩
          exact ⟨i, hi, by rw [ih _ _ (by omega) (by omega)]; exact h3, by rw [ihk _ _ (by omega) (by omega)]; exact h4⟩
    intro f t hf ht
    exact key _ f t hf ht
  | bin s a b ha hb =>
    intro f t hf ht
    simp only [inB]
    split
    · rw [ha f t hf ht, hb f t hf ht]
    · rw [Bool.eq_iff_iff]
      simp only [List.any_eq_true, List.mem_range, Bool.and_eq_true]
      constructor
      · rintro ⟨i, hi, h3, h4⟩
        exact ⟨i, hi, by rw [← ha _ _ (by omega) (by omega)]; exact h3, by rw [← hb _ _ (by omega) (by omega)]; exact h4⟩
      · rintro ⟨i, hi, h3, h4⟩
        exact ⟨i, hi, by rw [ha _ _ (by omega) (by omega)]; exact h3, by rw [hb _ _ (by omega) (by omega)]; exact h4⟩

theorem inB_take {tr : List Int} {n : Nat} (e : Tr) {f t : Nat} (hf : f ≤ t) (ht : t ≤ n) : inB (tr.take (2 * n + 1)) e f t = inB tr e f t := by
  refine inB_congr (n := n) ?_ ?_ e f t hf ht
  · intro i hi
    simp only [atomAt, List.getD_eq_getElem?_getD, List.getElem?_take]
    rw [if_pos (by omega)]
  · intro i hi
    simp only [actAt, List.getD_eq_getElem?_getD, List.getElem?_take]
    rw [if_pos (by omega)]

theorem inB_drop {tr : List Int} {n : Nat} (e : Tr) : ∀ {f t : Nat}, f ≤ t → inB (tr.drop (2 * n)) e f t = inB tr e (n + f) (n + t) := by
  have hA : ∀ i, atomAt (tr.drop (2 * n)) i = atomAt tr (n + i) := by
    intro i
    simp only [atomAt, List.getD_eq_getElem?_getD, List.getElem?_drop]
    rw [show 2 * n + 2 * i = 2 * (n + i) by omega]
  have hB : ∀ i, actAt (tr.drop (2 * n)) i = actAt tr (n + i) := by
    intro i
    simp only [actAt, List.getD_eq_getElem?_getD, List.getElem?_drop]
    rw [show 2 * n + (2 * i + 1) = 2 * (n + i) + 1 by omega]
  induction e with
  | leaf s =>
    intro f t hf
    simp only [inB, hA, hB]
    have e1 : (f == t) = (n + f == n + t) := by rw [Bool.eq_iff_iff]; simp
    have e2 : (t == f + 1) = (n + t == n + f + 1) := by rw [Bool.eq_iff_iff]; simp; omega
    rw [e1, e2]
  | star a ih =>
    have key : ∀ k f t, f ≤ t → starB (inB (tr.drop (2 * n)) a) k f t = starB (inB tr a) k (n + f) (n + t) := by
      intro k
      induction k with
      | zero => intro f t _; simp only [starB]; rw [Bool.eq_iff_iff]; simp
      | succ k ihk =>
        intro f t hf
        simp only [starB]
        have e1 : (f == t) = (n + f == n + t) := by rw [Bool.eq_iff_iff]; simp
        rw [e1, show n + t - (n + f) = t - f by omega]
        congr 1
        rw [Bool.eq_iff_iff]
        simp only [List.any_eq_true, List.mem_range, Bool.and_eq_true]
        constructor
        · rintro ⟨i, hi, h3, h4⟩
          exact ⟨i, hi, by rw [show n + f + 1 + i = n + (f + 1 + i) by omega, ← ih (by omega)]; exact h3, by rw [show n + f + 1 + i = n + (f + 1 + i) by omega, ← ihk _ _ (by omega)]; exact h4⟩
        · rintro ⟨i, hi, h3, h4⟩
          rw [show n + f + 1 + i = n + (f + 1 + i) by omega] at h3 h4
          exact ⟨i, hi, by rw [ih (by omega)]; exact h3, by rw [ihk _ _ (by omega)]; exact h4⟩
    intro f t hf
    simp only [inB]
    rw [key _ f t hf, show n + t - (n + f) = t - f by omega]
  | bin s a b ha hb =>
    intro f t hf
    simp only [inB]
    split
    · rw [ha hf, hb hf]
    · rw [show n + t + 1 - (n + f) = t + 1 - f by omega, Bool.eq_iff_iff]
      simp only [List.any_eq_true, List.mem_range, Bool.and_eq_true]
      constructor
      · rintro ⟨i, hi, h3, h4⟩
        exact ⟨i, hi, by rw [show n + f + i = n + (f + i) by omega, ← ha (by omega)]; exact h3, by rw [show n + f + i = n + (f + i) by omega, ← hb (by omega)]; exact h4⟩
      · rintro ⟨i, hi, h3, h4⟩
        rw [show n + f + i = n + (f + i) by omega] at h3 h4
        exact ⟨i, hi, by rw [ha (by omega)]; exact h3, by rw [hb (by omega)]; exact h4⟩

/-! backwards -/
/-- k steps of a relation, each further on -/
def iter (R : Nat → Nat → Bool) : Nat → Nat → Nat → Prop
  | 0, f, t => f = t
  | k + 1, f, t => ∃ m, f < m ∧ R f m = true ∧ iter R k m t
theorem iter_le {R : Nat → Nat → Bool} : ∀ {k f t : Nat}, iter R k f t → f ≤ t := by
  intro k
  induction k with
  | zero => intro f t h; exact Nat.le_of_eq h
  | succ k ih => rintro f t ⟨m, h1, h2, h3⟩; have := ih h3; omega
theorem iter_snoc {R : Nat → Nat → Bool} : ∀ {k f m t : Nat}, iter R k f m → m < t → R m t = true → iter R (k + 1) f t := by
  intro k
  induction k with
  | zero => intro f m t h h1 h2; cases h; exact ⟨t, h1, h2, rfl⟩
  | succ k ih => rintro f m t ⟨q, h1, h2, h3⟩ h4 h5; exact ⟨q, h1, h2, ih h3 h4 h5⟩
theorem starB_iter {R : Nat → Nat → Bool} : ∀ {k f t : Nat}, f ≤ t → t - f ≤ k → (starB R k f t = true ↔ ∃ j, iter R j f t) := by
  intro k
  induction k with
  | zero =>
    intro f t hf hk
    have : f = t := by omega
    subst this
    simp [starB]
    exact ⟨0, rfl⟩
  | succ k ih =>
    intro f t hf hk
    simp only [starB, Bool.or_eq_true, List.any_eq_true, List.mem_range, Bool.and_eq_true, beq_iff_eq]
    constructor
    · rintro (h | ⟨i, hi, h3, h4⟩)
      · exact ⟨0, h⟩
      · obtain ⟨j, hj⟩ := (ih (by omega) (by omega)).1 h4
        exact ⟨j + 1, _, by omega, h3, hj⟩
    · rintro ⟨j, hj⟩
      cases j with
      | zero => exact .inl hj
      | succ j =>
        obtain ⟨m, h1, h2, h3⟩ := hj
        have := iter_le h3
        refine .inr ⟨m - f - 1, by omega, ?_, ?_⟩
        · rw [show f + 1 + (m - f - 1) = m by omega]; exact h2
        · rw [show f + 1 + (m - f - 1) = m by omega]; exact (ih (by omega) (by omega)).2 ⟨j, h3⟩
theorem star_iter (tr : List Int) (a : Tr) {f t : Nat} (hf : f ≤ t) : inB tr (.star a) f t = true ↔ ∃ j, iter (inB tr a) j f t := starB_iter hf (Nat.le_refl _)

theorem iter_back {R S : Nat → Nat → Bool} {n : Nat} (h : ∀ f t, f ≤ t → t ≤ n → R f t = true → S (n - t) (n - f) = true) :
    ∀ {k f t : Nat}, t ≤ n → iter R k f t → iter S k (n - t) (n - f) := by
  intro k
  induction k with
  | zero => intro f t _ h1; cases h1; rfl
  | succ k ih =>
    rintro f t ht ⟨m, h1, h2, h3⟩
    have := iter_le h3
    exact iter_snoc (ih ht h3) (by omega) (h f m (by omega) (by omega) h2)

theorem back_one {tr tr' : List Int} {n : Nat} (hA : ∀ i, i ≤ n → atomAt tr' (n - i) = atomAt tr i) (hB : ∀ i, i < n → actAt tr' (n - 1 - i) = actAt tr i) :
    ∀ (e : Tr), e.ok → ∀ f t, f ≤ t → t ≤ n → inB tr e f t = true → inB tr' e.back (n - t) (n - f) = true := by
  intro e
  induction e with
  | leaf s =>
    intro _ f t hf ht h
    simp only [inB, Tr.back] at h ⊢
    split at h
    · rename_i hs
      rw [if_pos hs]
      simp only [Bool.and_eq_true, beq_iff_eq] at h ⊢
      obtain ⟨rfl, h2⟩ := h
      exact ⟨rfl, by rw [hA f ht]; exact h2⟩
    · rename_i hs
      rw [if_neg hs]
      simp only [Bool.and_eq_true, beq_iff_eq] at h ⊢
      obtain ⟨rfl, h2⟩ := h
      refine ⟨by omega, ?_⟩
      rw [show n - (f + 1) = n - 1 - f by omega, hB f (by omega)]; exact h2
  | star a ih =>
    intro hok f t hf ht h
    obtain ⟨j, hj⟩ := (star_iter tr a hf).1 h
    show inB tr' (.star a.back) _ _ = true
    exact (star_iter tr' a.back (by omega)).2 ⟨j, iter_back (fun f t h1 h2 h3 => ih hok f t h1 h2 h3) ht hj⟩
  | bin s a b ha hb =>
    rintro ⟨hs, h1, h2⟩ f t hf ht h
    unfold Tr.back
    rcases hs with rfl | rfl
    · rw [if_pos rfl, then_unfold]
      rw [then_unfold] at h
      simp only [List.any_eq_true, List.mem_range, Bool.and_eq_true] at h ⊢
      obtain ⟨i, hi, h3, h4⟩ := h
      refine ⟨t - (f + i), by omega, ?_, ?_⟩
      · rw [show n - t + (t - (f + i)) = n - (f + i) by omega]; exact hb h2 _ _ (by omega) ht h4
      · rw [show n - t + (t - (f + i)) = n - (f + i) by omega]; exact ha h1 _ _ (by omega) (by omega) h3
    · rw [if_neg (by decide), plus_unfold]
      rw [plus_unfold] at h
      simp only [Bool.or_eq_true] at h ⊢
      rcases h with h | h
      · exact .inl (ha h1 _ _ hf ht h)
      · exact .inr (hb h2 _ _ hf ht h)

/-- Backwards traces are those of the expression backwards. -/
theorem in_back {tr : List Int} {n : Nat} (hn : tr.length = 2 * n + 1) {e : Tr} (he : e.ok) : inB tr.reverse e.back 0 n = inB tr e 0 n := by
  have hA : ∀ i, i ≤ n → atomAt tr.reverse (n - i) = atomAt tr i := by
    intro i hi
    simp only [atomAt, List.getD_eq_getElem?_getD]
    rw [List.getElem?_reverse (by omega), hn, show 2 * n + 1 - 1 - 2 * (n - i) = 2 * i by omega]
  have hB : ∀ i, i < n → actAt tr.reverse (n - 1 - i) = actAt tr i := by
    intro i hi
    simp only [actAt, List.getD_eq_getElem?_getD]
    rw [List.getElem?_reverse (by omega), hn, show 2 * n + 1 - 1 - (2 * (n - 1 - i) + 1) = 2 * i + 1 by omega]
  have hA' : ∀ i, i ≤ n → atomAt tr (n - i) = atomAt tr.reverse i := fun i hi => by
    have := hA (n - i) (by omega)
    rw [← this, show n - (n - i) = i by omega]
  have hB' : ∀ i, i < n → actAt tr (n - 1 - i) = actAt tr.reverse i := fun i hi => by
    have := hB (n - 1 - i) (by omega)
    rw [← this, show n - 1 - (n - 1 - i) = i by omega]
  rw [Bool.eq_iff_iff]
  constructor
  · intro h
    have := back_one hA' hB' e.back (Tr.back_ok he) 0 n (by omega) (by omega) h
    simpa [Tr.back_back] using this
  · intro h
    have := back_one hA hB e he 0 n (by omega) (by omega) h
    simpa using this

end Go.Proofs.Ytlnkkjmejmhaiaa
