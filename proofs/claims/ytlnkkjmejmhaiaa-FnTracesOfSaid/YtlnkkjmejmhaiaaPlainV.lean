/-
  Plain facts on valid traces. No program in sight.
-/
import Derived.Test.YtlnkkjmejmhaiaaPlainT
namespace Go.Proofs.Ytlnkkjmejmhaiaa
set_option linter.unusedVariables false

/-- what may stand at a place of a trace -/
def trAt (t : List Int) (i : Nat) : Bool := if i % 2 = 0 then inR (t.getD i 0) 0 3 else inR (t.getD i 0) 16 18
/-- a valid trace -/
def trV (t : List Int) : Bool := decide (t.length % 2 = 1 ∧ t.length ≤ 41) && (List.range t.length).all (trAt t)
theorem trV_iff {t : List Int} : trV t = true ↔ (t.length % 2 = 1 ∧ t.length ≤ 41) ∧ ∀ i, i < t.length → trAt t i = true := by
  simp [trV]
theorem trV_len {t : List Int} (h : ¬ (t.length % 2 = 1 ∧ t.length ≤ 41)) : trV t = false := by
  unfold trV
  rw [decide_eq_false h]; rfl
theorem trV_bad {t : List Int} {i : Nat} (hi : i < t.length) (h : trAt t i = false) : trV t = false := by
  rw [Bool.eq_false_iff]
  intro h1
  have := (trV_iff.1 h1).2 i hi
  rw [h] at this; cases this
theorem trV_ok {t : List Int} {k : Nat} (hl : t.length % 2 = 1 ∧ t.length ≤ 41) (hk : t.length ≤ k) (h : ∀ i, i < k → trAt t i = true) : trV t = true :=
  trV_iff.2 ⟨hl, fun i hi => h i (by omega)⟩
theorem trAt_even {t : List Int} {i : Nat} {v : Int} (hv : t.getD i 0 = v) (h : i % 2 = 0) : trAt t i = inR v 0 3 := by simp only [trAt, if_pos h, hv]
theorem trAt_odd {t : List Int} {i : Nat} {v : Int} (hv : t.getD i 0 = v) (h : ¬ i % 2 = 0) : trAt t i = inR v 16 18 := by simp only [trAt, if_neg h, hv]
theorem trV_nil : trV [] = false := by decide

/-- two traces joined -/
def tJoin (a b : List Int) : List Int × Bool :=
  if trV a && trV b && (a.getD (a.length - 1) 0 == b.getD 0 0) && trV (a ++ b.drop 1) then (a ++ b.drop 1, true) else ([], false)
def tBack (t : List Int) : List Int := if trV t then t.reverse else []
theorem tJoin_ok {a b : List Int} (h : (tJoin a b).2 = true) : trV a = true ∧ trV b = true ∧ a.getD (a.length - 1) 0 = b.getD 0 0 ∧ trV (a ++ b.drop 1) = true ∧ (tJoin a b).1 = a ++ b.drop 1 := by
  unfold tJoin at h ⊢
  split at h
  · rename_i h1
    rw [if_pos h1]
    simp only [Bool.and_eq_true, beq_iff_eq] at h1
    exact ⟨h1.1.1.1, h1.1.1.2, h1.1.2, h1.2, rfl⟩
  · simp at h
theorem tJoin_no {a b : List Int} (h : (tJoin a b).2 = false) : (tJoin a b).1 = [] := by
  unfold tJoin at h ⊢
  split at h
  · simp at h
  · rename_i h1; rw [if_neg h1]
theorem tJoin_len {a b : List Int} {n : Nat} (hn : (tJoin a b).1.length = n) : n ≤ 41 := by
  cases h : (tJoin a b).2
  · rw [tJoin_no h] at hn; simp at hn; omega
  · have hk := tJoin_ok h
    rw [hk.2.2.2.2] at hn
    have := (trV_iff.1 hk.2.2.2.1).1.2
    omega
theorem tBack_len {t : List Int} {n : Nat} (hn : (tBack t).length = n) : n ≤ 41 := by
  unfold tBack at hn
  split at hn
  · rename_i h
    have := (trV_iff.1 h).1.2
    simp at hn; omega
  · simp at hn; omega
theorem trAt_reverse {t : List Int} (hl : t.length % 2 = 1) {i : Nat} (hi : i < t.length) : trAt t.reverse i = trAt t (t.length - 1 - i) := by
  have e : t.reverse.getD i 0 = t.getD (t.length - 1 - i) 0 := by
    simp only [List.getD_eq_getElem?_getD]
    rw [List.getElem?_reverse hi]
  unfold trAt
  rw [e]
  by_cases h : i % 2 = 0
  · rw [if_pos h, if_pos (by omega)]
  · rw [if_neg h, if_neg (by omega)]
theorem trV_reverse {t : List Int} (h : trV t = true) : trV t.reverse = true := by
  obtain ⟨h1, h2⟩ := trV_iff.1 h
  refine trV_iff.2 ⟨by simpa using h1, fun i hi => ?_⟩
  rw [List.length_reverse] at hi
  rw [trAt_reverse h1.1 hi]
  exact h2 _ (by omega)
theorem tBack_back {t : List Int} (h : trV t = true) : tBack (tBack t) = t := by
  have h2 := trV_reverse h
  unfold tBack
  rw [if_pos h, if_pos h2, List.reverse_reverse]
theorem trV_one {t : List Int} (h : trV t = true) : trV (t.take 1) = true := by
  obtain ⟨h1, h2⟩ := trV_iff.1 h
  have hl : (t.take 1).length = 1 := by rw [List.length_take]; omega
  refine trV_iff.2 ⟨by omega, fun i hi => ?_⟩
  obtain rfl : i = 0 := by omega
  have := h2 0 (by omega)
  simpa [trAt, List.getD_eq_getElem?_getD] using this
theorem trV_more {t : List Int} (x : Int) (h : trV t = true) : trV (t ++ [x]) = false := by
  obtain ⟨h1, h2⟩ := trV_iff.1 h
  exact trV_len (by simp; omega)
theorem tBack_no {t : List Int} (h : trV t = false) : tBack t = [] := by simp [tBack, h]
theorem tBack_v {t : List Int} (h : trV t = true) : trV (tBack t) = true := by simp only [tBack, h, if_true]; exact trV_reverse h
/-- Backwards the other one is first. -/
theorem tJoin_back {a b : List Int} (h : (tJoin a b).2 = true) : tJoin (tBack b) (tBack a) = (tBack (tJoin a b).1, true) := by
  obtain ⟨ha, hb, he, hc, hj⟩ := tJoin_ok h
  have ha1 := (trV_iff.1 ha).1
  have hb1 := (trV_iff.1 hb).1
  have hB : tBack b = b.reverse := by simp [tBack, hb]
  have hA : tBack a = a.reverse := by simp [tBack, ha]
  have hJ : tBack (tJoin a b).1 = (a ++ b.drop 1).reverse := by rw [hj]; unfold tBack; rw [if_pos hc]
  have key : b.reverse ++ a.reverse.drop 1 = (a ++ b.drop 1).reverse := by
    match b, hb1 with
    | x :: r, _ =>
      have hx : a.getD (a.length - 1) 0 = x := by rw [he]; rfl
      have hrev : a.reverse = x :: a.reverse.drop 1 := by
        match hr : a.reverse with
        | [] => have := List.length_reverse (as := a); rw [hr] at this; simp at this; omega
        | y :: q =>
          have e2 : a.reverse.getD 0 0 = y := by rw [hr]; rfl
          have e3 : a.reverse.getD 0 0 = a.getD (a.length - 1) 0 := by
            simp only [List.getD_eq_getElem?_getD]
            rw [List.getElem?_reverse (by omega)]
            simp
          rw [e2, hx] at e3
          rw [e3]; rfl
      simp only [List.reverse_cons, List.drop_succ_cons, List.drop_zero, List.reverse_append]
      rw [hrev]
      simp
    | [], h1 => simp at h1
  have hlast : ((tBack b).getD ((tBack b).length - 1) 0 == (tBack a).getD 0 0) = true := by
    rw [hB, hA]
    simp only [List.getD_eq_getElem?_getD]
    rw [List.getElem?_reverse (by simp; omega), List.getElem?_reverse (by omega)]
    simp only [List.length_reverse, beq_iff_eq]
    have e1 : b.length - 1 - (b.length - 1) = 0 := by omega
    rw [e1, Nat.sub_zero]
    simpa [List.getD_eq_getElem?_getD] using he.symm
  unfold tJoin
  have hv : trV (tBack b ++ (tBack a).drop 1) = true := by rw [hB, hA, key]; exact trV_reverse hc
  rw [tBack_v ha, tBack_v hb, hlast, hv]
  simp only [Bool.and_self, if_true]
  rw [hB, hA, key]
  have : tBack (if (trV a && trV b && (a.getD (a.length - 1) 0 == b.getD 0 0) && trV (a ++ b.drop 1)) = true then (a ++ b.drop 1, true) else ([], false)).1 = (a ++ b.drop 1).reverse := hJ
  rw [this]
theorem tJoin_length {a b : List Int} (h : (tJoin a b).2 = true) : (tJoin a b).1.length + 1 = a.length + b.length := by
  obtain ⟨ha, hb, he, hc, hj⟩ := tJoin_ok h
  have hb1 := (trV_iff.1 hb).1
  rw [hj]; simp; omega
end Go.Proofs.Ytlnkkjmejmhaiaa
