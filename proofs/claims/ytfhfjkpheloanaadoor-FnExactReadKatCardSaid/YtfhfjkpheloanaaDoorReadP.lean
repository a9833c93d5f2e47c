/-
  Leaves of expressions in texts: the specification tries words of up to six bytes, the program takes one word; both find the same.
-/
import Derived.Test.YtfhfjkpheloanaaDoorText
import Derived.Test.YtfhfjkpheloanaaDoorPlainP
import Derived.Test.YtfhfjkpheloanaaDoorKat
namespace Go.Proofs.YtfhfjkpheloanaaDoor
open Go.RowKit
set_option linter.unusedVariables false
set_option maxHeartbeats 400000

theorem rTest_someX {l : List UInt8} (h : (rTest l).2 = true) : tText (rTest l).1 = l := by
  unfold rTest at h ⊢
  cases hf : (List.range 16).find? (fun t : Nat => tText (t : Int) == l) with
  | none => rw [hf] at h; cases h
  | some k =>
    have := List.find?_some hf
    simpa using this
theorem rTest_rangeX (l : List UInt8) : -1 ≤ (rTest l).1 ∧ (rTest l).1 ≤ 15 := by
  unfold rTest
  cases hf : (List.range 16).find? (fun t : Nat => tText (t : Int) == l) with
  | none => simp
  | some k =>
    have := List.mem_of_find?_eq_some hf
    simp at this ⊢; omega
/-- how long the program's word is -/
def wlen (r : List UInt8) : Nat := match r with
  | [] => 0
  | x :: q => if x = 33 then min 2 (q.length + 1) else if x = 91 then (match (x :: q).findIdx? (fun c => c == 93) with | some k => k + 1 | none => 0) else 1
/-- the word at the beginning, as a test -/
def wordP (r : List UInt8) : Option (Int × Nat) := if (rTest (r.take (wlen r))).2 then some ((rTest (r.take (wlen r))).1, wlen r) else none
theorem tText_all {t : Int} (h0 : 0 ≤ t) (h15 : t ≤ 15) (r : List UInt8) : wlen (tText t ++ r) = (tText t).length ∧ 1 ≤ (tText t).length ∧ (tText t).length ≤ 5 := by
  have ht : t = 0 ∨ t = 1 ∨ t = 2 ∨ t = 3 ∨ t = 4 ∨ t = 5 ∨ t = 6 ∨ t = 7 ∨ t = 8 ∨ t = 9 ∨ t = 10 ∨ t = 11 ∨ t = 12 ∨ t = 13 ∨ t = 14 ∨ t = 15 := by omega
  rcases ht with rfl | rfl | rfl | rfl | rfl | rfl | rfl | rfl | rfl | rfl | rfl | rfl | rfl | rfl | rfl | rfl
  · exact ⟨rfl, by decide, by decide⟩
  · exact ⟨rfl, by decide, by decide⟩
  · exact ⟨rfl, by decide, by decide⟩
  · exact ⟨by show min 2 _ = 2; simp, by decide, by decide⟩
  · exact ⟨rfl, by decide, by decide⟩
  · exact ⟨by show min 2 _ = 2; simp, by decide, by decide⟩
  · exact ⟨rfl, by decide, by decide⟩
  · exact ⟨rfl, by decide, by decide⟩
  · exact ⟨rfl, by decide, by decide⟩
  · exact ⟨rfl, by decide, by decide⟩
  · exact ⟨rfl, by decide, by decide⟩
  · exact ⟨rfl, by decide, by decide⟩
  · exact ⟨rfl, by decide, by decide⟩
  · exact ⟨rfl, by decide, by decide⟩
  · exact ⟨rfl, by decide, by decide⟩
  · exact ⟨rfl, by decide, by decide⟩
/-- A word that is a test's text is the program's word. -/
theorem word_only {r : List UInt8} {m : Nat} (hm : m ≤ r.length) (h : (rTest (r.take m)).2 = true) : m = wlen r ∧ 1 ≤ m ∧ m ≤ 5 := by
  have h1 := rTest_someX h
  have h2 := rTest_rangeX (r.take m)
  have h3 : 0 ≤ (rTest (r.take m)).1 := by
    rcases Int.lt_or_le (rTest (r.take m)).1 0 with h4 | h4
    · exfalso
      have : (rTest (r.take m)).1 = -1 := by omega
      rw [this] at h1
      have h5 : tText (-1) = [] := by decide
      rw [h5] at h1
      rw [← h1] at h
      revert h; decide
    · exact h4
  have hl : (tText (rTest (r.take m)).1).length = m := by rw [h1, List.length_take]; omega
  have e : r = tText (rTest (r.take m)).1 ++ r.drop m := by rw [h1]; exact (List.take_append_drop m r).symm
  have := tText_all h3 h2.2 (r.drop m)
  rw [← e, hl] at this
  exact ⟨this.1.symm, this.2.1, this.2.2⟩
/-- a leaf at place i -/
def leafP (l : List UInt8) (i : Nat) : Option (List Int × Nat) :=
  if i < l.length then (if 97 ≤ l.getD i 0 ∧ l.getD i 0 ≤ 99 then some ([16 + (((l.getD i 0).toNat : Int) - 97)], i + 1) else (wordP (l.drop i)).map fun r => ([r.1], i + r.2)) else none
/-- the first of the words of up to n bytes that is a test -/
def tryP (l : List UInt8) (i : Nat) : Nat → Option (List Int × Nat)
  | 0 => none
  | n + 1 => (tryP l i n).or (if i + (n + 1) ≤ l.length ∧ (rTest ((l.drop i).take (n + 1))).2 then some ([(rTest ((l.drop i).take (n + 1))).1], i + (n + 1)) else none)
theorem tryP_some {l : List UInt8} {i : Nat} (hi : i ≤ l.length) {n : Nat} {r : List Int × Nat} (h : tryP l i n = some r) : wordP (l.drop i) = some (r.1.getD 0 0, wlen (l.drop i)) ∧ r = ([r.1.getD 0 0], i + wlen (l.drop i)) := by
  induction n with
  | zero => cases h
  | succ n ih =>
    unfold tryP at h
    cases h1 : tryP l i n with
    | some q => rw [h1] at h; simp at h; subst h; exact ih h1
    | none =>
      rw [h1] at h
      simp only [Option.none_or] at h
      split at h
      · rename_i h2
        have h3 := word_only (r := l.drop i) (m := n + 1) (by rw [List.length_drop]; omega) h2.2
        injection h with h
        subst h
        unfold wordP
        rw [← h3.1, if_pos h2.2]
        exact ⟨rfl, rfl⟩
      · cases h
theorem tryP_none {l : List UInt8} {i : Nat} (hi : i ≤ l.length) (h : tryP l i 6 = none) : wordP (l.drop i) = none := by
  have key : ∀ n, n ≤ 6 → tryP l i n = none := by
    intro n hn
    induction n with
    | zero => rfl
    | succ n ih => cases h1 : tryP l i n with
      | none =>
        cases h2 : tryP l i (n + 1) with
        | none => rfl
        | some q =>
          exfalso
          have mono : ∀ k, tryP l i (n + 1 + k) = some q := by
            intro k
            induction k with
            | zero => exact h2
            | succ k ihk => show (tryP l i (n + 1 + k)).or _ = _; rw [ihk]; rfl
          have := mono (6 - (n + 1))
          rw [show n + 1 + (6 - (n + 1)) = 6 by omega, h] at this
          cases this
      | some q => rw [h1] at ih; cases ih (by omega)
  unfold wordP
  by_cases h2 : (rTest ((l.drop i).take (wlen (l.drop i)))).2 = true
  · exfalso
    by_cases hl : wlen (l.drop i) ≤ (l.drop i).length
    · have h3 := word_only hl h2
      have hn := key (wlen (l.drop i)) (by omega)
      obtain ⟨n, hn1⟩ : ∃ n, wlen (l.drop i) = n + 1 := ⟨wlen (l.drop i) - 1, by omega⟩
      rw [hn1] at hn h2 hl
      unfold tryP at hn
      rw [List.length_drop] at hl
      rw [if_pos ⟨by omega, h2⟩] at hn
      cases h4 : tryP l i n with
      | none => rw [h4] at hn; cases hn
      | some q => rw [h4] at hn; cases hn
    · have e1 : (l.drop i).take (wlen (l.drop i)) = (l.drop i).take (l.drop i).length := by rw [List.take_of_length_le (by omega), List.take_length]
      rw [e1] at h2
      have h3 := word_only (Nat.le_refl _) h2
      omega
  · rw [if_neg h2]
theorem try_is {l : List UInt8} {i : Nat} (hi : i ≤ l.length) : tryP l i 6 = (wordP (l.drop i)).map fun r => ([r.1], i + r.2) := by
  cases h : tryP l i 6 with
  | none => rw [tryP_none hi h]; rfl
  | some r =>
    obtain ⟨h1, h2⟩ := tryP_some hi h
    rw [h1, h2]; rfl
theorem leaf_fwd (l : List UInt8) : Fwd l (leafP l) := by
  intro i r h
  unfold leafP at h
  split at h
  · rename_i hi
    split at h
    · injection h with h; subst h; simp; omega
    · rw [Option.map_eq_some_iff] at h
      obtain ⟨q, hq, rfl⟩ := h
      unfold wordP at hq
      split at hq
      · rename_i h2
        injection hq with hq
        subst hq
        by_cases hl : wlen (l.drop i) ≤ (l.drop i).length
        · have h3 := word_only hl h2
          rw [List.length_drop] at hl
          simp; omega
        · have e1 : (l.drop i).take (wlen (l.drop i)) = (l.drop i).take (l.drop i).length := by rw [List.take_of_length_le (by omega), List.take_length]
          rw [e1] at h2
          have h3 := word_only (Nat.le_refl _) h2
          omega
      · cases hq
  · cases h
/-- what a text tells -/
def readP (l : List UInt8) : List Int × Bool :=
  if 199 < l.length then ([], false) else match sumP (leafP l) l 99 0 with
    | some r => if r.2 = l.length ∧ katV r.1 = true then (r.1, true) else ([], false)
    | none => ([], false)
end Go.Proofs.YtfhfjkpheloanaaDoor
