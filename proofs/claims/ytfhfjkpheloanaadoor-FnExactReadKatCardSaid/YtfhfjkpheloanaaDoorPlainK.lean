/-
  Plain facts on expressions: rows of steps, and the trees that they are. No program in sight.
-/
import Derived.WalkKit
namespace Go.Proofs.YtfhfjkpheloanaaDoor
set_option linter.unusedVariables false

/-- how many expressions a step takes -/
def tk (s : Int) : Nat := if s = 19 ∨ s = 20 then 2 else if s = 21 then 1 else 0
theorem tk_le (s : Int) : tk s ≤ 2 := by unfold tk; split <;> (try split) <;> omega

/-- how many expressions there are behind the steps, if each step is one and finds what it takes -/
def kd : Nat → List Int → Option Nat
  | d, [] => some d
  | d, s :: r => if s < 0 ∨ 21 < s ∨ d < tk s then none else kd (d - tk s + 1) r

def katV (e : List Int) : Bool := decide (1 ≤ e.length ∧ e.length ≤ 40) && (kd 0 e == some 1)

theorem kd_append (d : Nat) (a b : List Int) : kd d (a ++ b) = (kd d a).bind (fun d' => kd d' b) := by
  induction a generalizing d with
  | nil => rfl
  | cons s r ih =>
    simp only [List.cons_append, kd]
    split
    · rfl
    · exact ih _

theorem kd_le {d : Nat} {e : List Int} {d' : Nat} (h : kd d e = some d') : d' ≤ d + e.length := by
  induction e generalizing d with
  | nil => simp [kd] at h; omega
  | cons s r ih =>
    simp only [kd] at h
    split at h
    · simp at h
    · have := ih h; simp only [List.length_cons]; omega

theorem drop_at {xs : List Int} {k : Nat} (hk : k < xs.length) : xs.drop k = xs.getD k 0 :: xs.drop (k + 1) := by
  rw [List.drop_eq_getElem_cons hk]
  simp [List.getD_eq_getElem?_getD, List.getElem?_eq_getElem hk]
theorem take_at {xs : List Int} {k : Nat} (hk : k < xs.length) : xs.take (k + 1) = xs.take k ++ [xs.getD k 0] := by
  rw [List.take_succ_eq_append_getElem hk]
  simp [List.getD_eq_getElem?_getD, List.getElem?_eq_getElem hk]
theorem kd_bad {xs : List Int} {d k : Nat} (hk : k < xs.length) (h : kd 0 (xs.take k) = some d) (hb : xs.getD k 0 < 0 ∨ 21 < xs.getD k 0 ∨ d < tk (xs.getD k 0)) : katV xs = false := by
  have e : kd 0 xs = none := by
    rw [← List.take_append_drop k xs, kd_append, h, drop_at hk]
    simp only [Option.bind_some, kd]
    rw [if_pos hb]
  simp [katV, e]
theorem kd_good {xs : List Int} {d k : Nat} (hk : k < xs.length) (h : kd 0 (xs.take k) = some d) (hb : ¬ (xs.getD k 0 < 0 ∨ 21 < xs.getD k 0 ∨ d < tk (xs.getD k 0))) : kd 0 (xs.take (k + 1)) = some (d - tk (xs.getD k 0) + 1) := by
  rw [take_at hk, kd_append, h]
  simp only [Option.bind_some, kd]
  rw [if_neg hb]
theorem kd_done {xs : List Int} {d k : Nat} (hk : k = xs.length) (h : kd 0 (xs.take k) = some d) : katV xs = (decide (1 ≤ xs.length ∧ xs.length ≤ 40) && ((d : Int) == 1)) := by
  subst hk
  rw [List.take_length] at h
  unfold katV
  have e : (some d == some 1) = ((d : Int) == 1) := by rw [Bool.eq_iff_iff]; simp; omega
  rw [h, e]

/-- AN EXPRESSION AS A TREE -/
inductive Tr where
  | leaf (s : Int)
  | star (a : Tr)
  | bin (s : Int) (a b : Tr)

namespace Tr
def ok : Tr → Prop
  | leaf s => 0 ≤ s ∧ s ≤ 18
  | star a => a.ok
  | bin s a b => (s = 19 ∨ s = 20) ∧ a.ok ∧ b.ok
def steps : Tr → List Int
  | leaf s => [s]
  | star a => a.steps ++ [21]
  | bin s a b => a.steps ++ b.steps ++ [s]
def size : Tr → Nat
  | leaf _ => 1
  | star a => a.size + 1
  | bin _ a b => a.size + b.size + 1
/-- the last step -/
def last : Tr → Int
  | leaf s => s
  | star _ => 21
  | bin s _ _ => s
/-- turned backwards -/
def back : Tr → Tr
  | leaf s => leaf s
  | star a => star a.back
  | bin s a b => if s = 19 then bin s b.back a.back else bin s a.back b.back

theorem length_steps (t : Tr) : t.steps.length = t.size := by
  induction t with
  | leaf s => rfl
  | star a ih => simp [steps, size, ih]
  | bin s a b ha hb => simp [steps, size, ha, hb]; omega
theorem size_pos (t : Tr) : 0 < t.size := by cases t <;> simp [size]
theorem steps_ne (t : Tr) : t.steps ≠ [] := by
  intro h
  have := t.length_steps
  have := t.size_pos
  rw [h] at *
  simp at *
  omega
theorem steps_mem {t : Tr} (h : t.ok) : ∀ s ∈ t.steps, 0 ≤ s ∧ s ≤ 21 := by
  induction t with
  | leaf s => intro x hx; simp [steps] at hx; subst hx; simp [ok] at h; omega
  | star a ih => intro x hx; simp [steps] at hx; rcases hx with hx | rfl; exact ih h x hx; omega
  | bin s a b ha hb =>
    intro x hx
    simp [steps] at hx
    obtain ⟨hs, h1, h2⟩ := h
    rcases hx with hx | hx | rfl
    · exact ha h1 x hx
    · exact hb h2 x hx
    · omega

/-- The depth behind a tree's steps. -/
theorem kd_steps {t : Tr} (h : t.ok) (d : Nat) (r : List Int) : kd d (t.steps ++ r) = kd (d + 1) r := by
  induction t generalizing d r with
  | leaf s =>
    obtain ⟨h0, h1⟩ := h
    have e : tk s = 0 := by unfold tk; rw [if_neg (by omega), if_neg (by omega)]
    simp only [steps, List.cons_append, List.nil_append, kd, e]
    rw [if_neg (by omega)]
    rfl
  | star a ih =>
    simp only [steps, List.append_assoc, List.cons_append, List.nil_append]
    rw [ih h]
    simp only [kd, show tk 21 = 1 by decide]
    rw [if_neg (by omega)]
    rfl
  | bin s a b ha hb =>
    obtain ⟨hs, h1, h2⟩ := h
    have e : tk s = 2 := by unfold tk; rw [if_pos hs]
    simp only [steps, List.append_assoc, List.cons_append, List.nil_append]
    rw [ha h1, hb h2]
    simp only [kd, e]
    rw [if_neg (by omega)]
    rfl

theorem katV_steps {t : Tr} (h : t.ok) (hl : t.size ≤ 40) : katV t.steps = true := by
  have h1 := kd_steps h 0 []
  have := t.size_pos
  simp only [List.append_nil, kd] at h1
  simp [katV, h1, length_steps]
  omega
end Tr

/-- one step of the making of trees -/
def pst (st : List Tr) (s : Int) : List Tr :=
  if tk s = 2 then (match st with | b :: a :: r => .bin s a b :: r | _ => st)
  else if tk s = 1 then (match st with | a :: r => .star a :: r | _ => st)
  else .leaf s :: st

theorem pst_steps {t : Tr} (h : t.ok) (st : List Tr) (r : List Int) : (t.steps ++ r).foldl pst st = r.foldl pst (t :: st) := by
  induction t generalizing st r with
  | leaf s =>
    obtain ⟨h0, h1⟩ := h
    have e : tk s = 0 := by unfold tk; rw [if_neg (by omega), if_neg (by omega)]
    simp [Tr.steps, pst, e]
  | star a ih =>
    simp only [Tr.steps, List.append_assoc, List.cons_append, List.nil_append]
    rw [ih h]
    simp [pst, show tk 21 = 1 by decide]
  | bin s a b ha hb =>
    obtain ⟨hs, h1, h2⟩ := h
    have e : tk s = 2 := by unfold tk; rw [if_pos hs]
    simp only [Tr.steps, List.append_assoc, List.cons_append, List.nil_append]
    rw [ha h1, hb h2]
    simp [pst, e]

def rowOf (st : List Tr) : List Int := st.reverse.flatMap Tr.steps
theorem rowOf_cons (t : Tr) (st : List Tr) : rowOf (t :: st) = rowOf st ++ t.steps := by simp [rowOf]

/-- What the steps make of a row of trees. -/
theorem pst_run {d d' : Nat} {e : List Int} {st : List Tr} (hd : st.length = d) (hok : ∀ t ∈ st, t.ok) (h : kd d e = some d') :
    (e.foldl pst st).length = d' ∧ (∀ t ∈ e.foldl pst st, t.ok) ∧ rowOf (e.foldl pst st) = rowOf st ++ e := by
  induction e generalizing d st with
  | nil => simp [kd] at h; subst h; exact ⟨hd, hok, by simp⟩
  | cons s r ih =>
    simp only [kd] at h
    split at h
    · simp at h
    · rename_i hs
      have hs0 : 0 ≤ s ∧ s ≤ 21 ∧ tk s ≤ d := by omega
      simp only [List.foldl_cons]
      have key : (pst st s).length = d - tk s + 1 ∧ (∀ t ∈ pst st s, t.ok) ∧ rowOf (pst st s) = rowOf st ++ [s] := by
        unfold pst
        by_cases h2 : tk s = 2
        · rw [if_pos h2]
          have hss : s = 19 ∨ s = 20 := by
            unfold tk at h2
            split at h2
            · assumption
            · split at h2 <;> omega
          match st, hd, hok with
          | b :: a :: q, hd, hok =>
            refine ⟨by simp at hd ⊢; omega, ?_, ?_⟩
            · intro t ht
              rcases List.mem_cons.1 ht with rfl | ht
              · exact ⟨hss, hok a (by simp), hok b (by simp)⟩
              · exact hok t (by simp [ht])
            · simp [rowOf_cons, Tr.steps]
          | [b], hd, hok => simp at hd; omega
          | [], hd, hok => simp at hd; omega
        · rw [if_neg h2]
          by_cases h1 : tk s = 1
          · rw [if_pos h1]
            have hss : s = 21 := by
              unfold tk at h1
              split at h1
              · omega
              · split at h1
                · assumption
                · omega
            match st, hd, hok with
            | a :: q, hd, hok =>
              refine ⟨by simp at hd ⊢; omega, ?_, ?_⟩
              · intro t ht
                rcases List.mem_cons.1 ht with rfl | ht
                · exact hok a (by simp)
                · exact hok t (by simp [ht])
              · simp [rowOf_cons, Tr.steps, hss]
            | [], hd, hok => simp at hd; omega
          · rw [if_neg h1]
            have h0 : tk s = 0 := by have := tk_le s; omega
            have hss : 0 ≤ s ∧ s ≤ 18 := by
              unfold tk at h0
              split at h0
              · omega
              · split at h0 <;> omega
            refine ⟨by simp; omega, ?_, by simp [rowOf_cons, Tr.steps]⟩
            intro t ht
            rcases List.mem_cons.1 ht with rfl | ht
            · exact hss
            · exact hok t ht
      obtain ⟨r1, r2, r3⟩ := ih key.1 key.2.1 h
      exact ⟨r1, r2, by rw [r3, key.2.2]; simp⟩

theorem katV_iff {e : List Int} : katV e = true ↔ (1 ≤ e.length ∧ e.length ≤ 40) ∧ kd 0 e = some 1 := by simp [katV]

/-- A valid expression is a tree. -/
theorem katV_tree {e : List Int} (h : katV e = true) : ∃ t : Tr, t.ok ∧ t.steps = e ∧ t.size ≤ 40 := by
  obtain ⟨hl, hk⟩ := katV_iff.1 h
  obtain ⟨r1, r2, r3⟩ := pst_run (st := []) rfl (by simp) hk
  match hst : e.foldl pst [], r1 with
  | [t], _ =>
    rw [hst] at r2 r3
    have hs : t.steps = e := by simpa [rowOf] using r3
    exact ⟨t, r2 t (by simp), hs, by rw [← Tr.length_steps, hs]; omega⟩

theorem Tr.back_ok {t : Tr} (h : t.ok) : t.back.ok := by
  induction t with
  | leaf s => exact h
  | star a ih => exact ih h
  | bin s a b ha hb =>
    obtain ⟨hs, h1, h2⟩ := h
    unfold back
    split
    · exact ⟨hs, hb h2, ha h1⟩
    · exact ⟨hs, ha h1, hb h2⟩
theorem Tr.back_size (t : Tr) : t.back.size = t.size := by
  induction t with
  | leaf s => rfl
  | star a ih => simp [back, size, ih]
  | bin s a b ha hb => unfold back; split <;> simp [size, ha, hb]; omega
theorem Tr.back_back (t : Tr) : t.back.back = t := by
  induction t with
  | leaf s => rfl
  | star a ih => simp [back, ih]
  | bin s a b ha hb =>
    by_cases h : s = 19
    · simp only [back, if_pos h, ha, hb]
    · simp only [back, if_neg h, ha, hb]

/-- how many steps are actions -/
def acts (e : List Int) : Nat := e.countP (fun s => decide (16 ≤ s ∧ s ≤ 18))
theorem acts_append (a b : List Int) : acts (a ++ b) = acts a + acts b := by simp [acts]
def kActs (xs : List Int) : Int := if katV xs then (acts xs : Int) else -1
theorem acts_le (xs : List Int) : acts xs ≤ xs.length := List.countP_le_length
theorem acts_yes {xs : List Int} {k : Nat} {v : Int} (hk : k < xs.length) (hv : xs.getD k 0 = v) (h : 16 ≤ v ∧ v ≤ 18) : acts (xs.take (k + 1)) = acts (xs.take k) + 1 := by
  rw [take_at hk, acts_append, hv]; simp [acts, h]
theorem acts_no {xs : List Int} {k : Nat} {v : Int} (hk : k < xs.length) (hv : xs.getD k 0 = v) (h : ¬ (16 ≤ v ∧ v ≤ 18)) : acts (xs.take (k + 1)) = acts (xs.take k) := by
  rw [take_at hk, acts_append, hv]; simp [acts, h]
theorem acts_back (t : Tr) (h : t.ok) : acts t.back.steps = acts t.steps := by
  induction t with
  | leaf s => rfl
  | star a ih => simp only [Tr.back, Tr.steps, acts_append, ih h]
  | bin s a b ha hb =>
    obtain ⟨hs, h1, h2⟩ := h
    unfold Tr.back
    split <;> simp only [Tr.steps, acts_append, ha h1, hb h2]; omega
theorem acts_half (t : Tr) (h : t.ok) : 2 * acts t.steps ≤ t.steps.length + 1 := by
  have key : ∀ t : Tr, t.ok → acts t.steps * 2 ≤ t.size + 1 := by
    intro t
    induction t with
    | leaf s => intro _; simp only [Tr.steps, acts, Tr.size]; have := List.countP_le_length (p := fun s : Int => decide (16 ≤ s ∧ s ≤ 18)) (l := [s]); simp at this ⊢; omega
    | star a ih =>
      intro h
      have h0 : acts [21] = 0 := by decide
      have := ih h
      simp only [Tr.steps, acts_append, Tr.size, h0]; omega
    | bin s a b ha hb =>
      rintro ⟨hs, h1, h2⟩
      have h0 : acts [s] = 0 := by rcases hs with rfl | rfl <;> decide
      have := ha h1
      have := hb h2
      simp only [Tr.steps, acts_append, Tr.size, h0]; omega
  have := key t h
  rw [Tr.length_steps]; omega
end Go.Proofs.YtfhfjkpheloanaaDoor
