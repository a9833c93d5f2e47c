/-
  Plain facts on the reading of expressions: one grammar, as deep as one likes. No program in sight.
-/
import Derived.WalkKit
namespace Go.Proofs.YtfhfjkpheloanaaDoor
set_option linter.unusedVariables false

/-- byte i is there and is c -/
def atB (l : List UInt8) (i : Nat) (c : UInt8) : Bool := decide (i < l.length) && (l.getD i 0 == c)
theorem atB_lt {l : List UInt8} {i : Nat} {c : UInt8} (h : atB l i c = true) : i < l.length := by
  unfold atB at h; simp only [Bool.and_eq_true, decide_eq_true_eq] at h; exact h.1
theorem atB_no {l : List UInt8} {i : Nat} {c : UInt8} (h : l.length ≤ i) : atB l i c = false := by
  unfold atB; rw [decide_eq_false (by omega)]; rfl
/-- asterisks -/
def starsP (l : List UInt8) : Nat → List Int → Nat → List Int × Nat
  | 0, e, i => (e, i)
  | k + 1, e, i => if atB l i 42 then starsP l k (e ++ [21]) (i + 1) else (e, i)
/-- what is in brackets, or a leaf, and the asterisks behind it -/
def smallP (leaf inner : Nat → Option (List Int × Nat)) (l : List UInt8) (i : Nat) : Option (List Int × Nat) :=
  (if atB l i 40 then (inner (i + 1)).bind fun r => if atB l r.2 41 then some (r.1, r.2 + 1) else none else leaf i).map fun r => starsP l l.length r.1 r.2
/-- signs of one kind -/
def chainP (sub : Nat → Option (List Int × Nat)) (sign : UInt8) (op : Int) (l : List UInt8) : Nat → List Int → Nat → Option (List Int × Nat)
  | 0, e, i => some (e, i)
  | k + 1, e, i => if atB l i sign then (sub (i + 1)).bind fun r => chainP sub sign op l k (e ++ r.1 ++ [op]) r.2 else some (e, i)
def seqP (sub : Nat → Option (List Int × Nat)) (sign : UInt8) (op : Int) (l : List UInt8) (i : Nat) : Option (List Int × Nat) :=
  (sub i).bind fun r => chainP sub sign op l l.length r.1 r.2
def prodP (leaf inner : Nat → Option (List Int × Nat)) (l : List UInt8) : Nat → Option (List Int × Nat) := seqP (smallP leaf inner l) 59 19 l
/-- an expression, brackets in it at most d deep -/
def sumP (leaf : Nat → Option (List Int × Nat)) (l : List UInt8) : Nat → Nat → Option (List Int × Nat)
  | 0 => seqP (prodP leaf (fun _ => none) l) 43 20 l
  | d + 1 => seqP (prodP leaf (sumP leaf l d) l) 43 20 l

/-! how far one comes, and how long the list is -/
/-- what is read goes on, within the text, and is not too long -/
def Fwd (l : List UInt8) (sub : Nat → Option (List Int × Nat)) : Prop := ∀ i r, sub i = some r → i < r.2 ∧ r.2 ≤ l.length ∧ 1 ≤ r.1.length ∧ r.1.length ≤ 2 * (r.2 - i)
theorem stars_fwd {l : List UInt8} : ∀ (k : Nat) (e : List Int) (i : Nat), i ≤ l.length → i ≤ (starsP l k e i).2 ∧ (starsP l k e i).2 ≤ l.length ∧ (starsP l k e i).1.length = e.length + ((starsP l k e i).2 - i) := by
  intro k
  induction k with
  | zero => intro e i h; simp [starsP]; exact h
  | succ k ih =>
    intro e i h
    unfold starsP
    split
    · rename_i hb
      have h1 := atB_lt hb
      have := ih (e ++ [21]) (i + 1) (by omega)
      rw [List.length_append] at this
      simp only [List.length_cons, List.length_nil] at this
      omega
    · simp; exact h
theorem small_fwd {l : List UInt8} {leaf inner : Nat → Option (List Int × Nat)} (hl : Fwd l leaf) (hi : Fwd l inner) : Fwd l (smallP leaf inner l) := by
  intro i r h
  unfold smallP at h
  rw [Option.map_eq_some_iff] at h
  obtain ⟨q, hq, rfl⟩ := h
  have key : i < q.2 ∧ q.2 ≤ l.length ∧ 1 ≤ q.1.length ∧ q.1.length ≤ 2 * (q.2 - i) := by
    split at hq
    · rw [Option.bind_eq_some_iff] at hq
      obtain ⟨s, hs, hs2⟩ := hq
      split at hs2
      · rename_i hb
        have := atB_lt hb
        have := hi _ _ hs
        injection hs2 with hs2
        subst hs2
        simp only
        omega
      · cases hs2
    · exact hl _ _ hq
  have := stars_fwd (l := l) l.length q.1 q.2 key.2.1
  omega
theorem chain_fwd {l : List UInt8} {sub : Nat → Option (List Int × Nat)} {sign : UInt8} {op : Int} (hs : Fwd l sub) : ∀ (k : Nat) (e : List Int) (i : Nat) (r : List Int × Nat), i ≤ l.length → chainP sub sign op l k e i = some r →
    i ≤ r.2 ∧ r.2 ≤ l.length ∧ e.length ≤ r.1.length ∧ r.1.length ≤ e.length + 2 * (r.2 - i) := by
  intro k
  induction k with
  | zero => intro e i r h h1; simp only [chainP, Option.some.injEq] at h1; subst h1; simp; omega
  | succ k ih =>
    intro e i r h h1
    unfold chainP at h1
    split at h1
    · rename_i hb
      have := atB_lt hb
      rw [Option.bind_eq_some_iff] at h1
      obtain ⟨q, hq, h2⟩ := h1
      have h3 := hs _ _ hq
      have h4 := ih _ _ _ (by omega) h2
      simp only [List.length_append, List.length_cons, List.length_nil] at h4
      omega
    · injection h1 with h1; subst h1; simp; omega
theorem seq_fwd {l : List UInt8} {sub : Nat → Option (List Int × Nat)} {sign : UInt8} {op : Int} (hs : Fwd l sub) : Fwd l (seqP sub sign op l) := by
  intro i r h
  unfold seqP at h
  rw [Option.bind_eq_some_iff] at h
  obtain ⟨q, hq, h2⟩ := h
  have h3 := hs _ _ hq
  have h4 := chain_fwd hs _ _ _ _ h3.2.1 h2
  omega
theorem none_fwd (l : List UInt8) : Fwd l (fun _ => none) := fun i r h => by cases h
theorem sum_fwd {l : List UInt8} {leaf : Nat → Option (List Int × Nat)} (hl : Fwd l leaf) : ∀ d, Fwd l (sumP leaf l d) := by
  intro d
  induction d with
  | zero => exact seq_fwd (seq_fwd (small_fwd hl (none_fwd l)))
  | succ d ih => exact seq_fwd (seq_fwd (small_fwd hl ih))

/-! more depth reads more, but only longer texts -/
/-- g reads what f reads, and what it reads besides is at least m long -/
def More (m : Nat) (f g : Nat → Option (List Int × Nat)) : Prop := (∀ i r, f i = some r → g i = some r) ∧ ∀ i r, g i = some r → f i = some r ∨ i + m ≤ r.2
theorem small_more {l : List UInt8} {leaf f g : Nat → Option (List Int × Nat)} {m : Nat} (hl : Fwd l leaf) (hg : Fwd l g) (h : More m f g) : More (m + 2) (smallP leaf f l) (smallP leaf g l) := by
  constructor
  · intro i r h1
    unfold smallP at h1 ⊢
    split at h1
    · rename_i hb
      rw [if_pos hb]
      rw [Option.map_eq_some_iff] at h1 ⊢
      obtain ⟨q, hq, hr⟩ := h1
      rw [Option.bind_eq_some_iff] at hq
      obtain ⟨s, hs, hs2⟩ := hq
      exact ⟨q, by rw [h.1 _ _ hs]; exact hs2, hr⟩
    · rename_i hb
      rw [if_neg hb]; exact h1
  · intro i r h1
    unfold smallP at h1
    split at h1
    · rename_i hb
      rw [Option.map_eq_some_iff] at h1
      obtain ⟨q, hq, hr⟩ := h1
      rw [Option.bind_eq_some_iff] at hq
      obtain ⟨s, hs, hs2⟩ := hq
      rcases h.2 _ _ hs with h2 | h2
      · left
        unfold smallP
        rw [if_pos hb, h2]
        simp only [Option.bind_some, hs2, Option.map_some, hr]
      · right
        split at hs2
        · rename_i hb2
          have := atB_lt hb2
          injection hs2 with hs2
          subst hs2
          have := stars_fwd (l := l) l.length s.1 (s.2 + 1) (by omega)
          subst hr
          simp only
          omega
        · cases hs2
    · rename_i hb
      left
      unfold smallP
      rw [if_neg hb]; exact h1
theorem chain_more {l : List UInt8} {f g : Nat → Option (List Int × Nat)} {sign : UInt8} {op : Int} {m : Nat} (hf : Fwd l f) (hg : Fwd l g) (h : More m f g) : ∀ (k : Nat) (e : List Int) (i : Nat), i ≤ l.length →
    (∀ r, chainP f sign op l k e i = some r → chainP g sign op l k e i = some r) ∧ ∀ r, chainP g sign op l k e i = some r → chainP f sign op l k e i = some r ∨ i + m ≤ r.2 := by
  intro k
  induction k with
  | zero => intro e i hi; exact ⟨fun r h => h, fun r h => .inl h⟩
  | succ k ih =>
    intro e i hi
    constructor
    · intro r h1
      unfold chainP at h1 ⊢
      split at h1
      · rename_i hb
        rw [if_pos hb]
        rw [Option.bind_eq_some_iff] at h1 ⊢
        obtain ⟨q, hq, h2⟩ := h1
        have := hf _ _ hq
        exact ⟨q, h.1 _ _ hq, (ih _ _ (by omega)).1 _ h2⟩
      · rename_i hb
        rw [if_neg hb]; exact h1
    · intro r h1
      unfold chainP at h1
      split at h1
      · rename_i hb
        rw [Option.bind_eq_some_iff] at h1
        obtain ⟨q, hq, h2⟩ := h1
        have h3 := hg _ _ hq
        have h5 := chain_fwd hg _ _ _ _ (by omega) h2
        rcases h.2 _ _ hq with h4 | h4
        · rcases (ih _ _ (by omega)).2 _ h2 with h6 | h6
          · left
            unfold chainP
            rw [if_pos hb, h4]
            exact h6
          · right; omega
        · right; omega
      · rename_i hb
        left
        unfold chainP
        rw [if_neg hb]; exact h1
theorem seq_more {l : List UInt8} {f g : Nat → Option (List Int × Nat)} {sign : UInt8} {op : Int} {m : Nat} (hf : Fwd l f) (hg : Fwd l g) (h : More m f g) : More m (seqP f sign op l) (seqP g sign op l) := by
  constructor
  · intro i r h1
    unfold seqP at h1 ⊢
    rw [Option.bind_eq_some_iff] at h1 ⊢
    obtain ⟨q, hq, h2⟩ := h1
    have h3 := hf _ _ hq
    exact ⟨q, h.1 _ _ hq, (chain_more hf hg h _ _ _ h3.2.1).1 _ h2⟩
  · intro i r h1
    unfold seqP at h1
    rw [Option.bind_eq_some_iff] at h1
    obtain ⟨q, hq, h2⟩ := h1
    have h3 := hg _ _ hq
    have h5 := chain_fwd hg _ _ _ _ h3.2.1 h2
    rcases h.2 _ _ hq with h4 | h4
    · rcases (chain_more hf hg h _ _ _ h3.2.1).2 _ h2 with h6 | h6
      · left
        unfold seqP
        rw [h4]; exact h6
      · right; omega
    · right; omega
theorem sum_more {l : List UInt8} {leaf : Nat → Option (List Int × Nat)} (hl : Fwd l leaf) : ∀ d, More (2 * (d + 1) + 1) (sumP leaf l d) (sumP leaf l (d + 1)) := by
  intro d
  induction d with
  | zero =>
    have h0 : More 1 (fun _ => none) (sumP leaf l 0) := ⟨fun i r h => (by cases h), fun i r h => .inr (by have := sum_fwd hl 0 _ _ h; omega)⟩
    have h1 := small_more hl (sum_fwd hl 0) h0
    exact seq_more (seq_fwd (small_fwd hl (none_fwd l))) (seq_fwd (small_fwd hl (sum_fwd hl 0))) (seq_more (small_fwd hl (none_fwd l)) (small_fwd hl (sum_fwd hl 0)) h1)
  | succ d ih =>
    have h1 := small_more hl (sum_fwd hl (d + 1)) ih
    exact seq_more (seq_fwd (small_fwd hl (sum_fwd hl d))) (seq_fwd (small_fwd hl (sum_fwd hl (d + 1)))) (seq_more (small_fwd hl (sum_fwd hl d)) (small_fwd hl (sum_fwd hl (d + 1))) h1)
/-- A text of at most 199 bytes needs no more than 99 brackets in one another. -/
theorem sum_deep {l : List UInt8} {leaf : Nat → Option (List Int × Nat)} (hl : Fwd l leaf) (h : l.length ≤ 199) : ∀ (k i : Nat), sumP leaf l (99 + k) i = sumP leaf l 99 i := by
  intro k
  induction k with
  | zero => intro i; rfl
  | succ k ih =>
    intro i
    rw [← ih i]
    have hm := sum_more hl (99 + k)
    cases h1 : sumP leaf l (99 + (k + 1)) i with
    | none =>
      cases h2 : sumP leaf l (99 + k) i with
      | none => rfl
      | some r => have := hm.1 _ _ h2; rw [show 99 + k + 1 = 99 + (k + 1) by omega] at this; rw [this] at h1; cases h1
    | some r =>
      rcases hm.2 i r (by rw [← h1]; rfl) with h2 | h2
      · exact h2.symm
      · have := sum_fwd hl _ _ _ h1
        omega
end Go.Proofs.YtfhfjkpheloanaaDoor
