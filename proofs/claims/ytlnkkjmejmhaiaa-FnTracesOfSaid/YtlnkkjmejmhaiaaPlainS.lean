/-
  Plain facts on lists of traces: the order, insertion, joining, all short traces of an expression. No program in sight.
-/
import Derived.Test.YtlnkkjmejmhaiaaPlainR
import Derived.Test.YtlnkkjmejmhaiaaPlainV
namespace Go.Proofs.Ytlnkkjmejmhaiaa
set_option linter.unusedVariables false

/-- one list comes before another one -/
def lexB : List Int → List Int → Bool
  | [], [] => false
  | [], _ :: _ => true
  | _ :: _, [] => false
  | a :: r, b :: q => if a = b then lexB r q else decide (a < b)
theorem lex_irrefl (a : List Int) : lexB a a = false := by
  induction a with
  | nil => rfl
  | cons x r ih => simp [lexB, ih]
theorem lex_trans : ∀ {a b c : List Int}, lexB a b = true → lexB b c = true → lexB a c = true := by
  intro a
  induction a with
  | nil =>
    intro b c h1 h2
    cases c with
    | nil => cases b <;> simp [lexB] at h1 h2
    | cons z q => rfl
  | cons x r ih =>
    intro b c h1 h2
    cases b with
    | nil => simp [lexB] at h1
    | cons y p =>
      cases c with
      | nil => simp [lexB] at h2
      | cons z q =>
        simp only [lexB] at h1 h2 ⊢
        by_cases e1 : x = y
        · subst e1
          rw [if_pos rfl] at h1
          by_cases e2 : x = z
          · subst e2
            rw [if_pos rfl] at h2 ⊢
            exact ih h1 h2
          · rw [if_neg e2] at h2 ⊢
            exact h2
        · rw [if_neg e1] at h1
          simp only [decide_eq_true_eq] at h1
          by_cases e2 : y = z
          · subst e2
            rw [if_neg e1]; simpa using h1
          · rw [if_neg e2] at h2
            simp only [decide_eq_true_eq] at h2
            rw [if_neg (by omega)]
            simp; omega
theorem lex_tri : ∀ {a b : List Int}, lexB a b = false → a ≠ b → lexB b a = true := by
  intro a
  induction a with
  | nil =>
    intro b h1 h2
    cases b with
    | nil => exact absurd rfl h2
    | cons y p => simp [lexB] at h1
  | cons x r ih =>
    intro b h1 h2
    cases b with
    | nil => rfl
    | cons y p =>
      simp only [lexB] at h1 ⊢
      by_cases e : x = y
      · subst e
        rw [if_pos rfl] at h1 ⊢
        exact ih h1 (fun e => h2 (by rw [e]))
      · rw [if_neg e] at h1
        rw [if_neg (fun h => e h.symm)]
        simp at h1 ⊢; omega

/-- in order -/
def Srt (l : List (List Int)) : Prop := l.Pairwise fun a b => lexB a b = true
/-- a list with one more in its place -/
def addL : List (List Int) → List Int → List (List Int)
  | [], x => [x]
  | y :: r, x => if lexB y x then y :: addL r x else if y = x then y :: r else x :: y :: r
theorem mem_addL {l : List (List Int)} {x z : List Int} : z ∈ addL l x ↔ z = x ∨ z ∈ l := by
  induction l with
  | nil => simp [addL]
  | cons y r ih =>
    unfold addL
    split
    · simp only [List.mem_cons, ih]
      constructor
      · rintro (h | h | h)
        · exact .inr (.inl h)
        · exact .inl h
        · exact .inr (.inr h)
      · rintro (h | h | h)
        · exact .inr (.inl h)
        · exact .inl h
        · exact .inr (.inr h)
    · split
      · rename_i e
        subst e
        simp
      · simp
theorem srt_addL {l : List (List Int)} (h : Srt l) (x : List Int) : Srt (addL l x) := by
  induction l with
  | nil => simp [addL, Srt]
  | cons y r ih =>
    obtain ⟨h1, h2⟩ := List.pairwise_cons.1 h
    unfold addL
    split
    · rename_i hy
      refine List.pairwise_cons.2 ⟨fun z hz => ?_, ih h2⟩
      rcases mem_addL.1 hz with rfl | hz
      · exact hy
      · exact h1 z hz
    · rename_i hy
      split
      · exact h
      · rename_i e
        have hxy := lex_tri (by simpa using hy) e
        refine List.pairwise_cons.2 ⟨fun z hz => ?_, h⟩
        rcases List.mem_cons.1 hz with rfl | hz
        · exact hxy
        · exact lex_trans hxy (h1 z hz)
/-- two lists in order with the same members are one -/
theorem srt_eq : ∀ {l m : List (List Int)}, Srt l → Srt m → (∀ x, x ∈ l ↔ x ∈ m) → l = m := by
  intro l
  induction l with
  | nil =>
    intro m _ _ h
    cases m with
    | nil => rfl
    | cons y q => have := (h y).2 (by simp); simp at this
  | cons x r ih =>
    intro m h1 h2 h
    cases m with
    | nil => have := (h x).1 (by simp); simp at this
    | cons y q =>
      obtain ⟨a1, a2⟩ := List.pairwise_cons.1 h1
      obtain ⟨b1, b2⟩ := List.pairwise_cons.1 h2
      have exy : x = y := by
        rcases List.mem_cons.1 ((h x).1 (by simp)) with e | e
        · exact e
        · rcases List.mem_cons.1 ((h y).2 (by simp)) with e' | e'
          · exact e'.symm
          · have c1 := a1 y e'
            have c2 := b1 x e
            have := lex_trans c1 c2
            rw [lex_irrefl] at this; cases this
      subst exy
      congr 1
      refine ih a2 b2 fun z => ?_
      constructor
      · intro hz
        rcases List.mem_cons.1 ((h z).1 (by simp [hz])) with e | e
        · subst e
          have := a1 z hz
          rw [lex_irrefl] at this; cases this
        · exact e
      · intro hz
        rcases List.mem_cons.1 ((h z).2 (by simp [hz])) with e | e
        · subst e
          have := b1 z hz
          rw [lex_irrefl] at this; cases this
        · exact e
/-- several more -/
def addsL (l m : List (List Int)) : List (List Int) := m.foldl addL l
theorem mem_addsL {l m : List (List Int)} {z : List Int} : z ∈ addsL l m ↔ z ∈ l ∨ z ∈ m := by
  induction m generalizing l with
  | nil => simp [addsL]
  | cons x r ih =>
    have : addsL l (x :: r) = addsL (addL l x) r := rfl
    rw [this, ih, mem_addL, List.mem_cons]
    constructor
    · rintro ((h | h) | h)
      · exact .inr (.inl h)
      · exact .inl h
      · exact .inr (.inr h)
    · rintro (h | h | h)
      · exact .inl (.inr h)
      · exact .inl (.inl h)
      · exact .inr h
theorem srt_addsL {l : List (List Int)} (h : Srt l) (m : List (List Int)) : Srt (addsL l m) := by
  induction m generalizing l with
  | nil => exact h
  | cons x r ih => exact ih (srt_addL h x)
theorem addsL_snoc (l m : List (List Int)) (x : List Int) : addsL l (m ++ [x]) = addL (addsL l m) x := by simp [addsL]

/-- a join that is short is put in its place -/
def fuse1 (most : Nat) (out : List (List Int)) (p q : List Int) : List (List Int) :=
  if (tJoin p q).2 && decide ((tJoin p q).1.length ≤ 2 * most + 1) then addL out (tJoin p q).1 else out
/-- all joins that are short -/
def fuseL (a b : List (List Int)) (most : Nat) : List (List Int) := a.foldl (fun out p => b.foldl (fun out q => fuse1 most out p q) out) []
theorem mem_fuse1 {most : Nat} {out : List (List Int)} {p q x : List Int} : x ∈ fuse1 most out p q ↔ x ∈ out ∨ (tJoin p q = (x, true) ∧ x.length ≤ 2 * most + 1) := by
  unfold fuse1
  split
  · rename_i h
    simp only [Bool.and_eq_true, decide_eq_true_eq] at h
    rw [mem_addL]
    constructor
    · rintro (rfl | h1)
      · exact .inr ⟨Prod.ext rfl h.1, h.2⟩
      · exact .inl h1
    · rintro (h1 | ⟨h1, h2⟩)
      · exact .inr h1
      · exact .inl (by rw [h1])
  · rename_i h
    constructor
    · exact .inl
    · rintro (h1 | ⟨h1, h2⟩)
      · exact h1
      · exfalso; apply h; rw [h1]; simpa using h2
theorem srt_fuse1 {most : Nat} {out : List (List Int)} (h : Srt out) (p q : List Int) : Srt (fuse1 most out p q) := by
  unfold fuse1; split
  · exact srt_addL h _
  · exact h
theorem mem_fuse2 {most : Nat} {b : List (List Int)} {p x : List Int} : ∀ {out : List (List Int)}, x ∈ b.foldl (fun out q => fuse1 most out p q) out ↔ x ∈ out ∨ ∃ q ∈ b, tJoin p q = (x, true) ∧ x.length ≤ 2 * most + 1 := by
  induction b with
  | nil => intro out; simp
  | cons y r ih =>
    intro out
    rw [List.foldl_cons, ih, mem_fuse1]
    constructor
    · rintro ((h | h) | ⟨q, hq, h⟩)
      · exact .inl h
      · exact .inr ⟨y, by simp, h⟩
      · exact .inr ⟨q, by simp [hq], h⟩
    · rintro (h | ⟨q, hq, h⟩)
      · exact .inl (.inl h)
      · rcases List.mem_cons.1 hq with rfl | hq
        · exact .inl (.inr h)
        · exact .inr ⟨q, hq, h⟩
theorem srt_fuse2 {most : Nat} {b : List (List Int)} {p : List Int} : ∀ {out : List (List Int)}, Srt out → Srt (b.foldl (fun out q => fuse1 most out p q) out) := by
  induction b with
  | nil => intro out h; exact h
  | cons y r ih => intro out h; exact ih (srt_fuse1 h _ _)
theorem mem_fuse3 {most : Nat} {a b : List (List Int)} {x : List Int} : ∀ {out : List (List Int)}, x ∈ a.foldl (fun out p => b.foldl (fun out q => fuse1 most out p q) out) out ↔ x ∈ out ∨ ∃ p ∈ a, ∃ q ∈ b, tJoin p q = (x, true) ∧ x.length ≤ 2 * most + 1 := by
  induction a with
  | nil => intro out; simp
  | cons y r ih =>
    intro out
    rw [List.foldl_cons, ih, mem_fuse2]
    constructor
    · rintro ((h | h) | ⟨p, hp, h⟩)
      · exact .inl h
      · exact .inr ⟨y, by simp, h⟩
      · exact .inr ⟨p, by simp [hp], h⟩
    · rintro (h | ⟨p, hp, h⟩)
      · exact .inl (.inl h)
      · rcases List.mem_cons.1 hp with rfl | hp
        · exact .inl (.inr h)
        · exact .inr ⟨p, hp, h⟩
theorem srt_fuse3 {most : Nat} {a b : List (List Int)} : ∀ {out : List (List Int)}, Srt out → Srt (a.foldl (fun out p => b.foldl (fun out q => fuse1 most out p q) out) out) := by
  induction a with
  | nil => intro out h; exact h
  | cons y r ih => intro out h; exact ih (srt_fuse2 h)
theorem mem_fuseL {most : Nat} {a b : List (List Int)} {x : List Int} : x ∈ fuseL a b most ↔ ∃ p ∈ a, ∃ q ∈ b, tJoin p q = (x, true) ∧ x.length ≤ 2 * most + 1 := by
  unfold fuseL; rw [mem_fuse3]; simp
theorem srt_fuseL (most : Nat) (a b : List (List Int)) : Srt (fuseL a b most) := srt_fuse3 (by simp [Srt])

/-! traces are cut -/
/-- a valid trace of n actions -/
def VTr (x : List Int) (n : Nat) : Prop := trV x = true ∧ x.length = 2 * n + 1
theorem trAt_take {x : List Int} {k i : Nat} (hi : i < k) : trAt (x.take k) i = trAt x i := by
  unfold trAt; simp [List.getD_eq_getElem?_getD, hi]
theorem trAt_drop {x : List Int} {k i : Nat} (hk : k % 2 = 0) : trAt (x.drop k) i = trAt x (k + i) := by
  unfold trAt; simp only [List.getD_eq_getElem?_getD, List.getElem?_drop]
  rw [show (k + i) % 2 = i % 2 by omega]
theorem VTr.take {x : List Int} {n i : Nat} (h : VTr x n) (hi : i ≤ n) : VTr (x.take (2 * i + 1)) i := by
  obtain ⟨h1, h2⟩ := h
  obtain ⟨h3, h4⟩ := trV_iff.1 h1
  have hl : (x.take (2 * i + 1)).length = 2 * i + 1 := by rw [List.length_take, h2]; omega
  refine ⟨trV_iff.2 ⟨by omega, fun j hj => ?_⟩, hl⟩
  rw [trAt_take (by omega)]; exact h4 j (by omega)
theorem VTr.drop {x : List Int} {n i : Nat} (h : VTr x n) (hi : i ≤ n) : VTr (x.drop (2 * i)) (n - i) := by
  obtain ⟨h1, h2⟩ := h
  obtain ⟨h3, h4⟩ := trV_iff.1 h1
  have hl : (x.drop (2 * i)).length = 2 * (n - i) + 1 := by rw [List.length_drop, h2]; omega
  refine ⟨trV_iff.2 ⟨by omega, fun j hj => ?_⟩, hl⟩
  rw [trAt_drop (by omega)]; exact h4 _ (by omega)
theorem VTr.join {x : List Int} {n i : Nat} (h : VTr x n) (hi : i ≤ n) : tJoin (x.take (2 * i + 1)) (x.drop (2 * i)) = (x, true) := by
  have h1 := h.take hi
  have h2 := h.drop hi
  have e : x.take (2 * i + 1) ++ (x.drop (2 * i)).drop 1 = x := by rw [List.drop_drop]; exact List.take_append_drop _ _
  have el : (x.take (2 * i + 1)).getD ((x.take (2 * i + 1)).length - 1) 0 = (x.drop (2 * i)).getD 0 0 := by
    rw [h1.2]
    simp [List.getD_eq_getElem?_getD]
  unfold tJoin
  rw [e, h1.1, h2.1, h.1, el]
  simp
theorem join_cut {p q x : List Int} (h : tJoin p q = (x, true)) : ∃ n i, i ≤ n ∧ VTr x n ∧ VTr p i ∧ VTr q (n - i) ∧ p = x.take (2 * i + 1) ∧ q = x.drop (2 * i) := by
  obtain ⟨hp, hq, he, hv, hx⟩ := tJoin_ok (a := p) (b := q) (by rw [h])
  rw [h] at hx
  simp only at hx
  rw [← hx] at hv
  have p1 := (trV_iff.1 hp).1
  have q1 := (trV_iff.1 hq).1
  have lx : x.length = p.length + (q.length - 1) := by rw [hx]; simp
  refine ⟨p.length / 2 + q.length / 2, p.length / 2, by omega, ⟨hv, by omega⟩, ⟨hp, by omega⟩, ⟨hq, by omega⟩, ?_, ?_⟩
  · rw [show 2 * (p.length / 2) + 1 = p.length by omega, hx, List.take_left']
    rfl
  · match q, q1 with
    | y :: r, q1 =>
      rw [hx]
      have : p = p.take (p.length - 1) ++ [y] := by
        have e2 : p.getD (p.length - 1) 0 = y := by rw [he]; rfl
        have := List.take_append_drop (p.length - 1) p
        rw [List.drop_eq_getElem_cons (by omega), List.drop_eq_nil_of_le (by omega)] at this
        rw [List.getD_eq_getElem?_getD, List.getElem?_eq_getElem (by omega)] at e2
        simp at e2
        rw [e2] at this
        exact this.symm
      have hl : (p.take (p.length - 1)).length = 2 * (p.length / 2) := by rw [List.length_take]; omega
      rw [← hl]
      conv => rhs; rw [this]
      rw [List.append_assoc]
      simp

/-! all short traces of an expression -/
def nowL (one : List (List Int)) (most : Nat) : Nat → List (List Int)
  | 0 => [[0], [1], [2], [3]]
  | k + 1 => fuseL (nowL one most k) one most
def starL (one : List (List Int)) (most : Nat) : Nat → List (List Int)
  | 0 => []
  | k + 1 => addsL (starL one most k) (nowL one most k)
def leafA (s : Int) : Nat → List (List Int)
  | 0 => []
  | k + 1 => if bitI s k = 1 then leafA s k ++ [[(k : Int)]] else leafA s k
def leafB (s : Int) (k : Nat) : List (List Int) := (List.range k).map fun i : Nat => [((i : Int) / 4), s, ((i : Int) % 4)]
def listL (most : Nat) : Tr → List (List Int)
  | .leaf s => if s ≤ 15 then leafA s 4 else if most = 0 then [] else leafB s 16
  | .bin s a b => if s = 20 then addsL (listL most a) (listL most b) else fuseL (listL most a) (listL most b) most
  | .star a => starL (listL most a) most (most + 1)
/-- a valid trace with at most so many actions -/
def Short (most : Nat) (x : List Int) : Prop := ∃ n, n ≤ most ∧ VTr x n
/-- it is one of the expression -/
def isIn (t : Tr) (x : List Int) : Bool := inB x t 0 (x.length / 2)
theorem isIn_n {t : Tr} {x : List Int} {n : Nat} (h : VTr x n) : isIn t x = inB x t 0 n := by
  unfold isIn; rw [h.2, show (2 * n + 1) / 2 = n by omega]

theorem mem_leafA {s : Int} {x : List Int} : ∀ {k : Nat}, x ∈ leafA s k ↔ ∃ i : Nat, i < k ∧ bitI s i = 1 ∧ x = [(i : Int)] := by
  intro k
  induction k with
  | zero => simp [leafA]
  | succ k ih =>
    unfold leafA
    split
    · rename_i h
      rw [List.mem_append, ih, List.mem_singleton]
      constructor
      · rintro (⟨i, h1, h2⟩ | h1)
        · exact ⟨i, by omega, h2⟩
        · exact ⟨k, by omega, h, h1⟩
      · rintro ⟨i, h1, h2, h3⟩
        by_cases e : i = k
        · subst e; exact .inr h3
        · exact .inl ⟨i, by omega, h2, h3⟩
    · rename_i h
      rw [ih]
      constructor
      · rintro ⟨i, h1, h2⟩; exact ⟨i, by omega, h2⟩
      · rintro ⟨i, h1, h2, h3⟩
        exact ⟨i, by have : i ≠ k := fun e => h (by rw [← e]; exact h2); omega, h2, h3⟩
theorem vtr_one {x : List Int} : VTr x 0 ↔ ∃ a : Int, 0 ≤ a ∧ a ≤ 3 ∧ x = [a] := by
  constructor
  · rintro ⟨h1, h2⟩
    match x, h2 with
    | [a], _ =>
      have := (trV_iff.1 h1).2 0 (by simp)
      simp [trAt, inR] at this
      exact ⟨a, this.1, this.2, rfl⟩
  · rintro ⟨a, h0, h1, rfl⟩
    refine ⟨trV_iff.2 ⟨by simp, fun i hi => ?_⟩, rfl⟩
    obtain rfl : i = 0 := by simp at hi; omega
    simp [trAt, inR, h0, h1]
theorem vtr_two {x : List Int} : VTr x 1 ↔ ∃ a b c : Int, (0 ≤ a ∧ a ≤ 3) ∧ (16 ≤ b ∧ b ≤ 18) ∧ (0 ≤ c ∧ c ≤ 3) ∧ x = [a, b, c] := by
  constructor
  · rintro ⟨h1, h2⟩
    match x, h2 with
    | [a, b, c], _ =>
      have h3 := (trV_iff.1 h1).2 0 (by simp)
      have h4 := (trV_iff.1 h1).2 1 (by simp)
      have h5 := (trV_iff.1 h1).2 2 (by simp)
      simp [trAt, inR] at h3 h4 h5
      exact ⟨a, b, c, h3, h4, h5, rfl⟩
  · rintro ⟨a, b, c, h3, h4, h5, rfl⟩
    refine ⟨trV_iff.2 ⟨by simp, fun i hi => ?_⟩, rfl⟩
    have : i = 0 ∨ i = 1 ∨ i = 2 := by simp at hi; omega
    rcases this with rfl | rfl | rfl <;> simp [trAt, inR] <;> omega
theorem vtr_five {x : List Int} : VTr x 2 ↔ ∃ a b c d e : Int, (0 ≤ a ∧ a ≤ 3) ∧ (16 ≤ b ∧ b ≤ 18) ∧ (0 ≤ c ∧ c ≤ 3) ∧ (16 ≤ d ∧ d ≤ 18) ∧ (0 ≤ e ∧ e ≤ 3) ∧ x = [a, b, c, d, e] := by
  constructor
  · rintro ⟨h1, h2⟩
    match x, h2 with
    | [a, b, c, d, e], _ =>
      have h3 := (trV_iff.1 h1).2 0 (by simp)
      have h4 := (trV_iff.1 h1).2 1 (by simp)
      have h5 := (trV_iff.1 h1).2 2 (by simp)
      have h6 := (trV_iff.1 h1).2 3 (by simp)
      have h7 := (trV_iff.1 h1).2 4 (by simp)
      simp [trAt, inR] at h3 h4 h5 h6 h7
      exact ⟨a, b, c, d, e, h3, h4, h5, h6, h7, rfl⟩
  · rintro ⟨a, b, c, d, e, h3, h4, h5, h6, h7, rfl⟩
    refine ⟨trV_iff.2 ⟨by simp, fun i hi => ?_⟩, rfl⟩
    have : i = 0 ∨ i = 1 ∨ i = 2 ∨ i = 3 ∨ i = 4 := by simp at hi; omega
    rcases this with rfl | rfl | rfl | rfl | rfl <;> simp [trAt, inR] <;> omega

theorem mem_leaf {most : Nat} {s : Int} (h0 : 0 ≤ s) (h18 : s ≤ 18) {x : List Int} : x ∈ listL most (.leaf s) ↔ Short most x ∧ isIn (.leaf s) x = true := by
  unfold listL
  by_cases h15 : s ≤ 15
  · rw [if_pos h15, mem_leafA]
    constructor
    · rintro ⟨i, hi, hb, rfl⟩
      have hv : VTr [(i : Int)] 0 := vtr_one.2 ⟨_, by omega, by omega, rfl⟩
      refine ⟨⟨0, by omega, hv⟩, ?_⟩
      rw [isIn_n hv]
      simp [inB, h15, atomAt, hb]
    · rintro ⟨⟨n, hn, hv⟩, h⟩
      rw [isIn_n hv] at h
      simp only [inB, if_pos h15, Bool.and_eq_true, beq_iff_eq] at h
      obtain ⟨rfl, hb⟩ := h
      obtain ⟨a, ha0, ha3, rfl⟩ := vtr_one.1 hv
      obtain ⟨i, rfl⟩ := Int.eq_ofNat_of_zero_le ha0
      exact ⟨i, by omega, by simpa [atomAt] using hb, rfl⟩
  · rw [if_neg h15]
    by_cases hm : most = 0
    · subst hm
      rw [if_pos rfl]
      constructor
      · intro h; simp at h
      · rintro ⟨⟨n, hn, hv⟩, h⟩
        obtain rfl : n = 0 := by omega
        rw [isIn_n hv] at h
        simp [inB, h15] at h
    · rw [if_neg hm]
      unfold leafB
      rw [List.mem_map]
      constructor
      · rintro ⟨i, hi, rfl⟩
        rw [List.mem_range] at hi
        have hv : VTr [((i : Int) / 4), s, ((i : Int) % 4)] 1 := vtr_two.2 ⟨_, _, _, by omega, by omega, by omega, rfl⟩
        refine ⟨⟨1, by omega, hv⟩, ?_⟩
        rw [isIn_n hv]
        simp [inB, h15, actAt]
      · rintro ⟨⟨n, hn, hv⟩, h⟩
        rw [isIn_n hv] at h
        simp only [inB, if_neg h15, Bool.and_eq_true, beq_iff_eq] at h
        obtain ⟨rfl, hb⟩ := h
        obtain ⟨a, b, c, ha, hb2, hc, rfl⟩ := vtr_two.1 hv
        simp [actAt] at hb
        subst hb
        refine ⟨(4 * a + c).toNat, by rw [List.mem_range]; omega, ?_⟩
        have e1 : ((4 * a + c).toNat : Int) = 4 * a + c := by omega
        rw [e1, show (4 * a + c) / 4 = a by omega, show (4 * a + c) % 4 = c by omega]

theorem mem_fuse {most : Nat} (hm : most ≤ 20) {A B : List (List Int)} {P Q : List Int → Bool}
    (hA : ∀ x, x ∈ A ↔ Short most x ∧ P x = true) (hB : ∀ x, x ∈ B ↔ Short most x ∧ Q x = true) {x : List Int} :
    x ∈ fuseL A B most ↔ ∃ n, n ≤ most ∧ VTr x n ∧ ∃ i, i ≤ n ∧ P (x.take (2 * i + 1)) = true ∧ Q (x.drop (2 * i)) = true := by
  rw [mem_fuseL]
  constructor
  · rintro ⟨p, hp, q, hq, hj, hl⟩
    obtain ⟨n, i, hi, hx, hp1, hq1, rfl, rfl⟩ := join_cut hj
    exact ⟨n, by have := hx.2; omega, hx, i, hi, ((hA _).1 hp).2, ((hB _).1 hq).2⟩
  · rintro ⟨n, hn, hx, i, hi, h1, h2⟩
    refine ⟨_, (hA _).2 ⟨⟨i, by omega, hx.take hi⟩, h1⟩, _, (hB _).2 ⟨⟨n - i, by omega, hx.drop hi⟩, h2⟩, hx.join hi, by rw [hx.2]; omega⟩

theorem iter_unsnoc {R : Nat → Nat → Bool} : ∀ {k f t : Nat}, iter R (k + 1) f t → ∃ m, iter R k f m ∧ m < t ∧ R m t = true := by
  intro k
  induction k with
  | zero => rintro f t ⟨m, h1, h2, h3⟩; cases h3; exact ⟨f, rfl, h1, h2⟩
  | succ k ih =>
    rintro f t ⟨m, h1, h2, h3⟩
    obtain ⟨q, h4, h5, h6⟩ := ih h3
    exact ⟨q, ⟨m, h1, h2, h4⟩, h5, h6⟩
theorem iter_len {R : Nat → Nat → Bool} : ∀ {k f t : Nat}, iter R k f t → f + k ≤ t := by
  intro k
  induction k with
  | zero => intro f t h; have : f = t := h; omega
  | succ k ih => rintro f t ⟨m, h1, h2, h3⟩; have := ih h3; omega
theorem iter_congr {R S : Nat → Nat → Bool} : ∀ {k f t : Nat}, (∀ a b, f ≤ a → a ≤ b → b ≤ t → R a b = S a b) → iter R k f t → iter S k f t := by
  intro k
  induction k with
  | zero => intro f t _ h; exact h
  | succ k ih =>
    rintro f t h ⟨m, h1, h2, h3⟩
    have := iter_le h3
    exact ⟨m, h1, by rw [← h f m (by omega) (by omega) (by omega)]; exact h2, ih (fun a b h4 h5 h6 => h a b (by omega) h5 h6) h3⟩

/-- what is in the lists of a star -/
theorem now_sound {most : Nat} (hm : most ≤ 20) {a : Tr} {A : List (List Int)} (hA : ∀ x, x ∈ A ↔ Short most x ∧ isIn a x = true) :
    ∀ {k : Nat} {x : List Int}, x ∈ nowL A most k → Short most x ∧ isIn (.star a) x = true := by
  intro k
  induction k with
  | zero =>
    intro x hx
    have : ∃ c : Int, 0 ≤ c ∧ c ≤ 3 ∧ x = [c] := by
      simp [nowL] at hx
      rcases hx with rfl | rfl | rfl | rfl
      · exact ⟨0, by omega, by omega, rfl⟩
      · exact ⟨1, by omega, by omega, rfl⟩
      · exact ⟨2, by omega, by omega, rfl⟩
      · exact ⟨3, by omega, by omega, rfl⟩
    have hv := vtr_one.2 this
    exact ⟨⟨0, by omega, hv⟩, by rw [isIn_n hv]; exact star_refl _ _ _⟩
  | succ k ih =>
    intro x hx
    obtain ⟨p, hp, q, hq, hj, hl⟩ := mem_fuseL.1 hx
    obtain ⟨n, i, hi, hv, hp1, hq1, rfl, rfl⟩ := join_cut hj
    refine ⟨⟨n, by have := hv.2; omega, hv⟩, ?_⟩
    have h1 := (ih hp).2
    have h2 := ((hA _).1 hq).2
    rw [isIn_n hp1, inB_take _ (by omega) (by omega)] at h1
    rw [isIn_n hq1, inB_drop _ (by omega), Nat.add_zero, show i + (n - i) = n by omega] at h2
    rw [isIn_n hv]
    by_cases e : i = n
    · rw [← e]; exact h1
    · obtain ⟨j, hj⟩ := (star_iter x a (by omega)).1 h1
      exact (star_iter x a (by omega)).2 ⟨j + 1, iter_snoc hj (by omega) h2⟩
theorem now_whole {most : Nat} (hm : most ≤ 20) {a : Tr} {A : List (List Int)} (hA : ∀ x, x ∈ A ↔ Short most x ∧ isIn a x = true) :
    ∀ {k n : Nat} {x : List Int}, n ≤ most → VTr x n → iter (inB x a) k 0 n → x ∈ nowL A most k := by
  intro k
  induction k with
  | zero =>
    intro n x hn hv hi
    have : 0 = n := hi
    subst this
    obtain ⟨c, h0, h3, rfl⟩ := vtr_one.1 hv
    have : c = 0 ∨ c = 1 ∨ c = 2 ∨ c = 3 := by omega
    simp [nowL]; omega
  | succ k ih =>
    intro n x hn hv hi
    obtain ⟨m, h1, h2, h3⟩ := iter_unsnoc hi
    refine mem_fuseL.2 ⟨x.take (2 * m + 1), ih (by omega) (hv.take (by omega)) ?_, x.drop (2 * m), (hA _).2 ⟨⟨n - m, by omega, hv.drop (by omega)⟩, ?_⟩, hv.join (by omega), by rw [hv.2]; omega⟩
    · exact iter_congr (fun c b h4 h5 h6 => (inB_take a h5 h6).symm) h1
    · rw [isIn_n (hv.drop (by omega)), inB_drop _ (by omega), Nat.add_zero, show m + (n - m) = n by omega]; exact h3
theorem mem_starL {A : List (List Int)} {most : Nat} {x : List Int} : ∀ {k : Nat}, x ∈ starL A most k ↔ ∃ j, j < k ∧ x ∈ nowL A most j := by
  intro k
  induction k with
  | zero => simp [starL]
  | succ k ih =>
    unfold starL
    rw [mem_addsL, ih]
    constructor
    · rintro (⟨j, h1, h2⟩ | h)
      · exact ⟨j, by omega, h2⟩
      · exact ⟨k, by omega, h⟩
    · rintro ⟨j, h1, h2⟩
      by_cases e : j = k
      · subst e; exact .inr h2
      · exact .inl ⟨j, by omega, h2⟩
theorem srt_starL (A : List (List Int)) (most : Nat) : ∀ k, Srt (starL A most k) := by
  intro k
  induction k with
  | zero => simp [starL, Srt]
  | succ k ih => exact srt_addsL ih _

/-- All short traces of an expression are in its list. -/
theorem mem_listL {most : Nat} (hm : most ≤ 20) : ∀ {t : Tr}, t.ok → ∀ x, x ∈ listL most t ↔ Short most x ∧ isIn t x = true := by
  intro t
  induction t with
  | leaf s => rintro ⟨h0, h18⟩ x; exact mem_leaf h0 h18
  | star a ih =>
    intro ht x
    have hA := ih ht
    unfold listL
    rw [mem_starL]
    constructor
    · rintro ⟨j, hj, hx⟩; exact now_sound hm hA hx
    · rintro ⟨⟨n, hn, hv⟩, h⟩
      rw [isIn_n hv] at h
      obtain ⟨j, hj⟩ := (star_iter x a (by omega)).1 h
      have := iter_len hj
      exact ⟨j, by omega, now_whole hm hA hn hv hj⟩
  | bin s a b iha ihb =>
    rintro ⟨hs, ha, hb⟩ x
    unfold listL
    rcases hs with rfl | rfl
    · rw [if_neg (by decide), mem_fuse hm (iha ha) (ihb hb)]
      constructor
      · rintro ⟨n, hn, hv, i, hi, h1, h2⟩
        refine ⟨⟨n, hn, hv⟩, ?_⟩
        rw [isIn_n (hv.take hi), inB_take _ (by omega) (by omega)] at h1
        rw [isIn_n (hv.drop hi), inB_drop _ (by omega), Nat.add_zero, show i + (n - i) = n by omega] at h2
        rw [isIn_n hv, then_unfold]
        simp only [List.any_eq_true, List.mem_range, Bool.and_eq_true]
        exact ⟨i, by omega, by rw [Nat.zero_add]; exact h1, by rw [Nat.zero_add]; exact h2⟩
      · rintro ⟨⟨n, hn, hv⟩, h⟩
        rw [isIn_n hv, then_unfold] at h
        simp only [List.any_eq_true, List.mem_range, Bool.and_eq_true, Nat.zero_add] at h
        obtain ⟨i, hi, h1, h2⟩ := h
        refine ⟨n, hn, hv, i, by omega, ?_, ?_⟩
        · rw [isIn_n (hv.take (by omega)), inB_take _ (by omega) (by omega)]; exact h1
        · rw [isIn_n (hv.drop (by omega)), inB_drop _ (by omega), Nat.add_zero, show i + (n - i) = n by omega]; exact h2
    · rw [if_pos rfl, mem_addsL, iha ha, ihb hb]
      constructor
      · rintro (⟨⟨n, hn, hv⟩, h⟩ | ⟨⟨n, hn, hv⟩, h⟩)
        · refine ⟨⟨n, hn, hv⟩, ?_⟩
          rw [isIn_n hv] at h ⊢
          rw [plus_unfold, h]; rfl
        · refine ⟨⟨n, hn, hv⟩, ?_⟩
          rw [isIn_n hv] at h ⊢
          rw [plus_unfold, h]; simp
      · rintro ⟨⟨n, hn, hv⟩, h⟩
        rw [isIn_n hv, plus_unfold, Bool.or_eq_true] at h
        rcases h with h | h
        · exact .inl ⟨⟨n, hn, hv⟩, by rw [isIn_n hv]; exact h⟩
        · exact .inr ⟨⟨n, hn, hv⟩, by rw [isIn_n hv]; exact h⟩

theorem srt_leafA (s : Int) : Srt (leafA s 4) := by
  have : ∀ b0 b1 b2 b3 : Bool, Srt ((if b0 then [[(0 : Int)]] else []) ++ (if b1 then [[1]] else []) ++ (if b2 then [[2]] else []) ++ (if b3 then [[3]] else [])) := by
    intro b0 b1 b2 b3
    unfold Srt
    revert b0 b1 b2 b3; decide
  have h := this (decide (bitI s 0 = 1)) (decide (bitI s 1 = 1)) (decide (bitI s 2 = 1)) (decide (bitI s 3 = 1))
  have e : leafA s 4 = ((if decide (bitI s 0 = 1) then [[(0 : Int)]] else []) ++ (if decide (bitI s 1 = 1) then [[1]] else []) ++ (if decide (bitI s 2 = 1) then [[2]] else []) ++ (if decide (bitI s 3 = 1) then [[3]] else [])) := by
    simp only [leafA, decide_eq_true_eq]
    show (if bitI s ((3 : Nat) : Int) = 1 then _ else _) = _
    by_cases h0 : bitI s 0 = 1 <;> by_cases h1 : bitI s 1 = 1 <;> by_cases h2 : bitI s 2 = 1 <;> by_cases h3 : bitI s 3 = 1 <;> simp [h0, h1, h2, h3]
  rw [e]; exact h
theorem srt_leafB (s : Int) : Srt (leafB s 16) := by
  unfold Srt leafB
  simp only [List.pairwise_map]
  have : ∀ i j : Nat, i < j → lexB [((i : Int) / 4), s, ((i : Int) % 4)] [((j : Int) / 4), s, ((j : Int) % 4)] = true := by
    intro i j h
    simp only [lexB]
    by_cases e : (i : Int) / 4 = (j : Int) / 4
    · rw [if_pos e]
      simp only [if_true]
      rw [if_neg (by omega)]
      simp; omega
    · rw [if_neg e]; simp; omega
  exact List.pairwise_lt_range.imp (fun {a b} h => this a b h)
theorem srt_listL (most : Nat) : ∀ (t : Tr), Srt (listL most t) := by
  intro t
  induction t with
  | leaf s =>
    unfold listL
    split
    · exact srt_leafA s
    · split
      · simp [Srt]
      · exact srt_leafB s
  | star a ih => exact srt_starL _ _ _
  | bin s a b iha ihb =>
    unfold listL
    split
    · exact srt_addsL iha _
    · exact srt_fuseL _ _ _

/-! all short traces -/
def trFrom : Nat → List Int → List (List Int)
  | 0, t => [t]
  | k + 1, t => t :: (List.range 12).flatMap fun j : Nat => trFrom k (t ++ [16 + (j : Int) / 4, (j : Int) % 4])
def allTr (most : Nat) : List (List Int) := (List.range 4).flatMap fun a : Nat => trFrom most [(a : Int)]
/-- each comes before the next one -/
def upL : List (List Int) → Bool
  | [] => true
  | [_] => true
  | a :: b :: r => lexB a b && upL (b :: r)
theorem srt_up : ∀ {l : List (List Int)}, upL l = true → Srt l := by
  intro l
  induction l with
  | nil => intro _; simp [Srt]
  | cons a r ih =>
    intro h
    cases r with
    | nil => simp [Srt]
    | cons b q =>
      simp only [upL, Bool.and_eq_true] at h
      have h2 := ih h.2
      refine List.pairwise_cons.2 ⟨fun z hz => ?_, h2⟩
      rcases List.mem_cons.1 hz with rfl | hz
      · exact h.1
      · exact lex_trans h.1 ((List.pairwise_cons.1 h2).1 z hz)
theorem srt_all {most : Nat} (hm : most ≤ 2) : Srt (allTr most) := by
  apply srt_up
  have : most = 0 ∨ most = 1 ∨ most = 2 := by omega
  rcases this with rfl | rfl | rfl <;> decide +kernel
theorem all_len {most : Nat} (hm : most ≤ 2) : (allTr most).length = if most = 0 then 4 else if most = 1 then 52 else 628 := by
  have : most = 0 ∨ most = 1 ∨ most = 2 := by omega
  rcases this with rfl | rfl | rfl <;> decide +kernel
theorem all_valid {most : Nat} (hm : most ≤ 2) : (allTr most).all (fun x => trV x && decide (x.length ≤ 2 * most + 1)) = true := by
  have : most = 0 ∨ most = 1 ∨ most = 2 := by omega
  rcases this with rfl | rfl | rfl <;> decide +kernel
theorem from_self (k : Nat) (t : List Int) : t ∈ trFrom k t := by cases k <;> simp [trFrom]
theorem from_step {k : Nat} {t x : List Int} {b c : Int} (hb : 16 ≤ b ∧ b ≤ 18) (hc : 0 ≤ c ∧ c ≤ 3) (h : x ∈ trFrom k (t ++ [b, c])) : x ∈ trFrom (k + 1) t := by
  unfold trFrom
  refine List.mem_cons_of_mem _ (List.mem_flatMap.2 ⟨(4 * (b - 16) + c).toNat, by rw [List.mem_range]; omega, ?_⟩)
  have e1 : ((4 * (b - 16) + c).toNat : Int) = 4 * (b - 16) + c := by omega
  rw [e1, show 16 + (4 * (b - 16) + c) / 4 = b by omega, show (4 * (b - 16) + c) % 4 = c by omega]
  exact h
theorem all_of {most : Nat} {x : List Int} {a : Int} (ha : 0 ≤ a ∧ a ≤ 3) (h : x ∈ trFrom most [a]) : x ∈ allTr most := by
  unfold allTr
  refine List.mem_flatMap.2 ⟨a.toNat, by rw [List.mem_range]; omega, ?_⟩
  have e1 : ((a.toNat : Nat) : Int) = a := by omega
  rw [e1]; exact h
theorem mem_all {most : Nat} (hm : most ≤ 2) {x : List Int} : x ∈ allTr most ↔ Short most x := by
  constructor
  · intro h
    have := List.all_eq_true.1 (all_valid hm) x h
    simp only [Bool.and_eq_true, decide_eq_true_eq] at this
    have h1 := (trV_iff.1 this.1).1
    exact ⟨x.length / 2, by omega, this.1, by omega⟩
  · rintro ⟨n, hn, hv⟩
    have : n = 0 ∨ n = 1 ∨ n = 2 := by omega
    rcases this with rfl | rfl | rfl
    · obtain ⟨a, h0, h3, rfl⟩ := vtr_one.1 hv
      exact all_of ⟨h0, h3⟩ (from_self _ _)
    · obtain ⟨a, b, c, ha, hb, hc, rfl⟩ := vtr_two.1 hv
      obtain ⟨k, rfl⟩ : ∃ k, most = k + 1 := ⟨most - 1, by omega⟩
      exact all_of ha (from_step hb hc (from_self _ _))
    · obtain ⟨a, b, c, d, e, ha, hb, hc, hd, he, rfl⟩ := vtr_five.1 hv
      obtain rfl : most = 2 := by omega
      exact all_of ha (from_step hb hc (from_step hd he (from_self _ _)))

/-- The list of an expression is what is left of all short traces. -/
theorem listL_all {most : Nat} (hm : most ≤ 2) {t : Tr} (ht : t.ok) : listL most t = (allTr most).filter (isIn t) := by
  refine srt_eq (srt_listL most t) ?_ fun x => ?_
  · exact (srt_all hm).filter _
  · rw [mem_listL (by omega) ht, List.mem_filter, mem_all hm]
/-- the expression that does a, b or c again and again -/
def abcStar : Tr := .star (.bin 20 (.bin 20 (.leaf 16) (.leaf 17)) (.leaf 18))
theorem listL_abc {most : Nat} (hm : most ≤ 2) : listL most abcStar = allTr most := by
  rw [listL_all hm (by simp [abcStar, Tr.ok])]
  apply List.filter_eq_self.2
  intro x hx
  obtain ⟨n, hn, hv⟩ := (mem_all hm).1 hx
  have one : ∀ i, i < n → inB x (.bin 20 (.bin 20 (.leaf 16) (.leaf 17)) (.leaf 18)) i (i + 1) = true := by
    intro i hi
    have h1 := (trV_iff.1 hv.1).2 (2 * i + 1) (by rw [hv.2]; omega)
    rw [trAt_odd rfl (by omega)] at h1
    simp only [inR, decide_eq_true_eq] at h1
    rw [plus_unfold, plus_unfold]
    have : x.getD (2 * i + 1) 0 = 16 ∨ x.getD (2 * i + 1) 0 = 17 ∨ x.getD (2 * i + 1) 0 = 18 := by omega
    rw [List.getD_eq_getElem?_getD] at this
    rcases this with h | h | h <;> simp [inB, actAt, h]
  have all : ∀ k i, i + k = n → iter (inB x (.bin 20 (.bin 20 (.leaf 16) (.leaf 17)) (.leaf 18))) k i n := by
    intro k
    induction k with
    | zero => intro i hi; show i = n; omega
    | succ k ih => intro i hi; exact ⟨i + 1, by omega, one i (by omega), ih (i + 1) (by omega)⟩
  rw [isIn_n hv]
  exact (star_iter x _ (by omega)).2 ⟨n, all n 0 (by omega)⟩
end Go.Proofs.Ytlnkkjmejmhaiaa
