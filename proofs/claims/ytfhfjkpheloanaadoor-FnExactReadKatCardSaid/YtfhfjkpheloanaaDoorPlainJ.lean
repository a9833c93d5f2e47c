/-
  Plain facts on expressions joined. No program in sight.
-/
import Derived.Test.YtfhfjkpheloanaaDoorPlainK
import Derived.Test.YtfhfjkpheloanaaDoorPlainT
namespace Go.Proofs.YtfhfjkpheloanaaDoor
set_option linter.unusedVariables false

/-- two expressions and a step behind them -/
def jn (a b : List Int) (s : Int) : List Int := a ++ b ++ [s]
/-- What KatThen and KatPlus hand back. -/
def kJoin (a b : List Int) (s : Int) : List Int × Bool := if katV a && katV b && katV (jn a b s) then (jn a b s, true) else ([], false)
def kStar (a : List Int) : List Int × Bool := if katV a && katV (a ++ [21]) then (a ++ [21], true) else ([], false)
def kIf (t : Int) (a b : List Int) : List Int × Bool :=
  if vT t && katV a && katV b && katV (jn (jn [t] a 19) (jn [tNot t] b 19) 20) then (jn (jn [t] a 19) (jn [tNot t] b 19) 20, true) else ([], false)
def kWhile (t : Int) (a : List Int) : List Int × Bool :=
  if vT t && katV a && katV (jn (jn [t] a 19 ++ [21]) [tNot t] 19) then (jn (jn [t] a 19 ++ [21]) [tNot t] 19, true) else ([], false)

theorem jn_length (a b : List Int) (s : Int) : (jn a b s).length = a.length + b.length + 1 := by simp [jn]; omega
theorem katV_len {e : List Int} (h : katV e = true) : 1 ≤ e.length ∧ e.length ≤ 40 := (katV_iff.1 h).1
theorem katV_long {e : List Int} (h : 40 < e.length) : katV e = false := by simp [katV]; intro _ h1; omega
theorem katV_short {e : List Int} (h : e.length < 1) : katV e = false := by simp [katV]; intro h1; omega

theorem katV_jn {a b : List Int} {s : Int} (ha : katV a = true) (hb : katV b = true) (hs : s = 19 ∨ s = 20) (hl : a.length + b.length + 1 ≤ 40) : katV (jn a b s) = true := by
  obtain ⟨h1, h2⟩ := katV_iff.1 ha
  obtain ⟨h3, h4⟩ := katV_iff.1 hb
  refine katV_iff.2 ⟨by rw [jn_length]; omega, ?_⟩
  obtain ⟨t, ht, rfl, _⟩ := katV_tree ha
  obtain ⟨u, hu, rfl, _⟩ := katV_tree hb
  have : jn t.steps u.steps s = (Tr.bin s t u).steps ++ [] := by simp [jn, Tr.steps]
  rw [this, Tr.kd_steps (t := .bin s t u) ⟨hs, ht, hu⟩]
  rfl
theorem katV_st {a : List Int} (ha : katV a = true) (hl : a.length + 1 ≤ 40) : katV (a ++ [21]) = true := by
  obtain ⟨t, ht, rfl, _⟩ := katV_tree ha
  refine katV_iff.2 ⟨by simp; omega, ?_⟩
  have : t.steps ++ [21] = (Tr.star t).steps ++ [] := by simp [Tr.steps]
  rw [this, Tr.kd_steps (t := .star t) ht]
  rfl
theorem katV_one {t : Int} (h0 : 0 ≤ t) (h1 : t ≤ 15) : katV [t] = true :=
  sixteen (P := fun t => katV [t] = true) (by decide +kernel) h0 h1

/-- As the program does it. -/
theorem kJoin_eq (a b : List Int) {s : Int} (hs : s = 19 ∨ s = 20) : kJoin a b s = if katV a && katV b && decide (a.length + b.length + 1 ≤ 40) then (jn a b s, true) else ([], false) := by
  unfold kJoin
  cases ha : katV a
  · simp
  · cases hb : katV b
    · simp
    · by_cases hl : a.length + b.length + 1 ≤ 40
      · rw [katV_jn ha hb hs hl]; simp [hl]
      · rw [katV_long (by rw [jn_length]; omega)]; simp [hl]
theorem kStar_eq (a : List Int) : kStar a = if katV a && decide (a.length + 1 ≤ 40) then (a ++ [21], true) else ([], false) := by
  unfold kStar
  cases ha : katV a
  · simp
  · by_cases hl : a.length + 1 ≤ 40
    · rw [katV_st ha hl]; simp [hl]
    · rw [katV_long (by simp; omega)]; simp [hl]

theorem kJoin_ok {a b : List Int} {s : Int} (h : (kJoin a b s).2 = true) : katV a = true ∧ katV b = true ∧ katV (jn a b s) = true ∧ (kJoin a b s).1 = jn a b s := by
  unfold kJoin at h ⊢
  split at h
  · rename_i h1
    rw [if_pos h1]
    simp only [Bool.and_eq_true] at h1
    exact ⟨h1.1.1, h1.1.2, h1.2, rfl⟩
  · simp at h
theorem kJoin_no {a b : List Int} {s : Int} (h : (kJoin a b s).2 = false) : (kJoin a b s).1 = [] := by
  unfold kJoin at h ⊢
  split at h
  · simp at h
  · rename_i h1; rw [if_neg h1]
theorem kStar_ok {a : List Int} (h : (kStar a).2 = true) : katV a = true ∧ katV (a ++ [21]) = true ∧ (kStar a).1 = a ++ [21] := by
  unfold kStar at h ⊢
  split at h
  · rename_i h1
    rw [if_pos h1]
    simp only [Bool.and_eq_true] at h1
    exact ⟨h1.1, h1.2, rfl⟩
  · simp at h
theorem kStar_no {a : List Int} (h : (kStar a).2 = false) : (kStar a).1 = [] := by
  unfold kStar at h ⊢
  split at h
  · simp at h
  · rename_i h1; rw [if_neg h1]

theorem tNot_v {t : Int} (h : vT t = true) : vT (tNot t) = true := by
  have := vT_iff.1 h
  simp only [tNot, h, if_true]; exact vT_iff.2 (by omega)
theorem one_v {t : Int} (h : vT t = true) : katV [t] = true := by have := vT_iff.1 h; exact katV_one this.1 this.2
theorem one_not {t : Int} (h : vT t = true) : katV [tNot t] = true := one_v (tNot_v h)

/-- KatIf, as the program does it. -/
theorem kIf_eq (t : Int) (a b : List Int) : kIf t a b =
    if vT t then
      if (kJoin [t] a 19).2 then
        if (kJoin [tNot t] b 19).2 then kJoin (kJoin [t] a 19).1 (kJoin [tNot t] b 19).1 20 else ([], false)
      else ([], false)
    else ([], false) := by
  unfold kIf
  cases hv : vT t
  · simp
  · simp only [Bool.true_and, if_true]
    cases h1 : (kJoin [t] a 19).2
    · simp only [Bool.false_eq_true, if_false]
      rw [if_neg]
      intro h
      simp only [Bool.and_eq_true] at h
      obtain ⟨⟨ha, hb⟩, hc⟩ := h
      have hl := (katV_len hc).2
      simp only [jn_length, List.length_cons, List.length_nil] at hl
      have : (kJoin [t] a 19).2 = true := by
        rw [kJoin_eq _ _ (s := 19) (Or.inl rfl), one_v hv, ha, if_pos (by simp; omega)]
      rw [this] at h1; simp at h1
    · obtain ⟨_, ha, h3, h4⟩ := kJoin_ok h1
      simp only [if_true]
      cases h2 : (kJoin [tNot t] b 19).2
      · simp only [Bool.false_eq_true, if_false]
        rw [if_neg]
        intro h
        simp only [Bool.and_eq_true] at h
        obtain ⟨⟨_, hb⟩, hc⟩ := h
        have hl := (katV_len hc).2
        simp only [jn_length, List.length_cons, List.length_nil] at hl
        have : (kJoin [tNot t] b 19).2 = true := by
          rw [kJoin_eq _ _ (s := 19) (Or.inl rfl), one_not hv, hb, if_pos (by simp; omega)]
        rw [this] at h2; simp at h2
      · obtain ⟨_, hb, h5, h6⟩ := kJoin_ok h2
        rw [h4, h6]
        simp only [if_true, kJoin, ha, hb, h3, h5, Bool.true_and]

/-- KatWhile, as the program does it. -/
theorem kWhile_eq (t : Int) (a : List Int) : kWhile t a =
    if vT t then
      if (kJoin [t] a 19).2 then
        if (kStar (kJoin [t] a 19).1).2 then kJoin (kStar (kJoin [t] a 19).1).1 [tNot t] 19 else ([], false)
      else ([], false)
    else ([], false) := by
  unfold kWhile
  cases hv : vT t
  · simp
  · simp only [Bool.true_and, if_true]
    cases h1 : (kJoin [t] a 19).2
    · simp only [Bool.false_eq_true, if_false]
      rw [if_neg]
      intro h
      simp only [Bool.and_eq_true] at h
      obtain ⟨ha, hc⟩ := h
      have hl := (katV_len hc).2
      simp only [jn_length, List.length_append, List.length_cons, List.length_nil] at hl
      have : (kJoin [t] a 19).2 = true := by
        rw [kJoin_eq _ _ (s := 19) (Or.inl rfl), one_v hv, ha, if_pos (by simp; omega)]
      rw [this] at h1; simp at h1
    · obtain ⟨_, ha, h3, h4⟩ := kJoin_ok h1
      simp only [if_true]
      rw [h4]
      cases h2 : (kStar (jn [t] a 19)).2
      · simp only [Bool.false_eq_true, if_false]
        rw [if_neg]
        intro h
        simp only [Bool.and_eq_true] at h
        have hl := (katV_len h.2).2
        simp only [jn_length, List.length_append, List.length_cons, List.length_nil] at hl
        have : (kStar (jn [t] a 19)).2 = true := by
          rw [kStar_eq, h3, if_pos (by simp [jn_length]; omega)]
        rw [this] at h2; simp at h2
      · obtain ⟨_, h5, h6⟩ := kStar_ok h2
        rw [h6]
        simp only [if_true, kJoin, ha, h5, one_not hv, Bool.true_and, Bool.and_true]
end Go.Proofs.YtfhfjkpheloanaaDoor
