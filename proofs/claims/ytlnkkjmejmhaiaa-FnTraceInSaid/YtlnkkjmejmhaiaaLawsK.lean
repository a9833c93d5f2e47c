/-
  The walks of the laws on expressions (chapter 2).
-/
import Derived.Test.YtlnkkjmejmhaiaaKatI
import Derived.Test.YtlnkkjmejmhaiaaDrawK
import Derived.Test.YtlnkkjmejmhaiaaLawsT
namespace Go.Proofs.Ytlnkkjmejmhaiaa
open Go.RowKit
set_option linter.unusedVariables false
set_option maxHeartbeats 400000

theorem katV_nil : katV [] = false := by decide
theorem katV_act (xs : List Int) (h : katV xs = true) : katV (xs ++ [16]) = false := by
  obtain ⟨h1, h2⟩ := katV_iff.1 h
  have e : kd 0 (xs ++ [16]) = some 2 := by rw [kd_append, h2]; rfl
  simp [katV, e]
theorem same_true {l : List Int} : decide (l = l) = true := by simp
theorem kIf_full {t : Int} {a b : List Int} (h : (kIf t a b).2 = true) : vT t = true ∧ kIf t a b = kJoin (kJoin [t] a 19).1 (kJoin [tNot t] b 19).1 20 ∧ katV (kIf t a b).1 = true := by
  have e := kIf_eq t a b
  cases hv : vT t
  · rw [e, hv] at h; simp at h
  · cases h1 : (kJoin [t] a 19).2
    · rw [e, hv, h1] at h; simp at h
    · cases h2 : (kJoin [tNot t] b 19).2
      · rw [e, hv, h1, h2] at h; simp at h
      · have e2 := kIf_yes a b hv h1 h2
        refine ⟨rfl, e2, ?_⟩
        rw [e2] at h ⊢
        have hk := kJoin_ok h
        rw [hk.2.2.2]; exact hk.2.2.1
theorem kIf_not {t : Int} {a b : List Int} (h : (kIf t a b).2 = false) : (kIf t a b).1 = [] := by
  unfold kIf at h ⊢
  split at h
  · simp at h
  · rename_i h1; rw [if_neg h1]
theorem kWhile_full {t : Int} {a : List Int} (h : (kWhile t a).2 = true) : vT t = true ∧ kWhile t a = kJoin (kStar (kJoin [t] a 19).1).1 [tNot t] 19 ∧ katV (kWhile t a).1 = true := by
  have e := kWhile_eq t a
  cases hv : vT t
  · rw [e, hv] at h; simp at h
  · cases h1 : (kJoin [t] a 19).2
    · rw [e, hv, h1] at h; simp at h
    · cases h2 : (kStar (kJoin [t] a 19).1).2
      · rw [e, hv, h1, h2] at h; simp at h
      · have e2 := kW_yes a hv h1 h2
        refine ⟨rfl, e2, ?_⟩
        rw [e2] at h ⊢
        have hk := kJoin_ok h
        rw [hk.2.2.2]; exact hk.2.2.1
theorem kWhile_not {t : Int} {a : List Int} (h : (kWhile t a).2 = false) : (kWhile t a).1 = [] := by
  unfold kWhile at h ⊢
  split at h
  · simp at h
  · rename_i h1; rw [if_neg h1]
end Go.Proofs.Ytlnkkjmejmhaiaa
