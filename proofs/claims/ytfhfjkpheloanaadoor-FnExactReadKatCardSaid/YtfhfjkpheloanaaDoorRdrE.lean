/-
  Contract of the program's reader of expressions: (*katReader).sum answers the grammar, whatever the depth of the brackets (chapter 2).
-/
import Derived.Test.YtfhfjkpheloanaaDoorRdrD
namespace Go.Proofs.YtfhfjkpheloanaaDoor
open Go.RowKit
set_option linter.unusedVariables false
set_option maxHeartbeats 400000
theorem sing_fwd {l : List UInt8} {inner : Nat → Option (List Int × Nat)} (hi : Fwd l inner) : Fwd l (singP l inner) := by
  intro i r h
  unfold singP at h
  split at h
  · rw [Option.bind_eq_some_iff] at h
    obtain ⟨s, hs, hs2⟩ := h
    split at hs2
    · rename_i hb
      have := atB_lt hb
      have := hi _ _ hs
      injection hs2 with hs2
      subst hs2
      simp only
      omega
    · cases hs2
  · exact leaf_fwd l _ _ h
theorem small_sing (l : List UInt8) (inner : Nat → Option (List Int × Nat)) (i : Nat) : smallP (leafP l) inner l i = (singP l inner i).map fun r => starsP l l.length r.1 r.2 := rfl
theorem sum_step (w0 : World) (hN : NM w0) (l : List UInt8) (hl : l.length ≤ 199) (g i : Nat) (w : World) (R : Rd w0 w g l i) (hi : i ≤ l.length) (inner : Nat → Option (List Int × Nat)) (hf : Fwd l inner)
    (hsum : ∀ j w, i ≤ j → j + 1 ≤ l.length → Rd w0 w g l (j + 1) → Calls Tryd.prog 12 #[.pointer (some ⟨g, 0, none⟩)] w (RdI l g w (inner (j + 1)))) :
    Calls Tryd.prog 12 #[.pointer (some ⟨g, 0, none⟩)] w (RdI l g w (seqP (prodP (leafP l) inner l) 43 20 l i)) := by
  have f1 := small_fwd (leaf_fwd l) hf
  have hsm : ∀ j w, i ≤ j → j ≤ l.length → Rd w0 w g l j → Calls Tryd.prog 22 #[.pointer (some ⟨g, 0, none⟩)] w (RdI l g w (smallP (leafP l) inner l j)) := by
    intro j w hij hj R
    rw [small_sing]
    exact starred_any w0 l hl g j w R _ (sing_fwd hf j) (single_any w0 hN l hl g j w R hj inner hf fun w h1 R1 => hsum j w hij h1 R1)
  exact sum_any w0 l hl g i w R hi _ (seq_fwd f1) fun j w hij hj R => product_any w0 l hl g j w R hj _ f1 fun j' w hjj hj' R => hsm j' w (by omega) hj' R
theorem sum_all (w0 : World) (hN : NM w0) (l : List UInt8) (hl : l.length ≤ 199) (g : Nat) : ∀ (D i : Nat) (w : World), i ≤ l.length → l.length ≤ i + D → Rd w0 w g l i →
    Calls Tryd.prog 12 #[.pointer (some ⟨g, 0, none⟩)] w (RdI l g w (sumP (leafP l) l D i)) := by
  intro D
  induction D with
  | zero =>
    intro i w hi hD R
    exact sum_step w0 hN l hl g i w R hi _ (none_fwd l) fun j w hij hj => by omega
  | succ D ih =>
    intro i w hi hD R
    exact sum_step w0 hN l hl g i w R hi _ (sum_fwd (leaf_fwd l) D) fun j w hij hj R => ih (j + 1) w hj (by omega) R
theorem sum_text (w0 : World) (hN : NM w0) (l : List UInt8) (hl : l.length ≤ 199) (g : Nat) (w : World) (R : Rd w0 w g l 0) :
    Calls Tryd.prog 12 #[.pointer (some ⟨g, 0, none⟩)] w (RdI l g w (sumP (leafP l) l 99 0)) := by
  have := sum_all w0 hN l hl g (99 + 100) 0 w (by omega) (by omega) R
  rw [sum_deep (leaf_fwd l) hl] at this
  exact this
end Go.Proofs.YtfhfjkpheloanaaDoor
