/-
  Contract of the specification's ReadKat (chapter 2): it answers readP.
-/
import Derived.Test.YtfhfjkpheloanaaDoorReadS
import Derived.Test.YtfhfjkpheloanaaDoorReadU
import Derived.Test.YtfhfjkpheloanaaDoorReadV
namespace Go.Proofs.YtfhfjkpheloanaaDoor
open Go.RowKit
set_option linter.unusedVariables false
set_option maxHeartbeats 400000
theorem small_any (l : List UInt8) (hl : l.length ≤ 199) (deep : Nat) (inner : Nat → Option (List Int × Nat)) (hf : Fwd l inner)
    (hd : ((deep : Int) < 99 ∧ ∀ i w, i ≤ l.length → Calls Tryd.prog 9 #[.string (bs l), .int .i64 i, .int .i64 1, .int .i64 ((deep : Int) + 1)] w (Rdr l w i (inner i))) ∨ (¬ (deep : Int) < 99 ∧ ∀ i, inner i = none))
    (i : Nat) (hi : i ≤ l.length) (w : World) : Calls Tryd.prog 14 #[.string (bs l), .int .i64 i, .int .i64 deep] w (Rdr l w i (smallP (leafP l) inner l i)) := by
  by_cases hlt : i < l.length
  · have hlt' : i < (bs l).size := hlt
    have hx := bs_at l i hlt'
    have hx' : (((bs l)[i]'hlt).toNat : Int) = ((l.getD i 0).toNat : Int) := by rw [bs_at l i hlt]
    by_cases h40 : (l.getD i 0).toNat = 40
    · have c40 : (((bs l)[i]'hlt).toNat : Int) = 40 := by rw [hx']; omega
      have c97 : ¬ (97 : Int) ≤ (((bs l)[i]'hlt).toNat : Int) := by rw [hx']; omega
      rcases hd with ⟨hd, hin⟩ | ⟨hd, hin⟩
      · exact small_open l hl deep hd inner hf hin i hlt c40 c97 w
      · refine small_deep l hl deep i hlt _ ?_ c40 c97 hd w
        show _ = _
        rw [try_paren' hlt (x := 0) h40]
        have h1 : atB l i 40 = true := by
          unfold atB
          rw [decide_eq_true hlt, UInt8.toNat_inj.1 (show (l.getD i 0).toNat = (40 : UInt8).toNat from h40)]; rfl
        unfold smallP
        rw [if_pos h1, hin]; rfl
    · have c40 : ¬ (((bs l)[i]'hlt).toNat : Int) = 40 := by rw [hx']; omega
      have hne : atB l i 40 = false := atB_ne fun e => h40 (by rw [e]; rfl)
      by_cases h97 : 97 ≤ (l.getD i 0).toNat
      · by_cases h99 : (l.getD i 0).toNat ≤ 99
        · obtain ⟨v, hv⟩ : ∃ v, (l.getD i 0).toNat = 97 + v := ⟨(l.getD i 0).toNat - 97, by omega⟩
          exact small_letter l hl deep inner i hlt v (by omega) hv w
        · refine small_high l hl deep i hlt _ ?_ c40 (by rw [hx']; omega) (by rw [hx']; omega) w
          show _ = _
          rw [small_leaf hne, try_is hi, leafP, if_pos hlt, if_neg (fun e => h99 (by have := UInt8.le_iff_toNat_le.1 e.2; exact this))]
      · refine small_low l hl deep i hlt _ ?_ c40 (by rw [hx']; omega) w
        show _ = _
        rw [small_leaf hne, try_is hi, leafP, if_pos hlt, if_neg (fun e => h97 (by have := UInt8.le_iff_toNat_le.1 e.1; exact this))]
  · exact small_end l hl deep inner i (by omega) hi w
theorem spec_sum (l : List UInt8) (hl : l.length ≤ 199) : ∀ (d deep : Nat), deep + d = 99 → ∀ (i : Nat) (w : World), i ≤ l.length →
    Calls Tryd.prog 9 #[.string (bs l), .int .i64 i, .int .i64 1, .int .i64 deep] w (Rdr l w i (sumP (leafP l) l d i)) := by
  intro d
  induction d with
  | zero =>
    intro deep hd i w hi
    have f0 := none_fwd l
    have f1 := small_fwd (leaf_fwd l) f0
    exact great_one l hl deep _ (seq_fwd f1) (fun i w hi => great_two l hl deep _ f1 (fun i w hi => great_three l i deep w _ (small_any l hl deep _ f0 (.inr ⟨by omega, fun _ => rfl⟩) i hi w)) i hi w) i hi w
  | succ d ih =>
    intro deep hd i w hi
    have f0 := sum_fwd (leaf_fwd l) d
    have f1 := small_fwd (leaf_fwd l) f0
    have hin : ∀ (i : Nat) (w : World), i ≤ l.length → Calls Tryd.prog 9 #[.string (bs l), .int .i64 i, .int .i64 1, .int .i64 ((deep : Int) + 1)] w (Rdr l w i (sumP (leafP l) l d i)) := by
      intro i w hi
      have := ih (deep + 1) (by omega) i w hi
      rw [show ((deep + 1 : Nat) : Int) = (deep : Int) + 1 by omega] at this
      exact this
    exact great_one l hl deep _ (seq_fwd f1) (fun i w hi => great_two l hl deep _ f1 (fun i w hi => great_three l i deep w _ (small_any l hl deep _ f0 (.inl ⟨by omega, hin⟩) i hi w)) i hi w) i hi w
theorem spec_ReadKat (l : List UInt8) (w : World) : Calls Tryd.prog 4 #[.string (bs l)] w (Fresh2 w (readP l)) := by
  have hz : (bs l).size = l.length := rfl
  by_cases hl : 199 < l.length
  · have hq : (199 : Int) < l.length := by omega
    have hr : Hid (readP l = ([], false)) := by show _ = _; unfold readP; rw [if_pos hl]
    go_enter Tryd.func4, Tryd.ntmps4
    go_wp2_with fail
    go_ret2
    exact Fresh2.mk hr.out (Own.zero w) ((Since.refl w).alloc _)
  · have hq : ¬ (199 : Int) < l.length := by omega
    have h1 := Lib.hid (spec_sum l (by omega) 99 0 rfl 0 w (by omega))
    have hf := Lib.hid (sum_fwd (leaf_fwd l) 99 0)
    have hr : Hid (readP l = match sumP (leafP l) l 99 0 with | some r => if r.2 = l.length ∧ katV r.1 = true then (r.1, true) else ([], false) | none => ([], false)) := by
      show _ = _
      unfold readP
      rw [if_neg hl]
      cases sumP (leafP l) l 99 0 <;> rfl
    generalize sumP (leafP l) l 99 0 = r at *
    generalize readP l = R at *
    go_enter Tryd.func4, Tryd.ntmps4
    go_wp2_with fail
    refine h1.out.mono ?_
    intro e w1 hw
    clear h1
    cases r with
    | none =>
      obtain ⟨A, n, c, xs, to, rfl, o, hn, s⟩ := hw
      go_wp2_with fail
      go_ret2
      exact Fresh2.mk hr.out ((Own.zero w1).lower s.size) (s.alloc _)
    | some p =>
      obtain ⟨xs, t⟩ := p
      obtain ⟨A, n, c, rfl, o, s⟩ := hw
      have h4 := hf.out _ rfl
      simp only at h4
      have hol := o.len
      have hnb : n ≤ 1000 := by omega
      clear hf h4 hol
      by_cases ht : t = l.length
      · have htb : ((t : Int) != l.length) = false := by subst ht; simp
        have hr2 : Hid (R = if katV xs = true then (xs, true) else ([], false)) := by
          show _ = _
          rw [hr.out]
          simp [ht]
        replace ht := Lib.hid ht
        clear hr
        have hkv := Lib.hid (spec_KatValid A n c _ xs w1 (by omega) o.ls)
        cases hv : katV xs
        · have hr3 : Hid (R = ([], false)) := by show _ = _; rw [hr2.out, hv]; rfl
          rw [hv] at hkv
          clear hr2 hv
          go_wp2_with (go_at_call 10; refine hkv.out.mono ?_; rintro e w' ⟨rfl, rfl⟩)
          go_ret2
          exact Fresh2.mk hr3.out ((Own.zero w1).lower s.size) (s.alloc _)
        · have hr3 : Hid (R = (xs, true)) := by show _ = _; rw [hr2.out, hv]; rfl
          rw [hv] at hkv
          clear hr2 hv
          go_wp2_with (go_at_call 10; refine hkv.out.mono ?_; rintro e w' ⟨rfl, rfl⟩)
          go_ret2
          exact Fresh2.mk hr3.out o s
      · have htb : ((t : Int) != l.length) = true := by simpa using fun e : (t : Int) = l.length => ht (by omega)
        have hr3 : Hid (R = ([], false)) := by show _ = _; rw [hr.out]; simp [ht]
        clear hr ht
        go_wp2_with fail
        go_ret2
        exact Fresh2.mk hr3.out ((Own.zero w1).lower s.size) (s.alloc _)
end Go.Proofs.YtfhfjkpheloanaaDoor
