/-
  Contracts of the functions on expressions that go over their steps (chapter 2).
-/
import Derived.Test.YtfhfjkpheloanaaDoorLib
import Derived.Test.YtfhfjkpheloanaaDoorTests
import Derived.Test.YtfhfjkpheloanaaDoorPlainJ
namespace Go.Proofs.YtfhfjkpheloanaaDoor
open Go.RowKit
set_option linter.unusedVariables false
set_option maxHeartbeats 400000

theorem impl_takes (s : Int) (w : World) : Calls Tryd.prog 20 #[.int .i64 s] w fun e w' => e = .returned (.int .i64 (tk s)) ∧ w = w' := by
  by_cases h1 : s = 19
  · subst h1
    go_enter Tryd.func20, Tryd.ntmps20
    go_wp2
    go_ret
    exact ⟨rfl, rfl⟩
  · by_cases h2 : s = 20
    · subst h2
      go_enter Tryd.func20, Tryd.ntmps20
      go_wp2
      go_ret
      exact ⟨rfl, rfl⟩
    · by_cases h3 : s = 21
      · subst h3
        go_enter Tryd.func20, Tryd.ntmps20
        go_wp2
        go_ret
        exact ⟨rfl, rfl⟩
      · have e : tk s = 0 := by unfold tk; rw [if_neg (by omega), if_neg h3]
        have e1 : (s == 19) = false := by simp [h1]
        have e2 : (s == 20) = false := by simp [h2]
        have e3 : (s == 21) = false := by simp [h3]
        rw [e]
        go_enter Tryd.func20, Tryd.ntmps20
        go_wp2
        go_ret
        exact ⟨rfl, rfl⟩
theorem spec_l2Takes (s : Int) (w : World) : Calls Tryd.prog 17 #[.int .i64 s] w fun e w' => e = .returned (.int .i64 (tk s)) ∧ w = w' := by
  by_cases h1 : s = 19
  · subst h1
    go_enter Tryd.func17, Tryd.ntmps17
    go_wp2
    go_ret
    exact ⟨rfl, rfl⟩
  · by_cases h2 : s = 20
    · subst h2
      go_enter Tryd.func17, Tryd.ntmps17
      go_wp2
      go_ret
      exact ⟨rfl, rfl⟩
    · by_cases h3 : s = 21
      · subst h3
        go_enter Tryd.func17, Tryd.ntmps17
        go_wp2
        go_ret
        exact ⟨rfl, rfl⟩
      · have e : tk s = 0 := by unfold tk; rw [if_neg (by omega), if_neg h3]
        have e1 : (s == 19) = false := by simp [h1]
        have e2 : (s == 20) = false := by simp [h2]
        have e3 : (s == 21) = false := by simp [h3]
        rw [e]
        go_enter Tryd.func17, Tryd.ntmps17
        go_wp2
        go_ret
        exact ⟨rfl, rfl⟩
theorem impl_KatValid (A : Option Addr) (n c B : Nat) (xs : List Int) (w : World) (h : Ls w B A n c xs) :
    Calls Tryd.prog 13 #[.slice A n c] w fun e w' => e = .returned (.bool (katV xs)) ∧ w = w' := by
  have hlen := h.len
  by_cases h1 : n < 1
  · have hf := Lib.hid (katV_short (e := xs) (by omega))
    clear hlen h
    go_enter Tryd.func13, Tryd.ntmps13
    go_wp2
    go_ret
    exact ⟨ret_bool hf.out.symm, rfl⟩
  · by_cases h40 : 40 < n
    · have hf := Lib.hid (katV_long (e := xs) (by omega))
      clear hlen h
      go_enter Tryd.func13, Tryd.ntmps13
      go_wp2
      go_ret
      exact ⟨ret_bool hf.out.symm, rfl⟩
    · go_enter Tryd.func13, Tryd.ntmps13
      go_wp2_with fail
      go_loop [3, 16] (fun dd i => ∃ k d : Nat, k ≤ n ∧ i = .int .i64 k ∧ dd = .int .i64 d ∧ Hid (kd 0 (xs.take k) = some d) ∧ d ≤ k) (fun _ i => n - (intOf i).toNat)
      case atStart => exact ⟨0, 0, Nat.zero_le _, rfl, rfl, rfl, Nat.le_refl _⟩
      case round =>
        obtain ⟨k, d, hk, rfl, rfl, hkd, hdk⟩ := hrel
        by_cases hlt : k < n
        · obtain ⟨b, off, v, rfl, hb, hc, hv⟩ := h.at_ hlt
          have hbad := kd_bad (xs := xs) (d := d) (k := k) (by omega) hkd.out
          have hgood := kd_good (xs := xs) (d := d) (k := k) (by omega) hkd.out
          rw [hv.out] at hbad hgood
          have htk := tk_le v
          clear hlen h
          by_cases h0 : v < 0
          · have hf := Lib.hid (hbad (Or.inl h0))
            clear hbad hgood
            go_wp2
            go_ret
            exact ⟨ret_bool hf.out.symm, rfl⟩
          · by_cases h21 : 21 < v
            · have hf := Lib.hid (hbad (Or.inr (Or.inl h21)))
              clear hbad hgood
              go_wp2
              go_ret
              exact ⟨ret_bool hf.out.symm, rfl⟩
            · by_cases hd : d < tk v
              · have hf := Lib.hid (hbad (Or.inr (Or.inr hd)))
                clear hbad hgood
                go_wp2_with (go_at_call 20; refine (impl_takes _ _).mono ?_; rintro e w' ⟨rfl, rfl⟩)
                go_ret
                exact ⟨ret_bool hf.out.symm, rfl⟩
              · have hf := Lib.hid (hgood (by omega))
                clear hbad hgood
                go_wp2_with (go_at_call 20; refine (impl_takes _ _).mono ?_; rintro e w' ⟨rfl, rfl⟩)
                go_round
                case rel => exact ⟨k + 1, d - tk v + 1, by omega, by go_num, by congr 1; omega, hf.out, by omega⟩
                case measure => simp [intOf]; omega
        · obtain rfl : n = k := by omega
          have hf := Lib.hid (kd_done (xs := xs) hlen.symm hkd.out)
          have hok : decide (1 ≤ xs.length ∧ xs.length ≤ 40) = true := by simp; omega
          rw [hok] at hf
          clear hlen h hok
          go_wp2
          go_ret
          exact ⟨ret_bool (by rw [hf.out]; simp), rfl⟩
theorem spec_KatValid (A : Option Addr) (n c B : Nat) (xs : List Int) (w : World) (hn : n ≤ 1099511627776) (h : Ls w B A n c xs) :
    Calls Tryd.prog 10 #[.slice A n c] w fun e w' => e = .returned (.bool (katV xs)) ∧ w = w' := by
  have hlen := h.len
  go_enter Tryd.func10, Tryd.ntmps10
  go_wp2_with fail
  go_loop [3, 4] (fun dd i => ∃ k d : Nat, k ≤ n ∧ i = .int .i64 k ∧ dd = .int .i64 d ∧ Hid (kd 0 (xs.take k) = some d) ∧ d ≤ k) (fun _ i => n - (intOf i).toNat)
  case atStart => exact ⟨0, 0, Nat.zero_le _, rfl, rfl, rfl, Nat.le_refl _⟩
  case round =>
    obtain ⟨k, d, hk, rfl, rfl, hkd, hdk⟩ := hrel
    by_cases hlt : k < n
    · obtain ⟨b, off, v, rfl, hb, hc, hv⟩ := h.at_ hlt
      have hbad := kd_bad (xs := xs) (d := d) (k := k) (by omega) hkd.out
      have hgood := kd_good (xs := xs) (d := d) (k := k) (by omega) hkd.out
      rw [hv.out] at hbad hgood
      have htk := tk_le v
      clear hlen h
      by_cases h021 : 0 ≤ v ∧ v ≤ 21
      · have hr : inR v 0 21 = true := inR_true h021.1 h021.2
        by_cases hd : d < tk v
        · have hf := Lib.hid (hbad (Or.inr (Or.inr hd)))
          clear hbad hgood h021
          go_wp2_with (first | (go_at_call 16; refine (spec_l1In _ _ _ _).mono ?_; rintro e w' ⟨rfl, rfl⟩) | (go_at_call 17; refine (spec_l2Takes _ _).mono ?_; rintro e w' ⟨rfl, rfl⟩))
          go_ret
          exact ⟨ret_bool hf.out.symm, rfl⟩
        · have hf := Lib.hid (hgood (by omega))
          clear hbad hgood h021
          go_wp2_with (first | (go_at_call 16; refine (spec_l1In _ _ _ _).mono ?_; rintro e w' ⟨rfl, rfl⟩) | (go_at_call 17; refine (spec_l2Takes _ _).mono ?_; rintro e w' ⟨rfl, rfl⟩))
          go_round
          case rel => exact ⟨k + 1, d - tk v + 1, by omega, by go_num, by congr 1; omega, hf.out, by omega⟩
          case measure => simp [intOf]; omega
      · have hr : inR v 0 21 = false := by simp [inR]; omega
        have hf := Lib.hid (hbad (by omega))
        clear hbad hgood h021
        go_wp2_with (go_at_call 16; refine (spec_l1In _ _ _ _).mono ?_; rintro e w' ⟨rfl, rfl⟩)
        go_ret
        exact ⟨ret_bool hf.out.symm, rfl⟩
    · obtain rfl : n = k := by omega
      have hf := Lib.hid (kd_done (xs := xs) hlen.symm hkd.out)
      by_cases hok : 1 ≤ n ∧ n ≤ 40
      · have hr : inR (n : Int) 1 40 = true := inR_true (by omega) (by omega)
        have hok : decide (1 ≤ xs.length ∧ xs.length ≤ 40) = true := by simp; omega
        rw [hok] at hf
        clear hlen h hok
        go_wp2_with (go_at_call 16; refine (spec_l1In _ _ _ _).mono ?_; rintro e w' ⟨rfl, rfl⟩)
        go_ret
        exact ⟨ret_bool (by rw [hf.out]; simp), rfl⟩
      · have hr : inR (n : Int) 1 40 = false := by simp [inR]; omega
        have hok : decide (1 ≤ xs.length ∧ xs.length ≤ 40) = false := by simp; omega
        rw [hok] at hf
        clear hlen h hok
        go_wp2_with (go_at_call 16; refine (spec_l1In _ _ _ _).mono ?_; rintro e w' ⟨rfl, rfl⟩)
        go_ret
        exact ⟨ret_bool (by rw [hf.out]; simp), rfl⟩
end Go.Proofs.YtfhfjkpheloanaaDoor
