/-
  Contracts of the small functions on tests (chapter 1), the program's and the reference's, over the seat's translation.
-/
import Derived.Test.YtajeknacjbkpiaaRows
import Derived.Test.YtajeknacjbkpiaaPlainT
import Derived.WalkKit
import Derived.WalkSpells
import Derived.WalkLawsBesides
import Derived.Lib.Hide
namespace Go.Proofs.Ytajeknacjbkpiaa
open Go.RowKit
set_option linter.unusedVariables false
set_option maxHeartbeats 400000

theorem impl_TestValid (t : Int) (w : World) :
    Calls Try.prog 39 #[.int .i64 t] w fun e w' => e = .returned (.bool (vT t)) ∧ w = w' := by
  rcases vT_cases t with h | ⟨h1, h2⟩ | h
  · go_enter Try.func39, Try.ntmps39
    go_wp2
    go_ret
    exact ⟨ret_bool (vT_lo h).symm, rfl⟩
  · go_enter Try.func39, Try.ntmps39
    go_wp2
    go_ret
    exact ⟨ret_bool (vT_true h1 h2).symm, rfl⟩
  · go_enter Try.func39, Try.ntmps39
    go_wp2
    go_ret
    exact ⟨ret_bool (by rw [vT_hi h]; simp; omega), rfl⟩
theorem spec_l1In (n lo hi : Int) (w : World) :
    Calls Try.prog 43 #[.int .i64 n, .int .i64 lo, .int .i64 hi] w fun e w' => e = .returned (.bool (inR n lo hi)) ∧ w = w' := by
  rcases inR_cases n lo hi with h | ⟨h1, h2⟩ | h
  · go_enter Try.func43, Try.ntmps43
    go_wp2
    go_ret
    exact ⟨ret_bool (inR_lo h).symm, rfl⟩
  · go_enter Try.func43, Try.ntmps43
    go_wp2
    go_ret
    exact ⟨ret_bool (inR_true h1 h2).symm, rfl⟩
  · by_cases hlo : lo ≤ n
    · go_enter Try.func43, Try.ntmps43
      go_wp2
      go_ret
      exact ⟨ret_bool (by rw [inR_hi h]; simp; omega), rfl⟩
    · go_enter Try.func43, Try.ntmps43
      go_wp2
      go_ret
      exact ⟨ret_bool (by rw [inR_hi h]), rfl⟩
theorem spec_TestValid (t : Int) (w : World) :
    Calls Try.prog 20 #[.int .i64 t] w fun e w' => e = .returned (.bool (vT t)) ∧ w = w' := by
  go_enter Try.func20, Try.ntmps20
  go_wp2_with (go_at_call 43; refine (spec_l1In _ _ _ _).mono ?_; rintro e w' ⟨rfl, rfl⟩)
  go_ret
  exact ⟨rfl, rfl⟩
theorem impl_isAtom (t : Int) (w : World) :
    Calls Try.prog 45 #[.int .i64 t] w fun e w' => e = .returned (.bool (inR t 0 3)) ∧ w = w' := by
  rcases inR_cases t 0 3 with h | ⟨h1, h2⟩ | h
  · go_enter Try.func45, Try.ntmps45
    go_wp2
    go_ret
    exact ⟨ret_bool (inR_lo h).symm, rfl⟩
  · go_enter Try.func45, Try.ntmps45
    go_wp2
    go_ret
    exact ⟨ret_bool (inR_true h1 h2).symm, rfl⟩
  · go_enter Try.func45, Try.ntmps45
    go_wp2
    go_ret
    exact ⟨ret_bool (by rw [inR_hi h]; simp; omega), rfl⟩
theorem impl_holds (t k : Int) (h0 : 0 ≤ t) (h1 : t ≤ 15) (h2 : 0 ≤ k) (h3 : k ≤ 3) (w : World) :
    Calls Try.prog 44 #[.int .i64 t, .int .i64 k] w fun e w' => e = .returned (.bool (bitI t k == 1)) ∧ w = w' := by
  go_enter Try.func44, Try.ntmps44
  go_wp2
  go_ret
  exact ⟨ret_bool (by rw [bits_and_one h0 h1 h2 h3]), rfl⟩
theorem spec_l1Bit (t k : Int) (h0 : 0 ≤ t) (h1 : t ≤ 15) (h2 : 0 ≤ k) (h3 : k ≤ 4) (w : World) :
    Calls Try.prog 51 #[.int .i64 t, .int .i64 k] w fun e w' => e = .returned (.int .i64 (bitI t k)) ∧ w = w' := by
  go_enter Try.func51, Try.ntmps51
  go_wp2
  go_ret
  exact ⟨ret_int (tmod_bit h0), rfl⟩
theorem impl_TestNot (t : Int) (w : World) :
    Calls Try.prog 15 #[.int .i64 t] w fun e w' => e = .returned (.int .i64 (tNot t)) ∧ w = w' := by
  cases hv : vT t
  · go_enter Try.func15, Try.ntmps15
    go_wp2_with (go_at_call 39; refine (impl_TestValid _ _).mono ?_; rintro e w' ⟨rfl, rfl⟩)
    go_ret
    exact ⟨ret_int (by simp [tNot, hv]), rfl⟩
  · have hT := vT_iff.1 hv
    go_enter Try.func15, Try.ntmps15
    go_wp2_with (go_at_call 39; refine (impl_TestValid _ _).mono ?_; rintro e w' ⟨rfl, rfl⟩)
    go_ret
    exact ⟨ret_int (by rw [bits_andNot_t (by decide) (by decide) hT.1 hT.2]; simp only [tNot, hv, if_true]; rw [and15 hT.1 hT.2]), rfl⟩
theorem impl_TestAnd (a b : Int) (w : World) :
    Calls Try.prog 12 #[.int .i64 a, .int .i64 b] w fun e w' => e = .returned (.int .i64 (tAnd a b)) ∧ w = w' := by
  cases hv : vT a
  · go_enter Try.func12, Try.ntmps12
    go_wp2_with (go_at_call 39; refine (impl_TestValid _ _).mono ?_; rintro e w' ⟨rfl, rfl⟩)
    go_ret
    exact ⟨ret_int (by simp [tAnd, hv]), rfl⟩
  · cases hu : vT b
    · go_enter Try.func12, Try.ntmps12
      go_wp2_with (go_at_call 39; refine (impl_TestValid _ _).mono ?_; rintro e w' ⟨rfl, rfl⟩)
      go_ret
      exact ⟨ret_int (by simp [tAnd, hv, hu]), rfl⟩
    · have hA := vT_iff.1 hv
      have hB := vT_iff.1 hu
      go_enter Try.func12, Try.ntmps12
      go_wp2_with (go_at_call 39; refine (impl_TestValid _ _).mono ?_; rintro e w' ⟨rfl, rfl⟩)
      go_ret
      exact ⟨ret_int (by rw [bits_and_t hA.1 hA.2 hB.1 hB.2]; simp [tAnd, hv, hu]), rfl⟩
theorem impl_TestOr (a b : Int) (w : World) :
    Calls Try.prog 16 #[.int .i64 a, .int .i64 b] w fun e w' => e = .returned (.int .i64 (tOr a b)) ∧ w = w' := by
  cases hv : vT a
  · go_enter Try.func16, Try.ntmps16
    go_wp2_with (go_at_call 39; refine (impl_TestValid _ _).mono ?_; rintro e w' ⟨rfl, rfl⟩)
    go_ret
    exact ⟨ret_int (by simp [tOr, hv]), rfl⟩
  · cases hu : vT b
    · go_enter Try.func16, Try.ntmps16
      go_wp2_with (go_at_call 39; refine (impl_TestValid _ _).mono ?_; rintro e w' ⟨rfl, rfl⟩)
      go_ret
      exact ⟨ret_int (by simp [tOr, hv, hu]), rfl⟩
    · have hA := vT_iff.1 hv
      have hB := vT_iff.1 hu
      go_enter Try.func16, Try.ntmps16
      go_wp2_with (go_at_call 39; refine (impl_TestValid _ _).mono ?_; rintro e w' ⟨rfl, rfl⟩)
      go_ret
      exact ⟨ret_int (by rw [bits_or_t hA.1 hA.2 hB.1 hB.2]; simp [tOr, hv, hu]), rfl⟩
theorem impl_TestBelow (a b : Int) (w : World) :
    Calls Try.prog 18 #[.int .i64 a, .int .i64 b] w fun e w' => e = .returned (.bool (tBelow a b)) ∧ w = w' := by
  cases hv : vT a
  · go_enter Try.func18, Try.ntmps18
    go_wp2_with (go_at_call 39; refine (impl_TestValid _ _).mono ?_; rintro e w' ⟨rfl, rfl⟩)
    go_ret
    exact ⟨ret_bool (by simp [tBelow, hv]), rfl⟩
  · cases hu : vT b
    · go_enter Try.func18, Try.ntmps18
      go_wp2_with (go_at_call 39; refine (impl_TestValid _ _).mono ?_; rintro e w' ⟨rfl, rfl⟩)
      go_ret
      exact ⟨ret_bool (by simp [tBelow, hv, hu]), rfl⟩
    · have hA := vT_iff.1 hv
      have hB := vT_iff.1 hu
      go_enter Try.func18, Try.ntmps18
      go_wp2_with (go_at_call 39; refine (impl_TestValid _ _).mono ?_; rintro e w' ⟨rfl, rfl⟩)
      go_ret
      exact ⟨ret_bool (by rw [bits_andNot_t hA.1 hA.2 hB.1 hB.2]; simp [tBelow, hv, hu]; rw [Bool.eq_iff_iff]; simp; omega), rfl⟩
theorem spec_l1Both (a b : Int) (h0 : 0 ≤ a) (h1 : a ≤ 15) (h2 : 0 ≤ b) (h3 : b ≤ 15) (w : World) :
    Calls Try.prog 40 #[.int .i64 a, .int .i64 b] w fun e w' => e = .returned (.int .i64 (andI a b)) ∧ w = w' := by
  go_enter Try.func40, Try.ntmps40
  go_wp2_with fail
  go_loop [5, 6] (fun n i => ∃ k : Nat, k ≤ 4 ∧ i = .int .i64 k ∧ n = .int .i64 (andI a b % 2 ^ k)) (fun _ i => 4 - (intOf i).toNat)
  case atStart => exact ⟨0, by omega, rfl, by simp [Int.emod_one]⟩
  case round =>
    obtain ⟨k, hk, rfl, rfl⟩ := hrel
    have E := both_end h0 h1 h2 h3 (k := k)
    have hb := andI_bd h0 h1 h2 h3
    have h4 : k = 0 ∨ k = 1 ∨ k = 2 ∨ k = 3 ∨ k = 4 := by omega
    by_cases ha : 2 ^ k ≤ a
    · by_cases hb : 2 ^ k ≤ b
      · clear E
        rcases h4 with rfl | rfl | rfl | rfl | rfl
        all_goals simp at ha hb
        · go_wp2_with (go_at_call 51; refine (spec_l1Bit _ _ (by omega) (by omega) (by omega) (by omega) _).mono ?_; rintro e w' ⟨rfl, rfl⟩)
          go_round
          case rel => exact ⟨1, by omega, rfl, by rw [both_0 h0 h1 h2 h3]⟩
          case measure => simp [intOf]
        · go_wp2_with (go_at_call 51; refine (spec_l1Bit _ _ (by omega) (by omega) (by omega) (by omega) _).mono ?_; rintro e w' ⟨rfl, rfl⟩)
          go_round
          case rel => exact ⟨2, by omega, rfl, by rw [both_1 h0 h1 h2 h3]⟩
          case measure => simp [intOf]
        · go_wp2_with (go_at_call 51; refine (spec_l1Bit _ _ (by omega) (by omega) (by omega) (by omega) _).mono ?_; rintro e w' ⟨rfl, rfl⟩)
          go_round
          case rel => exact ⟨3, by omega, rfl, by rw [both_2 h0 h1 h2 h3]⟩
          case measure => simp [intOf]
        · go_wp2_with (go_at_call 51; refine (spec_l1Bit _ _ (by omega) (by omega) (by omega) (by omega) _).mono ?_; rintro e w' ⟨rfl, rfl⟩)
          go_round
          case rel => exact ⟨4, by omega, rfl, by rw [both_3 h0 h1 h2 h3]⟩
          case measure => simp [intOf]
        · omega
      · have E := Lib.hid (E (by omega))
        rcases h4 with rfl | rfl | rfl | rfl | rfl
        all_goals
          simp at ha hb
          first | omega | (go_wp2; go_ret; exact ⟨ret_int (by simpa using E.out), rfl⟩)
    · have E := Lib.hid (E (by omega))
      rcases h4 with rfl | rfl | rfl | rfl | rfl
      all_goals
        simp at ha
        go_wp2
        go_ret
        exact ⟨ret_int (by simpa using E.out), rfl⟩
theorem spec_TestAnd (a b : Int) (w : World) :
    Calls Try.prog 13 #[.int .i64 a, .int .i64 b] w fun e w' => e = .returned (.int .i64 (tAnd a b)) ∧ w = w' := by
  cases hv : vT a
  · go_enter Try.func13, Try.ntmps13
    go_wp2_with (go_at_call 20; refine (spec_TestValid _ _).mono ?_; rintro e w' ⟨rfl, rfl⟩)
    go_ret
    exact ⟨ret_int (by simp [tAnd, hv]), rfl⟩
  · cases hu : vT b
    · go_enter Try.func13, Try.ntmps13
      go_wp2_with (go_at_call 20; refine (spec_TestValid _ _).mono ?_; rintro e w' ⟨rfl, rfl⟩)
      go_ret
      exact ⟨ret_int (by simp [tAnd, hv, hu]), rfl⟩
    · have hA := vT_iff.1 hv
      have hB := vT_iff.1 hu
      go_enter Try.func13, Try.ntmps13
      go_wp2_with (first | (go_at_call 20; refine (spec_TestValid _ _).mono ?_; rintro e w' ⟨rfl, rfl⟩) | (go_at_call 40; refine (spec_l1Both _ _ hA.1 hA.2 hB.1 hB.2 _).mono ?_; rintro e w' ⟨rfl, rfl⟩))
      go_ret
      exact ⟨ret_int (by simp [tAnd, hv, hu]), rfl⟩
theorem spec_l1Either (a b : Int) (h0 : 0 ≤ a) (h1 : a ≤ 15) (h2 : 0 ≤ b) (h3 : b ≤ 15) (w : World) :
    Calls Try.prog 42 #[.int .i64 a, .int .i64 b] w fun e w' => e = .returned (.int .i64 (orI a b)) ∧ w = w' := by
  have hb := andI_bd h0 h1 h2 h3
  go_enter Try.func42, Try.ntmps42
  go_wp2_with (go_at_call 40; refine (spec_l1Both _ _ h0 h1 h2 h3 _).mono ?_; rintro e w' ⟨rfl, rfl⟩)
  go_ret
  exact ⟨ret_int (either_eq h0 h1 h2 h3), rfl⟩
theorem spec_TestOr (a b : Int) (w : World) :
    Calls Try.prog 22 #[.int .i64 a, .int .i64 b] w fun e w' => e = .returned (.int .i64 (tOr a b)) ∧ w = w' := by
  cases hv : vT a
  · go_enter Try.func22, Try.ntmps22
    go_wp2_with (go_at_call 20; refine (spec_TestValid _ _).mono ?_; rintro e w' ⟨rfl, rfl⟩)
    go_ret
    exact ⟨ret_int (by simp [tOr, hv]), rfl⟩
  · cases hu : vT b
    · go_enter Try.func22, Try.ntmps22
      go_wp2_with (go_at_call 20; refine (spec_TestValid _ _).mono ?_; rintro e w' ⟨rfl, rfl⟩)
      go_ret
      exact ⟨ret_int (by simp [tOr, hv, hu]), rfl⟩
    · have hA := vT_iff.1 hv
      have hB := vT_iff.1 hu
      go_enter Try.func22, Try.ntmps22
      go_wp2_with (first | (go_at_call 20; refine (spec_TestValid _ _).mono ?_; rintro e w' ⟨rfl, rfl⟩) | (go_at_call 42; refine (spec_l1Either _ _ hA.1 hA.2 hB.1 hB.2 _).mono ?_; rintro e w' ⟨rfl, rfl⟩))
      go_ret
      exact ⟨ret_int (by simp [tOr, hv, hu]), rfl⟩
theorem spec_TestBelow (a b : Int) (w : World) :
    Calls Try.prog 19 #[.int .i64 a, .int .i64 b] w fun e w' => e = .returned (.bool (tBelow a b)) ∧ w = w' := by
  cases hv : vT a
  · go_enter Try.func19, Try.ntmps19
    go_wp2_with (go_at_call 20; refine (spec_TestValid _ _).mono ?_; rintro e w' ⟨rfl, rfl⟩)
    go_ret
    exact ⟨ret_bool (by simp [tBelow, hv]), rfl⟩
  · cases hu : vT b
    · go_enter Try.func19, Try.ntmps19
      go_wp2_with (go_at_call 20; refine (spec_TestValid _ _).mono ?_; rintro e w' ⟨rfl, rfl⟩)
      go_ret
      exact ⟨ret_bool (by simp [tBelow, hv, hu]), rfl⟩
    · have hA := vT_iff.1 hv
      have hB := vT_iff.1 hu
      go_enter Try.func19, Try.ntmps19
      go_wp2_with (first | (go_at_call 20; refine (spec_TestValid _ _).mono ?_; rintro e w' ⟨rfl, rfl⟩) | (go_at_call 40; refine (spec_l1Both _ _ hA.1 hA.2 hB.1 hB.2 _).mono ?_; rintro e w' ⟨rfl, rfl⟩))
      go_ret
      exact ⟨ret_bool (by simp [tBelow, hv, hu]), rfl⟩
theorem impl_TestMany (t : Int) (w : World) :
    Calls Try.prog 23 #[.int .i64 t] w fun e w' => e = .returned (.int .i64 (tMany t)) ∧ w = w' := by
  cases hv : vT t
  · go_enter Try.func23, Try.ntmps23
    go_wp2_with (go_at_call 39; refine (impl_TestValid _ _).mono ?_; rintro e w' ⟨rfl, rfl⟩)
    go_ret
    exact ⟨ret_int (by simp [tMany, hv]), rfl⟩
  · have hT := vT_iff.1 hv
    go_enter Try.func23, Try.ntmps23
    go_wp2_with (go_at_call 39; refine (impl_TestValid _ _).mono ?_; rintro e w' ⟨rfl, rfl⟩)
    go_loop [3, 8] (fun n i => ∃ k : Nat, k ≤ 4 ∧ i = .int .i64 k ∧ n = .int .i64 (cntB t k)) (fun _ i => 4 - (intOf i).toNat)
    case atStart => exact ⟨0, by omega, rfl, rfl⟩
    case round =>
      obtain ⟨k, hk, rfl, rfl⟩ := hrel
      have hb := cntB_bd t k
      by_cases hlt : k < 4
      · cases hbit : (bitI t k == 1)
        · have HS := Lib.hid (cntB_no hbit)
          go_wp2_with (go_at_call 44; refine (impl_holds _ _ hT.1 hT.2 (by omega) (by omega) _).mono ?_; rintro e w' ⟨rfl, rfl⟩)
          go_round
          case rel => exact ⟨k + 1, by omega, by go_num, by rw [HS.out]⟩
          case measure => simp [intOf]; omega
        · have HS := Lib.hid (cntB_one hbit)
          go_wp2_with (go_at_call 44; refine (impl_holds _ _ hT.1 hT.2 (by omega) (by omega) _).mono ?_; rintro e w' ⟨rfl, rfl⟩)
          go_round
          case rel => exact ⟨k + 1, by omega, by go_num, by rw [HS.out]⟩
          case measure => simp [intOf]; omega
      · obtain rfl : k = 4 := by omega
        go_wp2
        go_ret
        exact ⟨ret_int (by simp [tMany, hv]), rfl⟩
end Go.Proofs.Ytajeknacjbkpiaa
