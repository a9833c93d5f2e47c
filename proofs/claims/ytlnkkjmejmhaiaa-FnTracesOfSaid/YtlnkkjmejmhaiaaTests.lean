/-
  Contracts of the small functions on tests (chapter 1), the program's and the reference's, over the seat's translation.
-/
import Derived.Test.YtlnkkjmejmhaiaaRows
import Derived.Test.YtlnkkjmejmhaiaaPlainT
import Derived.WalkKit
import Derived.WalkSpells
import Derived.WalkLawsBesides
import Derived.Lib.Hide
namespace Go.Proofs.Ytlnkkjmejmhaiaa
open Go.RowKit
set_option linter.unusedVariables false
set_option maxHeartbeats 400000

theorem impl_TestValid (t : Int) (w : World) :
    Calls Try.prog 79 #[.int .i64 t] w fun e w' => e = .returned (.bool (vT t)) ∧ w = w' := by
  rcases vT_cases t with h | ⟨h1, h2⟩ | h
  · go_enter Try.func79, Try.ntmps79
    go_wp2
    go_ret
    exact ⟨ret_bool (vT_lo h).symm, rfl⟩
  · go_enter Try.func79, Try.ntmps79
    go_wp2
    go_ret
    exact ⟨ret_bool (vT_true h1 h2).symm, rfl⟩
  · go_enter Try.func79, Try.ntmps79
    go_wp2
    go_ret
    exact ⟨ret_bool (by rw [vT_hi h]; simp; omega), rfl⟩
theorem spec_l1In (n lo hi : Int) (w : World) :
    Calls Try.prog 57 #[.int .i64 n, .int .i64 lo, .int .i64 hi] w fun e w' => e = .returned (.bool (inR n lo hi)) ∧ w = w' := by
  rcases inR_cases n lo hi with h | ⟨h1, h2⟩ | h
  · go_enter Try.func57, Try.ntmps57
    go_wp2
    go_ret
    exact ⟨ret_bool (inR_lo h).symm, rfl⟩
  · go_enter Try.func57, Try.ntmps57
    go_wp2
    go_ret
    exact ⟨ret_bool (inR_true h1 h2).symm, rfl⟩
  · by_cases hlo : lo ≤ n
    · go_enter Try.func57, Try.ntmps57
      go_wp2
      go_ret
      exact ⟨ret_bool (by rw [inR_hi h]; simp; omega), rfl⟩
    · go_enter Try.func57, Try.ntmps57
      go_wp2
      go_ret
      exact ⟨ret_bool (by rw [inR_hi h]), rfl⟩
theorem impl_isAtom (t : Int) (w : World) :
    Calls Try.prog 74 #[.int .i64 t] w fun e w' => e = .returned (.bool (inR t 0 3)) ∧ w = w' := by
  rcases inR_cases t 0 3 with h | ⟨h1, h2⟩ | h
  · go_enter Try.func74, Try.ntmps74
    go_wp2
    go_ret
    exact ⟨ret_bool (inR_lo h).symm, rfl⟩
  · go_enter Try.func74, Try.ntmps74
    go_wp2
    go_ret
    exact ⟨ret_bool (inR_true h1 h2).symm, rfl⟩
  · go_enter Try.func74, Try.ntmps74
    go_wp2
    go_ret
    exact ⟨ret_bool (by rw [inR_hi h]; simp; omega), rfl⟩
theorem impl_holds (t k : Int) (h0 : 0 ≤ t) (h1 : t ≤ 15) (h2 : 0 ≤ k) (h3 : k ≤ 3) (w : World) :
    Calls Try.prog 95 #[.int .i64 t, .int .i64 k] w fun e w' => e = .returned (.bool (bitI t k == 1)) ∧ w = w' := by
  go_enter Try.func95, Try.ntmps95
  go_wp2
  go_ret
  exact ⟨ret_bool (by rw [bits_and_one h0 h1 h2 h3]), rfl⟩
theorem spec_l1Bit (t k : Int) (h0 : 0 ≤ t) (h1 : t ≤ 15) (h2 : 0 ≤ k) (h3 : k ≤ 4) (w : World) :
    Calls Try.prog 80 #[.int .i64 t, .int .i64 k] w fun e w' => e = .returned (.int .i64 (bitI t k)) ∧ w = w' := by
  go_enter Try.func80, Try.ntmps80
  go_wp2
  go_ret
  exact ⟨ret_int (tmod_bit h0), rfl⟩
theorem impl_TestNot (t : Int) (w : World) :
    Calls Try.prog 59 #[.int .i64 t] w fun e w' => e = .returned (.int .i64 (tNot t)) ∧ w = w' := by
  cases hv : vT t
  · go_enter Try.func59, Try.ntmps59
    go_wp2_with (go_at_call 79; refine (impl_TestValid _ _).mono ?_; rintro e w' ⟨rfl, rfl⟩)
    go_ret
    exact ⟨ret_int (by simp [tNot, hv]), rfl⟩
  · have hT := vT_iff.1 hv
    go_enter Try.func59, Try.ntmps59
    go_wp2_with (go_at_call 79; refine (impl_TestValid _ _).mono ?_; rintro e w' ⟨rfl, rfl⟩)
    go_ret
    exact ⟨ret_int (by rw [bits_andNot_t (by decide) (by decide) hT.1 hT.2]; simp only [tNot, hv, if_true]; rw [and15 hT.1 hT.2]), rfl⟩
end Go.Proofs.Ytlnkkjmejmhaiaa
