/-
  Contracts of the small functions on tests (chapter 1), the program's and the reference's, over the seat's translation.
-/
import Derived.Test.YtcilncdhkniigaaRows
import Derived.Test.YtcilncdhkniigaaPlainT
import Derived.WalkKit
import Derived.WalkSpells
import Derived.WalkLawsBesides
import Derived.Lib.Hide
namespace Go.Proofs.Ytcilncdhkniigaa
open Go.RowKit
set_option linter.unusedVariables false
set_option maxHeartbeats 400000

theorem impl_TestValid (t : Int) (w : World) :
    Calls Try.prog 60 #[.int .i64 t] w fun e w' => e = .returned (.bool (vT t)) ∧ w = w' := by
  rcases vT_cases t with h | ⟨h1, h2⟩ | h
  · go_enter Try.func60, Try.ntmps60
    go_wp2
    go_ret
    exact ⟨ret_bool (vT_lo h).symm, rfl⟩
  · go_enter Try.func60, Try.ntmps60
    go_wp2
    go_ret
    exact ⟨ret_bool (vT_true h1 h2).symm, rfl⟩
  · go_enter Try.func60, Try.ntmps60
    go_wp2
    go_ret
    exact ⟨ret_bool (by rw [vT_hi h]; simp; omega), rfl⟩
theorem spec_l1In (n lo hi : Int) (w : World) :
    Calls Try.prog 51 #[.int .i64 n, .int .i64 lo, .int .i64 hi] w fun e w' => e = .returned (.bool (inR n lo hi)) ∧ w = w' := by
  rcases inR_cases n lo hi with h | ⟨h1, h2⟩ | h
  · go_enter Try.func51, Try.ntmps51
    go_wp2
    go_ret
    exact ⟨ret_bool (inR_lo h).symm, rfl⟩
  · go_enter Try.func51, Try.ntmps51
    go_wp2
    go_ret
    exact ⟨ret_bool (inR_true h1 h2).symm, rfl⟩
  · by_cases hlo : lo ≤ n
    · go_enter Try.func51, Try.ntmps51
      go_wp2
      go_ret
      exact ⟨ret_bool (by rw [inR_hi h]; simp; omega), rfl⟩
    · go_enter Try.func51, Try.ntmps51
      go_wp2
      go_ret
      exact ⟨ret_bool (by rw [inR_hi h]), rfl⟩
theorem spec_TestValid (t : Int) (w : World) :
    Calls Try.prog 58 #[.int .i64 t] w fun e w' => e = .returned (.bool (vT t)) ∧ w = w' := by
  go_enter Try.func58, Try.ntmps58
  go_wp2_with (go_at_call 51; refine (spec_l1In _ _ _ _).mono ?_; rintro e w' ⟨rfl, rfl⟩)
  go_ret
  exact ⟨rfl, rfl⟩
theorem impl_isAtom (t : Int) (w : World) :
    Calls Try.prog 64 #[.int .i64 t] w fun e w' => e = .returned (.bool (inR t 0 3)) ∧ w = w' := by
  rcases inR_cases t 0 3 with h | ⟨h1, h2⟩ | h
  · go_enter Try.func64, Try.ntmps64
    go_wp2
    go_ret
    exact ⟨ret_bool (inR_lo h).symm, rfl⟩
  · go_enter Try.func64, Try.ntmps64
    go_wp2
    go_ret
    exact ⟨ret_bool (inR_true h1 h2).symm, rfl⟩
  · go_enter Try.func64, Try.ntmps64
    go_wp2
    go_ret
    exact ⟨ret_bool (by rw [inR_hi h]; simp; omega), rfl⟩
theorem impl_TestNot (t : Int) (w : World) :
    Calls Try.prog 42 #[.int .i64 t] w fun e w' => e = .returned (.int .i64 (tNot t)) ∧ w = w' := by
  cases hv : vT t
  · go_enter Try.func42, Try.ntmps42
    go_wp2_with (go_at_call 60; refine (impl_TestValid _ _).mono ?_; rintro e w' ⟨rfl, rfl⟩)
    go_ret
    exact ⟨ret_int (by simp [tNot, hv]), rfl⟩
  · have hT := vT_iff.1 hv
    go_enter Try.func42, Try.ntmps42
    go_wp2_with (go_at_call 60; refine (impl_TestValid _ _).mono ?_; rintro e w' ⟨rfl, rfl⟩)
    go_ret
    exact ⟨ret_int (by rw [bits_andNot_t (by decide) (by decide) hT.1 hT.2]; simp only [tNot, hv, if_true]; rw [and15 hT.1 hT.2]), rfl⟩
theorem spec_TestNot (t : Int) (w : World) :
    Calls Try.prog 59 #[.int .i64 t] w fun e w' => e = .returned (.int .i64 (tNot t)) ∧ w = w' := by
  cases hv : vT t
  · go_enter Try.func59, Try.ntmps59
    go_wp2_with (go_at_call 58; refine (spec_TestValid _ _).mono ?_; rintro e w' ⟨rfl, rfl⟩)
    go_ret
    exact ⟨ret_int (by simp [tNot, hv]), rfl⟩
  · have hT := vT_iff.1 hv
    go_enter Try.func59, Try.ntmps59
    go_wp2_with (go_at_call 58; refine (spec_TestValid _ _).mono ?_; rintro e w' ⟨rfl, rfl⟩)
    go_ret
    exact ⟨ret_int (by simp [tNot, hv]), rfl⟩
end Go.Proofs.Ytcilncdhkniigaa
