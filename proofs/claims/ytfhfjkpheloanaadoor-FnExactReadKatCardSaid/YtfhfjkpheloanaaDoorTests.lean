/-
  Contracts of the small functions on tests (chapter 1), the program's and the reference's, over the seat's translation.
-/
import Derived.Test.YtfhfjkpheloanaaDoorRows
import Derived.Test.YtfhfjkpheloanaaDoorPlainT
import Derived.WalkKit
import Derived.WalkSpells
import Derived.WalkLawsBesides
import Derived.Lib.Hide
namespace Go.Proofs.YtfhfjkpheloanaaDoor
open Go.RowKit
set_option linter.unusedVariables false
set_option maxHeartbeats 400000

theorem impl_TestValid (t : Int) (w : World) :
    Calls Tryd.prog 35 #[.int .i64 t] w fun e w' => e = .returned (.bool (vT t)) ∧ w = w' := by
  rcases vT_cases t with h | ⟨h1, h2⟩ | h
  · go_enter Tryd.func35, Tryd.ntmps35
    go_wp2
    go_ret
    exact ⟨ret_bool (vT_lo h).symm, rfl⟩
  · go_enter Tryd.func35, Tryd.ntmps35
    go_wp2
    go_ret
    exact ⟨ret_bool (vT_true h1 h2).symm, rfl⟩
  · go_enter Tryd.func35, Tryd.ntmps35
    go_wp2
    go_ret
    exact ⟨ret_bool (by rw [vT_hi h]; simp; omega), rfl⟩
theorem spec_l1In (n lo hi : Int) (w : World) :
    Calls Tryd.prog 16 #[.int .i64 n, .int .i64 lo, .int .i64 hi] w fun e w' => e = .returned (.bool (inR n lo hi)) ∧ w = w' := by
  rcases inR_cases n lo hi with h | ⟨h1, h2⟩ | h
  · go_enter Tryd.func16, Tryd.ntmps16
    go_wp2
    go_ret
    exact ⟨ret_bool (inR_lo h).symm, rfl⟩
  · go_enter Tryd.func16, Tryd.ntmps16
    go_wp2
    go_ret
    exact ⟨ret_bool (inR_true h1 h2).symm, rfl⟩
  · by_cases hlo : lo ≤ n
    · go_enter Tryd.func16, Tryd.ntmps16
      go_wp2
      go_ret
      exact ⟨ret_bool (by rw [inR_hi h]; simp; omega), rfl⟩
    · go_enter Tryd.func16, Tryd.ntmps16
      go_wp2
      go_ret
      exact ⟨ret_bool (by rw [inR_hi h]), rfl⟩
theorem spec_TestValid (t : Int) (w : World) :
    Calls Tryd.prog 25 #[.int .i64 t] w fun e w' => e = .returned (.bool (vT t)) ∧ w = w' := by
  go_enter Tryd.func25, Tryd.ntmps25
  go_wp2_with (go_at_call 16; refine (spec_l1In _ _ _ _).mono ?_; rintro e w' ⟨rfl, rfl⟩)
  go_ret
  exact ⟨rfl, rfl⟩
theorem impl_holds (t k : Int) (h0 : 0 ≤ t) (h1 : t ≤ 15) (h2 : 0 ≤ k) (h3 : k ≤ 3) (w : World) :
    Calls Tryd.prog 36 #[.int .i64 t, .int .i64 k] w fun e w' => e = .returned (.bool (bitI t k == 1)) ∧ w = w' := by
  go_enter Tryd.func36, Tryd.ntmps36
  go_wp2
  go_ret
  exact ⟨ret_bool (by rw [bits_and_one h0 h1 h2 h3]), rfl⟩
theorem spec_l1Bit (t k : Int) (h0 : 0 ≤ t) (h1 : t ≤ 15) (h2 : 0 ≤ k) (h3 : k ≤ 4) (w : World) :
    Calls Tryd.prog 27 #[.int .i64 t, .int .i64 k] w fun e w' => e = .returned (.int .i64 (bitI t k)) ∧ w = w' := by
  go_enter Tryd.func27, Tryd.ntmps27
  go_wp2
  go_ret
  exact ⟨ret_int (tmod_bit h0), rfl⟩
end Go.Proofs.YtfhfjkpheloanaaDoor
