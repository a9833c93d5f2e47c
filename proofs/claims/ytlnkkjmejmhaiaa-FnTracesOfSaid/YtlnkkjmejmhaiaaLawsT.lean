/-
  The walks of the laws on tests (chapter 1).
-/
import Derived.Test.YtlnkkjmejmhaiaaTests
import Derived.Test.YtlnkkjmejmhaiaaDraw
namespace Go.Proofs.Ytlnkkjmejmhaiaa
open Go.RowKit
set_option linter.unusedVariables false
set_option maxHeartbeats 400000

theorem laws_alive (w : World) : Calls Try.prog 24 #[] w fun e w' => e = .returned (.bool true) ∧ w = w' := by
  have e0 : (tNot 0 == 15) = true := by decide
  have e1 : (tNot 15 == 0) = true := by decide
  go_enter Try.func24, Try.ntmps24
  go_wp2_with (go_at_call 59; refine (impl_TestNot _ _).mono ?_; rintro e w' ⟨rfl, rfl⟩)
  go_ret
  exact ⟨rfl, rfl⟩
end Go.Proofs.Ytlnkkjmejmhaiaa
