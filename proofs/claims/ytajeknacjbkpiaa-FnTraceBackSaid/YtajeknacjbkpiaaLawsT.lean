/-
  The walks of the laws on tests (chapter 1).
-/
import Derived.Test.YtajeknacjbkpiaaTests
import Derived.Test.YtajeknacjbkpiaaDraw
namespace Go.Proofs.Ytajeknacjbkpiaa
open Go.RowKit
set_option linter.unusedVariables false
set_option maxHeartbeats 400000

theorem laws_alive (w : World) : Calls Try.prog 14 #[] w fun e w' => e = .returned (.bool true) ∧ w = w' := by
  have e0 : (tNot 0 == 15) = true := by decide
  have e1 : (tNot 15 == 0) = true := by decide
  go_enter Try.func14, Try.ntmps14
  go_wp2_with (go_at_call 15; refine (impl_TestNot _ _).mono ?_; rintro e w' ⟨rfl, rfl⟩)
  go_ret
  exact ⟨rfl, rfl⟩
theorem walk_FnTestAnd (a0 : Option Addr) (len0 cap0 : Nat) (z0 : List Int) (w : World) (w0 : RowIn .u8 w a0 len0 cap0 z0) :
    Calls Try.prog 3 #[.slice a0 len0 cap0] w fun e w' => e = .returned (.bool true) ∧ Below w.heap.size w w' := by
  by_cases hl : 1048576 < len0
  · clear w0
    go_enter Try.func3, Try.ntmps3
    go_wp2
    go_ret
    exact ⟨rfl, Below.refl _ _⟩
  · go_enter Try.func3, Try.ntmps3
    go_wp2_with fail
    refine (draw_TestAnd a0 len0 cap0 z0 w w0).mono ?_
    rintro e w1 ⟨a, b, rfl, t0, t1, u0, u1, hb⟩
    clear w0
    by_cases hv : vT a = true ∧ vT b = true
    · obtain ⟨hv, hu⟩ := hv
      have hA := vT_iff.1 hv
      have hB := vT_iff.1 hu
      have e1 : 0 ≤ tAnd a b ∧ tAnd a b ≤ 15 := two_tests (P := fun a b => 0 ≤ tAnd a b ∧ tAnd a b ≤ 15) (by decide +kernel) hA.1 hA.2 hB.1 hB.2
      have e2 : (tNot (tAnd a b) == tOr (tNot a) (tNot b)) = true := two_tests (P := fun a b => (tNot (tAnd a b) == tOr (tNot a) (tNot b)) = true) (by decide +kernel) hA.1 hA.2 hB.1 hB.2
      have e3 : (tAnd b a == tAnd a b) = true := two_tests (P := fun a b => (tAnd b a == tAnd a b) = true) (by decide +kernel) hA.1 hA.2 hB.1 hB.2
      have e4 : (tAnd a a == a) = true := sixteen (P := fun a => (tAnd a a == a) = true) (by decide +kernel) hA.1 hA.2
      clear hv hu
      go_wp2_with (first | (go_at_call 15; refine (impl_TestNot _ _).mono ?_; rintro e w' ⟨rfl, rfl⟩) | (go_at_call 12; refine (impl_TestAnd _ _ _).mono ?_; rintro e w' ⟨rfl, rfl⟩) | (go_at_call 16; refine (impl_TestOr _ _ _).mono ?_; rintro e w' ⟨rfl, rfl⟩) | (go_at_call 13; refine (spec_TestAnd _ _ _).mono ?_; rintro e w' ⟨rfl, rfl⟩))
      go_ret
      exact ⟨rfl, hb⟩
    · have ev : tAnd a b = -1 := by
        unfold tAnd
        rw [if_neg (by simpa using hv)]
      have hev := Lib.hid ev
      clear ev hv
      go_wp2_with fail
      refine (impl_TestAnd _ _ _).mono ?_
      rintro e w' ⟨rfl, rfl⟩
      go_wp2_with fail
      refine (spec_TestAnd _ _ _).mono ?_
      rintro e w' ⟨rfl, rfl⟩
      rw [hev.out]
      go_wp2_with (go_at_call 14; refine (laws_alive _).mono ?_; rintro e w' ⟨rfl, rfl⟩)
      go_ret
      exact ⟨rfl, hb⟩
theorem walk_FnTestBelow (a0 : Option Addr) (len0 cap0 : Nat) (z0 : List Int) (w : World) (w0 : RowIn .u8 w a0 len0 cap0 z0) :
    Calls Try.prog 4 #[.slice a0 len0 cap0] w fun e w' => e = .returned (.bool true) ∧ Below w.heap.size w w' := by
  by_cases hl : 1048576 < len0
  · clear w0
    go_enter Try.func4, Try.ntmps4
    go_wp2
    go_ret
    exact ⟨rfl, Below.refl _ _⟩
  · go_enter Try.func4, Try.ntmps4
    go_wp2_with fail
    refine (draw_TestBelow a0 len0 cap0 z0 w w0).mono ?_
    rintro e w1 ⟨a, b, rfl, t0, t1, u0, u1, hb⟩
    clear w0
    have fin : tBelow a b = tBelow a b := rfl
    cases hv : vT a
    · have e1 : tBelow a b = false := by simp [tBelow, hv]
      go_wp2_with (first | (go_at_call 18; refine (impl_TestBelow _ _ _).mono ?_; rintro e w' ⟨rfl, rfl⟩) | (go_at_call 19; refine (spec_TestBelow _ _ _).mono ?_; rintro e w' ⟨rfl, rfl⟩) | (go_at_call 20; refine (spec_TestValid _ _).mono ?_; rintro e w' ⟨rfl, rfl⟩) | (go_at_call 14; refine (laws_alive _).mono ?_; rintro e w' ⟨rfl, rfl⟩))
      go_ret
      exact ⟨rfl, hb⟩
    · cases hu : vT b
      · have e1 : tBelow a b = false := by simp [tBelow, hv, hu]
        go_wp2_with (first | (go_at_call 18; refine (impl_TestBelow _ _ _).mono ?_; rintro e w' ⟨rfl, rfl⟩) | (go_at_call 19; refine (spec_TestBelow _ _ _).mono ?_; rintro e w' ⟨rfl, rfl⟩) | (go_at_call 20; refine (spec_TestValid _ _).mono ?_; rintro e w' ⟨rfl, rfl⟩) | (go_at_call 14; refine (laws_alive _).mono ?_; rintro e w' ⟨rfl, rfl⟩))
        go_ret
        exact ⟨rfl, hb⟩
      · have hA := vT_iff.1 hv
        have hB := vT_iff.1 hu
        have e2 : (tBelow (tNot b) (tNot a) == tBelow a b) = true := two_tests (P := fun a b => (tBelow (tNot b) (tNot a) == tBelow a b) = true) (by decide +kernel) hA.1 hA.2 hB.1 hB.2
        have e3 : (tBelow a b == (tOr a b == b)) = true := two_tests (P := fun a b => (tBelow a b == (tOr a b == b)) = true) (by decide +kernel) hA.1 hA.2 hB.1 hB.2
        go_wp2_with (first | (go_at_call 18; refine (impl_TestBelow _ _ _).mono ?_; rintro e w' ⟨rfl, rfl⟩) | (go_at_call 19; refine (spec_TestBelow _ _ _).mono ?_; rintro e w' ⟨rfl, rfl⟩) | (go_at_call 20; refine (spec_TestValid _ _).mono ?_; rintro e w' ⟨rfl, rfl⟩) | (go_at_call 15; refine (impl_TestNot _ _).mono ?_; rintro e w' ⟨rfl, rfl⟩) | (go_at_call 16; refine (impl_TestOr _ _ _).mono ?_; rintro e w' ⟨rfl, rfl⟩))
        go_ret
        exact ⟨rfl, hb⟩
theorem walk_FnTestOr (a0 : Option Addr) (len0 cap0 : Nat) (z0 : List Int) (a1 : Option Addr) (len1 cap1 : Nat) (z1 : List Int) (w : World) (w0 : RowIn .u8 w a0 len0 cap0 z0) (w1 : RowIn .u8 w a1 len1 cap1 z1) :
    Calls Try.prog 5 #[.slice a0 len0 cap0, .slice a1 len1 cap1] w fun e w' => e = .returned (.bool true) ∧ Below w.heap.size w w' := by
  clear w1
  by_cases hl : 1048576 < len0
  · clear w0
    go_enter Try.func5, Try.ntmps5
    go_wp2
    go_ret
    exact ⟨rfl, Below.refl _ _⟩
  · by_cases hl1 : 1048576 < len1
    · clear w0
      go_enter Try.func5, Try.ntmps5
      go_wp2
      go_ret
      exact ⟨rfl, Below.refl _ _⟩
    · go_enter Try.func5, Try.ntmps5
      go_wp2_with fail
      refine (draw_TestOr a0 len0 cap0 z0 w w0).mono ?_
      rintro e w1 ⟨a, b, rfl, t0, t1, u0, u1, hb⟩
      clear w0
      by_cases hv : vT a = true ∧ vT b = true
      · obtain ⟨hv, hu⟩ := hv
        have hA := vT_iff.1 hv
        have hB := vT_iff.1 hu
        obtain ⟨c, hc, c0, c1⟩ : ∃ c : Int, (len1 : Int) * 5 % 16 = c ∧ 0 ≤ c ∧ c ≤ 15 := ⟨_, rfl, by omega, by omega⟩
        have e1 : 0 ≤ tOr a b ∧ tOr a b ≤ 15 := two_tests (P := fun a b => 0 ≤ tOr a b ∧ tOr a b ≤ 15) (by decide +kernel) hA.1 hA.2 hB.1 hB.2
        have e2 : (tAnd c (tOr a b) == tOr (tAnd c a) (tAnd c b)) = true := sixteen (P := fun c => (tAnd c (tOr a b) == tOr (tAnd c a) (tAnd c b)) = true) (fun k => by
          revert k
          exact two_tests (P := fun a b => ∀ k : Fin 16, (tAnd ((k.val : Nat) : Int) (tOr a b) == tOr (tAnd ((k.val : Nat) : Int) a) (tAnd ((k.val : Nat) : Int) b)) = true) (by decide +kernel) hA.1 hA.2 hB.1 hB.2) c0 c1
        have e3 : (tMany a + tMany b == tMany (tOr a b) + tMany (tAnd a b)) = true := two_tests (P := fun a b => (tMany a + tMany b == tMany (tOr a b) + tMany (tAnd a b)) = true) (by decide +kernel) hA.1 hA.2 hB.1 hB.2
        have b1 : 0 ≤ tMany a ∧ tMany a ≤ 4 := sixteen (P := fun a => 0 ≤ tMany a ∧ tMany a ≤ 4) (by decide +kernel) hA.1 hA.2
        have b2 : 0 ≤ tMany b ∧ tMany b ≤ 4 := sixteen (P := fun a => 0 ≤ tMany a ∧ tMany a ≤ 4) (by decide +kernel) hB.1 hB.2
        have b3 : 0 ≤ tMany (tOr a b) ∧ tMany (tOr a b) ≤ 4 := sixteen (P := fun a => 0 ≤ tMany a ∧ tMany a ≤ 4) (by decide +kernel) e1.1 e1.2
        have b4 : 0 ≤ tMany (tAnd a b) ∧ tMany (tAnd a b) ≤ 4 := two_tests (P := fun a b => 0 ≤ tMany (tAnd a b) ∧ tMany (tAnd a b) ≤ 4) (by decide +kernel) hA.1 hA.2 hB.1 hB.2
        clear hv hu
        go_wp2_with (first | (go_at_call 23; refine (impl_TestMany _ _).mono ?_; rintro e w' ⟨rfl, rfl⟩) | (go_at_call 12; refine (impl_TestAnd _ _ _).mono ?_; rintro e w' ⟨rfl, rfl⟩) | (go_at_call 16; refine (impl_TestOr _ _ _).mono ?_; rintro e w' ⟨rfl, rfl⟩) | (go_at_call 22; refine (spec_TestOr _ _ _).mono ?_; rintro e w' ⟨rfl, rfl⟩))
        go_ret
        exact ⟨rfl, hb⟩
      · have ev : tOr a b = -1 := by
          unfold tOr
          rw [if_neg (by simpa using hv)]
        have hev := Lib.hid ev
        clear ev hv
        go_wp2_with fail
        refine (impl_TestOr _ _ _).mono ?_
        rintro e w' ⟨rfl, rfl⟩
        go_wp2_with fail
        refine (spec_TestOr _ _ _).mono ?_
        rintro e w' ⟨rfl, rfl⟩
        rw [hev.out]
        go_wp2_with (go_at_call 14; refine (laws_alive _).mono ?_; rintro e w' ⟨rfl, rfl⟩)
        go_ret
        exact ⟨rfl, hb⟩
end Go.Proofs.Ytajeknacjbkpiaa
