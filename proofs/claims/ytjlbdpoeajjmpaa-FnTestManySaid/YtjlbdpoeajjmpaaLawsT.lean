/-
  The walks of the laws on tests (chapter 1).
-/
import Derived.Test.YtjlbdpoeajjmpaaTests
import Derived.Test.YtjlbdpoeajjmpaaDraw
namespace Go.Proofs.Ytjlbdpoeajjmpaa
open Go.RowKit
set_option linter.unusedVariables false
set_option maxHeartbeats 400000

theorem walk_FnExactConstants (w : World) :
    Calls Try.prog 3 #[] w fun e w' => e = .returned (.bool true) ∧ Grown w w' := by
  go_enter Try.func3, Try.ntmps3
  go_wp2
  go_ret
  exact ⟨rfl, Grown.refl _⟩
theorem walk_FnExactTestValid (a0 : Int) (w0 : (Lit.int .i64 a0).wf = true) (w : World) :
    Calls Try.prog 4 #[.int .i64 a0] w fun e w' => e = .returned (.bool true) ∧ Grown w w' := by
  go_enter Try.func4, Try.ntmps4
  go_wp2_with (first | (go_at_call 15; refine (spec_TestValid _ _).mono ?_; rintro e w' ⟨rfl, rfl⟩) | (go_at_call 16; refine (impl_TestValid _ _).mono ?_; rintro e w' ⟨rfl, rfl⟩))
  go_ret
  exact ⟨rfl, Grown.refl _⟩
theorem walk_FnExactTestHolds (a0 a1 : Int) (w0 : (Lit.int .i64 a0).wf = true) (w1 : (Lit.int .i64 a1).wf = true) (w : World) :
    Calls Try.prog 5 #[.int .i64 a0, .int .i64 a1] w fun e w' => e = .returned (.bool true) ∧ Grown w w' := by
  go_enter Try.func5, Try.ntmps5
  go_wp2_with (first | (go_at_call 17; refine (spec_TestHolds _ _ _).mono ?_; rintro e w' ⟨rfl, rfl⟩) | (go_at_call 18; refine (impl_TestHolds _ _ _).mono ?_; rintro e w' ⟨rfl, rfl⟩))
  go_ret
  exact ⟨rfl, Grown.refl _⟩
theorem walk_FnExactTestNot (a0 : Int) (w0 : (Lit.int .i64 a0).wf = true) (w : World) :
    Calls Try.prog 6 #[.int .i64 a0] w fun e w' => e = .returned (.bool true) ∧ Grown w w' := by
  go_enter Try.func6, Try.ntmps6
  go_wp2_with (first | (go_at_call 19; refine (spec_TestNot _ _).mono ?_; rintro e w' ⟨rfl, rfl⟩) | (go_at_call 20; refine (impl_TestNot _ _).mono ?_; rintro e w' ⟨rfl, rfl⟩))
  go_ret
  exact ⟨rfl, Grown.refl _⟩
theorem walk_FnExactTestBelow (a0 a1 : Int) (w0 : (Lit.int .i64 a0).wf = true) (w1 : (Lit.int .i64 a1).wf = true) (w : World) :
    Calls Try.prog 7 #[.int .i64 a0, .int .i64 a1] w fun e w' => e = .returned (.bool true) ∧ Grown w w' := by
  go_enter Try.func7, Try.ntmps7
  go_wp2_with (first | (go_at_call 21; refine (spec_TestBelow _ _ _).mono ?_; rintro e w' ⟨rfl, rfl⟩) | (go_at_call 22; refine (impl_TestBelow _ _ _).mono ?_; rintro e w' ⟨rfl, rfl⟩))
  go_ret
  exact ⟨rfl, Grown.refl _⟩
theorem walk_FnExactTestAnd (a0 a1 : Int) (w0 : (Lit.int .i64 a0).wf = true) (w1 : (Lit.int .i64 a1).wf = true) (w : World) :
    Calls Try.prog 8 #[.int .i64 a0, .int .i64 a1] w fun e w' => e = .returned (.bool true) ∧ Grown w w' := by
  go_enter Try.func8, Try.ntmps8
  go_wp2_with (first | (go_at_call 23; refine (spec_TestAnd _ _ _).mono ?_; rintro e w' ⟨rfl, rfl⟩) | (go_at_call 24; refine (impl_TestAnd _ _ _).mono ?_; rintro e w' ⟨rfl, rfl⟩))
  go_ret
  exact ⟨rfl, Grown.refl _⟩
theorem walk_FnExactTestOr (a0 a1 : Int) (w0 : (Lit.int .i64 a0).wf = true) (w1 : (Lit.int .i64 a1).wf = true) (w : World) :
    Calls Try.prog 9 #[.int .i64 a0, .int .i64 a1] w fun e w' => e = .returned (.bool true) ∧ Grown w w' := by
  go_enter Try.func9, Try.ntmps9
  go_wp2_with (first | (go_at_call 25; refine (spec_TestOr _ _ _).mono ?_; rintro e w' ⟨rfl, rfl⟩) | (go_at_call 26; refine (impl_TestOr _ _ _).mono ?_; rintro e w' ⟨rfl, rfl⟩))
  go_ret
  exact ⟨rfl, Grown.refl _⟩
theorem walk_FnExactTestMany (a0 : Int) (w0 : (Lit.int .i64 a0).wf = true) (w : World) :
    Calls Try.prog 10 #[.int .i64 a0] w fun e w' => e = .returned (.bool true) ∧ Grown w w' := by
  go_enter Try.func10, Try.ntmps10
  go_wp2_with (first | (go_at_call 27; refine (spec_TestMany _ _).mono ?_; rintro e w' ⟨rfl, rfl⟩) | (go_at_call 28; refine (impl_TestMany _ _).mono ?_; rintro e w' ⟨rfl, rfl⟩))
  go_ret
  exact ⟨rfl, Grown.refl _⟩
theorem laws_alive (w : World) : Calls Try.prog 30 #[] w fun e w' => e = .returned (.bool true) ∧ w = w' := by
  have e0 : (tNot 0 == 15) = true := by decide
  have e1 : (tNot 15 == 0) = true := by decide
  go_enter Try.func30, Try.ntmps30
  go_wp2_with (go_at_call 20; refine (impl_TestNot _ _).mono ?_; rintro e w' ⟨rfl, rfl⟩)
  go_ret
  exact ⟨rfl, rfl⟩
theorem walk_FnTestValid (a0 : Option Addr) (len0 cap0 : Nat) (z0 : List Int) (w : World) (w0 : RowIn .u8 w a0 len0 cap0 z0) :
    Calls Try.prog 11 #[.slice a0 len0 cap0] w fun e w' => e = .returned (.bool true) ∧ Below w.heap.size w w' := by
  by_cases hl : 1048576 < len0
  · clear w0
    go_enter Try.func11, Try.ntmps11
    go_wp2
    go_ret
    exact ⟨rfl, Below.refl _ _⟩
  · go_enter Try.func11, Try.ntmps11
    go_wp2_with fail
    refine (draw_TestValid a0 len0 cap0 z0 w w0).mono ?_
    rintro e w1 ⟨t, rfl, t0, t1, hb⟩
    clear w0
    have ev : vT (tNot t) = vT t := by
      unfold tNot
      cases hv : vT t
      · rfl
      · have := vT_iff.1 hv
        exact vT_iff.2 (by simp; omega)
    have hev := Lib.hid ev
    clear ev
    go_wp2_with fail
    refine (impl_TestValid _ _).mono ?_
    rintro e w' ⟨rfl, rfl⟩
    go_wp2_with fail
    refine (spec_TestValid _ _).mono ?_
    rintro e w' ⟨rfl, rfl⟩
    go_wp2_with fail
    refine (impl_TestNot _ _).mono ?_
    rintro e w' ⟨rfl, rfl⟩
    go_wp2_with fail
    refine (impl_TestValid _ _).mono ?_
    rintro e w' ⟨rfl, rfl⟩
    rw [hev.out]
    go_wp2_with (go_at_call 30; refine (laws_alive _).mono ?_; rintro e w' ⟨rfl, rfl⟩)
    go_ret
    exact ⟨rfl, hb⟩
theorem walk_FnTestNot (a0 : Option Addr) (len0 cap0 : Nat) (z0 : List Int) (w : World) (w0 : RowIn .u8 w a0 len0 cap0 z0) :
    Calls Try.prog 13 #[.slice a0 len0 cap0] w fun e w' => e = .returned (.bool true) ∧ Below w.heap.size w w' := by
  by_cases hl : 1048576 < len0
  · clear w0
    go_enter Try.func13, Try.ntmps13
    go_wp2
    go_ret
    exact ⟨rfl, Below.refl _ _⟩
  · go_enter Try.func13, Try.ntmps13
    go_wp2_with fail
    refine (draw_TestNot a0 len0 cap0 z0 w w0).mono ?_
    rintro e w1 ⟨t, rfl, t0, t1, hb⟩
    clear w0
    cases hv : vT t
    · have ev : tNot t = -1 := by simp [tNot, hv]
      have hev := Lib.hid ev
      clear ev hv
      go_wp2_with fail
      refine (impl_TestNot _ _).mono ?_
      rintro e w' ⟨rfl, rfl⟩
      go_wp2_with fail
      refine (spec_TestNot _ _).mono ?_
      rintro e w' ⟨rfl, rfl⟩
      rw [hev.out]
      go_wp2_with (go_at_call 30; refine (laws_alive _).mono ?_; rintro e w' ⟨rfl, rfl⟩)
      go_ret
      exact ⟨rfl, hb⟩
    · have hT := vT_iff.1 hv
      have e1 : tNot t = 15 - t := by simp [tNot, hv]
      have e2 : (tNot (15 - t) == t) = true := by
        have : vT (15 - t) = true := vT_iff.2 (by omega)
        simp [tNot, this]; omega
      have e3 : (tAnd t (15 - t) == 0) = true := sixteen (P := fun t => (tAnd t (15 - t) == 0) = true) (by decide +kernel) hT.1 hT.2
      have e4 : (tOr t (15 - t) == 15) = true := sixteen (P := fun t => (tOr t (15 - t) == 15) = true) (by decide +kernel) hT.1 hT.2
      have e1 := Lib.hid e1
      clear hv
      go_wp2_with fail
      refine (impl_TestNot _ _).mono ?_
      rintro e w' ⟨rfl, rfl⟩
      go_wp2_with fail
      refine (spec_TestNot _ _).mono ?_
      rintro e w' ⟨rfl, rfl⟩
      rw [e1.out]
      go_wp2_with (first | (go_at_call 20; refine (impl_TestNot _ _).mono ?_; rintro e w' ⟨rfl, rfl⟩) | (go_at_call 24; refine (impl_TestAnd _ _ _).mono ?_; rintro e w' ⟨rfl, rfl⟩) | (go_at_call 26; refine (impl_TestOr _ _ _).mono ?_; rintro e w' ⟨rfl, rfl⟩))
      go_ret
      exact ⟨rfl, hb⟩
theorem walk_FnTestMany (a0 : Option Addr) (len0 cap0 : Nat) (z0 : List Int) (w : World) (w0 : RowIn .u8 w a0 len0 cap0 z0) :
    Calls Try.prog 14 #[.slice a0 len0 cap0] w fun e w' => e = .returned (.bool true) ∧ Below w.heap.size w w' := by
  by_cases hl : 1048576 < len0
  · clear w0
    go_enter Try.func14, Try.ntmps14
    go_wp2
    go_ret
    exact ⟨rfl, Below.refl _ _⟩
  · go_enter Try.func14, Try.ntmps14
    go_wp2_with fail
    refine (draw_TestMany a0 len0 cap0 z0 w w0).mono ?_
    rintro e w1 ⟨t, rfl, t0, t1, hb⟩
    clear w0
    cases hv : vT t
    · have ev : tMany t = -1 := by simp [tMany, hv]
      have hev := Lib.hid ev
      clear ev hv
      go_wp2_with fail
      refine (impl_TestMany _ _).mono ?_
      rintro e w' ⟨rfl, rfl⟩
      go_wp2_with fail
      refine (spec_TestMany _ _).mono ?_
      rintro e w' ⟨rfl, rfl⟩
      rw [hev.out]
      go_wp2_with (go_at_call 30; refine (laws_alive _).mono ?_; rintro e w' ⟨rfl, rfl⟩)
      go_ret
      exact ⟨rfl, hb⟩
    · have hT := vT_iff.1 hv
      have e2 : tMany t + tMany (tNot t) = 4 := sixteen (P := fun t => tMany t + tMany (tNot t) = 4) (by decide +kernel) hT.1 hT.2
      have e3 : 0 ≤ tMany t ∧ tMany t ≤ 4 ∧ 0 ≤ tMany (tNot t) ∧ tMany (tNot t) ≤ 4 := sixteen (P := fun t => 0 ≤ tMany t ∧ tMany t ≤ 4 ∧ 0 ≤ tMany (tNot t) ∧ tMany (tNot t) ≤ 4) (by decide +kernel) hT.1 hT.2
      have e2 : (tMany t + tMany (tNot t) == 4) = true := by simp [e2]
      clear hv
      go_wp2_with (first | (go_at_call 20; refine (impl_TestNot _ _).mono ?_; rintro e w' ⟨rfl, rfl⟩) | (go_at_call 28; refine (impl_TestMany _ _).mono ?_; rintro e w' ⟨rfl, rfl⟩) | (go_at_call 27; refine (spec_TestMany _ _).mono ?_; rintro e w' ⟨rfl, rfl⟩))
      go_ret
      exact ⟨rfl, hb⟩
theorem walk_FnTestHolds (a0 : Option Addr) (len0 cap0 : Nat) (z0 : List Int) (w : World) (w0 : RowIn .u8 w a0 len0 cap0 z0) :
    Calls Try.prog 12 #[.slice a0 len0 cap0] w fun e w' => e = .returned (.bool true) ∧ Below w.heap.size w w' := by
  by_cases hl : 1048576 < len0
  · clear w0
    go_enter Try.func12, Try.ntmps12
    go_wp2
    go_ret
    exact ⟨rfl, Below.refl _ _⟩
  · go_enter Try.func12, Try.ntmps12
    go_wp2_with fail
    refine (draw_TestHolds a0 len0 cap0 z0 w w0).mono ?_
    rintro e w1 ⟨t, k, rfl, t0, t1, k0, k1, hb⟩
    clear w0
    cases hv : vT t
    · go_wp2_with (first | (go_at_call 18; refine (impl_TestHolds _ _ _).mono ?_; rintro e w' ⟨rfl, rfl⟩) | (go_at_call 17; refine (spec_TestHolds _ _ _).mono ?_; rintro e w' ⟨rfl, rfl⟩) | (go_at_call 15; refine (spec_TestValid _ _).mono ?_; rintro e w' ⟨rfl, rfl⟩) | (go_at_call 30; refine (laws_alive _).mono ?_; rintro e w' ⟨rfl, rfl⟩))
      go_ret
      exact ⟨rfl, hb⟩
    · by_cases hk : k < 0
      · go_wp2_with (first | (go_at_call 18; refine (impl_TestHolds _ _ _).mono ?_; rintro e w' ⟨rfl, rfl⟩) | (go_at_call 17; refine (spec_TestHolds _ _ _).mono ?_; rintro e w' ⟨rfl, rfl⟩) | (go_at_call 15; refine (spec_TestValid _ _).mono ?_; rintro e w' ⟨rfl, rfl⟩) | (go_at_call 30; refine (laws_alive _).mono ?_; rintro e w' ⟨rfl, rfl⟩))
        go_ret
        exact ⟨rfl, hb⟩
      · by_cases hk3 : 3 < k
        · go_wp2_with (first | (go_at_call 18; refine (impl_TestHolds _ _ _).mono ?_; rintro e w' ⟨rfl, rfl⟩) | (go_at_call 17; refine (spec_TestHolds _ _ _).mono ?_; rintro e w' ⟨rfl, rfl⟩) | (go_at_call 15; refine (spec_TestValid _ _).mono ?_; rintro e w' ⟨rfl, rfl⟩) | (go_at_call 30; refine (laws_alive _).mono ?_; rintro e w' ⟨rfl, rfl⟩))
          go_ret
          exact ⟨rfl, hb⟩
        · have hT := vT_iff.1 hv
          have e1 : (tHolds (tNot t) k != tHolds t k) = true := by
            have h4 : k = 0 ∨ k = 1 ∨ k = 2 ∨ k = 3 := by omega
            rcases h4 with rfl | rfl | rfl | rfl <;> exact sixteen (P := fun t => (tHolds (tNot t) _ != tHolds t _) = true) (by decide +kernel) hT.1 hT.2
          have e2 : (decide (k < 0) || decide (3 < k) || !(tHolds (tNot t) k == tHolds t k)) = true := by
            have e3 := e1
            simp only [bne] at e3
            rw [e3]; simp
          have e2 := Lib.hid e2
          go_wp2_with (first | (go_at_call 18; refine (impl_TestHolds _ _ _).mono ?_; rintro e w' ⟨rfl, rfl⟩) | (go_at_call 17; refine (spec_TestHolds _ _ _).mono ?_; rintro e w' ⟨rfl, rfl⟩) | (go_at_call 15; refine (spec_TestValid _ _).mono ?_; rintro e w' ⟨rfl, rfl⟩) | (go_at_call 20; refine (impl_TestNot _ _).mono ?_; rintro e w' ⟨rfl, rfl⟩) | (go_at_call 30; refine (laws_alive _).mono ?_; rintro e w' ⟨rfl, rfl⟩))
          go_ret
          first | exact ⟨rfl, hb⟩ | exact ⟨ret_bool e2.out, hb⟩
end Go.Proofs.Ytjlbdpoeajjmpaa
