/-
  The walks of the laws on expressions (chapter 2).
-/
import Derived.Test.YtcilncdhkniigaaKatI
namespace Go.Proofs.Ytcilncdhkniigaa
open Go.RowKit
set_option linter.unusedVariables false
set_option maxHeartbeats 400000

theorem walk_FnExactKatValid (a0 : Option Addr) (len0 cap0 : Nat) (z0 : List Int) (w : World) (w0 : RowIn .i64 w a0 len0 cap0 z0) :
    Calls Try.prog 4 #[.slice a0 len0 cap0] w fun e w' => e = .returned (.bool true) ∧ Below w.heap.size w w' := by
  by_cases hl : 1048576 < len0
  · clear w0
    go_enter Try.func4, Try.ntmps4
    go_wp2
    go_ret
    exact ⟨rfl, Below.refl _ _⟩
  · have h := Ls.of_row w0
    generalize z0.take len0 = xs at *
    clear w0
    go_enter Try.func4, Try.ntmps4
    go_wp2_with fail
    refine (toIntS_any a0 len0 cap0 _ xs w (by omega) h (Nat.le_refl _)).mono ?_
    rintro e w1 ⟨A1, n1, c1, rfl, o1, s1⟩
    have hn1 : n1 ≤ 1048576 := by have := o1.len; rw [h.len] at this; omega
    go_wp2_with fail
    refine (spec_KatValid A1 n1 c1 _ xs w1 (by omega) o1.ls).mono ?_
    rintro e w' ⟨rfl, rfl⟩
    have h1 := h.since s1
    go_wp2_with fail
    refine (toIntS_any a0 len0 cap0 _ xs w1 (by omega) h1 (Nat.le_refl _)).mono ?_
    rintro e w2 ⟨A2, n2, c2, rfl, o2, s2⟩
    have hn2 : n2 ≤ 1048576 := by have := o2.len; rw [h.len] at this; omega
    have h2 := h1.since s2
    go_wp2_with fail
    refine (impl_KatValid A2 n2 c2 _ xs w2 o2.ls).mono ?_
    rintro e w' ⟨rfl, rfl⟩
    go_wp2_with fail
    refine (toIntS_any a0 len0 cap0 _ xs w2 (by omega) h2 (Nat.le_refl _)).mono ?_
    rintro e w3 ⟨A3, n3, c3, rfl, o3, s3⟩
    go_wp2_with fail
    refine (eqIntS_any A2 n2 c2 _ xs A3 n3 c3 _ xs w3 (by omega) (o2.ls.since s3) o3.ls).mono ?_
    rintro e w4 ⟨rfl, s4⟩
    have hd : decide (xs = xs) = true := by simp
    go_wp2
    go_ret
    exact ⟨rfl, ((s1.trans s2).trans s3).trans s4⟩
end Go.Proofs.Ytcilncdhkniigaa
