/-
  The walk of the exact law on traces of expressions (chapter 3). Printed by exactlaws.py.
-/
import Derived.Test.YtlnkkjmejmhaiaaTraceIn
import Derived.Test.YtlnkkjmejmhaiaaLib
namespace Go.Proofs.Ytlnkkjmejmhaiaa
open Go.RowKit
set_option linter.unusedVariables false
set_option maxHeartbeats 1000000

theorem walk_FnExactTraceIn (a0 : Option Addr) (len0 cap0 : Nat) (z0 : List Int) (a1 : Option Addr) (len1 cap1 : Nat) (z1 : List Int) (w : World) (w00 : RowIn .i64 w a0 len0 cap0 z0) (w01 : RowIn .i64 w a1 len1 cap1 z1) :
    Calls Try.prog 7 #[.slice a0 len0 cap0, .slice a1 len1 cap1] w fun e w' => e = .returned (.bool true) ∧ Below w.heap.size w w' := by
  by_cases hl0 : 1048576 < len0
  · clear w00 w01
    go_enter Try.func7, Try.ntmps7
    go_wp2
    go_ret
    exact ⟨rfl, Below.refl _ _⟩
  · skip
    by_cases hl1 : 1048576 < len1
    · clear w00 w01
      go_enter Try.func7, Try.ntmps7
      go_wp2
      go_ret
      exact ⟨rfl, Below.refl _ _⟩
    · skip
      have h0 := Ls.of_row w00
      generalize z0.take len0 = xs0 at *
      clear w00
      have h1 := Ls.of_row w01
      generalize z1.take len1 = xs1 at *
      clear w01
      have tot : Since w w := Since.refl w
      go_enter Try.func7, Try.ntmps7
      go_wp2_with fail
      refine (toIntS_any a0 len0 cap0 w.heap.size xs0 w (by omega) (h0.below tot.below) tot.size).mono ?_
      rintro e w1 ⟨As0, ns0, cs0, rfl, os0, s⟩
      replace os0 := os0.lower tot.size
      have bs0 : ns0 ≤ 1048576 := by have := os0.len; rw [h0.len] at this; omega
      replace tot := tot.trans s
      clear s
      go_wp2_with fail
      refine (toIntS_any a1 len1 cap1 w.heap.size xs1 w1 (by omega) (h1.below tot.below) tot.size).mono ?_
      rintro e w2 ⟨As1, ns1, cs1, rfl, os1, s⟩
      have aps0_s1 := os0.apart os1
      replace os1 := os1.lower tot.size
      have bs1 : ns1 ≤ 1048576 := by have := os1.len; rw [h1.len] at this; omega
      replace os0 := os0.since s
      replace tot := tot.trans s
      clear s
      go_wp2_with fail
      refine (spec_TraceIn As0 ns0 cs0 xs0 As1 ns1 cs1 xs1 w2 (by omega) (by omega) os0.ls os1.ls).mono ?_
      rintro e w3 ⟨rfl, s⟩
      replace os0 := os0.since s
      replace os1 := os1.since s
      replace tot := tot.trans s
      clear s
      clear os0
      clear os1
      go_wp2_with fail
      refine (toIntS_any a0 len0 cap0 w.heap.size xs0 w3 (by omega) (h0.below tot.below) tot.size).mono ?_
      rintro e w4 ⟨Ax0, nx0, cx0, rfl, ox0, s⟩
      replace ox0 := ox0.lower tot.size
      have bx0 : nx0 ≤ 1048576 := by have := ox0.len; rw [h0.len] at this; omega
      replace tot := tot.trans s
      clear s
      go_wp2_with fail
      refine (toIntS_any a1 len1 cap1 w.heap.size xs1 w4 (by omega) (h1.below tot.below) tot.size).mono ?_
      rintro e w5 ⟨Ax1, nx1, cx1, rfl, ox1, s⟩
      have apx0_x1 := ox0.apart ox1
      replace ox1 := ox1.lower tot.size
      have bx1 : nx1 ≤ 1048576 := by have := ox1.len; rw [h1.len] at this; omega
      replace ox0 := ox0.since s
      replace tot := tot.trans s
      clear s
      go_wp2_with fail
      refine (impl_TraceIn Ax0 nx0 cx0 xs0 Ax1 nx1 cx1 xs1 w5 (by omega) (by omega) ox0.ls ox1.ls).mono ?_
      rintro e w6 ⟨rfl, s⟩
      replace ox0 := ox0.since s
      replace ox1 := ox1.since s
      replace tot := tot.trans s
      clear s
      go_wp2_with fail
      refine (toIntS_any a0 len0 cap0 w.heap.size xs0 w6 (by omega) (h0.below tot.below) tot.size).mono ?_
      rintro e w7 ⟨Ay0, ny0, cy0, rfl, oy0, s⟩
      have apx0_y0 := ox0.apart oy0
      have apx1_y0 := ox1.apart oy0
      replace oy0 := oy0.lower tot.size
      have by0 : ny0 ≤ 1048576 := by have := oy0.len; rw [h0.len] at this; omega
      replace ox0 := ox0.since s
      replace ox1 := ox1.since s
      replace tot := tot.trans s
      clear s
      go_wp2_with fail
      refine (eqIntS_any Ax0 nx0 cx0 _ _ Ay0 ny0 cy0 _ _ w7 (by omega) ox0.ls oy0.ls).mono ?_
      rintro e w8 ⟨rfl, s⟩
      replace ox0 := ox0.since s
      replace ox1 := ox1.since s
      replace oy0 := oy0.since s
      replace tot := tot.trans s
      clear s
      clear oy0
      go_wp2_with fail
      refine (toIntS_any a1 len1 cap1 w.heap.size xs1 w8 (by omega) (h1.below tot.below) tot.size).mono ?_
      rintro e w9 ⟨Ay1, ny1, cy1, rfl, oy1, s⟩
      have apx0_y1 := ox0.apart oy1
      have apx1_y1 := ox1.apart oy1
      replace oy1 := oy1.lower tot.size
      have by1 : ny1 ≤ 1048576 := by have := oy1.len; rw [h1.len] at this; omega
      replace ox0 := ox0.since s
      replace ox1 := ox1.since s
      replace tot := tot.trans s
      clear s
      go_wp2_with fail
      refine (eqIntS_any Ax1 nx1 cx1 _ _ Ay1 ny1 cy1 _ _ w9 (by omega) ox1.ls oy1.ls).mono ?_
      rintro e w10 ⟨rfl, s⟩
      replace ox0 := ox0.since s
      replace ox1 := ox1.since s
      replace oy1 := oy1.since s
      replace tot := tot.trans s
      clear s
      clear oy1
      go_wp2
      go_ret
      exact ⟨rfl, tot⟩
end Go.Proofs.Ytlnkkjmejmhaiaa
