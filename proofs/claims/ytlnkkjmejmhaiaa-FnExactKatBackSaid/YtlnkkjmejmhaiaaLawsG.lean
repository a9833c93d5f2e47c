/-
  The walk of the exact law on an expression backwards (chapter 2). Printed by exactlaws.py.
-/
import Derived.Test.YtlnkkjmejmhaiaaLawsB
namespace Go.Proofs.Ytlnkkjmejmhaiaa
open Go.RowKit
set_option linter.unusedVariables false
set_option maxHeartbeats 1000000

theorem walk_FnExactKatBack (a0 : Option Addr) (len0 cap0 : Nat) (z0 : List Int) (w : World) (w00 : RowIn .i64 w a0 len0 cap0 z0) :
    Calls Try.prog 3 #[.slice a0 len0 cap0] w fun e w' => e = .returned (.bool true) ∧ Below w.heap.size w w' := by
  by_cases hl0 : 1048576 < len0
  · clear w00
    go_enter Try.func3, Try.ntmps3
    go_wp2
    go_ret
    exact ⟨rfl, Below.refl _ _⟩
  · skip
    have h0 := Ls.of_row w00
    generalize z0.take len0 = xs0 at *
    clear w00
    have tot : Since w w := Since.refl w
    go_enter Try.func3, Try.ntmps3
    go_wp2_with fail
    refine (toIntS_any a0 len0 cap0 w.heap.size xs0 w (by omega) (h0.below tot.below) tot.size).mono ?_
    rintro e w1 ⟨As0, ns0, cs0, rfl, os0, s⟩
    replace os0 := os0.lower tot.size
    have bs0 : ns0 ≤ 1048576 := by have := os0.len; rw [h0.len] at this; omega
    replace tot := tot.trans s
    clear s
    go_wp2_with fail
    refine (spec_KatBackX As0 ns0 cs0 xs0 w1 (by omega) os0.ls).mono ?_
    rintro e w2 ⟨Ar, nr, cr, rfl, or, s⟩
    have aps0_r := os0.apart or
    replace or := or.lower tot.size
    have br : nr ≤ 1048576 := by have := kBack_len or.len; omega
    replace os0 := os0.since s
    replace tot := tot.trans s
    clear s
    clear os0
    go_wp2_with fail
    refine (toIntS_any a0 len0 cap0 w.heap.size xs0 w2 (by omega) (h0.below tot.below) tot.size).mono ?_
    rintro e w3 ⟨Ax0, nx0, cx0, rfl, ox0, s⟩
    have apr_x0 := or.apart ox0
    replace ox0 := ox0.lower tot.size
    have bx0 : nx0 ≤ 1048576 := by have := ox0.len; rw [h0.len] at this; omega
    replace or := or.since s
    replace tot := tot.trans s
    clear s
    go_wp2_with fail
    refine (impl_KatBackX Ax0 nx0 cx0 xs0 w3 (by omega) ox0.ls).mono ?_
    rintro e w4 ⟨Ag, ng, cg, rfl, og, s⟩
    have apr_g := or.apart og
    have apx0_g := ox0.apart og
    replace og := og.lower tot.size
    have bg : ng ≤ 1048576 := by have := kBack_len og.len; omega
    replace or := or.since s
    replace ox0 := ox0.since s
    replace tot := tot.trans s
    clear s
    go_wp2_with fail
    refine (eqIntS_any Ag ng cg _ _ Ar nr cr _ _ w4 (by omega) og.ls or.ls).mono ?_
    rintro e w5 ⟨rfl, s⟩
    replace or := or.since s
    replace ox0 := ox0.since s
    replace og := og.since s
    replace tot := tot.trans s
    clear s
    go_wp2_with fail
    refine (toIntS_any a0 len0 cap0 w.heap.size xs0 w5 (by omega) (h0.below tot.below) tot.size).mono ?_
    rintro e w6 ⟨Ay0, ny0, cy0, rfl, oy0, s⟩
    have apr_y0 := or.apart oy0
    have apx0_y0 := ox0.apart oy0
    have apg_y0 := og.apart oy0
    replace oy0 := oy0.lower tot.size
    have by0 : ny0 ≤ 1048576 := by have := oy0.len; rw [h0.len] at this; omega
    replace or := or.since s
    replace ox0 := ox0.since s
    replace og := og.since s
    replace tot := tot.trans s
    clear s
    go_wp2_with fail
    refine (eqIntS_any Ax0 nx0 cx0 _ _ Ay0 ny0 cy0 _ _ w6 (by omega) ox0.ls oy0.ls).mono ?_
    rintro e w7 ⟨rfl, s⟩
    replace or := or.since s
    replace ox0 := ox0.since s
    replace og := og.since s
    replace oy0 := oy0.since s
    replace tot := tot.trans s
    clear s
    clear oy0
    go_wp2_with fail
    refine (markIntS_any Ax0 nx0 cx0 _ _ (1) w7 (by omega) ox0 (by omega) (by omega)).mono ?_
    rintro e w8 ⟨rfl, om, hm⟩
    replace tot := tot.marked ox0 hm
    replace or := or.marked hm apr_x0.symm
    replace og := og.marked hm apx0_g
    replace ox0 := om
    clear om hm
    go_wp2_with fail
    refine (eqIntS_any Ag ng cg _ _ Ar nr cr _ _ w8 (by omega) og.ls or.ls).mono ?_
    rintro e w9 ⟨rfl, s⟩
    replace or := or.since s
    replace ox0 := ox0.since s
    replace og := og.since s
    replace tot := tot.trans s
    clear s
    go_wp2_with fail
    refine (markIntS_any Ag ng cg _ _ (1) w9 (by omega) og (by omega) (by omega)).mono ?_
    rintro e w10 ⟨rfl, om, hm⟩
    replace tot := tot.marked og hm
    replace or := or.marked hm apr_g.symm
    replace ox0 := ox0.marked hm apx0_g.symm
    replace og := om
    clear om hm
    go_wp2_with fail
    refine (heldIntS_any Ag ng cg _ 1 w10 (by omega) og.ls (by omega) (by omega)).mono ?_
    rintro e w' ⟨rfl, rfl⟩
    clear ox0
    go_wp2_with fail
    refine (toIntS_any a0 len0 cap0 w.heap.size xs0 w10 (by omega) (h0.below tot.below) tot.size).mono ?_
    rintro e w11 ⟨Au0, nu0, cu0, rfl, ou0, s⟩
    have apr_u0 := or.apart ou0
    have apg_u0 := og.apart ou0
    replace ou0 := ou0.lower tot.size
    have bu0 : nu0 ≤ 1048576 := by have := ou0.len; rw [h0.len] at this; omega
    replace or := or.since s
    replace og := og.since s
    replace tot := tot.trans s
    clear s
    go_wp2_with fail
    refine (impl_KatBackX Au0 nu0 cu0 xs0 w11 (by omega) ou0.ls).mono ?_
    rintro e w12 ⟨Ah, nh, ch, rfl, oh, s⟩
    have apr_h := or.apart oh
    have apg_h := og.apart oh
    have apu0_h := ou0.apart oh
    replace oh := oh.lower tot.size
    have bh : nh ≤ 1048576 := by have := kBack_len oh.len; omega
    replace or := or.since s
    replace og := og.since s
    replace ou0 := ou0.since s
    replace tot := tot.trans s
    clear s
    go_wp2_with fail
    refine (eqIntS_any Ah nh ch _ _ Ar nr cr _ _ w12 (by omega) oh.ls or.ls).mono ?_
    rintro e w13 ⟨rfl, s⟩
    replace or := or.since s
    replace og := og.since s
    replace ou0 := ou0.since s
    replace oh := oh.since s
    replace tot := tot.trans s
    clear s
    go_wp2_with fail
    refine (heldIntS_any Ag ng cg _ 1 w13 (by omega) og.ls (by omega) (by omega)).mono ?_
    rintro e w' ⟨rfl, rfl⟩
    go_wp2
    go_ret
    exact ⟨rfl, tot⟩
end Go.Proofs.Ytlnkkjmejmhaiaa
