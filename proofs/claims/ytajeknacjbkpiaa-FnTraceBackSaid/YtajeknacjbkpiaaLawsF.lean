/-
  The walks of the exact laws on traces (chapter 3, without expressions). Printed by exactlaws.py.
-/
import Derived.Test.YtajeknacjbkpiaaLawsR
namespace Go.Proofs.Ytajeknacjbkpiaa
open Go.RowKit
set_option linter.unusedVariables false
set_option maxHeartbeats 1000000

theorem walk_FnExactTraceValid (a0 : Option Addr) (len0 cap0 : Nat) (z0 : List Int) (w : World) (w00 : RowIn .i64 w a0 len0 cap0 z0) :
    Calls Try.prog 6 #[.slice a0 len0 cap0] w fun e w' => e = .returned (.bool true) ∧ Below w.heap.size w w' := by
  by_cases hl0 : 1048576 < len0
  · clear w00
    go_enter Try.func6, Try.ntmps6
    go_wp2
    go_ret
    exact ⟨rfl, Below.refl _ _⟩
  · skip
    have h0 := Ls.of_row w00
    generalize z0.take len0 = xs0 at *
    clear w00
    have tot : Since w w := Since.refl w
    go_enter Try.func6, Try.ntmps6
    go_wp2_with fail
    refine (toIntS_any a0 len0 cap0 w.heap.size xs0 w (by omega) (h0.below tot.below) tot.size).mono ?_
    rintro e w1 ⟨As0, ns0, cs0, rfl, os0, s⟩
    replace os0 := os0.lower tot.size
    have bs0 : ns0 ≤ 1048576 := by have := os0.len; rw [h0.len] at this; omega
    replace tot := tot.trans s
    clear s
    go_wp2_with fail
    refine (spec_TraceValid As0 ns0 cs0 _ xs0 w1 (by omega) os0.ls).mono ?_
    rintro e w' ⟨rfl, rfl⟩
    clear os0
    go_wp2_with fail
    refine (toIntS_any a0 len0 cap0 w.heap.size xs0 w1 (by omega) (h0.below tot.below) tot.size).mono ?_
    rintro e w2 ⟨Ax0, nx0, cx0, rfl, ox0, s⟩
    replace ox0 := ox0.lower tot.size
    have bx0 : nx0 ≤ 1048576 := by have := ox0.len; rw [h0.len] at this; omega
    replace tot := tot.trans s
    clear s
    go_wp2_with fail
    refine (impl_TraceValid Ax0 nx0 cx0 _ xs0 w2 (by omega) ox0.ls).mono ?_
    rintro e w' ⟨rfl, rfl⟩
    go_wp2_with fail
    refine (toIntS_any a0 len0 cap0 w.heap.size xs0 w2 (by omega) (h0.below tot.below) tot.size).mono ?_
    rintro e w3 ⟨Ay0, ny0, cy0, rfl, oy0, s⟩
    have apx0_y0 := ox0.apart oy0
    replace oy0 := oy0.lower tot.size
    have by0 : ny0 ≤ 1048576 := by have := oy0.len; rw [h0.len] at this; omega
    replace ox0 := ox0.since s
    replace tot := tot.trans s
    clear s
    go_wp2_with fail
    refine (eqIntS_any Ax0 nx0 cx0 _ _ Ay0 ny0 cy0 _ _ w3 (by omega) ox0.ls oy0.ls).mono ?_
    rintro e w4 ⟨rfl, s⟩
    replace ox0 := ox0.since s
    replace oy0 := oy0.since s
    replace tot := tot.trans s
    clear s
    clear oy0
    go_wp2
    go_ret
    exact ⟨rfl, tot⟩
theorem walk_FnExactTraceJoin (a0 : Option Addr) (len0 cap0 : Nat) (z0 : List Int) (a1 : Option Addr) (len1 cap1 : Nat) (z1 : List Int) (w : World) (w00 : RowIn .i64 w a0 len0 cap0 z0) (w01 : RowIn .i64 w a1 len1 cap1 z1) :
    Calls Try.prog 8 #[.slice a0 len0 cap0, .slice a1 len1 cap1] w fun e w' => e = .returned (.bool true) ∧ Below w.heap.size w w' := by
  by_cases hl0 : 1048576 < len0
  · clear w00 w01
    go_enter Try.func8, Try.ntmps8
    go_wp2
    go_ret
    exact ⟨rfl, Below.refl _ _⟩
  · skip
    by_cases hl1 : 1048576 < len1
    · clear w00 w01
      go_enter Try.func8, Try.ntmps8
      go_wp2
      go_ret
      exact ⟨rfl, Below.refl _ _⟩
    · skip
      have h0 := Ls.of_row w00
      generalize z0.take len0 = xs0 at *
      clear w00
      have h1 := Ls.of_row w01
      generalize z1.take len1 = xs1 at *
      clear w01
      have tot : Since w w := Since.refl w
      go_enter Try.func8, Try.ntmps8
      go_wp2_with fail
      refine (toIntS_any a0 len0 cap0 w.heap.size xs0 w (by omega) (h0.below tot.below) tot.size).mono ?_
      rintro e w1 ⟨As0, ns0, cs0, rfl, os0, s⟩
      replace os0 := os0.lower tot.size
      have bs0 : ns0 ≤ 1048576 := by have := os0.len; rw [h0.len] at this; omega
      replace tot := tot.trans s
      clear s
      go_wp2_with fail
      refine (toIntS_any a1 len1 cap1 w.heap.size xs1 w1 (by omega) (h1.below tot.below) tot.size).mono ?_
      rintro e w2 ⟨As1, ns1, cs1, rfl, os1, s⟩
      have aps0_s1 := os0.apart os1
      replace os1 := os1.lower tot.size
      have bs1 : ns1 ≤ 1048576 := by have := os1.len; rw [h1.len] at this; omega
      replace os0 := os0.since s
      replace tot := tot.trans s
      clear s
      go_wp2_with fail
      refine (spec_TraceJoin As0 ns0 cs0 xs0 As1 ns1 cs1 xs1 w2 (by omega) (by omega) os0.ls os1.ls).mono ?_
      rintro e w3 ⟨Ar, nr, cr, rfl, or, s⟩
      have aps0_r := os0.apart or
      have aps1_r := os1.apart or
      replace or := or.lower tot.size
      have br : nr ≤ 1048576 := by have := tJoin_len or.len; omega
      replace os0 := os0.since s
      replace os1 := os1.since s
      replace tot := tot.trans s
      clear s
      clear os0
      clear os1
      go_wp2_with fail
      refine (toIntS_any a0 len0 cap0 w.heap.size xs0 w3 (by omega) (h0.below tot.below) tot.size).mono ?_
      rintro e w4 ⟨Ax0, nx0, cx0, rfl, ox0, s⟩
      have apr_x0 := or.apart ox0
      replace ox0 := ox0.lower tot.size
      have bx0 : nx0 ≤ 1048576 := by have := ox0.len; rw [h0.len] at this; omega
      replace or := or.since s
      replace tot := tot.trans s
      clear s
      go_wp2_with fail
      refine (toIntS_any a1 len1 cap1 w.heap.size xs1 w4 (by omega) (h1.below tot.below) tot.size).mono ?_
      rintro e w5 ⟨Ax1, nx1, cx1, rfl, ox1, s⟩
      have apr_x1 := or.apart ox1
      have apx0_x1 := ox0.apart ox1
      replace ox1 := ox1.lower tot.size
      have bx1 : nx1 ≤ 1048576 := by have := ox1.len; rw [h1.len] at this; omega
      replace or := or.since s
      replace ox0 := ox0.since s
      replace tot := tot.trans s
      clear s
      go_wp2_with fail
      refine (impl_TraceJoin Ax0 nx0 cx0 xs0 Ax1 nx1 cx1 xs1 w5 (by omega) (by omega) ox0.ls ox1.ls).mono ?_
      rintro e w6 ⟨Ag, ng, cg, rfl, og, s⟩
      have apr_g := or.apart og
      have apx0_g := ox0.apart og
      have apx1_g := ox1.apart og
      replace og := og.lower tot.size
      have bg : ng ≤ 1048576 := by have := tJoin_len og.len; omega
      replace or := or.since s
      replace ox0 := ox0.since s
      replace ox1 := ox1.since s
      replace tot := tot.trans s
      clear s
      go_wp2_with fail
      refine (eqIntS_any Ag ng cg _ _ Ar nr cr _ _ w6 (by omega) og.ls or.ls).mono ?_
      rintro e w7 ⟨rfl, s⟩
      replace or := or.since s
      replace ox0 := ox0.since s
      replace ox1 := ox1.since s
      replace og := og.since s
      replace tot := tot.trans s
      clear s
      go_wp2_with fail
      refine (toIntS_any a0 len0 cap0 w.heap.size xs0 w7 (by omega) (h0.below tot.below) tot.size).mono ?_
      rintro e w8 ⟨Ay0, ny0, cy0, rfl, oy0, s⟩
      have apr_y0 := or.apart oy0
      have apx0_y0 := ox0.apart oy0
      have apx1_y0 := ox1.apart oy0
      have apg_y0 := og.apart oy0
      replace oy0 := oy0.lower tot.size
      have by0 : ny0 ≤ 1048576 := by have := oy0.len; rw [h0.len] at this; omega
      replace or := or.since s
      replace ox0 := ox0.since s
      replace ox1 := ox1.since s
      replace og := og.since s
      replace tot := tot.trans s
      clear s
      go_wp2_with fail
      refine (eqIntS_any Ax0 nx0 cx0 _ _ Ay0 ny0 cy0 _ _ w8 (by omega) ox0.ls oy0.ls).mono ?_
      rintro e w9 ⟨rfl, s⟩
      replace or := or.since s
      replace ox0 := ox0.since s
      replace ox1 := ox1.since s
      replace og := og.since s
      replace oy0 := oy0.since s
      replace tot := tot.trans s
      clear s
      clear oy0
      go_wp2_with fail
      refine (toIntS_any a1 len1 cap1 w.heap.size xs1 w9 (by omega) (h1.below tot.below) tot.size).mono ?_
      rintro e w10 ⟨Ay1, ny1, cy1, rfl, oy1, s⟩
      have apr_y1 := or.apart oy1
      have apx0_y1 := ox0.apart oy1
      have apx1_y1 := ox1.apart oy1
      have apg_y1 := og.apart oy1
      replace oy1 := oy1.lower tot.size
      have by1 : ny1 ≤ 1048576 := by have := oy1.len; rw [h1.len] at this; omega
      replace or := or.since s
      replace ox0 := ox0.since s
      replace ox1 := ox1.since s
      replace og := og.since s
      replace tot := tot.trans s
      clear s
      go_wp2_with fail
      refine (eqIntS_any Ax1 nx1 cx1 _ _ Ay1 ny1 cy1 _ _ w10 (by omega) ox1.ls oy1.ls).mono ?_
      rintro e w11 ⟨rfl, s⟩
      replace or := or.since s
      replace ox0 := ox0.since s
      replace ox1 := ox1.since s
      replace og := og.since s
      replace oy1 := oy1.since s
      replace tot := tot.trans s
      clear s
      clear oy1
      go_wp2_with fail
      refine (markIntS_any Ax0 nx0 cx0 _ _ (1) w11 (by omega) ox0 (by omega) (by omega)).mono ?_
      rintro e w12 ⟨rfl, om, hm⟩
      replace tot := tot.marked ox0 hm
      replace or := or.marked hm apr_x0.symm
      replace ox1 := ox1.marked hm apx0_x1
      replace og := og.marked hm apx0_g
      replace ox0 := om
      clear om hm
      go_wp2_with fail
      refine (markIntS_any Ax1 nx1 cx1 _ _ (1 + (nx0 : Int)) w12 (by omega) ox1 (by omega) (by omega)).mono ?_
      rintro e w13 ⟨rfl, om, hm⟩
      replace tot := tot.marked ox1 hm
      replace or := or.marked hm apr_x1.symm
      replace ox0 := ox0.marked hm apx0_x1.symm
      replace og := og.marked hm apx1_g
      replace ox1 := om
      clear om hm
      go_wp2_with fail
      refine (eqIntS_any Ag ng cg _ _ Ar nr cr _ _ w13 (by omega) og.ls or.ls).mono ?_
      rintro e w14 ⟨rfl, s⟩
      replace or := or.since s
      replace ox0 := ox0.since s
      replace ox1 := ox1.since s
      replace og := og.since s
      replace tot := tot.trans s
      clear s
      go_wp2_with fail
      refine (markIntS_any Ag ng cg _ _ (1) w14 (by omega) og (by omega) (by omega)).mono ?_
      rintro e w15 ⟨rfl, om, hm⟩
      replace tot := tot.marked og hm
      replace or := or.marked hm apr_g.symm
      replace ox0 := ox0.marked hm apx0_g.symm
      replace ox1 := ox1.marked hm apx1_g.symm
      replace og := om
      clear om hm
      go_wp2_with fail
      refine (heldIntS_any Ag ng cg _ 1 w15 (by omega) og.ls (by omega) (by omega)).mono ?_
      rintro e w' ⟨rfl, rfl⟩
      clear ox0
      clear ox1
      go_wp2_with fail
      refine (toIntS_any a0 len0 cap0 w.heap.size xs0 w15 (by omega) (h0.below tot.below) tot.size).mono ?_
      rintro e w16 ⟨Au0, nu0, cu0, rfl, ou0, s⟩
      have apr_u0 := or.apart ou0
      have apg_u0 := og.apart ou0
      replace ou0 := ou0.lower tot.size
      have bu0 : nu0 ≤ 1048576 := by have := ou0.len; rw [h0.len] at this; omega
      replace or := or.since s
      replace og := og.since s
      replace tot := tot.trans s
      clear s
      go_wp2_with fail
      refine (toIntS_any a1 len1 cap1 w.heap.size xs1 w16 (by omega) (h1.below tot.below) tot.size).mono ?_
      rintro e w17 ⟨Au1, nu1, cu1, rfl, ou1, s⟩
      have apr_u1 := or.apart ou1
      have apg_u1 := og.apart ou1
      have apu0_u1 := ou0.apart ou1
      replace ou1 := ou1.lower tot.size
      have bu1 : nu1 ≤ 1048576 := by have := ou1.len; rw [h1.len] at this; omega
      replace or := or.since s
      replace og := og.since s
      replace ou0 := ou0.since s
      replace tot := tot.trans s
      clear s
      go_wp2_with fail
      refine (impl_TraceJoin Au0 nu0 cu0 xs0 Au1 nu1 cu1 xs1 w17 (by omega) (by omega) ou0.ls ou1.ls).mono ?_
      rintro e w18 ⟨Ah, nh, ch, rfl, oh, s⟩
      have apr_h := or.apart oh
      have apg_h := og.apart oh
      have apu0_h := ou0.apart oh
      have apu1_h := ou1.apart oh
      replace oh := oh.lower tot.size
      have bh : nh ≤ 1048576 := by have := tJoin_len oh.len; omega
      replace or := or.since s
      replace og := og.since s
      replace ou0 := ou0.since s
      replace ou1 := ou1.since s
      replace tot := tot.trans s
      clear s
      go_wp2_with fail
      refine (eqIntS_any Ah nh ch _ _ Ar nr cr _ _ w18 (by omega) oh.ls or.ls).mono ?_
      rintro e w19 ⟨rfl, s⟩
      replace or := or.since s
      replace og := og.since s
      replace ou0 := ou0.since s
      replace ou1 := ou1.since s
      replace oh := oh.since s
      replace tot := tot.trans s
      clear s
      go_wp2_with fail
      refine (heldIntS_any Ag ng cg _ 1 w19 (by omega) og.ls (by omega) (by omega)).mono ?_
      rintro e w' ⟨rfl, rfl⟩
      go_wp2
      go_ret
      exact ⟨rfl, tot⟩
theorem walk_FnExactTraceBack (a0 : Option Addr) (len0 cap0 : Nat) (z0 : List Int) (w : World) (w00 : RowIn .i64 w a0 len0 cap0 z0) :
    Calls Try.prog 9 #[.slice a0 len0 cap0] w fun e w' => e = .returned (.bool true) ∧ Below w.heap.size w w' := by
  by_cases hl0 : 1048576 < len0
  · clear w00
    go_enter Try.func9, Try.ntmps9
    go_wp2
    go_ret
    exact ⟨rfl, Below.refl _ _⟩
  · skip
    have h0 := Ls.of_row w00
    generalize z0.take len0 = xs0 at *
    clear w00
    have tot : Since w w := Since.refl w
    go_enter Try.func9, Try.ntmps9
    go_wp2_with fail
    refine (toIntS_any a0 len0 cap0 w.heap.size xs0 w (by omega) (h0.below tot.below) tot.size).mono ?_
    rintro e w1 ⟨As0, ns0, cs0, rfl, os0, s⟩
    replace os0 := os0.lower tot.size
    have bs0 : ns0 ≤ 1048576 := by have := os0.len; rw [h0.len] at this; omega
    replace tot := tot.trans s
    clear s
    go_wp2_with fail
    refine (spec_TraceBack As0 ns0 cs0 xs0 w1 (by omega) os0.ls).mono ?_
    rintro e w2 ⟨Ar, nr, cr, rfl, or, s⟩
    have aps0_r := os0.apart or
    replace or := or.lower tot.size
    have br : nr ≤ 1048576 := by have := tBack_len or.len; omega
    replace os0 := os0.since s
    replace tot := tot.trans s
    clear s
    clear os0
    go_wp2_with fail
    refine (toIntS_any a0 len0 cap0 w.heap.size xs0 w2 (by omega) (h0.below tot.below) tot.size).mono ?_
    rintro e w3 ⟨Ax0, nx0, cx0, rfl, ox0, s⟩
    have apr_x0 := or.apart ox0
    replace ox0 := ox0.lower tot.size
    have bx0 : nx0 ≤ 1048576 := by have := ox0.len; rw [h0.len] at this; omega
    replace or := or.since s
    replace tot := tot.trans s
    clear s
    go_wp2_with fail
    refine (impl_TraceBack Ax0 nx0 cx0 xs0 w3 (by omega) ox0.ls).mono ?_
    rintro e w4 ⟨Ag, ng, cg, rfl, og, s⟩
    have apr_g := or.apart og
    have apx0_g := ox0.apart og
    replace og := og.lower tot.size
    have bg : ng ≤ 1048576 := by have := tBack_len og.len; omega
    replace or := or.since s
    replace ox0 := ox0.since s
    replace tot := tot.trans s
    clear s
    go_wp2_with fail
    refine (eqIntS_any Ag ng cg _ _ Ar nr cr _ _ w4 (by omega) og.ls or.ls).mono ?_
    rintro e w5 ⟨rfl, s⟩
    replace or := or.since s
    replace ox0 := ox0.since s
    replace og := og.since s
    replace tot := tot.trans s
    clear s
    go_wp2_with fail
    refine (toIntS_any a0 len0 cap0 w.heap.size xs0 w5 (by omega) (h0.below tot.below) tot.size).mono ?_
    rintro e w6 ⟨Ay0, ny0, cy0, rfl, oy0, s⟩
    have apr_y0 := or.apart oy0
    have apx0_y0 := ox0.apart oy0
    have apg_y0 := og.apart oy0
    replace oy0 := oy0.lower tot.size
    have by0 : ny0 ≤ 1048576 := by have := oy0.len; rw [h0.len] at this; omega
    replace or := or.since s
    replace ox0 := ox0.since s
    replace og := og.since s
    replace tot := tot.trans s
    clear s
    go_wp2_with fail
    refine (eqIntS_any Ax0 nx0 cx0 _ _ Ay0 ny0 cy0 _ _ w6 (by omega) ox0.ls oy0.ls).mono ?_
    rintro e w7 ⟨rfl, s⟩
    replace or := or.since s
    replace ox0 := ox0.since s
    replace og := og.since s
    replace oy0 := oy0.since s
    replace tot := tot.trans s
    clear s
    clear oy0
    go_wp2_with fail
    refine (markIntS_any Ax0 nx0 cx0 _ _ (1) w7 (by omega) ox0 (by omega) (by omega)).mono ?_
    rintro e w8 ⟨rfl, om, hm⟩
    replace tot := tot.marked ox0 hm
    replace or := or.marked hm apr_x0.symm
    replace og := og.marked hm apx0_g
    replace ox0 := om
    clear om hm
    go_wp2_with fail
    refine (eqIntS_any Ag ng cg _ _ Ar nr cr _ _ w8 (by omega) og.ls or.ls).mono ?_
    rintro e w9 ⟨rfl, s⟩
    replace or := or.since s
    replace ox0 := ox0.since s
    replace og := og.since s
    replace tot := tot.trans s
    clear s
    go_wp2_with fail
    refine (markIntS_any Ag ng cg _ _ (1) w9 (by omega) og (by omega) (by omega)).mono ?_
    rintro e w10 ⟨rfl, om, hm⟩
    replace tot := tot.marked og hm
    replace or := or.marked hm apr_g.symm
    replace ox0 := ox0.marked hm apx0_g.symm
    replace og := om
    clear om hm
    go_wp2_with fail
    refine (heldIntS_any Ag ng cg _ 1 w10 (by omega) og.ls (by omega) (by omega)).mono ?_
    rintro e w' ⟨rfl, rfl⟩
    clear ox0
    go_wp2_with fail
    refine (toIntS_any a0 len0 cap0 w.heap.size xs0 w10 (by omega) (h0.below tot.below) tot.size).mono ?_
    rintro e w11 ⟨Au0, nu0, cu0, rfl, ou0, s⟩
    have apr_u0 := or.apart ou0
    have apg_u0 := og.apart ou0
    replace ou0 := ou0.lower tot.size
    have bu0 : nu0 ≤ 1048576 := by have := ou0.len; rw [h0.len] at this; omega
    replace or := or.since s
    replace og := og.since s
    replace tot := tot.trans s
    clear s
    go_wp2_with fail
    refine (impl_TraceBack Au0 nu0 cu0 xs0 w11 (by omega) ou0.ls).mono ?_
    rintro e w12 ⟨Ah, nh, ch, rfl, oh, s⟩
    have apr_h := or.apart oh
    have apg_h := og.apart oh
    have apu0_h := ou0.apart oh
    replace oh := oh.lower tot.size
    have bh : nh ≤ 1048576 := by have := tBack_len oh.len; omega
    replace or := or.since s
    replace og := og.since s
    replace ou0 := ou0.since s
    replace tot := tot.trans s
    clear s
    go_wp2_with fail
    refine (eqIntS_any Ah nh ch _ _ Ar nr cr _ _ w12 (by omega) oh.ls or.ls).mono ?_
    rintro e w13 ⟨rfl, s⟩
    replace or := or.since s
    replace og := og.since s
    replace ou0 := ou0.since s
    replace oh := oh.since s
    replace tot := tot.trans s
    clear s
    go_wp2_with fail
    refine (heldIntS_any Ag ng cg _ 1 w13 (by omega) og.ls (by omega) (by omega)).mono ?_
    rintro e w' ⟨rfl, rfl⟩
    go_wp2
    go_ret
    exact ⟨rfl, tot⟩
end Go.Proofs.Ytajeknacjbkpiaa
