/-
  The walk of the exact law on ReadKat: both sides answer readP.
-/
import Derived.Test.YtfhfjkpheloanaaDoorReadW
import Derived.Test.YtfhfjkpheloanaaDoorRdrF
namespace Go.Proofs.YtfhfjkpheloanaaDoor
open Go.RowKit
set_option linter.unusedVariables false
set_option maxHeartbeats 1000000
theorem readP_len (l : List UInt8) : (readP l).1.length ≤ 1000 := by
  unfold readP
  split
  · simp
  · cases h : sumP (leafP l) l 99 0 with
    | none => simp
    | some r =>
      have := sum_fwd (leaf_fwd l) 99 0 r h
      simp only
      split
      · simp only; omega
      · simp
theorem walk_FnExactReadKat (l : List UInt8) (w : World) (h : NM w) :
    Calls Tryd.prog 3 #[.string (bs l)] w fun e w' => e = .returned (.bool true) ∧ Below w.heap.size w w' := by
  have hsz : (bs l).size = l.length := bs_size l
  by_cases hl : 1048576 < l.length
  · go_enter Tryd.func3, Tryd.ntmps3
    go_wp2
    go_ret
    exact ⟨rfl, Below.refl _ _⟩
  · have hs := Lib.hid (fun w => spec_ReadKat l w)
    have hi := Lib.hid (fun w h => impl_ReadKat l w h)
    have hlen := readP_len l
    generalize readP l = R at *
    obtain ⟨xs, b⟩ := R
    simp only at hlen
    have hq2 : (b != b) = false := by simp
    replace hlen := Lib.hid hlen
    have tot : Since w w := Since.refl w
    go_enter Tryd.func3, Tryd.ntmps3
    go_wp2_with fail
    refine (hs.out w).mono ?_
    rintro e w1 ⟨Ar, nr, cr, rfl, or, s⟩
    have br : nr ≤ 1048576 := by have := or.len; have := hlen.out; simp only at *; omega
    replace tot := tot.trans s
    clear s
    go_wp2_with fail
    refine (hi.out w1 (h.below tot)).mono ?_
    rintro e w2 ⟨Ag, ng, cg, rfl, og, s⟩
    have apr_g := or.apart og
    replace og := og.lower tot.size
    have bg : ng ≤ 1048576 := by have := og.len; have := hlen.out; simp only at *; omega
    replace or := or.since s
    replace tot := tot.trans s
    clear s
    go_wp2_with fail
    refine (eqIntS_any Ag ng cg _ _ Ar nr cr _ _ w2 (by omega) og.ls or.ls).mono ?_
    rintro e w3 ⟨rfl, s⟩
    replace or := or.since s
    replace og := og.since s
    replace tot := tot.trans s
    clear s
    go_wp2_with fail
    refine (markIntS_any Ag ng cg _ _ (1) w3 (by omega) og (by omega) (by omega)).mono ?_
    rintro e w4 ⟨rfl, om, hm⟩
    replace tot := tot.marked og hm
    replace or := or.marked hm apr_g.symm
    replace og := om
    clear om hm
    go_wp2_with fail
    refine (heldIntS_any Ag ng cg _ 1 w4 (by omega) og.ls (by omega) (by omega)).mono ?_
    rintro e w' ⟨rfl, rfl⟩
    go_wp2_with fail
    refine (hi.out w4 (h.below tot)).mono ?_
    rintro e w5 ⟨Ah, nh, ch, rfl, oh, s⟩
    have bh : nh ≤ 1048576 := by have := oh.len; have := hlen.out; simp only at *; omega
    replace or := or.since s
    replace og := og.since s
    replace tot := tot.trans s
    clear s
    go_wp2_with fail
    refine (eqIntS_any Ah nh ch _ _ Ar nr cr _ _ w5 (by omega) oh.ls or.ls).mono ?_
    rintro e w6 ⟨rfl, s⟩
    replace og := og.since s
    replace tot := tot.trans s
    clear s
    go_wp2_with fail
    refine (heldIntS_any Ag ng cg _ 1 w6 (by omega) og.ls (by omega) (by omega)).mono ?_
    rintro e w' ⟨rfl, rfl⟩
    go_wp2_with fail
    go_ret
    exact ⟨rfl, tot⟩
end Go.Proofs.YtfhfjkpheloanaaDoor
