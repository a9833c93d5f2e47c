/-
  The walks of the laws on traces (chapter 3, without expressions).
-/
import Derived.Test.YtcilncdhkniigaaTrace
import Derived.Test.YtcilncdhkniigaaDrawT
import Derived.Test.YtcilncdhkniigaaLawsT
namespace Go.Proofs.Ytcilncdhkniigaa
open Go.RowKit
set_option linter.unusedVariables false
set_option maxHeartbeats 400000

theorem same_list {l : List Int} : decide (l = l) = true := by simp
theorem walk_FnTraceJoin (a0 : Option Addr) (len0 cap0 : Nat) (z0 : List Int) (w : World) (w0 : RowIn .u8 w a0 len0 cap0 z0) :
    Calls Try.prog 3 #[.slice a0 len0 cap0] w fun e w' => e = .returned (.bool true) ∧ Below w.heap.size w w' := by
  by_cases hl : 1048576 < len0
  · clear w0
    go_enter Try.func3, Try.ntmps3
    go_wp2
    go_ret
    exact ⟨rfl, Below.refl _ _⟩
  · go_enter Try.func3, Try.ntmps3
    go_wp2_with fail
    refine (draw_TraceJoin a0 len0 cap0 z0 w w0).mono ?_
    rintro e w1 ⟨A, n, c, xs, A', n', c', ys, rfl, o1, hn1, o1', hn1', s1⟩
    clear w0
    have hlx := Lib.hid o1.len
    have hly := Lib.hid o1'.len
    have tot : Since w w1 := s1
    clear s1
    go_wp2_with fail
    refine (impl_TraceJoin A n c xs A' n' c' ys w1 (by omega) (by omega) o1.ls o1'.ls).mono ?_
    rintro e w2 ⟨A2, n2, c2, rfl, o2, s⟩
    replace o1 := o1.since s
    replace o1' := o1'.since s
    replace tot := tot.trans s
    clear s
    have hn2 := tJoin_len o2.len
    go_wp2_with fail
    refine (spec_TraceJoin A n c xs A' n' c' ys w2 (by omega) (by omega) o1.ls o1'.ls).mono ?_
    rintro e w3 ⟨A3, n3, c3, rfl, o3, s⟩
    replace o1 := o1.since s
    replace o1' := o1'.since s
    replace o2 := o2.since s
    replace tot := tot.trans s
    clear s
    go_wp2_with fail
    refine (sameInts_any A2 n2 c2 _ _ A3 n3 c3 _ _ w3 (by omega) o2.ls o3.ls).mono ?_
    rintro e w4 ⟨rfl, s⟩
    replace o1 := o1.since s
    replace o1' := o1'.since s
    replace o2 := o2.since s
    replace tot := tot.trans s
    clear s o3
    rw [same_list]
    cases hok : (tJoin xs ys).2
    · have hn0 : n2 = 0 := by have := o2.len; rw [tJoin_no hok] at this; simpa using this.symm
      subst hn0
      clear hok
      go_wp2_with (go_at_call 19; refine (laws_alive _).mono ?_; rintro e w' ⟨rfl, rfl⟩)
      go_ret
      exact ⟨rfl, tot⟩
    · have hb := Lib.hid (tJoin_back hok)
      have hz : ((n2 : Int) == (n : Int) + n' - 1) = true := by
        have := tJoin_length hok
        rw [o2.len, hlx.out, hly.out] at this
        simp; omega
      have hok := Lib.hid hok
      go_wp2_with fail
      refine (impl_TraceBack A' n' c' ys w4 (by omega) o1'.ls).mono ?_
      rintro e w5 ⟨A5, n5, c5, rfl, o5, s⟩
      replace o1 := o1.since s
      replace o2 := o2.since s
      replace tot := tot.trans s
      clear s o1'
      have hn5 := tBack_len o5.len
      go_wp2_with fail
      refine (impl_TraceBack A n c xs w5 (by omega) o1.ls).mono ?_
      rintro e w6 ⟨A6, n6, c6, rfl, o6, s⟩
      replace o5 := o5.since s
      replace o2 := o2.since s
      replace tot := tot.trans s
      clear s o1
      have hn6 := tBack_len o6.len
      go_wp2_with fail
      refine (impl_TraceJoin A5 n5 c5 _ A6 n6 c6 _ w6 (by omega) (by omega) o5.ls o6.ls).mono ?_
      rintro e w7 ⟨A7, n7, c7, rfl, o7, s⟩
      replace o2 := o2.since s
      replace tot := tot.trans s
      clear s o5 o6
      rw [hb.out] at o7 ⊢
      have hn7 : n7 ≤ 41 := tBack_len o7.len
      go_wp2_with fail
      refine (impl_TraceBack A2 n2 c2 _ w7 (by omega) o2.ls).mono ?_
      rintro e w8 ⟨A8, n8, c8, rfl, o8, s⟩
      replace o7 := o7.since s
      replace tot := tot.trans s
      clear s o2
      go_wp2_with fail
      refine (sameInts_any A7 n7 c7 _ _ A8 n8 c8 _ _ w8 (by omega) o7.ls o8.ls).mono ?_
      rintro e w9 ⟨rfl, s⟩
      replace tot := tot.trans s
      clear s o7 o8
      have hsl : decide ((tBack (tJoin xs ys).1, true).1 = tBack (tJoin xs ys).1) = true := by simp
      rw [hsl]
      go_wp2
      go_ret
      exact ⟨rfl, tot⟩
end Go.Proofs.Ytcilncdhkniigaa
