/-
  The walks of the laws on traces (chapter 3, without expressions).
-/
import Derived.Test.YtajeknacjbkpiaaTrace
import Derived.Test.YtajeknacjbkpiaaDrawT
import Derived.Test.YtajeknacjbkpiaaLawsT
namespace Go.Proofs.Ytajeknacjbkpiaa
open Go.RowKit
set_option linter.unusedVariables false
set_option maxHeartbeats 400000

theorem same_list {l : List Int} : decide (l = l) = true := by simp
theorem walk_FnTraceBack (a0 : Option Addr) (len0 cap0 : Nat) (z0 : List Int) (w : World) (w0 : RowIn .u8 w a0 len0 cap0 z0) :
    Calls Try.prog 10 #[.slice a0 len0 cap0] w fun e w' => e = .returned (.bool true) ∧ Below w.heap.size w w' := by
  by_cases hl : 1048576 < len0
  · clear w0
    go_enter Try.func10, Try.ntmps10
    go_wp2
    go_ret
    exact ⟨rfl, Below.refl _ _⟩
  · go_enter Try.func10, Try.ntmps10
    go_wp2_with fail
    refine (draw_TraceBack a0 len0 cap0 z0 w w0).mono ?_
    rintro e w1 ⟨A, n, c, xs, rfl, o1, hn1, s1⟩
    clear w0
    have tot : Since w w1 := s1
    clear s1
    go_wp2_with fail
    refine (impl_TraceBack A n c xs w1 (by omega) o1.ls).mono ?_
    rintro e w2 ⟨A2, n2, c2, rfl, o2, s⟩
    replace o1 := o1.since s
    replace tot := tot.trans s
    clear s
    have hn2 := tBack_len o2.len
    go_wp2_with fail
    refine (spec_TraceBack A n c xs w2 (by omega) o1.ls).mono ?_
    rintro e w3 ⟨A3, n3, c3, rfl, o3, s⟩
    replace o1 := o1.since s
    replace o2 := o2.since s
    replace tot := tot.trans s
    clear s
    go_wp2_with fail
    refine (sameInts_any A2 n2 c2 _ _ A3 n3 c3 _ _ w3 (by omega) o2.ls o3.ls).mono ?_
    rintro e w4 ⟨rfl, s⟩
    replace o1 := o1.since s
    replace o2 := o2.since s
    replace tot := tot.trans s
    clear s o3
    rw [same_list]
    go_wp2_with fail
    refine (spec_TraceValid A n c _ xs w4 (by omega) o1.ls).mono ?_
    rintro e w' ⟨rfl, rfl⟩
    cases hva : trV xs
    · have hn0 : n2 = 0 := by have := o2.len; rw [tBack_no hva] at this; simpa using this.symm
      subst hn0
      clear hva
      go_wp2_with (go_at_call 14; refine (laws_alive _).mono ?_; rintro e w' ⟨rfl, rfl⟩)
      go_ret
      exact ⟨rfl, tot⟩
    · have hbv := Lib.hid (tBack_v hva)
      have hbb := Lib.hid (tBack_back hva)
      clear hva
      go_wp2_with fail
      refine (impl_TraceValid A2 n2 c2 _ _ w4 (by omega) o2.ls).mono ?_
      rintro e w' ⟨rfl, rfl⟩
      rw [hbv.out]
      go_wp2_with fail
      refine (impl_TraceBack A2 n2 c2 _ w4 (by omega) o2.ls).mono ?_
      rintro e w5 ⟨A5, n5, c5, rfl, o5, s⟩
      replace o1 := o1.since s
      replace tot := tot.trans s
      clear s
      rw [hbb.out] at o5
      have hn5 : n5 ≤ 43 := by have := o5.len; have := o1.len; omega
      go_wp2_with fail
      refine (sameInts_any A5 n5 c5 _ _ A n c _ _ w5 (by omega) o5.ls o1.ls).mono ?_
      rintro e w6 ⟨rfl, s⟩
      replace tot := tot.trans s
      clear s
      rw [same_list]
      go_wp2
      go_ret
      exact ⟨rfl, tot⟩
theorem walk_FnTraceValid (a0 : Option Addr) (len0 cap0 : Nat) (z0 : List Int) (w : World) (w0 : RowIn .u8 w a0 len0 cap0 z0) :
    Calls Try.prog 7 #[.slice a0 len0 cap0] w fun e w' => e = .returned (.bool true) ∧ Below w.heap.size w w' := by
  by_cases hl : 1048576 < len0
  · clear w0
    go_enter Try.func7, Try.ntmps7
    go_wp2
    go_ret
    exact ⟨rfl, Below.refl _ _⟩
  · go_enter Try.func7, Try.ntmps7
    go_wp2_with fail
    refine (draw_TraceValid a0 len0 cap0 z0 w w0).mono ?_
    rintro e w1 ⟨A, n, c, xs, rfl, o1, hn1, s1⟩
    clear w0
    go_wp2_with fail
    refine (impl_TraceValid A n c _ xs w1 (by omega) o1.ls).mono ?_
    rintro e w' ⟨rfl, rfl⟩
    go_wp2_with fail
    refine (spec_TraceValid A n c _ xs w1 (by omega) o1.ls).mono ?_
    rintro e w' ⟨rfl, rfl⟩
    cases hva : trV xs
    · go_wp2_with (first | (go_at_call 26; refine (impl_TraceValid none 0 0 0 [] w1 (by omega) (Ls.nil _ _)).mono ?_; rintro e w' ⟨rfl, rfl⟩; rw [trV_nil]) | (go_at_call 14; refine (laws_alive _).mono ?_; rintro e w' ⟨rfl, rfl⟩))
      go_ret
      exact ⟨rfl, s1⟩
    · have h1 := Lib.hid (trV_one hva)
      have h2 := Lib.hid (trV_more 16 hva)
      have hla := (trV_iff.1 hva).1
      rw [o1.len] at hla
      have hva := Lib.hid hva
      have hn0 : 1 ≤ n := by omega
      have hcc := o1.ls.cap
      have hz1 : (1 : Int) ≤ (c : Int) := by omega
      have tok1 : True := trivial
      have tok2 : True := trivial
      clear hla
      go_wp2_with fail
      refine (impl_TraceValid A 1 c _ (xs.take 1) w1 (by omega) (o1.ls.take hn0)).mono ?_
      rintro e w' ⟨rfl, rfl⟩
      rw [h1.out]
      go_wp2_with (first
        | (at_builtin
           have _t := tok1
           refine wpList_app rfl _ _ rfl w1.heap.size _ 0 0 [] rfl (Own.zero w1) _ A n c xs rfl (o1.alloc _).ls (by omega) (by simp) ?_
           intro A2 c2 w2 o2 g2
           have s2 : Since w1 w2 := ((Since.refl w1).alloc _).app (Nat.le_refl _) g2
           simp only [Nat.zero_add, List.nil_append] at o2
           simp only [Nat.zero_add]
           clear g2 tok1)
        | (at_builtin
           have _t := tok2
           refine wpList_app rfl _ _ rfl w1.heap.size _ n c2 xs rfl (o2.alloc _) _ _ 1 1 [16] rfl (Ls.one w2 16 (by decide) _) (by omega) (s2.alloc _).size ?_
           intro A3 c3 w3 o3 g3
           have s3 : Since w1 w3 := (s2.alloc _).app (Nat.le_refl _) g3
           clear g3 tok2))
      refine (impl_TraceValid A3 (n + 1) c3 _ _ w3 (by omega) o3.ls).mono ?_
      rintro e w' ⟨rfl, rfl⟩
      rw [h2.out]
      go_wp2_with (first | (go_at_call 26; refine (impl_TraceValid none 0 0 0 [] w3 (by omega) (Ls.nil _ _)).mono ?_; rintro e w' ⟨rfl, rfl⟩; rw [trV_nil]) | (go_at_call 14; refine (laws_alive _).mono ?_; rintro e w' ⟨rfl, rfl⟩))
      go_ret
      exact ⟨rfl, s1.trans s3⟩
end Go.Proofs.Ytajeknacjbkpiaa
