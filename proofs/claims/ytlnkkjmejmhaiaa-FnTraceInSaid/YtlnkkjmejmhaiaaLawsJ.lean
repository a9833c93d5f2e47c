/-
  The walk of the law on traces of expressions, backwards (chapter 3).
-/
import Derived.Test.YtlnkkjmejmhaiaaDrawID
import Derived.Test.YtlnkkjmejmhaiaaTraceIn
import Derived.Test.YtlnkkjmejmhaiaaLawsB
namespace Go.Proofs.Ytlnkkjmejmhaiaa
open Go.RowKit
set_option linter.unusedVariables false
set_option maxHeartbeats 1000000

/-- Backwards traces are those of the expression backwards. -/
theorem tIn_back (xs ys : List Int) : tIn (kBack xs) (tBack ys) = tIn xs ys := by
  cases hk : katV xs
  · rw [kBack_no hk, tIn_no katV_nil, tIn_no hk]
  · cases hv : trV ys
    · rw [tBack_no hv, tIn_no2 trV_nil, tIn_no2 hv]
    · obtain ⟨t, ht, rfl, hs⟩ := katV_tree hk
      have hb : tBack ys = ys.reverse := by simp [tBack, hv]
      rw [kBack_of ht hs, tIn_of (Tr.back_ok ht) (by rw [Tr.back_size]; exact hs), tIn_of ht hs, tBack_v hv, hv, hb]
      have h1 := (trV_iff.1 hv).1
      have := in_back (tr := ys) (n := ys.length / 2) (by omega) ht
      simp only [Bool.true_and]
      unfold isIn
      rw [List.length_reverse]
      exact this
/-- A trace of an expression is one of it again and again. -/
theorem tIn_star {xs ys : List Int} (h : tIn xs ys = true) (hs : (kStar xs).2 = true) : tIn (kStar xs).1 ys = true := by
  obtain ⟨hk, hk2, e⟩ := kStar_ok hs
  rw [e]
  have hl := (katV_len hk2).2
  obtain ⟨t, ht, rfl, hsz⟩ := katV_tree hk
  rw [tIn_of ht hsz, Bool.and_eq_true] at h
  have e2 : t.steps ++ [21] = (Tr.star t).steps := rfl
  rw [e2] at hl ⊢
  rw [Tr.length_steps] at hl
  rw [tIn_of (show (Tr.star t).ok from ht) hl, h.1, Bool.true_and]
  exact star_of ys t (Nat.zero_le _) h.2
theorem walk_FnTraceIn (a0 : Option Addr) (len0 cap0 : Nat) (z0 : List Int) (w : World) (w0 : RowIn .u8 w a0 len0 cap0 z0) :
    Calls Try.prog 8 #[.slice a0 len0 cap0] w fun e w' => e = .returned (.bool true) ∧ Below w.heap.size w w' := by
  by_cases hl : 1048576 < len0
  · clear w0
    go_enter Try.func8, Try.ntmps8
    go_wp2
    go_ret
    exact ⟨rfl, Below.refl _ _⟩
  · go_enter Try.func8, Try.ntmps8
    go_wp2_with fail
    refine (draw_TraceIn a0 len0 cap0 z0 w w0).mono ?_
    rintro e w1 ⟨A, n, c, xs, A', n', c', ys, rfl, o1, hn1, o2, hn2, s1⟩
    clear w0
    have tot : Since w w1 := s1
    clear s1
    have hbk := Lib.hid (tIn_back xs ys)
    have hst := Lib.hid (@tIn_star xs ys)
    have hin := Lib.hid (fun w (l1 : Ls w w.heap.size A n c xs) (l2 : Ls w w.heap.size A' n' c' ys) => impl_TraceIn A n c xs A' n' c' ys w (by omega) (by omega) l1 l2)
    have hsp := Lib.hid (fun w (l1 : Ls w w.heap.size A n c xs) (l2 : Ls w w.heap.size A' n' c' ys) => spec_TraceIn A n c xs A' n' c' ys w (by omega) (by omega) l1 l2)
    generalize hq : tIn xs ys = q at *
    replace hq := Lib.hid hq
    have hqq : (q != q) = false := by simp
    have hqe : (q == q) = true := by simp
    go_wp2_with fail
    refine (hin.out w1 o1.ls o2.ls).mono ?_
    rintro e w2 ⟨rfl, s⟩
    replace o1 := o1.since s
    replace o2 := o2.since s
    replace tot := tot.trans s
    clear s
    go_wp2_with fail
    refine (hsp.out w2 o1.ls o2.ls).mono ?_
    rintro e w3 ⟨rfl, s⟩
    replace o1 := o1.since s
    replace o2 := o2.since s
    replace tot := tot.trans s
    clear s hin hsp
    go_wp2_with fail
    refine (impl_KatStar A n c xs w3 (by omega) o1.ls).mono ?_
    rintro e w4 ⟨A4, n4, c4, rfl, o4, s⟩
    have hn4 := kStar_len o4.len
    replace o1 := o1.since s
    replace o2 := o2.since s
    replace tot := tot.trans s
    clear s
    go_wp2_with fail
    refine (impl_KatBackX A n c xs w4 (by omega) o1.ls).mono ?_
    rintro e w5 ⟨A5, n5, c5, rfl, o5, s⟩
    have hn5 := kBack_len o5.len
    replace o1 := o1.since s
    replace o2 := o2.since s
    replace o4 := o4.since s
    replace tot := tot.trans s
    clear s
    go_wp2_with fail
    refine (impl_TraceBack A' n' c' ys w5 (by omega) o2.ls).mono ?_
    rintro e w6 ⟨A6, n6, c6, rfl, o6, s⟩
    have hn6 := tBack_len o6.len
    replace o1 := o1.since s
    replace o2 := o2.since s
    replace o4 := o4.since s
    replace o5 := o5.since s
    replace tot := tot.trans s
    clear s
    go_wp2_with fail
    refine (impl_TraceIn A5 n5 c5 (kBack xs) A6 n6 c6 (tBack ys) w6 (by omega) (by omega) o5.ls o6.ls).mono ?_
    rintro e w7 ⟨rfl, s⟩
    rw [hbk.out]
    replace o2 := o2.since s
    replace o4 := o4.since s
    replace tot := tot.trans s
    clear s o5 o6 o1
    cases q
    · clear hqq hqe
      go_wp2_with (go_at_call 24; refine (laws_alive _).mono ?_; rintro e w' ⟨rfl, rfl⟩)
      go_ret
      exact ⟨rfl, tot⟩
    · have h5 := Lib.hid (hst.out rfl)
      generalize kStar xs = r at *
      obtain ⟨zs, can⟩ := r
      simp only at o4
      clear hqq hqe
      cases can
      · go_wp2_with (go_at_call 24; refine (laws_alive _).mono ?_; rintro e w' ⟨rfl, rfl⟩)
        go_ret
        exact ⟨rfl, tot⟩
      · have h6 := Lib.hid (h5.out rfl)
        have hin2 := Lib.hid (impl_TraceIn A4 n4 c4 zs A' n' c' ys w7 (by omega) (by omega) o4.ls o2.ls)
        rw [show tIn zs ys = true from h6.out] at hin2
        go_wp2_with fail
        refine hin2.out.mono ?_
        rintro e w8 ⟨rfl, s⟩
        replace tot := tot.trans s
        go_wp2_with (go_at_call 24; refine (laws_alive _).mono ?_; rintro e w' ⟨rfl, rfl⟩)
        go_ret
        exact ⟨rfl, tot⟩
end Go.Proofs.Ytlnkkjmejmhaiaa
