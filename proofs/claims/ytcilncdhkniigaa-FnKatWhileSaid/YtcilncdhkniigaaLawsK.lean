/-
  The walks of the laws on expressions (chapter 2).
-/
import Derived.Test.YtcilncdhkniigaaKatI
import Derived.Test.YtcilncdhkniigaaDrawK
import Derived.Test.YtcilncdhkniigaaLawsT
namespace Go.Proofs.Ytcilncdhkniigaa
open Go.RowKit
set_option linter.unusedVariables false
set_option maxHeartbeats 400000

theorem walk_FnExactKatValid (a0 : Option Addr) (len0 cap0 : Nat) (z0 : List Int) (w : World) (w0 : RowIn .i64 w a0 len0 cap0 z0) :
    Calls Try.prog 4 #[.slice a0 len0 cap0] w fun e w' => e = .returned (.bool true) ∧ Below w.heap.size w w' := by
  by_cases hl : 1048576 < len0
  · clear w0
    go_enter Try.func4, Try.ntmps4
    go_wp2
    go_ret
    exact ⟨rfl, Below.refl _ _⟩
  · have h := Ls.of_row w0
    generalize z0.take len0 = xs at *
    clear w0
    go_enter Try.func4, Try.ntmps4
    go_wp2_with fail
    refine (toIntS_any a0 len0 cap0 _ xs w (by omega) h (Nat.le_refl _)).mono ?_
    rintro e w1 ⟨A1, n1, c1, rfl, o1, s1⟩
    have hn1 : n1 ≤ 1048576 := by have := o1.len; rw [h.len] at this; omega
    go_wp2_with fail
    refine (spec_KatValid A1 n1 c1 _ xs w1 (by omega) o1.ls).mono ?_
    rintro e w' ⟨rfl, rfl⟩
    have h1 := h.since s1
    go_wp2_with fail
    refine (toIntS_any a0 len0 cap0 _ xs w1 (by omega) h1 (Nat.le_refl _)).mono ?_
    rintro e w2 ⟨A2, n2, c2, rfl, o2, s2⟩
    have hn2 : n2 ≤ 1048576 := by have := o2.len; rw [h.len] at this; omega
    have h2 := h1.since s2
    go_wp2_with fail
    refine (impl_KatValid A2 n2 c2 _ xs w2 o2.ls).mono ?_
    rintro e w' ⟨rfl, rfl⟩
    go_wp2_with fail
    refine (toIntS_any a0 len0 cap0 _ xs w2 (by omega) h2 (Nat.le_refl _)).mono ?_
    rintro e w3 ⟨A3, n3, c3, rfl, o3, s3⟩
    go_wp2_with fail
    refine (eqIntS_any A2 n2 c2 _ xs A3 n3 c3 _ xs w3 (by omega) (o2.ls.since s3) o3.ls).mono ?_
    rintro e w4 ⟨rfl, s4⟩
    have hd : decide (xs = xs) = true := by simp
    go_wp2
    go_ret
    exact ⟨rfl, ((s1.trans s2).trans s3).trans s4⟩
theorem katV_nil : katV [] = false := by decide
theorem katV_act (xs : List Int) (h : katV xs = true) : katV (xs ++ [16]) = false := by
  obtain ⟨h1, h2⟩ := katV_iff.1 h
  have e : kd 0 (xs ++ [16]) = some 2 := by rw [kd_append, h2]; rfl
  simp [katV, e]
theorem walk_FnKatValid (a0 : Option Addr) (len0 cap0 : Nat) (z0 : List Int) (w : World) (w0 : RowIn .u8 w a0 len0 cap0 z0) :
    Calls Try.prog 9 #[.slice a0 len0 cap0] w fun e w' => e = .returned (.bool true) ∧ Below w.heap.size w w' := by
  by_cases hl : 1048576 < len0
  · clear w0
    go_enter Try.func9, Try.ntmps9
    go_wp2
    go_ret
    exact ⟨rfl, Below.refl _ _⟩
  · go_enter Try.func9, Try.ntmps9
    go_wp2_with fail
    refine (draw_KatValid a0 len0 cap0 z0 w w0).mono ?_
    rintro e w1 ⟨A, n, c, xs, rfl, o1, hn1, s1⟩
    clear w0
    go_wp2_with fail
    refine (impl_KatValid A n c _ xs w1 o1.ls).mono ?_
    rintro e w' ⟨rfl, rfl⟩
    go_wp2_with fail
    refine (spec_KatValid A n c _ xs w1 (by omega) o1.ls).mono ?_
    rintro e w' ⟨rfl, rfl⟩
    have tok1 : True := trivial
    have tok2 : True := trivial
    have tok3 : True := trivial
    have tok4 : True := trivial
    have hlen := Lib.hid o1.len
    cases hva : katV xs
    · have hva := Lib.hid hva
      go_wp2_with (first
        | (at_builtin
           have _t := tok1
           refine wpList_app rfl _ _ rfl w1.heap.size _ 0 0 [] rfl (Own.zero w1) _ A n c xs rfl (o1.alloc _).ls (by omega) (by simp) ?_
           intro A2 c2 w2 o2 g2
           have s2 : Since w1 w2 := ((Since.refl w1).alloc _).app (Nat.le_refl _) g2
           simp only [Nat.zero_add, List.nil_append] at o2
           simp only [Nat.zero_add]
           clear g2 tok1)
        | (at_builtin
           have _t := tok2
           refine wpList_app rfl _ _ rfl w1.heap.size _ n c2 xs rfl (o2.alloc _) _ _ 1 1 [21] rfl (Ls.one w2 21 (by decide) _) (by omega) (s2.alloc _).size ?_
           intro A3 c3 w3 o3 g3
           have s3 : Since w1 w3 := (s2.alloc _).app (Nat.le_refl _) g3
           clear g3 tok2)
        | (at_builtin
           have _t := tok3
           refine wpList_app rfl _ _ rfl w3.heap.size _ 0 0 [] rfl (Own.zero w3) _ A n c xs rfl ((o1.since s3).alloc _).ls (by omega) (by simp) ?_
           intro A4 c4 w4 o4 g4
           have s4 : Since w3 w4 := ((Since.refl w3).alloc _).app (Nat.le_refl _) g4
           simp only [Nat.zero_add, List.nil_append] at o4
           simp only [Nat.zero_add]
           clear g4 tok3)
        | (at_builtin
           have _t := tok4
           refine wpList_app rfl _ _ rfl w3.heap.size _ n c4 xs rfl (o4.alloc _) _ _ 1 1 [16] rfl (Ls.one w4 16 (by decide) _) (by omega) (s4.alloc _).size ?_
           intro A5 c5 w5 o5 g5
           have s5 : Since w3 w5 := (s4.alloc _).app (Nat.le_refl _) g5
           clear g5 tok4))
      refine (impl_KatValid none 0 0 0 [] w5 (Ls.nil _ _)).mono ?_
      rintro e w' ⟨rfl, rfl⟩
      rw [katV_nil]
      go_wp2_with (go_at_call 19; refine (laws_alive _).mono ?_; rintro e w' ⟨rfl, rfl⟩)
      go_ret
      exact ⟨rfl, (s1.trans s3).trans s5⟩
    · have hact := Lib.hid (katV_act xs hva)
      have hlen40 := (katV_len hva).2
      rw [hlen.out] at hlen40
      have hva := Lib.hid hva
      go_wp2_with (first
        | (at_builtin
           have _t := tok1
           refine wpList_app rfl _ _ rfl w1.heap.size _ 0 0 [] rfl (Own.zero w1) _ A n c xs rfl (o1.alloc _).ls (by omega) (by simp) ?_
           intro A2 c2 w2 o2 g2
           have s2 : Since w1 w2 := ((Since.refl w1).alloc _).app (Nat.le_refl _) g2
           simp only [Nat.zero_add, List.nil_append] at o2
           simp only [Nat.zero_add]
           clear g2 tok1)
        | (at_builtin
           have _t := tok2
           refine wpList_app rfl _ _ rfl w1.heap.size _ n c2 xs rfl (o2.alloc _) _ _ 1 1 [21] rfl (Ls.one w2 21 (by decide) _) (by omega) (s2.alloc _).size ?_
           intro A3 c3 w3 o3 g3
           have s3 : Since w1 w3 := (s2.alloc _).app (Nat.le_refl _) g3
           clear g3 tok2)
        | (at_builtin
           have _t := tok3
           refine wpList_app rfl _ _ rfl w3.heap.size _ 0 0 [] rfl (Own.zero w3) _ A n c xs rfl ((o1.since s3).alloc _).ls (by omega) (by simp) ?_
           intro A4 c4 w4 o4 g4
           have s4 : Since w3 w4 := ((Since.refl w3).alloc _).app (Nat.le_refl _) g4
           simp only [Nat.zero_add, List.nil_append] at o4
           simp only [Nat.zero_add]
           clear g4 tok3)
        | (at_builtin
           have _t := tok4
           refine wpList_app rfl _ _ rfl w3.heap.size _ n c4 xs rfl (o4.alloc _) _ _ 1 1 [16] rfl (Ls.one w4 16 (by decide) _) (by omega) (s4.alloc _).size ?_
           intro A5 c5 w5 o5 g5
           have s5 : Since w3 w5 := (s4.alloc _).app (Nat.le_refl _) g5
           clear g5 tok4))
      refine (impl_KatValid A5 (n + 1) c5 _ _ w5 o5.ls).mono ?_
      rintro e w' ⟨rfl, rfl⟩
      rw [hact.out]
      by_cases h40 : n = 40
      · subst h40
        go_wp2_with fail
        refine (impl_KatValid none 0 0 0 [] w5 (Ls.nil _ _)).mono ?_
        rintro e w' ⟨rfl, rfl⟩
        rw [katV_nil]
        go_wp2_with (go_at_call 19; refine (laws_alive _).mono ?_; rintro e w' ⟨rfl, rfl⟩)
        go_ret
        exact ⟨rfl, (s1.trans s3).trans s5⟩
      · have hne : ((n : Int) == 40) = false := by simp; omega
        have hst := Lib.hid (katV_st hva.out (by rw [hlen.out]; omega))
        go_wp2_with fail
        refine (impl_KatValid A3 (n + 1) c3 _ _ w5 (o3.ls.since s5)).mono ?_
        rintro e w' ⟨rfl, rfl⟩
        rw [hst.out]
        go_wp2_with fail
        refine (impl_KatValid none 0 0 0 [] w5 (Ls.nil _ _)).mono ?_
        rintro e w' ⟨rfl, rfl⟩
        rw [katV_nil]
        go_wp2_with (go_at_call 19; refine (laws_alive _).mono ?_; rintro e w' ⟨rfl, rfl⟩)
        go_ret
        exact ⟨rfl, (s1.trans s3).trans s5⟩
theorem same_true {l : List Int} : decide (l = l) = true := by simp
theorem walk_FnKatPlus (a0 : Option Addr) (len0 cap0 : Nat) (z0 : List Int) (w : World) (w0 : RowIn .u8 w a0 len0 cap0 z0) :
    Calls Try.prog 12 #[.slice a0 len0 cap0] w fun e w' => e = .returned (.bool true) ∧ Below w.heap.size w w' := by
  by_cases hl : 1048576 < len0
  · clear w0
    go_enter Try.func12, Try.ntmps12
    go_wp2
    go_ret
    exact ⟨rfl, Below.refl _ _⟩
  · go_enter Try.func12, Try.ntmps12
    go_wp2_with fail
    refine (draw_KatPlus a0 len0 cap0 z0 w w0).mono ?_
    rintro e w1 ⟨A, n, c, xs, A', n', c', ys, rfl, o1, hn1, o1', hn1', s1⟩
    clear w0
    have hlx := Lib.hid o1.len
    have hly := Lib.hid o1'.len
    go_wp2_with fail
    refine (impl_KatPlus A n c xs A' n' c' ys w1 (by omega) (by omega) o1.ls o1'.ls).mono ?_
    rintro e w2 ⟨A2, n2, c2, rfl, o2, s2⟩
    replace o1 := o1.since s2
    replace o1' := o1'.since s2
    have hn2 := kJoin_len o2.len
    go_wp2_with fail
    refine (spec_KatPlus A n c xs A' n' c' ys w2 (by omega) (by omega) o1.ls o1'.ls).mono ?_
    rintro e w3 ⟨A3, n3, c3, rfl, o3, s3⟩
    replace o1 := o1.since s3
    replace o1' := o1'.since s3
    replace o2 := o2.since s3
    go_wp2_with fail
    refine (sameInts_any A2 n2 c2 _ _ A3 n3 c3 _ _ w3 (by omega) o2.ls o3.ls).mono ?_
    rintro e w4 ⟨rfl, s4⟩
    replace o1 := o1.since s4
    replace o1' := o1'.since s4
    replace o2 := o2.since s4
    rw [same_true]
    go_wp2_with fail
    refine (impl_KatThen A n c xs A' n' c' ys w4 (by omega) (by omega) o1.ls o1'.ls).mono ?_
    rintro e w5 ⟨A5, n5, c5, rfl, o5, s5⟩
    replace o2 := o2.since s5
    have hss : (kJoin xs ys 19).2 = (kJoin xs ys 20).2 := by
      rw [kJoin_eq _ _ (s := 19) (Or.inl rfl), kJoin_eq _ _ (s := 20) (Or.inr rfl)]
      split <;> rfl
    rw [hss]
    clear hss
    cases hok : (kJoin xs ys 20).2
    · have hn0 : n2 = 0 := by have := o2.len; rw [kJoin_no hok] at this; simpa using this.symm
      subst hn0
      clear hok
      go_wp2_with (go_at_call 19; refine (laws_alive _).mono ?_; rintro e w' ⟨rfl, rfl⟩)
      go_ret
      exact ⟨rfl, (((s1.trans s2).trans s3).trans s4).trans s5⟩
    · have hk := kJoin_ok hok
      have hn0 : Hid (n2 = n + n' + 1) := by
        have := o2.len
        rw [hk.2.2.2, jn_length, hlx.out, hly.out] at this
        exact this.symm
      have hz : ((n2 : Int) == (n : Int) + n' + 1) = true := by rw [hn0.out]; simp
      have hkv := Lib.hid hk.2.2.1
      have hkj := Lib.hid hk.2.2.2
      clear hok hk
      go_wp2_with fail
      refine (impl_KatValid A2 n2 c2 _ _ w5 o2.ls).mono ?_
      rintro e w' ⟨rfl, rfl⟩
      rw [hkj.out, hkv.out]
      go_wp2_with (go_at_call 19; refine (laws_alive _).mono ?_; rintro e w' ⟨rfl, rfl⟩)
      go_ret
      exact ⟨rfl, (((s1.trans s2).trans s3).trans s4).trans s5⟩
theorem kIf_full {t : Int} {a b : List Int} (h : (kIf t a b).2 = true) : vT t = true ∧ kIf t a b = kJoin (kJoin [t] a 19).1 (kJoin [tNot t] b 19).1 20 ∧ katV (kIf t a b).1 = true := by
  have e := kIf_eq t a b
  cases hv : vT t
  · rw [e, hv] at h; simp at h
  · cases h1 : (kJoin [t] a 19).2
    · rw [e, hv, h1] at h; simp at h
    · cases h2 : (kJoin [tNot t] b 19).2
      · rw [e, hv, h1, h2] at h; simp at h
      · have e2 := kIf_yes a b hv h1 h2
        refine ⟨rfl, e2, ?_⟩
        rw [e2] at h ⊢
        have hk := kJoin_ok h
        rw [hk.2.2.2]; exact hk.2.2.1
theorem kIf_not {t : Int} {a b : List Int} (h : (kIf t a b).2 = false) : (kIf t a b).1 = [] := by
  unfold kIf at h ⊢
  split at h
  · simp at h
  · rename_i h1; rw [if_neg h1]
theorem kWhile_full {t : Int} {a : List Int} (h : (kWhile t a).2 = true) : vT t = true ∧ kWhile t a = kJoin (kStar (kJoin [t] a 19).1).1 [tNot t] 19 ∧ katV (kWhile t a).1 = true := by
  have e := kWhile_eq t a
  cases hv : vT t
  · rw [e, hv] at h; simp at h
  · cases h1 : (kJoin [t] a 19).2
    · rw [e, hv, h1] at h; simp at h
    · cases h2 : (kStar (kJoin [t] a 19).1).2
      · rw [e, hv, h1, h2] at h; simp at h
      · have e2 := kW_yes a hv h1 h2
        refine ⟨rfl, e2, ?_⟩
        rw [e2] at h ⊢
        have hk := kJoin_ok h
        rw [hk.2.2.2]; exact hk.2.2.1
theorem kWhile_not {t : Int} {a : List Int} (h : (kWhile t a).2 = false) : (kWhile t a).1 = [] := by
  unfold kWhile at h ⊢
  split at h
  · simp at h
  · rename_i h1; rw [if_neg h1]
theorem walk_FnKatIf (a0 : Option Addr) (len0 cap0 : Nat) (z0 : List Int) (w : World) (w0 : RowIn .u8 w a0 len0 cap0 z0) :
    Calls Try.prog 13 #[.slice a0 len0 cap0] w fun e w' => e = .returned (.bool true) ∧ Below w.heap.size w w' := by
  by_cases hl : 1048576 < len0
  · clear w0
    go_enter Try.func13, Try.ntmps13
    go_wp2
    go_ret
    exact ⟨rfl, Below.refl _ _⟩
  · go_enter Try.func13, Try.ntmps13
    go_wp2_with fail
    refine (draw_KatIf a0 len0 cap0 z0 w w0).mono ?_
    rintro e w1 ⟨t, A, n, c, xs, A', n', c', ys, rfl, t0, t1, o1, hn1, o1', hn1', s1⟩
    clear w0
    have tot : Since w w1 := s1
    clear s1
    go_wp2_with fail
    refine (impl_KatIf t A n c xs A' n' c' ys w1 (by omega) (by omega) o1.ls o1'.ls).mono ?_
    rintro e w2 ⟨A2, n2, c2, rfl, o2, s⟩
    replace o1 := o1.since s
    replace o1' := o1'.since s
    replace tot := tot.trans s
    clear s
    have hn2 := kIf_len o2.len
    go_wp2_with fail
    refine (spec_KatIf t A n c xs A' n' c' ys w2 (by omega) (by omega) o1.ls o1'.ls).mono ?_
    rintro e w3 ⟨A3, n3, c3, rfl, o3, s⟩
    replace o1 := o1.since s
    replace o1' := o1'.since s
    replace o2 := o2.since s
    replace tot := tot.trans s
    clear s
    go_wp2_with fail
    refine (sameInts_any A2 n2 c2 _ _ A3 n3 c3 _ _ w3 (by omega) o2.ls o3.ls).mono ?_
    rintro e w4 ⟨rfl, s⟩
    replace o1 := o1.since s
    replace o1' := o1'.since s
    replace o2 := o2.since s
    replace tot := tot.trans s
    clear s o3
    rw [same_true]
    cases hok : (kIf t xs ys).2
    · have hn0 : n2 = 0 := by have := o2.len; rw [kIf_not hok] at this; simpa using this.symm
      subst hn0
      clear hok
      go_wp2_with (go_at_call 19; refine (laws_alive _).mono ?_; rintro e w' ⟨rfl, rfl⟩)
      go_ret
      exact ⟨rfl, tot⟩
    · obtain ⟨hv, hfull, hkv⟩ := kIf_full hok
      have hv := Lib.hid hv
      have hfull := Lib.hid hfull
      have hkv := Lib.hid hkv
      have hok := Lib.hid hok
      go_wp2_with fail
      refine (impl_KatThen _ 1 1 [t] A n c xs _ (by omega) (by omega) (Ls.lit w4 t (wf_test hv.out) _) (o1.ls.alloc_ _)).mono ?_
      rintro e w5 ⟨A5, n5, c5, rfl, o5, s⟩
      replace s := ((Since.refl w4).alloc _).trans s
      replace o1' := o1'.since s
      replace o2 := o2.since s
      replace tot := tot.trans s
      clear s o1
      have hn5 := kJoin_len o5.len
      go_wp2_with fail
      refine (impl_TestNot _ _).mono ?_
      rintro e w' ⟨rfl, rfl⟩
      go_wp2_with fail
      refine (impl_KatThen _ 1 1 [tNot t] A' n' c' ys _ (by omega) (by omega) (Ls.lit w5 (tNot t) (wf_test (tNot_v hv.out)) _) (o1'.ls.alloc_ _)).mono ?_
      rintro e w6 ⟨A6, n6, c6, rfl, o6, s⟩
      replace s := ((Since.refl w5).alloc _).trans s
      replace o5 := o5.since s
      replace o2 := o2.since s
      replace tot := tot.trans s
      clear s o1'
      have hn6 := kJoin_len o6.len
      go_wp2_with fail
      refine (impl_KatPlus A5 n5 c5 _ A6 n6 c6 _ w6 (by omega) (by omega) o5.ls o6.ls).mono ?_
      rintro e w7 ⟨A7, n7, c7, rfl, o7, s⟩
      replace o2 := o2.since s
      replace tot := tot.trans s
      clear s o5 o6
      rw [← hfull.out, hok.out]
      rw [← hfull.out] at o7
      have hn7 := kIf_len o7.len
      go_wp2_with fail
      refine (sameInts_any A7 n7 c7 _ _ A2 n2 c2 _ _ w7 (by omega) o7.ls o2.ls).mono ?_
      rintro e w8 ⟨rfl, s⟩
      replace o2 := o2.since s
      replace tot := tot.trans s
      clear s o7
      rw [same_true]
      go_wp2_with fail
      refine (impl_KatValid A2 n2 c2 _ _ w8 o2.ls).mono ?_
      rintro e w' ⟨rfl, rfl⟩
      rw [hkv.out]
      go_wp2
      go_ret
      exact ⟨rfl, tot⟩
theorem walk_FnKatWhile (a0 : Option Addr) (len0 cap0 : Nat) (z0 : List Int) (w : World) (w0 : RowIn .u8 w a0 len0 cap0 z0) :
    Calls Try.prog 14 #[.slice a0 len0 cap0] w fun e w' => e = .returned (.bool true) ∧ Below w.heap.size w w' := by
  by_cases hl : 1048576 < len0
  · clear w0
    go_enter Try.func14, Try.ntmps14
    go_wp2
    go_ret
    exact ⟨rfl, Below.refl _ _⟩
  · go_enter Try.func14, Try.ntmps14
    go_wp2_with fail
    refine (draw_KatWhile a0 len0 cap0 z0 w w0).mono ?_
    rintro e w1 ⟨t, A, n, c, xs, rfl, t0, t1, o1, hn1, s1⟩
    clear w0
    have tot : Since w w1 := s1
    clear s1
    go_wp2_with fail
    refine (impl_KatWhile t A n c xs w1 (by omega) o1.ls).mono ?_
    rintro e w2 ⟨A2, n2, c2, rfl, o2, s⟩
    replace o1 := o1.since s
    replace tot := tot.trans s
    clear s
    have hn2 := kWhile_len o2.len
    go_wp2_with fail
    refine (spec_KatWhile t A n c xs w2 (by omega) o1.ls).mono ?_
    rintro e w3 ⟨A3, n3, c3, rfl, o3, s⟩
    replace o1 := o1.since s
    replace o2 := o2.since s
    replace tot := tot.trans s
    clear s
    go_wp2_with fail
    refine (sameInts_any A2 n2 c2 _ _ A3 n3 c3 _ _ w3 (by omega) o2.ls o3.ls).mono ?_
    rintro e w4 ⟨rfl, s⟩
    replace o1 := o1.since s
    replace o2 := o2.since s
    replace tot := tot.trans s
    clear s o3
    rw [same_true]
    cases hok : (kWhile t xs).2
    · have hn0 : n2 = 0 := by have := o2.len; rw [kWhile_not hok] at this; simpa using this.symm
      subst hn0
      clear hok
      go_wp2_with (go_at_call 19; refine (laws_alive _).mono ?_; rintro e w' ⟨rfl, rfl⟩)
      go_ret
      exact ⟨rfl, tot⟩
    · obtain ⟨hv, hfull, hkv⟩ := kWhile_full hok
      have hv := Lib.hid hv
      have hfull := Lib.hid hfull
      have hkv := Lib.hid hkv
      have hok := Lib.hid hok
      go_wp2_with fail
      refine (impl_KatThen _ 1 1 [t] A n c xs _ (by omega) (by omega) (Ls.lit w4 t (wf_test hv.out) _) (o1.ls.alloc_ _)).mono ?_
      rintro e w5 ⟨A5, n5, c5, rfl, o5, s⟩
      replace s := ((Since.refl w4).alloc _).trans s
      replace o2 := o2.since s
      replace tot := tot.trans s
      clear s o1
      have hn5 := kJoin_len o5.len
      go_wp2_with fail
      refine (impl_KatStar A5 n5 c5 _ w5 (by omega) o5.ls).mono ?_
      rintro e w6 ⟨A6, n6, c6, rfl, o6, s⟩
      replace o2 := o2.since s
      replace tot := tot.trans s
      clear s o5
      have hn6 := kStar_len o6.len
      go_wp2_with fail
      refine (impl_TestNot _ _).mono ?_
      rintro e w' ⟨rfl, rfl⟩
      go_wp2_with fail
      refine (impl_KatThen A6 n6 c6 _ _ 1 1 [tNot t] _ (by omega) (by omega) (o6.ls.alloc_ _) (Ls.lit w6 (tNot t) (wf_test (tNot_v hv.out)) _)).mono ?_
      rintro e w7 ⟨A7, n7, c7, rfl, o7, s⟩
      replace s := ((Since.refl w6).alloc _).trans s
      replace o2 := o2.since s
      replace tot := tot.trans s
      clear s o6
      rw [← hfull.out, hok.out]
      rw [← hfull.out] at o7
      have hn7 := kWhile_len o7.len
      go_wp2_with fail
      refine (sameInts_any A7 n7 c7 _ _ A2 n2 c2 _ _ w7 (by omega) o7.ls o2.ls).mono ?_
      rintro e w8 ⟨rfl, s⟩
      replace o2 := o2.since s
      replace tot := tot.trans s
      clear s o7
      rw [same_true]
      go_wp2_with fail
      refine (impl_KatValid A2 n2 c2 _ _ w8 o2.ls).mono ?_
      rintro e w' ⟨rfl, rfl⟩
      rw [hkv.out]
      go_wp2
      go_ret
      exact ⟨rfl, tot⟩
end Go.Proofs.Ytcilncdhkniigaa
