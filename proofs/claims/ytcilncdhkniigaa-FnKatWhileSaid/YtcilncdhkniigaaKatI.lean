/-
  Contracts of KatIf, KatWhile and KatActs (chapter 2).
-/
import Derived.Test.YtcilncdhkniigaaKatJ
namespace Go.Proofs.Ytcilncdhkniigaa
open Go.RowKit
set_option linter.unusedVariables false
set_option maxHeartbeats 400000

theorem wf_test {t : Int} (h : vT t = true) : (Lit.int .i64 t).wf = true := by have := vT_iff.1 h; exact wf_small (by omega) (by omega)
theorem kIf_no1 {t : Int} (a b : List Int) (h : vT t = false) : kIf t a b = ([], false) := by simp [kIf, h]
theorem kIf_no2 {t : Int} (a b : List Int) (h : vT t = true) (h1 : (kJoin [t] a 19).2 = false) : kIf t a b = ([], false) := by rw [kIf_eq]; simp [h, h1]
theorem kIf_no3 {t : Int} (a b : List Int) (h : vT t = true) (h1 : (kJoin [t] a 19).2 = true) (h2 : (kJoin [tNot t] b 19).2 = false) : kIf t a b = ([], false) := by rw [kIf_eq]; simp [h, h1, h2]
theorem kIf_yes {t : Int} (a b : List Int) (h : vT t = true) (h1 : (kJoin [t] a 19).2 = true) (h2 : (kJoin [tNot t] b 19).2 = true) : kIf t a b = kJoin (kJoin [t] a 19).1 (kJoin [tNot t] b 19).1 20 := by rw [kIf_eq]; simp [h, h1, h2]
theorem kW_no1 {t : Int} (a : List Int) (h : vT t = false) : kWhile t a = ([], false) := by simp [kWhile, h]
theorem kW_no2 {t : Int} (a : List Int) (h : vT t = true) (h1 : (kJoin [t] a 19).2 = false) : kWhile t a = ([], false) := by rw [kWhile_eq]; simp [h, h1]
theorem kW_no3 {t : Int} (a : List Int) (h : vT t = true) (h1 : (kJoin [t] a 19).2 = true) (h2 : (kStar (kJoin [t] a 19).1).2 = false) : kWhile t a = ([], false) := by rw [kWhile_eq]; simp [h, h1, h2]
theorem kW_yes {t : Int} (a : List Int) (h : vT t = true) (h1 : (kJoin [t] a 19).2 = true) (h2 : (kStar (kJoin [t] a 19).1).2 = true) : kWhile t a = kJoin (kStar (kJoin [t] a 19).1).1 [tNot t] 19 := by rw [kWhile_eq]; simp [h, h1, h2]
theorem kJoin_len {a b : List Int} {s : Int} {n : Nat} (hn : (kJoin a b s).1.length = n) : n ≤ 40 := by
  unfold kJoin at hn
  split at hn
  · rename_i h
    simp only [Bool.and_eq_true] at h
    have := katV_len h.2
    simp at hn; omega
  · simp at hn; omega
theorem kStar_len {a : List Int} {n : Nat} (hn : (kStar a).1.length = n) : n ≤ 40 := by
  unfold kStar at hn
  split at hn
  · rename_i h
    simp only [Bool.and_eq_true] at h
    have := katV_len h.2
    simp at hn this; omega
  · simp at hn; omega

theorem kIf_len {t : Int} {a b : List Int} {n : Nat} (hn : (kIf t a b).1.length = n) : n ≤ 40 := by
  unfold kIf at hn
  split at hn
  · rename_i h
    simp only [Bool.and_eq_true] at h
    have := katV_len h.2
    simp at hn; omega
  · simp at hn; omega
theorem kWhile_len {t : Int} {a : List Int} {n : Nat} (hn : (kWhile t a).1.length = n) : n ≤ 40 := by
  unfold kWhile at hn
  split at hn
  · rename_i h
    simp only [Bool.and_eq_true] at h
    have := katV_len h.2
    simp at hn; omega
  · simp at hn; omega

theorem impl_KatIf (t : Int) (A : Option Addr) (n c : Nat) (xs : List Int) (A' : Option Addr) (n' c' : Nat) (ys : List Int) (w : World)
    (hn : n ≤ 274877906944) (hn' : n' ≤ 274877906944) (h : Ls w w.heap.size A n c xs) (h' : Ls w w.heap.size A' n' c' ys) :
    Calls Try.prog 37 #[.int .i64 t, .slice A n c, .slice A' n' c'] w (Fresh2 w (kIf t xs ys)) := by
  cases hv : vT t
  · have hk := Lib.hid (kIf_no1 xs ys hv)
    go_enter Try.func37, Try.ntmps37
    go_wp2_with (go_at_call 60; refine (impl_TestValid _ _).mono ?_; rintro e w' ⟨rfl, rfl⟩)
    go_ret2
    exact Fresh2.mk hk.out (Own.nil _ _) (Since.refl _)
  · have hV := Lib.hid hv
    go_enter Try.func37, Try.ntmps37
    go_wp2_with fail
    refine (impl_TestValid _ _).mono ?_
    rintro e w' ⟨rfl, rfl⟩
    rw [hV.out]
    clear hv
    go_wp2_with fail
    refine (impl_KatThen _ 1 1 [t] A n c xs _ (by omega) hn (Ls.lit w t (wf_test hV.out) _) (h.alloc_ _)).mono ?_
    rintro e w1 ⟨A1, n1, c1, rfl, o1, s1⟩
    have s1 := ((Since.refl w).alloc _).trans s1
    have hl1 := kJoin_len o1.len
    cases h1 : (kJoin [t] xs 19).2
    · have hk := Lib.hid (kIf_no2 xs ys hV.out h1)
      clear h1
      go_wp2
      go_ret2
      exact Fresh2.mk hk.out (Own.nil _ _) s1
    · have H1 := Lib.hid h1
      clear h1
      go_wp2_with fail
      refine (impl_TestNot _ _).mono ?_
      rintro e w' ⟨rfl, rfl⟩
      go_wp2_with fail
      refine (impl_KatThen _ 1 1 [tNot t] A' n' c' ys _ (by omega) hn' (Ls.lit w1 (tNot t) (wf_test (tNot_v hV.out)) _) ((h'.since s1).alloc_ _)).mono ?_
      rintro e w2 ⟨A2, n2, c2, rfl, o2, s2⟩
      have s2 := ((Since.refl w1).alloc _).trans s2
      have hl2 := kJoin_len o2.len
      cases h2 : (kJoin [tNot t] ys 19).2
      · have hk := Lib.hid (kIf_no3 xs ys hV.out H1.out h2)
        clear h2
        go_wp2
        go_ret2
        exact Fresh2.mk hk.out (Own.nil _ _) (s1.trans s2)
      · have hk := Lib.hid (kIf_yes xs ys hV.out H1.out h2)
        clear h2
        go_wp2_with fail
        refine (impl_KatPlus A1 n1 c1 _ A2 n2 c2 _ w2 (by omega) (by omega) (o1.ls.since s2) o2.ls).mono ?_
        rintro e w3 ⟨A3, n3, c3, rfl, o3, s3⟩
        go_wp2
        go_ret2
        rw [hk.out]
        exact Fresh2.mk rfl (o3.lower ((s1.trans s2).size)) ((s1.trans s2).trans s3)
theorem impl_KatWhile (t : Int) (A : Option Addr) (n c : Nat) (xs : List Int) (w : World)
    (hn : n ≤ 274877906944) (h : Ls w w.heap.size A n c xs) :
    Calls Try.prog 39 #[.int .i64 t, .slice A n c] w (Fresh2 w (kWhile t xs)) := by
  cases hv : vT t
  · have hk := Lib.hid (kW_no1 xs hv)
    go_enter Try.func39, Try.ntmps39
    go_wp2_with (go_at_call 60; refine (impl_TestValid _ _).mono ?_; rintro e w' ⟨rfl, rfl⟩)
    go_ret2
    exact Fresh2.mk hk.out (Own.nil _ _) (Since.refl _)
  · have hV := Lib.hid hv
    go_enter Try.func39, Try.ntmps39
    go_wp2_with fail
    refine (impl_TestValid _ _).mono ?_
    rintro e w' ⟨rfl, rfl⟩
    rw [hV.out]
    clear hv
    go_wp2_with fail
    refine (impl_KatThen _ 1 1 [t] A n c xs _ (by omega) hn (Ls.lit w t (wf_test hV.out) _) (h.alloc_ _)).mono ?_
    rintro e w1 ⟨A1, n1, c1, rfl, o1, s1⟩
    have s1 := ((Since.refl w).alloc _).trans s1
    have hl1 := kJoin_len o1.len
    cases h1 : (kJoin [t] xs 19).2
    · have hk := Lib.hid (kW_no2 xs hV.out h1)
      clear h1
      go_wp2
      go_ret2
      exact Fresh2.mk hk.out (Own.nil _ _) s1
    · have H1 := Lib.hid h1
      clear h1
      go_wp2_with fail
      refine (impl_KatStar A1 n1 c1 _ w1 (by omega) o1.ls).mono ?_
      rintro e w2 ⟨A2, n2, c2, rfl, o2, s2⟩
      have hl2 := kStar_len o2.len
      cases h2 : (kStar (kJoin [t] xs 19).1).2
      · have hk := Lib.hid (kW_no3 xs hV.out H1.out h2)
        clear h2
        go_wp2
        go_ret2
        exact Fresh2.mk hk.out (Own.nil _ _) (s1.trans s2)
      · have hk := Lib.hid (kW_yes xs hV.out H1.out h2)
        clear h2
        go_wp2_with fail
        refine (impl_TestNot _ _).mono ?_
        rintro e w' ⟨rfl, rfl⟩
        go_wp2_with fail
        refine (impl_KatThen A2 n2 c2 _ _ 1 1 [tNot t] _ (by omega) (by omega) (o2.ls.alloc_ _) (Ls.lit w2 (tNot t) (wf_test (tNot_v hV.out)) _)).mono ?_
        rintro e w3 ⟨A3, n3, c3, rfl, o3, s3⟩
        have s3 := ((Since.refl w2).alloc _).trans s3
        go_wp2
        go_ret2
        rw [hk.out]
        exact Fresh2.mk rfl (o3.lower (by have := (s1.trans s2).size; simp; omega)) ((s1.trans s2).trans s3)
theorem kIf_no4 {t : Int} {a : List Int} (b : List Int) (h : katV a = false) : kIf t a b = ([], false) := by simp [kIf, h]
theorem kIf_no5 {t : Int} (a : List Int) {b : List Int} (h : katV b = false) : kIf t a b = ([], false) := by simp [kIf, h]
theorem kIf_no6 {t : Int} {a b : List Int} (h : katV (jn (jn [t] a 19) (jn [tNot t] b 19) 20) = false) : kIf t a b = ([], false) := by simp [kIf, h]
theorem kIf_yes2 {t : Int} {a b : List Int} (h : vT t = true) (h1 : katV a = true) (h2 : katV b = true) (h3 : katV (jn (jn [t] a 19) (jn [tNot t] b 19) 20) = true) : kIf t a b = (jn (jn [t] a 19) (jn [tNot t] b 19) 20, true) := by simp [kIf, h, h1, h2, h3]
theorem kW_no4 {t : Int} {a : List Int} (h : katV a = false) : kWhile t a = ([], false) := by simp [kWhile, h]
theorem kW_no6 {t : Int} {a : List Int} (h : katV (jn (jn [t] a 19 ++ [21]) [tNot t] 19) = false) : kWhile t a = ([], false) := by simp [kWhile, h]
theorem kW_yes2 {t : Int} {a : List Int} (h : vT t = true) (h1 : katV a = true) (h3 : katV (jn (jn [t] a 19 ++ [21]) [tNot t] 19) = true) : kWhile t a = (jn (jn [t] a 19 ++ [21]) [tNot t] 19, true) := by simp [kWhile, h, h1, h3]
theorem spec_KatIf (t : Int) (A : Option Addr) (n c : Nat) (xs : List Int) (A' : Option Addr) (n' c' : Nat) (ys : List Int) (w : World)
    (hn : n ≤ 68719476736) (hn' : n' ≤ 68719476736) (h : Ls w w.heap.size A n c xs) (h' : Ls w w.heap.size A' n' c' ys) :
    Calls Try.prog 36 #[.int .i64 t, .slice A n c, .slice A' n' c'] w (Fresh2 w (kIf t xs ys)) := by
  cases hv : vT t
  · have hk := Lib.hid (kIf_no1 xs ys hv)
    go_enter Try.func36, Try.ntmps36
    go_wp2_with (go_at_call 58; refine (spec_TestValid _ _).mono ?_; rintro e w' ⟨rfl, rfl⟩)
    go_ret2
    exact Fresh2.mk hk.out ((Own.zero _).lower (Nat.le_refl _)) ((Since.refl _).alloc _)
  · have hV := Lib.hid hv
    clear hv
    cases hva : katV xs
    · have hk := Lib.hid (kIf_no4 (t := t) ys hva)
      go_enter Try.func36, Try.ntmps36
      go_wp2_with fail
      refine (spec_TestValid _ _).mono ?_
      rintro e w' ⟨rfl, rfl⟩
      rw [hV.out]
      go_wp2_with (go_at_call 21; refine (spec_KatValid _ _ _ _ _ _ (by omega) h).mono ?_; rintro e w' ⟨rfl, rfl⟩)
      go_ret2
      exact Fresh2.mk hk.out ((Own.zero _).lower (Nat.le_refl _)) ((Since.refl _).alloc _)
    · have hVA := Lib.hid hva
      clear hva
      cases hvb : katV ys
      · have hk := Lib.hid (kIf_no5 (t := t) xs hvb)
        go_enter Try.func36, Try.ntmps36
        go_wp2_with fail
        refine (spec_TestValid _ _).mono ?_
        rintro e w' ⟨rfl, rfl⟩
        rw [hV.out]
        go_wp2_with fail
        refine (spec_KatValid _ _ _ _ _ _ (by omega) h).mono ?_
        rintro e w' ⟨rfl, rfl⟩
        rw [hVA.out]
        go_wp2_with (go_at_call 21; refine (spec_KatValid _ _ _ _ _ _ (by omega) h').mono ?_; rintro e w' ⟨rfl, rfl⟩)
        go_ret2
        exact Fresh2.mk hk.out ((Own.zero _).lower (Nat.le_refl _)) ((Since.refl _).alloc _)
      · have hVB := Lib.hid hvb
        clear hvb
        go_enter Try.func36, Try.ntmps36
        go_wp2_with fail
        refine (spec_TestValid _ _).mono ?_
        rintro e w' ⟨rfl, rfl⟩
        rw [hV.out]
        go_wp2_with fail
        refine (spec_KatValid _ _ _ _ _ _ (by omega) h).mono ?_
        rintro e w' ⟨rfl, rfl⟩
        rw [hVA.out]
        go_wp2_with fail
        refine (spec_KatValid _ _ _ _ _ _ (by omega) h').mono ?_
        rintro e w' ⟨rfl, rfl⟩
        rw [hVB.out]
        go_wp2_with fail
        refine (l2Join_any _ 1 1 [t] A n c xs 19 _ (by omega) (by omega) (Ls.lit w t (wf_test hV.out) _) (h.alloc_ _) (by decide)).mono ?_
        rintro e w1 ⟨A1, n1, c1, rfl, o1, s1⟩
        have s1 := ((Since.refl w).alloc _).trans s1
        have hl1 : n1 ≤ 68719476738 := by have := o1.len; rw [jn_length, h.len] at this; simp at this; omega
        go_wp2_with fail
        refine (spec_TestNot _ _).mono ?_
        rintro e w' ⟨rfl, rfl⟩
        go_wp2_with fail
        refine (l2Join_any _ 1 1 [tNot t] A' n' c' ys 19 _ (by omega) (by omega) (Ls.lit w1 (tNot t) (wf_test (tNot_v hV.out)) _) ((h'.since s1).alloc_ _) (by decide)).mono ?_
        rintro e w2 ⟨A2, n2, c2, rfl, o2, s2⟩
        have s2 := ((Since.refl w1).alloc _).trans s2
        have hl2 : n2 ≤ 68719476738 := by have := o2.len; rw [jn_length, h'.len] at this; simp at this; omega
        go_wp2_with fail
        refine (l2Join_any A1 n1 c1 _ A2 n2 c2 _ 20 w2 (by omega) (by omega) (o1.ls.since s2) o2.ls (by decide)).mono ?_
        rintro e w3 ⟨A3, n3, c3, rfl, o3, s3⟩
        have s3' := (s1.trans s2).trans s3
        have hl3 : n3 ≤ 274877906944 := by have := o3.len; rw [jn_length, jn_length, jn_length, h.len, h'.len] at this; simp at this; omega
        have o3' := o3.lower (show w.heap.size ≤ _ by have := (s1.trans s2).size; simp; omega)
        go_wp2_with fail
        refine (spec_KatValid _ _ _ _ _ _ (by omega) o3.ls).mono ?_
        rintro e w' ⟨rfl, rfl⟩
        cases hvc : katV (jn (jn [t] xs 19) (jn [tNot t] ys 19) 20)
        · have hk := Lib.hid (kIf_no6 hvc)
          clear hvc
          go_wp2
          go_ret2
          exact Fresh2.mk hk.out ((Own.zero _).lower s3'.size) (s3'.alloc _)
        · have hk := Lib.hid (kIf_yes2 hV.out hVA.out hVB.out hvc)
          clear hvc
          go_wp2
          go_ret2
          exact Fresh2.mk hk.out o3' s3'
theorem spec_KatWhile (t : Int) (A : Option Addr) (n c : Nat) (xs : List Int) (w : World)
    (hn : n ≤ 68719476736) (h : Ls w w.heap.size A n c xs) :
    Calls Try.prog 38 #[.int .i64 t, .slice A n c] w (Fresh2 w (kWhile t xs)) := by
  cases hv : vT t
  · have hk := Lib.hid (kW_no1 xs hv)
    go_enter Try.func38, Try.ntmps38
    go_wp2_with (go_at_call 58; refine (spec_TestValid _ _).mono ?_; rintro e w' ⟨rfl, rfl⟩)
    go_ret2
    exact Fresh2.mk hk.out ((Own.zero _).lower (Nat.le_refl _)) ((Since.refl _).alloc _)
  · have hV := Lib.hid hv
    clear hv
    cases hva : katV xs
    · have hk := Lib.hid (kW_no4 (t := t) hva)
      go_enter Try.func38, Try.ntmps38
      go_wp2_with fail
      refine (spec_TestValid _ _).mono ?_
      rintro e w' ⟨rfl, rfl⟩
      rw [hV.out]
      go_wp2_with (go_at_call 21; refine (spec_KatValid _ _ _ _ _ _ (by omega) h).mono ?_; rintro e w' ⟨rfl, rfl⟩)
      go_ret2
      exact Fresh2.mk hk.out ((Own.zero _).lower (Nat.le_refl _)) ((Since.refl _).alloc _)
    · have hVA := Lib.hid hva
      clear hva
      go_enter Try.func38, Try.ntmps38
      go_wp2_with fail
      refine (spec_TestValid _ _).mono ?_
      rintro e w' ⟨rfl, rfl⟩
      rw [hV.out]
      go_wp2_with fail
      refine (spec_KatValid _ _ _ _ _ _ (by omega) h).mono ?_
      rintro e w' ⟨rfl, rfl⟩
      rw [hVA.out]
      go_wp2_with fail
      refine (l2Join_any _ 1 1 [t] A n c xs 19 _ (by omega) (by omega) (Ls.lit w t (wf_test hV.out) _) (h.alloc_ _) (by decide)).mono ?_
      rintro e w1 ⟨A1, n1, c1, rfl, o1, s1⟩
      have s1 := ((Since.refl w).alloc _).trans s1
      have o1 := o1.lower (show w.heap.size ≤ _ by simp)
      have hl1 : n1 ≤ 68719476738 := by have := o1.len; rw [jn_length, h.len] at this; simp at this; omega
      go_wp2_with (at_builtin
                   refine wpList_app rfl _ _ rfl w.heap.size A1 n1 c1 _ rfl (o1.alloc _) _ _ 1 1 [21] rfl (Ls.one w1 21 (by decide) _) (by omega) (s1.alloc _).size ?_
                   intro A2 c2 w2 o2 g2
                   have s2 : Since w w2 := (s1.alloc _).app (Nat.le_refl _) g2
                   clear g2)
      refine (spec_TestNot _ _).mono ?_
      rintro e w' ⟨rfl, rfl⟩
      go_wp2_with fail
      refine (l2Join_any A2 (n1 + 1) c2 _ _ 1 1 [tNot t] 19 _ (by omega) (by omega) (o2.ls.alloc_ _) (Ls.lit w2 (tNot t) (wf_test (tNot_v hV.out)) _) (by decide)).mono ?_
      rintro e w3 ⟨A3, n3, c3, rfl, o3, s3⟩
      have s3' := (s2.alloc _).trans s3
      have hl3 : n3 ≤ 274877906944 := by have := o3.len; rw [jn_length, List.length_append, jn_length, h.len] at this; simp at this; omega
      have o3' := o3.lower (show w.heap.size ≤ _ by have := s2.size; simp; omega)
      go_wp2_with fail
      refine (spec_KatValid _ _ _ _ _ _ (by omega) o3.ls).mono ?_
      rintro e w' ⟨rfl, rfl⟩
      cases hvc : katV (jn (jn [t] xs 19 ++ [21]) [tNot t] 19)
      · have hk := Lib.hid (kW_no6 hvc)
        clear hvc
        go_wp2
        go_ret2
        exact Fresh2.mk hk.out ((Own.zero _).lower s3'.size) (s3'.alloc _)
      · have hk := Lib.hid (kW_yes2 hV.out hVA.out hvc)
        clear hvc
        go_wp2
        go_ret2
        exact Fresh2.mk hk.out o3' s3'
theorem impl_KatActs (A : Option Addr) (n c B : Nat) (xs : List Int) (w : World) (hn : n ≤ 1099511627776) (h : Ls w B A n c xs) :
    Calls Try.prog 26 #[.slice A n c] w fun e w' => e = .returned (.int .i64 (kActs xs)) ∧ w = w' := by
  have hlen := h.len
  cases hva : katV xs
  · have hk : Hid (kActs xs = -1) := by simp [Hid, kActs, hva]
    clear hlen
    go_enter Try.func26, Try.ntmps26
    go_wp2_with (go_at_call 23; refine (impl_KatValid _ _ _ _ _ _ h).mono ?_; rintro e w' ⟨rfl, rfl⟩)
    go_ret
    exact ⟨ret_int hk.out.symm, rfl⟩
  · have hk : Hid (kActs xs = (acts xs : Int)) := by simp [Hid, kActs, hva]
    have hVA := Lib.hid hva
    clear hva
    go_enter Try.func26, Try.ntmps26
    go_wp2_with fail
    refine (impl_KatValid _ _ _ _ _ _ h).mono ?_
    rintro e w' ⟨rfl, rfl⟩
    rw [hVA.out]
    go_wp2_with fail
    go_loop [3, 11] (fun m i => ∃ k : Nat, k ≤ n ∧ i = .int .i64 k ∧ m = .int .i64 (acts (xs.take k))) (fun _ i => n - (intOf i).toNat)
    case atStart => exact ⟨0, Nat.zero_le _, rfl, rfl⟩
    case round =>
      obtain ⟨k, hk', rfl, rfl⟩ := hrel
      have hle : acts (xs.take k) ≤ k := Nat.le_trans (acts_le _) (List.length_take_le _ _)
      by_cases hlt : k < n
      · obtain ⟨b, off, v, rfl, hb, hc, hv⟩ := h.at_ hlt
        have hyes := acts_yes (xs := xs) (k := k) (by omega) hv.out
        have hno := acts_no (xs := xs) (k := k) (by omega) hv.out
        clear hlen h
        generalize hq : acts (xs.take k) = q at *
        by_cases h16 : 16 ≤ v ∧ v ≤ 18
        · have hr : inR v 16 18 = true := inR_true h16.1 h16.2
          have hf := Lib.hid (hyes h16)
          clear hyes hno h16 hq
          go_wp2_with (go_at_call 54; refine (impl_isAct _ _).mono ?_; rintro e w' ⟨rfl, rfl⟩)
          go_round
          case rel => exact ⟨k + 1, by omega, by go_num, by rw [hf.out]; go_num⟩
          case measure => simp [intOf]; omega
        · have hr : inR v 16 18 = false := by simp [inR]; omega
          have hf := Lib.hid (hno h16)
          clear hyes hno h16 hq
          go_wp2_with (go_at_call 54; refine (impl_isAct _ _).mono ?_; rintro e w' ⟨rfl, rfl⟩)
          go_round
          case rel => exact ⟨k + 1, by omega, by go_num, by rw [hf.out]⟩
          case measure => simp [intOf]; omega
      · obtain rfl : n = k := by omega
        have ht : Hid (xs.take n = xs) := List.take_of_length_le (by omega)
        clear h hlen
        go_wp2
        go_ret
        exact ⟨ret_int (by rw [hk.out, ht.out]), rfl⟩
theorem spec_KatActs (A : Option Addr) (n c B : Nat) (xs : List Int) (w : World) (hn : n ≤ 1099511627776) (h : Ls w B A n c xs) :
    Calls Try.prog 25 #[.slice A n c] w fun e w' => e = .returned (.int .i64 (kActs xs)) ∧ w = w' := by
  have hlen := h.len
  cases hva : katV xs
  · have hk : Hid (kActs xs = -1) := by simp [Hid, kActs, hva]
    clear hlen
    go_enter Try.func25, Try.ntmps25
    go_wp2_with (go_at_call 21; refine (spec_KatValid _ _ _ _ _ _ hn h).mono ?_; rintro e w' ⟨rfl, rfl⟩)
    go_ret
    exact ⟨ret_int hk.out.symm, rfl⟩
  · have hk : Hid (kActs xs = (acts xs : Int)) := by simp [Hid, kActs, hva]
    have hVA := Lib.hid hva
    clear hva
    go_enter Try.func25, Try.ntmps25
    go_wp2_with fail
    refine (spec_KatValid _ _ _ _ _ _ hn h).mono ?_
    rintro e w' ⟨rfl, rfl⟩
    rw [hVA.out]
    go_wp2_with fail
    go_loop [3, 4] (fun m i => ∃ k : Nat, k ≤ n ∧ i = .int .i64 k ∧ m = .int .i64 (acts (xs.take k))) (fun _ i => n - (intOf i).toNat)
    case atStart => exact ⟨0, Nat.zero_le _, rfl, rfl⟩
    case round =>
      obtain ⟨k, hk', rfl, rfl⟩ := hrel
      have hle : acts (xs.take k) ≤ k := Nat.le_trans (acts_le _) (List.length_take_le _ _)
      by_cases hlt : k < n
      · obtain ⟨b, off, v, rfl, hb, hc, hv⟩ := h.at_ hlt
        have hyes := acts_yes (xs := xs) (k := k) (by omega) hv.out
        have hno := acts_no (xs := xs) (k := k) (by omega) hv.out
        clear hlen h
        generalize hq : acts (xs.take k) = q at *
        by_cases h16 : 16 ≤ v ∧ v ≤ 18
        · have hr : inR v 16 18 = true := inR_true h16.1 h16.2
          have hf := Lib.hid (hyes h16)
          clear hyes hno h16 hq
          go_wp2_with (go_at_call 51; refine (spec_l1In _ _ _ _).mono ?_; rintro e w' ⟨rfl, rfl⟩)
          go_round
          case rel => exact ⟨k + 1, by omega, by go_num, by rw [hf.out]; go_num⟩
          case measure => simp [intOf]; omega
        · have hr : inR v 16 18 = false := by simp [inR]; omega
          have hf := Lib.hid (hno h16)
          clear hyes hno h16 hq
          go_wp2_with (go_at_call 51; refine (spec_l1In _ _ _ _).mono ?_; rintro e w' ⟨rfl, rfl⟩)
          go_round
          case rel => exact ⟨k + 1, by omega, by go_num, by rw [hf.out]⟩
          case measure => simp [intOf]; omega
      · obtain rfl : n = k := by omega
        have ht : Hid (xs.take n = xs) := List.take_of_length_le (by omega)
        clear h hlen
        go_wp2
        go_ret
        exact ⟨ret_int (by rw [hk.out, ht.out]), rfl⟩
end Go.Proofs.Ytcilncdhkniigaa
