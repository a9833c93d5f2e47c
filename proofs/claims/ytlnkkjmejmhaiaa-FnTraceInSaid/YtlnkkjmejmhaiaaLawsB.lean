/-
  The walks of the laws on expressions that turn them backwards (chapter 2).
-/
import Derived.Test.YtlnkkjmejmhaiaaLawsK
import Derived.Test.YtlnkkjmejmhaiaaBack
import Derived.Test.YtlnkkjmejmhaiaaTreeE
namespace Go.Proofs.Ytlnkkjmejmhaiaa
open Go.RowKit
set_option linter.unusedVariables false
set_option maxHeartbeats 400000

/-- an expression backwards -/
def kBack (xs : List Int) : List Int := if katV xs then (match xs.foldl pst [] with | [t] => t.back.steps | _ => []) else []
theorem kBack_of {t : Tr} (h : t.ok) (hl : t.size ≤ 40) : kBack t.steps = t.back.steps := by
  have := pst_steps h [] []
  simp only [List.append_nil, List.foldl_nil] at this
  rw [kBack, if_pos (Tr.katV_steps h hl), this]
theorem kBack_no {xs : List Int} (h : katV xs = false) : kBack xs = [] := by simp [kBack, h]
theorem kBack_v {xs : List Int} (h : katV xs = true) : katV (kBack xs) = true := by
  obtain ⟨t, h1, rfl, h2⟩ := katV_tree h
  rw [kBack_of h1 h2]
  exact Tr.katV_steps (Tr.back_ok h1) (by rw [Tr.back_size]; exact h2)
theorem kBack_length {xs : List Int} (h : katV xs = true) : (kBack xs).length = xs.length := by
  obtain ⟨t, h1, rfl, h2⟩ := katV_tree h
  rw [kBack_of h1 h2, Tr.length_steps, Tr.length_steps, Tr.back_size]
theorem kBack_back {xs : List Int} (h : katV xs = true) : kBack (kBack xs) = xs := by
  obtain ⟨t, h1, rfl, h2⟩ := katV_tree h
  rw [kBack_of h1 h2, kBack_of (Tr.back_ok h1) (by rw [Tr.back_size]; exact h2), Tr.back_back]
theorem kBack_len {xs : List Int} {n : Nat} (hn : (kBack xs).length = n) : n ≤ 40 := by
  cases h : katV xs
  · rw [kBack_no h] at hn; simp at hn; omega
  · have := katV_len (kBack_v h); omega
theorem kActs_back {xs : List Int} (h : katV xs = true) : kActs (kBack xs) = kActs xs := by
  have hv := kBack_v h
  obtain ⟨t, h1, rfl, h2⟩ := katV_tree h
  unfold kActs
  rw [if_pos hv, if_pos h, kBack_of h1 h2, acts_back t h1]
theorem kActs_half {xs : List Int} (h : katV xs = true) : 0 ≤ kActs xs ∧ 2 * kActs xs ≤ (xs.length : Int) + 1 := by
  obtain ⟨t, h1, rfl, h2⟩ := katV_tree h
  have := acts_half t h1
  unfold kActs
  rw [if_pos h]; omega
theorem kActs_jn {a b : List Int} (ha : katV a = true) (hb : katV b = true) (hj : katV (jn a b 19) = true) : kActs (jn a b 19) = kActs a + kActs b := by
  unfold kActs
  rw [if_pos ha, if_pos hb, if_pos hj]
  have : acts [19] = 0 := by decide
  simp only [jn, acts_append, this]; omega
theorem kBack_jn {a b : List Int} (ha : katV a = true) (hb : katV b = true) (hj : katV (jn a b 19) = true) : kBack (jn a b 19) = jn (kBack b) (kBack a) 19 := by
  have hl := katV_len hj
  obtain ⟨t, h1, rfl, h2⟩ := katV_tree ha
  obtain ⟨u, h3, rfl, h4⟩ := katV_tree hb
  have e : jn t.steps u.steps 19 = (Tr.bin 19 t u).steps := rfl
  rw [e] at hl ⊢
  rw [Tr.length_steps] at hl
  rw [kBack_of (show (Tr.bin 19 t u).ok from ⟨.inl rfl, h1, h3⟩) hl.2, kBack_of h1 h2, kBack_of h3 h4]
  simp [Tr.back, Tr.steps, jn]
theorem kJoin_back {a b : List Int} (h : (kJoin a b 19).2 = true) : kJoin (kBack b) (kBack a) 19 = (kBack (jn a b 19), true) := by
  obtain ⟨ha, hb, hj, _⟩ := kJoin_ok h
  have := kBack_v hj
  rw [kBack_jn ha hb hj] at this ⊢
  simp [kJoin, kBack_v ha, kBack_v hb, this]

theorem impl_KatBackX (A : Option Addr) (n c : Nat) (xs : List Int) (w : World) (hn : n ≤ 274877906944) (h : Ls w w.heap.size A n c xs) : Calls Try.prog 16 #[.slice A n c] w (Fresh w (kBack xs)) := by
  cases hv : katV xs
  · rw [kBack_no hv]; exact impl_KatBack_no A n c xs w h hv
  · obtain ⟨t, h1, rfl, h2⟩ := katV_tree hv
    rw [kBack_of h1 h2]; exact impl_KatBack A n c t w hn h h1 h2
theorem spec_KatBackX (A : Option Addr) (n c : Nat) (xs : List Int) (w : World) (hn : n ≤ 274877906944) (h : Ls w w.heap.size A n c xs) : Calls Try.prog 14 #[.slice A n c] w (Fresh w (kBack xs)) := by
  cases hv : katV xs
  · rw [kBack_no hv]; exact spec_KatBack_no A n c xs w hn h hv
  · obtain ⟨t, h1, rfl, h2⟩ := katV_tree hv
    rw [kBack_of h1 h2]; exact spec_KatBack A n c t w hn h h1 h2
theorem walk_FnKatBack (a0 : Option Addr) (len0 cap0 : Nat) (z0 : List Int) (w : World) (w0 : RowIn .u8 w a0 len0 cap0 z0) :
    Calls Try.prog 5 #[.slice a0 len0 cap0] w fun e w' => e = .returned (.bool true) ∧ Below w.heap.size w w' := by
  by_cases hl : 1048576 < len0
  · clear w0
    go_enter Try.func5, Try.ntmps5
    go_wp2
    go_ret
    exact ⟨rfl, Below.refl _ _⟩
  · go_enter Try.func5, Try.ntmps5
    go_wp2_with fail
    refine (draw_KatBack a0 len0 cap0 z0 w w0).mono ?_
    rintro e w1 ⟨A, n, c, xs, rfl, o1, hn1, s1⟩
    clear w0
    have tot : Since w w1 := s1
    clear s1
    go_wp2_with fail
    refine (impl_KatBackX A n c xs w1 (by omega) o1.ls).mono ?_
    rintro e w2 ⟨A2, n2, c2, rfl, o2, s⟩
    replace o1 := o1.since s
    replace tot := tot.trans s
    clear s
    have hn2 := kBack_len o2.len
    go_wp2_with fail
    refine (spec_KatBackX A n c xs w2 (by omega) o1.ls).mono ?_
    rintro e w3 ⟨A3, n3, c3, rfl, o3, s⟩
    replace o1 := o1.since s
    replace o2 := o2.since s
    replace tot := tot.trans s
    clear s
    go_wp2_with fail
    refine (sameInts_any A2 n2 c2 _ _ A3 n3 c3 _ _ w3 (by omega) o2.ls o3.ls).mono ?_
    rintro e w4 ⟨rfl, s⟩
    replace o1 := o1.since s
    replace o2 := o2.since s
    replace tot := tot.trans s
    clear s o3
    rw [same_true]
    go_wp2_with fail
    refine (spec_KatValid A n c _ xs w4 (by omega) o1.ls).mono ?_
    rintro e w' ⟨rfl, rfl⟩
    cases hva : katV xs
    · have hn0 : n2 = 0 := by have := o2.len; rw [kBack_no hva] at this; simpa using this.symm
      subst hn0
      clear hva
      go_wp2_with (go_at_call 24; refine (laws_alive _).mono ?_; rintro e w' ⟨rfl, rfl⟩)
      go_ret
      exact ⟨rfl, tot⟩
    · have hbv := Lib.hid (kBack_v hva)
      have hbb := Lib.hid (kBack_back hva)
      have hnn : n2 = n := by have := o2.len; rw [kBack_length hva, o1.len] at this; exact this.symm
      subst hnn
      have hq : ((n2 : Int) == n2) = true := by simp
      clear hva
      go_wp2_with fail
      refine (impl_KatValid A2 n2 c2 _ _ w4 o2.ls).mono ?_
      rintro e w' ⟨rfl, rfl⟩
      rw [hbv.out]
      go_wp2_with fail
      refine (impl_KatBackX A2 n2 c2 _ w4 (by omega) o2.ls).mono ?_
      rintro e w5 ⟨A5, n5, c5, rfl, o5, s⟩
      replace o1 := o1.since s
      replace tot := tot.trans s
      clear s
      have hn5 := kBack_len o5.len
      rw [hbb.out] at o5
      go_wp2_with fail
      refine (sameInts_any A5 n5 c5 _ _ A n2 c _ _ w5 (by omega) o5.ls o1.ls).mono ?_
      rintro e w6 ⟨rfl, s⟩
      replace tot := tot.trans s
      clear s
      rw [same_true]
      go_wp2
      go_ret
      exact ⟨rfl, tot⟩
theorem walk_FnKatActs (a0 : Option Addr) (len0 cap0 : Nat) (z0 : List Int) (w : World) (w0 : RowIn .u8 w a0 len0 cap0 z0) :
    Calls Try.prog 4 #[.slice a0 len0 cap0] w fun e w' => e = .returned (.bool true) ∧ Below w.heap.size w w' := by
  by_cases hl : 1048576 < len0
  · clear w0
    go_enter Try.func4, Try.ntmps4
    go_wp2
    go_ret
    exact ⟨rfl, Below.refl _ _⟩
  · go_enter Try.func4, Try.ntmps4
    go_wp2_with fail
    refine (draw_KatActs a0 len0 cap0 z0 w w0).mono ?_
    rintro e w1 ⟨A, n, c, xs, rfl, o1, hn1, s1⟩
    clear w0
    go_wp2_with fail
    refine (impl_KatActs A n c _ xs w1 (by omega) o1.ls).mono ?_
    rintro e w' ⟨rfl, rfl⟩
    go_wp2_with fail
    refine (spec_KatActs A n c _ xs w1 (by omega) o1.ls).mono ?_
    rintro e w' ⟨rfl, rfl⟩
    cases hva : katV xs
    · have hk : kActs xs = -1 := by simp [kActs, hva]
      rw [hk]
      have hva := Lib.hid hva
      clear hk
      go_wp2_with (first | (go_at_call 23; refine (impl_KatValid _ _ _ _ _ _ o1.ls).mono ?_; rintro e w' ⟨rfl, rfl⟩; rw [hva.out]) | (go_at_call 24; refine (laws_alive _).mono ?_; rintro e w' ⟨rfl, rfl⟩))
      go_ret
      exact ⟨rfl, s1⟩
    · obtain ⟨hk0, hk2⟩ := kActs_half hva
      rw [o1.len] at hk2
      have hkb := Lib.hid (kActs_back hva)
      have hva := Lib.hid hva
      generalize hkk : kActs xs = k at *
      have hkk := Lib.hid hkk
      have hq : (k != k) = false := by simp
      have hq2 : (k == k) = true := by simp
      go_wp2_with fail
      refine (impl_KatBackX A n c xs w1 (by omega) o1.ls).mono ?_
      rintro e w2 ⟨A2, n2, c2, rfl, o2, s⟩
      have hn2 := kBack_len o2.len
      go_wp2_with fail
      refine (impl_KatActs A2 n2 c2 _ _ w2 (by omega) o2.ls).mono ?_
      rintro e w' ⟨rfl, rfl⟩
      rw [hkb.out]
      go_wp2
      go_ret
      exact ⟨rfl, s1.trans s⟩
theorem walk_FnKatThen (a0 : Option Addr) (len0 cap0 : Nat) (z0 : List Int) (w : World) (w0 : RowIn .u8 w a0 len0 cap0 z0) :
    Calls Try.prog 6 #[.slice a0 len0 cap0] w fun e w' => e = .returned (.bool true) ∧ Below w.heap.size w w' := by
  by_cases hl : 1048576 < len0
  · clear w0
    go_enter Try.func6, Try.ntmps6
    go_wp2
    go_ret
    exact ⟨rfl, Below.refl _ _⟩
  · go_enter Try.func6, Try.ntmps6
    go_wp2_with fail
    refine (draw_KatThen a0 len0 cap0 z0 w w0).mono ?_
    rintro e w1 ⟨A, n, c, xs, A', n', c', ys, rfl, o1, hn1, o1', hn1', s1⟩
    clear w0
    have tot : Since w w1 := s1
    clear s1
    go_wp2_with fail
    refine (impl_KatThen A n c xs A' n' c' ys w1 (by omega) (by omega) o1.ls o1'.ls).mono ?_
    rintro e w2 ⟨A2, n2, c2, rfl, o2, s2⟩
    replace o1 := o1.since s2
    replace o1' := o1'.since s2
    replace tot := tot.trans s2
    have hn2 := kJoin_len o2.len
    clear s2
    go_wp2_with fail
    refine (spec_KatThen A n c xs A' n' c' ys w2 (by omega) (by omega) o1.ls o1'.ls).mono ?_
    rintro e w3 ⟨A3, n3, c3, rfl, o3, s3⟩
    replace o1 := o1.since s3
    replace o1' := o1'.since s3
    replace o2 := o2.since s3
    replace tot := tot.trans s3
    clear s3
    go_wp2_with fail
    refine (sameInts_any A2 n2 c2 _ _ A3 n3 c3 _ _ w3 (by omega) o2.ls o3.ls).mono ?_
    rintro e w4 ⟨rfl, s4⟩
    replace o1 := o1.since s4
    replace o1' := o1'.since s4
    replace o2 := o2.since s4
    replace tot := tot.trans s4
    clear s4 o3
    rw [same_true]
    cases hok : (kJoin xs ys 19).2
    · have hn0 : n2 = 0 := by have := o2.len; rw [kJoin_no hok] at this; simpa using this.symm
      subst hn0
      clear hok
      go_wp2_with (go_at_call 24; refine (laws_alive _).mono ?_; rintro e w' ⟨rfl, rfl⟩)
      go_ret
      exact ⟨rfl, tot⟩
    · have hk := kJoin_ok hok
      have hkv := Lib.hid hk.2.2.1
      have hkj := Lib.hid hk.2.2.2
      have hkb := Lib.hid (kJoin_back hok)
      have hka := Lib.hid (kActs_jn hk.1 hk.2.1 hk.2.2.1)
      have hb1 := kActs_half hk.1
      have hb2 := kActs_half hk.2.1
      rw [o1.len] at hb1
      rw [o1'.len] at hb2
      rw [hk.2.2.2] at o2
      clear hok hk
      go_wp2_with fail
      refine (impl_KatBackX A' n' c' ys w4 (by omega) o1'.ls).mono ?_
      rintro e w5 ⟨A5, n5, c5, rfl, o5, s⟩
      replace o1 := o1.since s
      replace o1' := o1'.since s
      replace o2 := o2.since s
      replace tot := tot.trans s
      have hn5 := kBack_len o5.len
      clear s
      go_wp2_with fail
      refine (impl_KatBackX A n c xs w5 (by omega) o1.ls).mono ?_
      rintro e w6 ⟨A6, n6, c6, rfl, o6, s⟩
      replace o1 := o1.since s
      replace o1' := o1'.since s
      replace o2 := o2.since s
      replace o5 := o5.since s
      replace tot := tot.trans s
      have hn6 := kBack_len o6.len
      clear s
      go_wp2_with fail
      refine (impl_KatThen A5 n5 c5 _ A6 n6 c6 _ w6 (by omega) (by omega) o5.ls o6.ls).mono ?_
      rintro e w7 ⟨A7, n7, c7, rfl, o7, s⟩
      replace o1 := o1.since s
      replace o1' := o1'.since s
      replace o2 := o2.since s
      replace tot := tot.trans s
      have hn7 := kJoin_len o7.len
      rw [hkb.out] at o7 ⊢
      clear s o5 o6
      go_wp2_with fail
      refine (impl_KatValid A2 n2 c2 _ _ w7 o2.ls).mono ?_
      rintro e w' ⟨rfl, rfl⟩
      rw [hkv.out]
      have hc1 := fun w' => impl_KatActs A n c w.heap.size xs w' (by omega)
      have hc2 := fun w' => impl_KatActs A' n' c' w.heap.size ys w' (by omega)
      have hl1 := o1.ls.len
      generalize hk1 : kActs xs = k1 at *
      generalize hk2 : kActs ys = k2 at *
      have hk1 := Lib.hid hk1
      have hk2 := Lib.hid hk2
      have hq : (k1 + k2 == k1 + k2) = true := by simp
      clear hl1 hc1 hc2
      go_wp2_with fail
      refine (impl_KatActs A2 n2 c2 _ _ w7 (by omega) o2.ls).mono ?_
      rintro e w' ⟨rfl, rfl⟩
      rw [hka.out]
      go_wp2_with fail
      refine (impl_KatActs A n c _ _ w7 (by omega) o1.ls).mono ?_
      rintro e w' ⟨rfl, rfl⟩
      rw [hk1.out]
      go_wp2_with fail
      refine (impl_KatActs A' n' c' _ _ w7 (by omega) o1'.ls).mono ?_
      rintro e w' ⟨rfl, rfl⟩
      rw [hk2.out]
      go_wp2_with fail
      refine (impl_KatBackX A2 n2 c2 _ w7 (by omega) o2.ls).mono ?_
      rintro e w8 ⟨A8, n8, c8, rfl, o8, s⟩
      replace o7 := o7.since s
      replace tot := tot.trans s
      have hn8 := kBack_len o8.len
      clear s
      go_wp2_with fail
      refine (sameInts_any A7 n7 c7 _ _ A8 n8 c8 _ _ w8 (by omega) o7.ls o8.ls).mono ?_
      rintro e w9 ⟨rfl, s⟩
      replace tot := tot.trans s
      clear s
      rw [same_true]
      go_wp2
      go_ret
      exact ⟨rfl, tot⟩
end Go.Proofs.Ytlnkkjmejmhaiaa
