/-
  Contracts of the laws' own functions on lists of lists, and of the specification's order of lists. Printed by ssl.py.
-/
import Derived.Test.YtlnkkjmejmhaiaaSS
import Derived.Test.YtlnkkjmejmhaiaaPlainS
namespace Go.Proofs.Ytlnkkjmejmhaiaa
open Go.RowKit
set_option linter.unusedVariables false
set_option maxHeartbeats 400000

/-! the order by places -/
theorem lex_at : ∀ {a b : List Int} {k : Nat}, k < a.length → k < b.length → (∀ i, i < k → a.getD i 0 = b.getD i 0) → a.getD k 0 ≠ b.getD k 0 → lexB a b = decide (a.getD k 0 < b.getD k 0) := by
  intro a
  induction a with
  | nil => intro b k h; simp at h
  | cons x r ih =>
    intro b k h1 h2 h3 h4
    cases b with
    | nil => simp at h2
    | cons y q =>
      cases k with
      | zero =>
        have : x ≠ y := h4
        simp [lexB, this]
      | succ k =>
        have e : x = y := h3 0 (by omega)
        subst e
        have := ih (b := q) (k := k) (by simpa using h1) (by simpa using h2) (fun i hi => h3 (i + 1) (by omega)) h4
        simp only [lexB, if_true]
        exact this
theorem lex_end : ∀ {a b : List Int} {k : Nat}, k ≤ a.length → k ≤ b.length → (k = a.length ∨ k = b.length) → (∀ i, i < k → a.getD i 0 = b.getD i 0) → lexB a b = decide (a.length < b.length) := by
  intro a
  induction a with
  | nil => intro b k h1 h2 h3 h4; cases b <;> simp [lexB]
  | cons x r ih =>
    intro b k h1 h2 h3 h4
    cases b with
    | nil => simp [lexB]
    | cons y q =>
      cases k with
      | zero => simp at h3
      | succ k =>
        have e : x = y := h4 0 (by omega)
        subst e
        have := ih (b := q) (k := k) (by simpa using h1) (by simpa using h2) (by simpa using h3) (fun i hi => h4 (i + 1) (by omega))
        simp only [lexB, if_true, List.length_cons, Nat.add_lt_add_iff_right]
        exact this
theorem same_end {a b : List Int} {k : Nat} (h1 : k ≤ a.length) (h2 : k ≤ b.length) (h3 : k = a.length ∨ k = b.length) (h4 : ∀ i, i < k → a.getD i 0 = b.getD i 0) : decide (a = b) = decide (a.length = b.length) := by
  by_cases e : a.length = b.length
  · rw [decide_eq_true e]
    exact eq_good (n := b.length) e rfl (fun i hi => h4 i (by omega))
  · rw [decide_eq_false e]
    exact decide_eq_false fun h => e (by rw [h])
theorem lists_bad {xs ys : List (List Int)} {k : Nat} (h : decide (xs.getD k [] = ys.getD k []) = false) : decide (xs = ys) = false := by
  simp at h ⊢; intro e; exact h (by rw [e])
theorem lists_good {xs ys : List (List Int)} {n : Nat} (hx : xs.length = n) (hy : ys.length = n) (h : ∀ i, i < n → xs.getD i [] = ys.getD i []) : decide (xs = ys) = true := by
  simp
  apply List.ext_getElem (by omega)
  intro i h1 h2
  have := h i (by omega)
  simpa [List.getD_eq_getElem?_getD, List.getElem?_eq_getElem h1, List.getElem?_eq_getElem h2] using this
theorem Qt.drewN {a b : World} (h : Qt a b) (k : Nat) : Qt a (b.drewN k) := h.trans ⟨k, rfl⟩
theorem eqIntS_q (A : Option Addr) (n c B : Nat) (xs : List Int) (A' : Option Addr) (n' c' B' : Nat) (ys : List Int) (w : World) (hn : n ≤ 1099511627776) (h : Ls w B A n c xs) (h' : Ls w B' A' n' c' ys) :
    Calls Try.prog 17 #[.slice A n c, .slice A' n' c'] w fun e w' => e = .returned (.bool (decide (xs = ys))) ∧ Qt w w' := by
  have hlen := h.len
  have hlen' := h'.len
  by_cases hnn : n = n'
  · subst hnn
    have hq : ((n : Int) != n) = false := by simp
    go_enter Try.func17, Try.ntmps17
    go_wp2
    go_loopw [5] (fun i wr => ∃ k : Nat, k ≤ n ∧ i = .int .i64 k ∧ Hid (∀ i, i < k → xs.getD i 0 = ys.getD i 0) ∧ Qt w wr ∧ Ls wr B A n c xs ∧ Ls wr B' A' n c' ys) (fun i _ => n - (intOf i).toNat)
    case atStart => exact ⟨0, Nat.zero_le _, rfl, fun i hi => absurd hi (by omega), Qt.refl w, h, h'⟩
    case round =>
      clear h h'
      obtain ⟨k, hk, rfl, hall, hs, h, h'⟩ := hrel
      by_cases hlt : k < n
      · have hZ : (k : Int) < n := by omega
        obtain ⟨b, off, v, rfl, hb, hc, hv⟩ := h.at_ hlt
        obtain ⟨b', off', v', rfl, hb', hc', hv'⟩ := h'.at_ hlt
        by_cases hvv : v = v'
        · subst hvv
          have hstep : Hid (∀ i, i < k + 1 → xs.getD i 0 = ys.getD i 0) := by
            intro i hi
            by_cases e : i = k
            · subst e; rw [hv.out, hv'.out]
            · exact hall.out i (by omega)
          have hq2 : (v != v) = false := by simp
          clear hlen hlen'
          go_wp2
          go_quiet (fail)
          go_wp2
          go_roundw
          case rel => exact ⟨k + 1, by omega, by go_num, hstep, hs.drewN _, h.drewN _, h'.drewN _⟩
          case measure => simp [intOf]; omega
        · have hq2 : (v != v') = true := by simpa using hvv
          have hfin : Hid (decide (xs = ys) = false) := eq_bad (k := k) (by rw [hv.out, hv'.out]; exact hvv)
          clear hlen hlen'
          go_wp2
          go_quiet (fail)
          go_wp2
          go_ret
          exact ⟨ret_bool hfin.out.symm, hs.drewN _⟩
      · obtain rfl : n = k := by omega
        have hfin : Hid (decide (xs = ys) = true) := eq_good hlen hlen' hall.out
        clear hlen hlen'
        go_wp2
        go_ret
        exact ⟨ret_bool hfin.out.symm, hs⟩
  · have hq : ((n : Int) != n') = true := by simp; omega
    have hfin : Hid (decide (xs = ys) = false) := by
      have : ¬ xs = ys := by intro e; subst e; omega
      simpa [Hid] using this
    clear hlen hlen'
    go_enter Try.func17, Try.ntmps17
    go_wp2
    go_ret
    exact ⟨ret_bool hfin.out.symm, Qt.refl w⟩
theorem sameInts_q (A : Option Addr) (n c B : Nat) (xs : List Int) (A' : Option Addr) (n' c' B' : Nat) (ys : List Int) (w : World) (hn : n ≤ 1099511627776) (h : Ls w B A n c xs) (h' : Ls w B' A' n' c' ys) :
    Calls Try.prog 26 #[.slice A n c, .slice A' n' c'] w fun e w' => e = .returned (.bool (decide (xs = ys))) ∧ Qt w w' := by
  have hlen := h.len
  have hlen' := h'.len
  by_cases hnn : n = n'
  · subst hnn
    have hq : ((n : Int) != n) = false := by simp
    go_enter Try.func26, Try.ntmps26
    go_wp2
    go_loopw [5] (fun i wr => ∃ k : Nat, k ≤ n ∧ i = .int .i64 k ∧ Hid (∀ i, i < k → xs.getD i 0 = ys.getD i 0) ∧ Qt w wr ∧ Ls wr B A n c xs ∧ Ls wr B' A' n c' ys) (fun i _ => n - (intOf i).toNat)
    case atStart => exact ⟨0, Nat.zero_le _, rfl, fun i hi => absurd hi (by omega), Qt.refl w, h, h'⟩
    case round =>
      clear h h'
      obtain ⟨k, hk, rfl, hall, hs, h, h'⟩ := hrel
      by_cases hlt : k < n
      · have hZ : (k : Int) < n := by omega
        obtain ⟨b, off, v, rfl, hb, hc, hv⟩ := h.at_ hlt
        obtain ⟨b', off', v', rfl, hb', hc', hv'⟩ := h'.at_ hlt
        by_cases hvv : v = v'
        · subst hvv
          have hstep : Hid (∀ i, i < k + 1 → xs.getD i 0 = ys.getD i 0) := by
            intro i hi
            by_cases e : i = k
            · subst e; rw [hv.out, hv'.out]
            · exact hall.out i (by omega)
          have hq2 : (v != v) = false := by simp
          clear hlen hlen'
          go_wp2
          go_quiet (fail)
          go_wp2
          go_roundw
          case rel => exact ⟨k + 1, by omega, by go_num, hstep, hs.drewN _, h.drewN _, h'.drewN _⟩
          case measure => simp [intOf]; omega
        · have hq2 : (v != v') = true := by simpa using hvv
          have hfin : Hid (decide (xs = ys) = false) := eq_bad (k := k) (by rw [hv.out, hv'.out]; exact hvv)
          clear hlen hlen'
          go_wp2
          go_quiet (fail)
          go_wp2
          go_ret
          exact ⟨ret_bool hfin.out.symm, hs.drewN _⟩
      · obtain rfl : n = k := by omega
        have hfin : Hid (decide (xs = ys) = true) := eq_good hlen hlen' hall.out
        clear hlen hlen'
        go_wp2
        go_ret
        exact ⟨ret_bool hfin.out.symm, hs⟩
  · have hq : ((n : Int) != n') = true := by simp; omega
    have hfin : Hid (decide (xs = ys) = false) := by
      have : ¬ xs = ys := by intro e; subst e; omega
      simpa [Hid] using this
    clear hlen hlen'
    go_enter Try.func26, Try.ntmps26
    go_wp2
    go_ret
    exact ⟨ret_bool hfin.out.symm, Qt.refl w⟩
theorem eqIntSS_any (A : Option Addr) (n c B : Nat) (xs : List (List Int)) (A' : Option Addr) (n' c' B' : Nat) (ys : List (List Int)) (w : World) (hn : n ≤ 1099511627776) (hw : ∀ x ∈ xs, x.length ≤ 1099511627776) (h : LR w B A n c xs) (h' : LR w B' A' n' c' ys) :
    Calls Try.prog 38 #[.slice A n c, .slice A' n' c'] w fun e w' => e = .returned (.bool (decide (xs = ys))) ∧ Qt w w' := by
  have hlen := h.len
  have hlen' := h'.len
  replace hw := Lib.hid hw
  by_cases hnn : n = n'
  · subst hnn
    have hq : ((n : Int) != n) = false := by simp
    go_enter Try.func38, Try.ntmps38
    go_wp2
    go_loopw [5] (fun i wr => ∃ k : Nat, k ≤ n ∧ i = .int .i64 k ∧ Hid (∀ i, i < k → xs.getD i [] = ys.getD i []) ∧ Qt w wr ∧ LR wr B A n c xs ∧ LR wr B' A' n c' ys) (fun i _ => n - (intOf i).toNat)
    case atStart => exact ⟨0, Nat.zero_le _, rfl, fun i hi => absurd hi (by omega), Qt.refl w, h, h'⟩
    case round =>
      clear h h'
      obtain ⟨k, hk, rfl, hall, hs, h, h'⟩ := hrel
      by_cases hlt : k < n
      · have hZ : (k : Int) < n := by omega
        obtain ⟨b, off, A1, n1, c1, rfl, hc, l⟩ := h.at_ hlt
        obtain ⟨b', off', A2, n2, c2, rfl, hc', l'⟩ := h'.at_ hlt
        have hq1 : Hid (∀ j, Calls Try.prog 17 #[.slice A1 n1 c1, .slice A2 n2 c2] (wr.drewN j) fun e w'' => e = .returned (.bool (decide (xs.getD k [] = ys.getD k []))) ∧ ∃ m, w'' = wr.drewN m) := by
          intro j
          have hb : n1 ≤ 1099511627776 := by rw [← l.len]; exact hw.out _ (getD_mem (by omega))
          exact (eqIntS_q A1 n1 c1 _ _ A2 n2 c2 _ _ (wr.drewN j) hb (l.drewN j) (l'.drewN j)).mono fun _ _ ⟨h1, h2⟩ => ⟨h1, Qt.trans ⟨j, rfl⟩ h2⟩
        cases hvv : decide (xs.getD k [] = ys.getD k [])
        · have hfin := Lib.hid (lists_bad hvv)
          rw [hvv] at hq1
          clear hlen hlen' l l' hvv
          go_wp2_with fail
          go_quiet ((go_at_call 17; exact hq1.out _))
          go_wp2_with fail
          go_ret
          exact ⟨ret_bool hfin.out.symm, hs.drewN _⟩
        · have hstep : Hid (∀ i, i < k + 1 → xs.getD i [] = ys.getD i []) := by
            intro i hi
            by_cases e : i = k
            · subst e; simpa using hvv
            · exact hall.out i (by omega)
          rw [hvv] at hq1
          clear hlen hlen' l l' hvv
          go_wp2_with fail
          go_quiet ((go_at_call 17; exact hq1.out _))
          go_wp2_with fail
          go_roundw
          case rel => exact ⟨k + 1, by omega, by go_num, hstep, hs.drewN _, h.drewN _, h'.drewN _⟩
          case measure => simp [intOf]; omega
      · obtain rfl : n = k := by omega
        have hfin : Hid (decide (xs = ys) = true) := lists_good hlen hlen' hall.out
        clear hlen hlen'
        go_wp2
        go_ret
        exact ⟨ret_bool hfin.out.symm, hs⟩
  · have hq : ((n : Int) != n') = true := by simp; omega
    have hfin : Hid (decide (xs = ys) = false) := by
      have : ¬ xs = ys := by intro e; subst e; omega
      simpa [Hid] using this
    clear hlen hlen'
    go_enter Try.func38, Try.ntmps38
    go_wp2
    go_ret
    exact ⟨ret_bool hfin.out.symm, Qt.refl w⟩
theorem sameLists_any (A : Option Addr) (n c B : Nat) (xs : List (List Int)) (A' : Option Addr) (n' c' B' : Nat) (ys : List (List Int)) (w : World) (hn : n ≤ 1099511627776) (hw : ∀ x ∈ xs, x.length ≤ 1099511627776) (h : LR w B A n c xs) (h' : LR w B' A' n' c' ys) :
    Calls Try.prog 42 #[.slice A n c, .slice A' n' c'] w fun e w' => e = .returned (.bool (decide (xs = ys))) ∧ Qt w w' := by
  have hlen := h.len
  have hlen' := h'.len
  replace hw := Lib.hid hw
  by_cases hnn : n = n'
  · subst hnn
    have hq : ((n : Int) != n) = false := by simp
    go_enter Try.func42, Try.ntmps42
    go_wp2
    go_loopw [5] (fun i wr => ∃ k : Nat, k ≤ n ∧ i = .int .i64 k ∧ Hid (∀ i, i < k → xs.getD i [] = ys.getD i []) ∧ Qt w wr ∧ LR wr B A n c xs ∧ LR wr B' A' n c' ys) (fun i _ => n - (intOf i).toNat)
    case atStart => exact ⟨0, Nat.zero_le _, rfl, fun i hi => absurd hi (by omega), Qt.refl w, h, h'⟩
    case round =>
      clear h h'
      obtain ⟨k, hk, rfl, hall, hs, h, h'⟩ := hrel
      by_cases hlt : k < n
      · have hZ : (k : Int) < n := by omega
        obtain ⟨b, off, A1, n1, c1, rfl, hc, l⟩ := h.at_ hlt
        obtain ⟨b', off', A2, n2, c2, rfl, hc', l'⟩ := h'.at_ hlt
        have hq1 : Hid (∀ j, Calls Try.prog 26 #[.slice A1 n1 c1, .slice A2 n2 c2] (wr.drewN j) fun e w'' => e = .returned (.bool (decide (xs.getD k [] = ys.getD k []))) ∧ ∃ m, w'' = wr.drewN m) := by
          intro j
          have hb : n1 ≤ 1099511627776 := by rw [← l.len]; exact hw.out _ (getD_mem (by omega))
          exact (sameInts_q A1 n1 c1 _ _ A2 n2 c2 _ _ (wr.drewN j) hb (l.drewN j) (l'.drewN j)).mono fun _ _ ⟨h1, h2⟩ => ⟨h1, Qt.trans ⟨j, rfl⟩ h2⟩
        cases hvv : decide (xs.getD k [] = ys.getD k [])
        · have hfin := Lib.hid (lists_bad hvv)
          rw [hvv] at hq1
          clear hlen hlen' l l' hvv
          go_wp2_with fail
          go_quiet ((go_at_call 26; exact hq1.out _))
          go_wp2_with fail
          go_ret
          exact ⟨ret_bool hfin.out.symm, hs.drewN _⟩
        · have hstep : Hid (∀ i, i < k + 1 → xs.getD i [] = ys.getD i []) := by
            intro i hi
            by_cases e : i = k
            · subst e; simpa using hvv
            · exact hall.out i (by omega)
          rw [hvv] at hq1
          clear hlen hlen' l l' hvv
          go_wp2_with fail
          go_quiet ((go_at_call 26; exact hq1.out _))
          go_wp2_with fail
          go_roundw
          case rel => exact ⟨k + 1, by omega, by go_num, hstep, hs.drewN _, h.drewN _, h'.drewN _⟩
          case measure => simp [intOf]; omega
      · obtain rfl : n = k := by omega
        have hfin : Hid (decide (xs = ys) = true) := lists_good hlen hlen' hall.out
        clear hlen hlen'
        go_wp2
        go_ret
        exact ⟨ret_bool hfin.out.symm, hs⟩
  · have hq : ((n : Int) != n') = true := by simp; omega
    have hfin : Hid (decide (xs = ys) = false) := by
      have : ¬ xs = ys := by intro e; subst e; omega
      simpa [Hid] using this
    clear hlen hlen'
    go_enter Try.func42, Try.ntmps42
    go_wp2
    go_ret
    exact ⟨ret_bool hfin.out.symm, Qt.refl w⟩
theorem before_q (A : Option Addr) (n c B : Nat) (xs : List Int) (A' : Option Addr) (n' c' B' : Nat) (ys : List Int) (w : World) (hn : n ≤ 1099511627776) (h : Ls w B A n c xs) (h' : Ls w B' A' n' c' ys) :
    Calls Try.prog 43 #[.slice A n c, .slice A' n' c'] w fun e w' => e = .returned (.bool (lexB xs ys)) ∧ Qt w w' := by
  have hlen := h.len
  have hlen' := h'.len
  go_enter Try.func43, Try.ntmps43
  go_wp2
  go_loopw [5] (fun i wr => ∃ k : Nat, k ≤ n ∧ k ≤ n' ∧ i = .int .i64 k ∧ Hid (∀ i, i < k → xs.getD i 0 = ys.getD i 0) ∧ Qt w wr ∧ Ls wr B A n c xs ∧ Ls wr B' A' n' c' ys) (fun i _ => n - (intOf i).toNat)
  case atStart => exact ⟨0, Nat.zero_le _, Nat.zero_le _, rfl, fun i hi => absurd hi (by omega), Qt.refl w, h, h'⟩
  case round =>
    clear h h'
    obtain ⟨k, hk, hk', rfl, hall, hs, h, h'⟩ := hrel
    by_cases hlt : k < n
    · by_cases hlt' : k < n'
      · have hZ : (k : Int) < n := by omega
        have hZ' : (k : Int) < n' := by omega
        obtain ⟨b, off, v, rfl, hb, hc, hv⟩ := h.at_ hlt
        obtain ⟨b', off', v', rfl, hb', hc', hv'⟩ := h'.at_ hlt'
        by_cases hvv : v = v'
        · subst hvv
          have hstep : Hid (∀ i, i < k + 1 → xs.getD i 0 = ys.getD i 0) := by
            intro i hi
            by_cases e : i = k
            · subst e; rw [hv.out, hv'.out]
            · exact hall.out i (by omega)
          have hq2 : (v != v) = false := by simp
          clear hlen hlen'
          go_wp2
          go_quiet (fail)
          go_wp2
          go_roundw
          case rel => exact ⟨k + 1, by omega, by omega, by go_num, hstep, hs.drewN _, h.drewN _, h'.drewN _⟩
          case measure => simp [intOf]; omega
        · have hq2 : (v != v') = true := by simpa using hvv
          have hfin : Hid (lexB xs ys = decide (v < v')) := by
            have := lex_at (a := xs) (b := ys) (k := k) (by omega) (by omega) hall.out (by rw [hv.out, hv'.out]; exact hvv)
            rw [hv.out, hv'.out] at this
            exact this
          clear hlen hlen' h h'
          go_wp2
          go_quiet (fail)
          go_wp2_with fail
          go_quiet (fail)
          go_wp2_with fail
          go_ret
          exact ⟨ret_bool hfin.out.symm, (hs.drewN _).drewN _⟩
      · obtain rfl : k = n' := by omega
        have hfin := Lib.hid (lex_end (a := xs) (b := ys) (k := k) (by omega) (by omega) (.inr hlen'.symm) hall.out)
        rw [hlen, hlen'] at hfin
        clear hlen hlen' h h'
        go_wp2
        go_ret
        exact ⟨ret_bool (by rw [hfin.out]; try (rw [Bool.eq_iff_iff]; simp; try omega)), hs⟩
    · obtain rfl : k = n := by omega
      have hfin := Lib.hid (lex_end (a := xs) (b := ys) (k := k) (by omega) (by omega) (.inl hlen.symm) hall.out)
      rw [hlen, hlen'] at hfin
      clear hlen hlen' h h'
      go_wp2
      go_ret
      exact ⟨ret_bool (by rw [hfin.out]; try (rw [Bool.eq_iff_iff]; simp; try omega)), hs⟩
theorem l1Less_q (A : Option Addr) (n c B : Nat) (xs : List Int) (A' : Option Addr) (n' c' B' : Nat) (ys : List Int) (w : World) (hn : n ≤ 1099511627776) (h : Ls w B A n c xs) (h' : Ls w B' A' n' c' ys) :
    Calls Try.prog 92 #[.slice A n c, .slice A' n' c'] w fun e w' => e = .returned (.bool (lexB xs ys)) ∧ Qt w w' := by
  have hlen := h.len
  have hlen' := h'.len
  go_enter Try.func92, Try.ntmps92
  go_wp2
  go_loopw [5] (fun i wr => ∃ k : Nat, k ≤ n ∧ k ≤ n' ∧ i = .int .i64 k ∧ Hid (∀ i, i < k → xs.getD i 0 = ys.getD i 0) ∧ Qt w wr ∧ Ls wr B A n c xs ∧ Ls wr B' A' n' c' ys) (fun i _ => n - (intOf i).toNat)
  case atStart => exact ⟨0, Nat.zero_le _, Nat.zero_le _, rfl, fun i hi => absurd hi (by omega), Qt.refl w, h, h'⟩
  case round =>
    clear h h'
    obtain ⟨k, hk, hk', rfl, hall, hs, h, h'⟩ := hrel
    by_cases hlt : k < n
    · by_cases hlt' : k < n'
      · have hZ : (k : Int) < n := by omega
        have hZ' : (k : Int) < n' := by omega
        obtain ⟨b, off, v, rfl, hb, hc, hv⟩ := h.at_ hlt
        obtain ⟨b', off', v', rfl, hb', hc', hv'⟩ := h'.at_ hlt'
        by_cases hvv : v = v'
        · subst hvv
          have hstep : Hid (∀ i, i < k + 1 → xs.getD i 0 = ys.getD i 0) := by
            intro i hi
            by_cases e : i = k
            · subst e; rw [hv.out, hv'.out]
            · exact hall.out i (by omega)
          have hq2 : (v != v) = false := by simp
          clear hlen hlen'
          go_wp2
          go_quiet (fail)
          go_wp2
          go_roundw
          case rel => exact ⟨k + 1, by omega, by omega, by go_num, hstep, hs.drewN _, h.drewN _, h'.drewN _⟩
          case measure => simp [intOf]; omega
        · have hq2 : (v != v') = true := by simpa using hvv
          have hfin : Hid (lexB xs ys = decide (v < v')) := by
            have := lex_at (a := xs) (b := ys) (k := k) (by omega) (by omega) hall.out (by rw [hv.out, hv'.out]; exact hvv)
            rw [hv.out, hv'.out] at this
            exact this
          clear hlen hlen' h h'
          go_wp2
          go_quiet (fail)
          go_wp2_with fail
          go_quiet (fail)
          go_wp2_with fail
          go_ret
          exact ⟨ret_bool hfin.out.symm, (hs.drewN _).drewN _⟩
      · obtain rfl : k = n' := by omega
        have hfin := Lib.hid (lex_end (a := xs) (b := ys) (k := k) (by omega) (by omega) (.inr hlen'.symm) hall.out)
        rw [hlen, hlen'] at hfin
        clear hlen hlen' h h'
        go_wp2
        go_ret
        exact ⟨ret_bool (by rw [hfin.out]; try (rw [Bool.eq_iff_iff]; simp; try omega)), hs⟩
    · obtain rfl : k = n := by omega
      have hfin := Lib.hid (lex_end (a := xs) (b := ys) (k := k) (by omega) (by omega) (.inl hlen.symm) hall.out)
      rw [hlen, hlen'] at hfin
      clear hlen hlen' h h'
      go_wp2
      go_ret
      exact ⟨ret_bool (by rw [hfin.out]; try (rw [Bool.eq_iff_iff]; simp; try omega)), hs⟩
theorem l1Same_q (A : Option Addr) (n c B : Nat) (xs : List Int) (A' : Option Addr) (n' c' B' : Nat) (ys : List Int) (w : World) (hn : n ≤ 1099511627776) (h : Ls w B A n c xs) (h' : Ls w B' A' n' c' ys) :
    Calls Try.prog 93 #[.slice A n c, .slice A' n' c'] w fun e w' => e = .returned (.bool (decide (xs = ys))) ∧ Qt w w' := by
  have hlen := h.len
  have hlen' := h'.len
  go_enter Try.func93, Try.ntmps93
  go_wp2
  go_loopw [5] (fun i wr => ∃ k : Nat, k ≤ n ∧ k ≤ n' ∧ i = .int .i64 k ∧ Hid (∀ i, i < k → xs.getD i 0 = ys.getD i 0) ∧ Qt w wr ∧ Ls wr B A n c xs ∧ Ls wr B' A' n' c' ys) (fun i _ => n - (intOf i).toNat)
  case atStart => exact ⟨0, Nat.zero_le _, Nat.zero_le _, rfl, fun i hi => absurd hi (by omega), Qt.refl w, h, h'⟩
  case round =>
    clear h h'
    obtain ⟨k, hk, hk', rfl, hall, hs, h, h'⟩ := hrel
    by_cases hlt : k < n
    · by_cases hlt' : k < n'
      · have hZ : (k : Int) < n := by omega
        have hZ' : (k : Int) < n' := by omega
        obtain ⟨b, off, v, rfl, hb, hc, hv⟩ := h.at_ hlt
        obtain ⟨b', off', v', rfl, hb', hc', hv'⟩ := h'.at_ hlt'
        by_cases hvv : v = v'
        · subst hvv
          have hstep : Hid (∀ i, i < k + 1 → xs.getD i 0 = ys.getD i 0) := by
            intro i hi
            by_cases e : i = k
            · subst e; rw [hv.out, hv'.out]
            · exact hall.out i (by omega)
          have hq2 : (v != v) = false := by simp
          clear hlen hlen'
          go_wp2
          go_quiet (fail)
          go_wp2
          go_roundw
          case rel => exact ⟨k + 1, by omega, by omega, by go_num, hstep, hs.drewN _, h.drewN _, h'.drewN _⟩
          case measure => simp [intOf]; omega
        · have hq2 : (v != v') = true := by simpa using hvv
          have hfin : Hid (decide (xs = ys) = false) := by
            exact eq_bad (k := k) (by rw [hv.out, hv'.out]; exact hvv)
          clear hlen hlen' h h'
          go_wp2
          go_quiet (fail)
          go_wp2_with fail
          go_ret
          exact ⟨ret_bool hfin.out.symm, hs.drewN _⟩
      · obtain rfl : k = n' := by omega
        have hfin := Lib.hid (same_end (a := xs) (b := ys) (k := k) (by omega) (by omega) (.inr hlen'.symm) hall.out)
        rw [hlen, hlen'] at hfin
        clear hlen hlen' h h'
        go_wp2
        go_ret
        exact ⟨ret_bool (by rw [hfin.out]; try (rw [Bool.eq_iff_iff]; simp; try omega)), hs⟩
    · obtain rfl : k = n := by omega
      have hfin := Lib.hid (same_end (a := xs) (b := ys) (k := k) (by omega) (by omega) (.inl hlen.symm) hall.out)
      rw [hlen, hlen'] at hfin
      clear hlen hlen' h h'
      go_wp2
      go_ret
      exact ⟨ret_bool (by rw [hfin.out]; try (rw [Bool.eq_iff_iff]; simp; try omega)), hs⟩

/-! marks in lists of lists -/
def sumLen (xss : List (List Int)) : Nat := (xss.map List.length).sum
theorem sumLen_app (a b : List (List Int)) : sumLen (a ++ b) = sumLen a + sumLen b := by simp [sumLen]
theorem sumLen_take_le (xss : List (List Int)) (j : Nat) : sumLen (xss.take j) ≤ sumLen xss := by
  have := List.take_append_drop j xss
  calc _ ≤ sumLen (xss.take j) + sumLen (xss.drop j) := Nat.le_add_right _ _
    _ = _ := by rw [← sumLen_app, this]
theorem sumLen_succ (xss : List (List Int)) {j : Nat} (hj : j < xss.length) : sumLen (xss.take (j + 1)) = sumLen (xss.take j) + (xss.getD j []).length := by
  rw [List.take_succ_eq_append_getElem hj, sumLen_app]
  simp [sumLen, List.getD_eq_getElem?_getD, List.getElem?_eq_getElem hj]
theorem len_le_sum (xss : List (List Int)) {j : Nat} (hj : j < xss.length) : (xss.getD j []).length ≤ sumLen xss := by
  have h1 := sumLen_succ xss hj
  have h2 := sumLen_take_le xss (j + 1)
  omega
def mks : Int → List (List Int) → List (List Int)
  | _, [] => []
  | k, x :: r => marks k x.length :: mks (k + x.length) r
theorem mks_length (k : Int) (xss : List (List Int)) : (mks k xss).length = xss.length := by
  induction xss generalizing k with
  | nil => rfl
  | cons x r ih => simp [mks, ih]
theorem mks_getD : ∀ (xss : List (List Int)) (k : Int) (i : Nat), i < xss.length → (mks k xss).getD i [] = marks (k + sumLen (xss.take i)) (xss.getD i []).length := by
  intro xss
  induction xss with
  | nil => intro k i hi; simp at hi
  | cons x r ih =>
    intro k i hi
    cases i with
    | zero => simp [mks, sumLen]
    | succ i =>
      have := ih (k + x.length) i (by simpa using hi)
      simp only [List.getD_cons_succ, mks, List.take_succ_cons]
      rw [this]
      congr 1
      simp [sumLen]; omega
theorem mks_snoc (k : Int) (xss : List (List Int)) {j : Nat} (hj : j < xss.length) : (mks k (xss.take j) ++ xss.drop j).set j (marks (k + sumLen (xss.take j)) (xss.getD j []).length) = mks k (xss.take (j + 1)) ++ xss.drop (j + 1) := by
  induction xss generalizing k j with
  | nil => simp at hj
  | cons x r ih =>
    cases j with
    | zero => simp [mks, sumLen]
    | succ j =>
      have := ih (k + x.length) (j := j) (by simpa using hj)
      simp only [List.take_succ_cons, List.drop_succ_cons, mks, List.cons_append, List.set_cons_succ, List.getD_cons_succ]
      rw [← this]
      congr 3
      simp [sumLen]; omega
theorem belowMarked {w0 w w' : World} {B base n c : Nat} {A : Option Addr} {xs : List Int} (t : Below B w0 w) (hB : B ≤ base) (h : Own w base A n c xs) (hm : Marked A w w') (hs : B ≤ w.heap.size) : Below B w0 w' := by
  obtain ⟨row, hg, hr⟩ := hm
  refine Below.grown t hg hs fun k hk => ?_
  have := hr k hk
  rcases h.form with ⟨rfl, _⟩ | ⟨g, rfl, h1, _, _⟩
  · cases this
  · injection this with e; injection e with e; omega
theorem SOwn.marked {w w' : World} {base base' n c n' c' : Nat} {A A' : Option Addr} {vs : List Value} {xs : List Int} (h : SOwn w base A n c vs) (o : Own w base' A' n' c' xs) (hm : Marked A' w w') : SOwn w' base A n c vs := by
  obtain ⟨row, hg, hr⟩ := hm
  refine h.keep hg fun g hA e => ?_
  have h1 := hr g e
  obtain ⟨_, C, hC, _⟩ := h.block hA
  subst h1
  rcases o.own.2 with ⟨h2, h3⟩ | ⟨g', cap, cur, h2, _, h3, _⟩
  · injection h2 with h2; cases h2
  · injection h2 with h2; injection h2 with h2; injection h2 with h2; subst h2
    rw [hC] at h3
    simp at h3
theorem markIntSS_any (A : Option Addr) (n c base : Nat) (xss : List (List Int)) (k : Int) (w : World) (hn : n ≤ 1099511627776) (hs : sumLen xss ≤ 549755813888) (h : OO w base A n c xss) (hb : base ≤ w.heap.size) (hk0 : 0 ≤ k) (hk1 : k ≤ 549755813888) :
    Calls Try.prog 39 #[.slice A n c, .int .i64 k] w fun e w' => e = .returned (.int .i64 (k + sumLen xss)) ∧ OO w' base A n c (mks k xss) ∧ Below base w w' := by
  obtain ⟨vs, own, ows⟩ := h
  have hlx : xss.length = n := by rw [← ows.len, own.len]
  go_enter Try.func39, Try.ntmps39
  go_wp2
  go_loopw [1, 5] (fun kk i wr => ∃ j : Nat, j ≤ n ∧ i = .int .i64 j ∧ kk = .int .i64 (k + sumLen (xss.take j)) ∧ SOwn wr base A n c vs ∧ Ows wr base vs (mks k (xss.take j) ++ xss.drop j) ∧ Below base w wr) (fun _ i _ => n - (intOf i).toNat)
  case atStart => exact ⟨0, Nat.zero_le _, rfl, by simp [sumLen], own, by simpa [mks] using ows, Below.refl _ _⟩
  case round =>
    clear own ows
    obtain ⟨j, hj, rfl, rfl, own, ows, bel⟩ := hrel
    have hvl := own.len
    by_cases hlt : j < n
    · obtain ⟨b, off, rfl, _, hc⟩ := own.ls.cells (by omega)
      obtain ⟨A1, n1, c1, e1, o1⟩ := ows.at_ j (by omega)
      have hcj := hc j hlt
      rw [e1] at hcj
      have hx1 : (mks k (xss.take j) ++ xss.drop j).getD j [] = xss.getD j [] := by
        rw [getD_app, if_neg (by rw [mks_length, List.length_take]; omega), mks_length, List.length_take, getD_drop_]
        congr 1; omega
      rw [hx1] at o1
      have hl1 := o1.len
      have hle := len_le_sum xss (j := j) (by omega)
      have hsj := sumLen_take_le xss j
      have hsucc := sumLen_succ xss (j := j) (by omega)
      have hms := mks_snoc k xss (j := j) (by omega)
      rw [hl1] at hms hsucc hle
      have hmk := Lib.hid (markIntS_any A1 n1 c1 base _ (k + sumLen (xss.take j)) wr (by omega) o1 (by omega) (by omega))
      replace hsucc := Lib.hid hsucc
      replace hms := Lib.hid hms
      have hwb : base ≤ wr.heap.size := Nat.le_trans hb bel.size
      clear hc hx1 hl1 hle
      replace hvl := Lib.hid hvl
      replace hlx := Lib.hid hlx
      replace e1 := Lib.hid e1
      go_wp2_with fail
      refine hmk.out.mono ?_
      rintro e w2 ⟨rfl, o2, hm⟩
      go_wp2
      go_roundw
      case rel =>
        refine ⟨j + 1, by omega, by go_num, ?_, own.marked o1 hm, ?_, belowMarked bel (Nat.le_refl _) o1 hm hwb⟩
        · have := hsucc.out; congr 1; omega
        · rw [← hms.out]; exact ows.marked (by have := hvl.out; omega) e1.out o2 hm
      case measure => simp [intOf]; omega
    · obtain rfl : n = j := by omega
      have e1 : xss.take n = xss := by rw [← hlx]; exact List.take_length
      have e2 : xss.drop n = [] := by rw [← hlx]; exact List.drop_length
      rw [e1, e2, List.append_nil] at ows
      rw [e1]
      clear hvl hlx e1 e2
      go_wp2
      go_ret
      exact ⟨rfl, ⟨vs, own, ows⟩, bel⟩
theorem heldIntSS_any (A : Option Addr) (n c B : Nat) (xss : List (List Int)) (k : Int) (w : World) (hn : n ≤ 1099511627776) (hs : sumLen xss ≤ 549755813888) (h : LR w B A n c (mks k xss)) (hk0 : 0 ≤ k) (hk1 : k ≤ 549755813888) :
    Calls Try.prog 40 #[.slice A n c, .int .i64 k] w fun e w' => e = .returned (.int .i64 (k + sumLen xss)) ∧ w = w' := by
  have hlx : xss.length = n := by rw [← mks_length k, h.len]
  go_enter Try.func40, Try.ntmps40
  go_wp2
  go_loop [1, 5] (fun kk i => ∃ j : Nat, j ≤ n ∧ i = .int .i64 j ∧ kk = .int .i64 (k + sumLen (xss.take j))) (fun _ i => n - (intOf i).toNat)
  case atStart => exact ⟨0, Nat.zero_le _, rfl, by simp [sumLen]⟩
  case round =>
    obtain ⟨j, hj, rfl, rfl⟩ := hrel
    by_cases hlt : j < n
    · obtain ⟨b, off, A1, n1, c1, rfl, hc, l⟩ := h.at_ hlt
      rw [mks_getD _ _ _ (by omega)] at l
      have hl1 : n1 = (xss.getD j []).length := by rw [← l.len, marks_length]
      have hle := len_le_sum xss (j := j) (by omega)
      have hsj := sumLen_take_le xss j
      have hsucc := sumLen_succ xss (j := j) (by omega)
      rw [← hl1] at l hsucc hle
      have hnn : 0 ≤ k + (sumLen (xss.take j) : Int) := by omega
      have hnn2 : ¬ (k + (sumLen (xss.take j) : Int) + (n1 : Int) < 0) := by omega
      have hmk := Lib.hid (heldIntS_any A1 n1 c1 _ (k + sumLen (xss.take j)) w (by omega) l (by omega) (by omega))
      replace hsucc := Lib.hid hsucc
      replace hlx := Lib.hid hlx
      clear hl1 hle l
      go_wp2_with fail
      refine hmk.out.mono ?_
      rintro e w2 ⟨rfl, rfl⟩
      go_wp2
      go_round
      case rel => exact ⟨j + 1, by omega, by go_num, by have := hsucc.out; congr 1; omega⟩
      case measure => simp [intOf]; omega
    · obtain rfl : n = j := by omega
      have e1 : xss.take n = xss := by rw [← hlx]; exact List.take_length
      rw [e1]
      clear hlx e1
      go_wp2
      go_ret
      exact ⟨rfl, rfl⟩
end Go.Proofs.Ytlnkkjmejmhaiaa
