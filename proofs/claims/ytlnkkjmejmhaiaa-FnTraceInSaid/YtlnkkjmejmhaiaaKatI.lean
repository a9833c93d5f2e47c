/-
  Contracts of KatIf, KatWhile and KatActs (chapter 2).
-/
import Derived.Test.YtlnkkjmejmhaiaaKatJ
namespace Go.Proofs.Ytlnkkjmejmhaiaa
open Go.RowKit
set_option linter.unusedVariables false
set_option maxHeartbeats 400000

theorem wf_test {t : Int} (h : vT t = true) : (Lit.int .i64 t).wf = true := by have := vT_iff.1 h; exact wf_small (by omega) (by omega)
theorem kIf_no1 {t : Int} (a b : List Int) (h : vT t = false) : kIf t a b = ([], false) := by simp [kIf, h]
theorem kIf_no2 {t : Int} (a b : List Int) (h : vT t = true) (h1 : (kJoin [t] a 19).2 = false) : kIf t a b = ([], false) := by rw [kIf_eq]; simp [h, h1]
theorem kIf_no3 {t : Int} (a b : List Int) (h : vT t = true) (h1 : (kJoin [t] a 19).2 = true) (h2 : (kJoin [tNot t] b 19).2 = false) : kIf t a b = ([], false) := by rw [kIf_eq]; simp [h, h1, h2]
theorem kIf_yes {t : Int} (a b : List Int) (h : vT t = true) (h1 : (kJoin [t] a 19).2 = true) (h2 : (kJoin [tNot t] b 19).2 = true) : kIf t a b = kJoin (kJoin [t] a 19).1 (kJoin [tNot t] b 19).1 20 := by rw [kIf_eq]; simp [h, h1, h2]
theorem kW_no1 {t : Int} (a : List Int) (h : vT t = false) : kWhile t a = ([], false) := by simp [kWhile, h]
theorem kW_no2 {t : Int} (a : List Int) (h : vT t = true) (h1 : (kJoin [t] a 19).2 = false) : kWhile t a = ([], false) := by rw [kWhile_eq]; simp [h, h1]
theorem kW_no3 {t : Int} (a : List Int) (h : vT t = true) (h1 : (kJoin [t] a 19).2 = true) (h2 : (kStar (kJoin [t] a 19).1).2 = false) : kWhile t a = ([], false) := by rw [kWhile_eq]; simp [h, h1, h2]
theorem kW_yes {t : Int} (a : List Int) (h : vT t = true) (h1 : (kJoin [t] a 19).2 = true) (h2 : (kStar (kJoin [t] a 19).1).2 = true) : kWhile t a = kJoin (kStar (kJoin [t] a 19).1).1 [tNot t] 19 := by rw [kWhile_eq]; simp [h, h1, h2]
theorem kJoin_len {a b : List Int} {s : Int} {n : Nat} (hn : (kJoin a b s).1.length = n) : n ≤ 40 := by
  unfold kJoin at hn
  split at hn
  · rename_i h
    simp only [Bool.and_eq_true] at h
    have := katV_len h.2
    simp at hn; omega
  · simp at hn; omega
theorem kStar_len {a : List Int} {n : Nat} (hn : (kStar a).1.length = n) : n ≤ 40 := by
  unfold kStar at hn
  split at hn
  · rename_i h
    simp only [Bool.and_eq_true] at h
    have := katV_len h.2
    simp at hn this; omega
  · simp at hn; omega

theorem kIf_len {t : Int} {a b : List Int} {n : Nat} (hn : (kIf t a b).1.length = n) : n ≤ 40 := by
  unfold kIf at hn
  split at hn
  · rename_i h
    simp only [Bool.and_eq_true] at h
    have := katV_len h.2
    simp at hn; omega
  · simp at hn; omega
theorem kWhile_len {t : Int} {a : List Int} {n : Nat} (hn : (kWhile t a).1.length = n) : n ≤ 40 := by
  unfold kWhile at hn
  split at hn
  · rename_i h
    simp only [Bool.and_eq_true] at h
    have := katV_len h.2
    simp at hn; omega
  · simp at hn; omega

theorem kIf_no4 {t : Int} {a : List Int} (b : List Int) (h : katV a = false) : kIf t a b = ([], false) := by simp [kIf, h]
theorem kIf_no5 {t : Int} (a : List Int) {b : List Int} (h : katV b = false) : kIf t a b = ([], false) := by simp [kIf, h]
theorem kIf_no6 {t : Int} {a b : List Int} (h : katV (jn (jn [t] a 19) (jn [tNot t] b 19) 20) = false) : kIf t a b = ([], false) := by simp [kIf, h]
theorem kIf_yes2 {t : Int} {a b : List Int} (h : vT t = true) (h1 : katV a = true) (h2 : katV b = true) (h3 : katV (jn (jn [t] a 19) (jn [tNot t] b 19) 20) = true) : kIf t a b = (jn (jn [t] a 19) (jn [tNot t] b 19) 20, true) := by simp [kIf, h, h1, h2, h3]
theorem kW_no4 {t : Int} {a : List Int} (h : katV a = false) : kWhile t a = ([], false) := by simp [kWhile, h]
theorem kW_no6 {t : Int} {a : List Int} (h : katV (jn (jn [t] a 19 ++ [21]) [tNot t] 19) = false) : kWhile t a = ([], false) := by simp [kWhile, h]
theorem kW_yes2 {t : Int} {a : List Int} (h : vT t = true) (h1 : katV a = true) (h3 : katV (jn (jn [t] a 19 ++ [21]) [tNot t] 19) = true) : kWhile t a = (jn (jn [t] a 19 ++ [21]) [tNot t] 19, true) := by simp [kWhile, h, h1, h3]
theorem impl_KatActs (A : Option Addr) (n c B : Nat) (xs : List Int) (w : World) (hn : n ≤ 1099511627776) (h : Ls w B A n c xs) :
    Calls Try.prog 21 #[.slice A n c] w fun e w' => e = .returned (.int .i64 (kActs xs)) ∧ w = w' := by
  have hlen := h.len
  cases hva : katV xs
  · have hk : Hid (kActs xs = -1) := by simp [Hid, kActs, hva]
    clear hlen
    go_enter Try.func21, Try.ntmps21
    go_wp2_with (go_at_call 23; refine (impl_KatValid _ _ _ _ _ _ h).mono ?_; rintro e w' ⟨rfl, rfl⟩)
    go_ret
    exact ⟨ret_int hk.out.symm, rfl⟩
  · have hk : Hid (kActs xs = (acts xs : Int)) := by simp [Hid, kActs, hva]
    have hVA := Lib.hid hva
    clear hva
    go_enter Try.func21, Try.ntmps21
    go_wp2_with fail
    refine (impl_KatValid _ _ _ _ _ _ h).mono ?_
    rintro e w' ⟨rfl, rfl⟩
    rw [hVA.out]
    go_wp2_with fail
    go_loop [3, 11] (fun m i => ∃ k : Nat, k ≤ n ∧ i = .int .i64 k ∧ m = .int .i64 (acts (xs.take k))) (fun _ i => n - (intOf i).toNat)
    case atStart => exact ⟨0, Nat.zero_le _, rfl, rfl⟩
    case round =>
      obtain ⟨k, hk', rfl, rfl⟩ := hrel
      have hle : acts (xs.take k) ≤ k := Nat.le_trans (acts_le _) (List.length_take_le _ _)
      by_cases hlt : k < n
      · obtain ⟨b, off, v, rfl, hb, hc, hv⟩ := h.at_ hlt
        have hyes := acts_yes (xs := xs) (k := k) (by omega) hv.out
        have hno := acts_no (xs := xs) (k := k) (by omega) hv.out
        clear hlen h
        generalize hq : acts (xs.take k) = q at *
        by_cases h16 : 16 ≤ v ∧ v ≤ 18
        · have hr : inR v 16 18 = true := inR_true h16.1 h16.2
          have hf := Lib.hid (hyes h16)
          clear hyes hno h16 hq
          go_wp2_with (go_at_call 56; refine (impl_isAct _ _).mono ?_; rintro e w' ⟨rfl, rfl⟩)
          go_round
          case rel => exact ⟨k + 1, by omega, by go_num, by rw [hf.out]; go_num⟩
          case measure => simp [intOf]; omega
        · have hr : inR v 16 18 = false := by simp [inR]; omega
          have hf := Lib.hid (hno h16)
          clear hyes hno h16 hq
          go_wp2_with (go_at_call 56; refine (impl_isAct _ _).mono ?_; rintro e w' ⟨rfl, rfl⟩)
          go_round
          case rel => exact ⟨k + 1, by omega, by go_num, by rw [hf.out]⟩
          case measure => simp [intOf]; omega
      · obtain rfl : n = k := by omega
        have ht : Hid (xs.take n = xs) := List.take_of_length_le (by omega)
        clear h hlen
        go_wp2
        go_ret
        exact ⟨ret_int (by rw [hk.out, ht.out]), rfl⟩
theorem spec_KatActs (A : Option Addr) (n c B : Nat) (xs : List Int) (w : World) (hn : n ≤ 1099511627776) (h : Ls w B A n c xs) :
    Calls Try.prog 22 #[.slice A n c] w fun e w' => e = .returned (.int .i64 (kActs xs)) ∧ w = w' := by
  have hlen := h.len
  cases hva : katV xs
  · have hk : Hid (kActs xs = -1) := by simp [Hid, kActs, hva]
    clear hlen
    go_enter Try.func22, Try.ntmps22
    go_wp2_with (go_at_call 27; refine (spec_KatValid _ _ _ _ _ _ hn h).mono ?_; rintro e w' ⟨rfl, rfl⟩)
    go_ret
    exact ⟨ret_int hk.out.symm, rfl⟩
  · have hk : Hid (kActs xs = (acts xs : Int)) := by simp [Hid, kActs, hva]
    have hVA := Lib.hid hva
    clear hva
    go_enter Try.func22, Try.ntmps22
    go_wp2_with fail
    refine (spec_KatValid _ _ _ _ _ _ hn h).mono ?_
    rintro e w' ⟨rfl, rfl⟩
    rw [hVA.out]
    go_wp2_with fail
    go_loop [3, 4] (fun m i => ∃ k : Nat, k ≤ n ∧ i = .int .i64 k ∧ m = .int .i64 (acts (xs.take k))) (fun _ i => n - (intOf i).toNat)
    case atStart => exact ⟨0, Nat.zero_le _, rfl, rfl⟩
    case round =>
      obtain ⟨k, hk', rfl, rfl⟩ := hrel
      have hle : acts (xs.take k) ≤ k := Nat.le_trans (acts_le _) (List.length_take_le _ _)
      by_cases hlt : k < n
      · obtain ⟨b, off, v, rfl, hb, hc, hv⟩ := h.at_ hlt
        have hyes := acts_yes (xs := xs) (k := k) (by omega) hv.out
        have hno := acts_no (xs := xs) (k := k) (by omega) hv.out
        clear hlen h
        generalize hq : acts (xs.take k) = q at *
        by_cases h16 : 16 ≤ v ∧ v ≤ 18
        · have hr : inR v 16 18 = true := inR_true h16.1 h16.2
          have hf := Lib.hid (hyes h16)
          clear hyes hno h16 hq
          go_wp2_with (go_at_call 57; refine (spec_l1In _ _ _ _).mono ?_; rintro e w' ⟨rfl, rfl⟩)
          go_round
          case rel => exact ⟨k + 1, by omega, by go_num, by rw [hf.out]; go_num⟩
          case measure => simp [intOf]; omega
        · have hr : inR v 16 18 = false := by simp [inR]; omega
          have hf := Lib.hid (hno h16)
          clear hyes hno h16 hq
          go_wp2_with (go_at_call 57; refine (spec_l1In _ _ _ _).mono ?_; rintro e w' ⟨rfl, rfl⟩)
          go_round
          case rel => exact ⟨k + 1, by omega, by go_num, by rw [hf.out]⟩
          case measure => simp [intOf]; omega
      · obtain rfl : n = k := by omega
        have ht : Hid (xs.take n = xs) := List.take_of_length_le (by omega)
        clear h hlen
        go_wp2
        go_ret
        exact ⟨ret_int (by rw [hk.out, ht.out]), rfl⟩
end Go.Proofs.Ytlnkkjmejmhaiaa
