/-
  What a drawn trace of an expression leaves; a leaf.
-/
import Derived.Test.YtlnkkjmejmhaiaaDrawI
import Derived.Deep.RegionLaw
import Derived.Deep.RegionHeld3
namespace Go.Proofs.Ytlnkkjmejmhaiaa
open Go.RowKit
set_option linter.unusedVariables false
set_option maxHeartbeats 400000

/-- What a drawn trace of an expression leaves: an odd number of numbers. -/
def DrewO (w0 w : World) (B p q N : Nat) (e : Ending) (w' : World) : Prop :=
  ∃ A n c xs p', e = .returned (.slice A n c) ∧ Own w' w.heap.size A n c xs ∧ n % 2 = 1 ∧ n ≤ N ∧ InR xs ∧ p' ≤ p + q ∧ Rs 69 w0 w' B p' ∧ w.grownBy w' (some B)
def OfP (t : Tr) : Prop :=
  ∀ (d : Nat) (g off n c : Nat) (w0 w : World) (B p : Nat), t.ok → t.size ≤ 40 → d ≤ 2 → g ≠ B → Ls w w.heap.size (some ⟨g, off, none⟩) n c t.steps → p + 10 * t.size * 3 ^ d ≤ 500000 → Rs 69 w0 w B p →
    Calls Try.prog 83 #[.pointer (some ⟨B, 0, none⟩), .slice (some ⟨g, off, none⟩) n c, .int .i64 d] w (DrewO w0 w B p (10 * t.size * 3 ^ d) (3 * t.size * 3 ^ d))
theorem of_leaf (s : Int) : OfP (.leaf s) := by
  intro d g off n c w0 w B p ht hsz hd hne h hp hr
  obtain ⟨h0, h18⟩ := ht
  have hB := hr.lt
  have hlen := h.len
  simp only [Tr.steps, List.length_singleton] at hlen
  obtain rfl : 1 = n := hlen
  have h3 : 1 ≤ 3 ^ d := Nat.one_le_pow _ _ (by omega)
  simp only [Tr.size, Nat.mul_one] at hp ⊢
  have hws := wf_small (x := s) (by omega) (by omega)
  have hpk := Lib.hid (pick_any 4 w0 w B p (by omega) hr)
  have hnn : Hid (3 ≤ 3 * 3 ^ d ∧ 2 ≤ 10 * 3 ^ d) := by show _ ∧ _; omega
  have hp2 : p ≤ 499990 := by omega
  have fin : Hid (∀ A1 n1 c1 (xs : List Int) p1 (w1 : World), Own w1 w.heap.size A1 n1 c1 xs → n1 % 2 = 1 → n1 ≤ 3 → InR xs → p1 ≤ p + 2 → Rs 69 w0 w1 B p1 → w.grownBy w1 (some B) → DrewO w0 w B p (10 * 3 ^ d) (3 * 3 ^ d) (.returned (.slice A1 n1 c1)) w1) :=
    fun A1 n1 c1 xs p1 w1 k1 k2 k3 k4 k5 k6 k7 => ⟨A1, n1, c1, xs, p1, rfl, k1, k2, by have := hnn.out; omega, k4, by have := hnn.out; omega, k6, k7⟩
  clear hr hp h3
  by_cases h15 : s ≤ 15
  · go_enter Try.func83, Try.ntmps83
    go_wp2_with fail
    refine hpk.out.mono ?_
    rintro e w1 ⟨a, rfl, a0, _, a1, hr1, hg1⟩
    obtain ⟨b, off', v, e', _, hc, hv⟩ := (h.grownB hg1 hne).at_ (k := 0) (by omega)
    injection e' with e'
    injection e' with e1 e2
    subst e1 e2
    obtain rfl : s = v := hv.out
    simp only [Nat.add_zero] at hc
    have ha3 := a1 (by omega)
    obtain ⟨a, rfl⟩ := Int.eq_ofNat_of_zero_le a0
    clear hpk h hv a1 a0
    go_wp2_with fail
    go_loop [8, 9] (fun av kv => ∃ (a k : Nat), a ≤ 3 ∧ k ≤ 4 ∧ av = .int .i64 a ∧ kv = .int .i64 k) (fun _ kv => 4 - (intOf kv).toNat)
    case atStart => exact ⟨a, 0, by omega, by omega, rfl, rfl⟩
    case round =>
      obtain ⟨a, k, ha, hk, rfl, rfl⟩ := hrel
      have hwa := wf_small (x := (a : Int)) (by omega) (by omega)
      have hbit := Lib.hid (spec_l1Bit s a h0 h15 (by omega) (by omega))
      by_cases hlt : k < 4
      · by_cases hb0 : bitI s a = 0
        · rw [hb0] at hbit
          have hr4 : ((a : Int) + 1).tmod 4 = (((a + 1) % 4 : Nat) : Int) := by
            rw [Int.tmod_eq_emod_of_nonneg (by omega)]; omega
          have ham : (a + 1) % 4 ≤ 3 := by omega
          clear hb0
          go_wp2_with (go_at_call 80; refine (hbit.out _).mono ?_; rintro e w' ⟨rfl, rfl⟩)
          go_round
          case rel => exact ⟨(a + 1) % 4, k + 1, ham, by omega, rfl, by go_num⟩
          case measure => simp [intOf]; omega
        · have hb1 : bitI s a = 1 := by have := bitI_01 s a; omega
          rw [hb1] at hbit
          clear hb0 hb1
          go_wp2_with (go_at_call 80; refine (hbit.out _).mono ?_; rintro e w' ⟨rfl, rfl⟩)
          go_ret
          exact fin.out _ _ _ _ (p + 1) _ ((Own.lit w1 a hwa).lower hg1.size) rfl (by omega) (InR.one (by omega) (by omega)) (by omega) (hr1.since ((Since.refl _).alloc _)) (grown_alloc hg1 _)
      · obtain rfl : k = 4 := by omega
        go_wp2_with fail
        go_ret
        exact fin.out _ _ _ _ (p + 1) _ ((Own.lit w1 a hwa).lower hg1.size) rfl (by omega) (InR.one (by omega) (by omega)) (by omega) (hr1.since ((Since.refl _).alloc _)) (grown_alloc hg1 _)
  · go_enter Try.func83, Try.ntmps83
    go_wp2_with fail
    refine hpk.out.mono ?_
    rintro e w1 ⟨a, rfl, a0, _, a1, hr1, hg1⟩
    have l1 := h.grownB hg1 hne
    obtain ⟨b, off', v, e', hbb, hc, hv⟩ := l1.at_ (k := 0) (by omega)
    injection e' with e'
    injection e' with e1 e2
    subst e1 e2
    obtain rfl : s = v := hv.out
    simp only [Nat.add_zero] at hc
    have ha3 := a1 (by omega)
    have hwa := wf_small (x := a) (by omega) (by omega)
    have hpk2 := Lib.hid (pick_any 4 w0 w1.drew B (p + 1) (by omega) (hr1.grown (grown_drew (grown_refl _ _))))
    clear hpk h hv a1
    go_wp2_with fail
    go_region_held3 (fun w' => w'.cell? ⟨g, off, none⟩ = some (.int .i64 s)) (go_keep) (first | (go_at_call 73; refine hpk2.out.mono ?_; rintro e w2 ⟨u, rfl, u0, _, u1, hr2, hg2⟩; have q1 : w2.cell? ⟨g, off, none⟩ = some (.int .i64 s) := by rw [← hc]; have := hg2.block g hbb (by simpa using hne); simp only [World.cell?, this]; rfl))
    have hu3 := u1 (by omega)
    have hwu := wf_small (x := u) (by omega) (by omega)
    have hG := grown_trans (grown_drew hg1) hg2
    clear u1
    go_wp2_with fail
    go_ret
    exact fin.out _ _ _ _ (p + 1 + 1) _ ((own_three w2 a s u hwa hws hwu).lower hG.size) rfl (by omega) (InR.cons (by omega) (by omega) (InR.two (by omega) (by omega) (by omega) (by omega))) (by omega) (hr2.since ((Since.refl _).alloc _)) (grown_alloc hG _)
end Go.Proofs.Ytlnkkjmejmhaiaa
