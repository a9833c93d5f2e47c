/-
  A drawn trace of a star.
-/
import Derived.Test.YtlnkkjmejmhaiaaDrawIA
import Derived.Deep.RegionLaw
import Derived.Deep.RegionHeld3
namespace Go.Proofs.Ytlnkkjmejmhaiaa
open Go.RowKit
set_option linter.unusedVariables false
set_option maxHeartbeats 400000

theorem of_star (a : Tr) (ih : OfP a) : OfP (.star a) := by
  intro d g off n c w0 w B p ht hsz hd hne h hp hr
  have ha : a.ok := ht
  have hB := hr.lt
  have hlen := h.len
  rw [Tr.length_steps] at hlen
  simp only [Tr.size] at hlen hsz hp ⊢
  obtain ⟨j, rfl⟩ : ∃ j, n = j + 1 := ⟨n - 1, by omega⟩
  have hja : j = a.size := by omega
  have hj40 : j ≤ 40 := by omega
  have hapos := a.size_pos
  have hcap := h.cap
  have hjc : (j : Int) ≤ c := by omega
  have h3 : 1 ≤ 3 ^ d := Nat.one_le_pow _ _ (by omega)
  have hv0 : (Tr.star a).steps.getD j 0 = 21 := by
    simp only [Tr.steps]
    rw [hja]
    simp [List.getD_eq_getElem?_getD, ← Tr.length_steps]
  have ha1 : ∀ w', w.grownBy w' (some B) → Ls w' w'.heap.size (some ⟨g, off, none⟩) j c a.steps := fun w' hg => by
    have := (h.grownB hg hne).take (k := j) (by omega)
    simp only [Tr.steps] at this
    rw [List.take_append_of_le_length (by rw [Tr.length_steps]; omega), List.take_of_length_le (by rw [Tr.length_steps]; omega)] at this
    exact this
  have hcell : ∀ w', w.grownBy w' (some B) → w'.cell? ⟨g, off + j, none⟩ = some (.int .i64 21) := fun w' hg => by
    obtain ⟨b, off', v, e', _, hc, hv⟩ := (h.grownB hg hne).at_ (k := j) (by omega)
    injection e' with e'
    injection e' with e1 e2
    subst e1 e2
    rw [hc, ← hv.out, hv0]
  replace ha1 := Lib.hid ha1
  replace hcell := Lib.hid hcell
  have hp1 : p + 10 * 3 ^ d ≤ 500000 := by
    have : 10 * (a.size + 1) * 3 ^ d = 10 * a.size * 3 ^ d + 10 * 3 ^ d := by simp [Nat.mul_add, Nat.add_mul]
    omega
  have hpk := Lib.hid (pick_any 4 w0 w B p (by omega) hr)
  subst hja
  clear hlen hv0 h
  cases d with
  | zero =>
    have hnn : Hid (1 ≤ 3 * (a.size + 1) * 3 ^ 0 ∧ 2 ≤ 10 * (a.size + 1) * 3 ^ 0) := by show _ ∧ _; omega
    clear ih hp h3
    go_enter Try.func83, Try.ntmps83
    go_wp2_with fail
    refine hpk.out.mono ?_
    rintro e w1 ⟨x, rfl, x0, _, x1, hr1, hg1⟩
    have hc := hcell.out w1 hg1
    have hx3 := x1 (by omega)
    have hwx := wf_small (x := x) (by omega) (by omega)
    have o1 := (Own.lit w1 x hwx).lower hg1.size
    have hr2 := hr1.since ((Since.refl _).alloc (.cells #[.int .i64 x] 3))
    have hg2 := grown_alloc hg1 (.cells #[.int .i64 x] 3)
    have hpk2 := Lib.hid (pick_any 3 w0 _ B (p + 1) (by omega) hr2)
    clear hpk x1 hr1 hg1
    go_wp2_with fail
    refine hpk2.out.mono ?_
    rintro e w2 ⟨k, rfl, k0, _, k1, hr3, hg3⟩
    have o2 := o1.over hg3 hB
    have hk2 := k1 (by omega)
    clear hpk2 k1
    go_wp2_with fail
    go_loop [14, 15] (fun out kv => out = .slice (some ⟨w1.heap.size, 0, none⟩) 1 1 ∧ ∃ k : Nat, k ≤ 2 ∧ kv = .int .i64 k) (fun _ _ => 0)
    case atStart => exact ⟨rfl, k.toNat, by omega, by congr 1; omega⟩
    case round =>
      obtain ⟨rfl, k, hk, rfl⟩ := hrel
      go_wp2
      all_goals go_ret
      all_goals exact ⟨_, _, _, _, p + 1 + 1, rfl, o2, rfl, by omega, InR.one (by omega) (by omega), by omega, hr3, grown_trans hg2 hg3⟩
  | succ d =>
    have hpow : 3 ^ (d + 1) = 3 * 3 ^ d := by rw [Nat.pow_succ]; omega
    have hq : 10 * (a.size + 1) * 3 ^ (d + 1) = 3 * (10 * a.size * 3 ^ d) + 3 * (10 * 3 ^ d) := by
      rw [hpow, Nat.mul_left_comm, show 10 * (a.size + 1) = 10 * a.size + 10 by omega, Nat.add_mul, Nat.mul_add]
    have hN : 3 * (a.size + 1) * 3 ^ (d + 1) = 3 * (3 * a.size * 3 ^ d) + 3 * (3 * 3 ^ d) := by
      rw [hpow, Nat.mul_left_comm, show 3 * (a.size + 1) = 3 * a.size + 3 by omega, Nat.add_mul, Nat.mul_add]
    have h3d : 1 ≤ 3 ^ d := Nat.one_le_pow _ _ (by omega)
    have hNb : 3 * a.size * 3 ^ d ≤ 1000 := by
      have : 3 ^ d ≤ 9 := by
        have : d = 0 ∨ d = 1 := by omega
        rcases this with rfl | rfl <;> decide
      calc 3 * a.size * 3 ^ d ≤ 120 * 9 - 80 := by
            have := Nat.mul_le_mul (show 3 * a.size ≤ 117 by omega) (show 3 ^ d ≤ 3 by
              have : d = 0 ∨ d = 1 := by omega
              rcases this with rfl | rfl <;> decide)
            omega
        _ ≤ 1000 := by omega
    have ih' := fun w1 p1 (hp1 : p1 + 10 * a.size * 3 ^ d ≤ 500000) (hr1 : Rs 69 w0 w1 B p1) (hl : Ls w1 w1.heap.size (some ⟨g, off, none⟩) a.size c a.steps) => ih d g off a.size c w0 w1 B p1 ha (by omega) (by omega) hne hl hp1 hr1
    replace ih' := Lib.hid ih'
    rw [hq] at hp
    rw [hq, hN]
    generalize 10 * a.size * 3 ^ d = Q at *
    generalize 3 * a.size * 3 ^ d = NN at *
    generalize 3 ^ d = P3 at *
    have hdz : (0 : Int) < (d : Int) + 1 := by omega
    have post : Hid (∀ A1 n1 c1 (xs : List Int) p1 (w1 : World), Own w1 w.heap.size A1 n1 c1 xs → n1 % 2 = 1 → n1 ≤ 1 + 2 * NN → InR xs → p1 ≤ p + 2 + 2 * (Q + 1) → Rs 69 w0 w1 B p1 → w.grownBy w1 (some B) → DrewO w0 w B p (3 * Q + 3 * (10 * P3)) (3 * NN + 3 * (3 * P3)) (.returned (.slice A1 n1 c1)) w1) :=
      fun A1 n1 c1 xs p1 w1 k1 k2 k3 k4 k5 k6 k7 => ⟨A1, n1, c1, xs, p1, rfl, k1, k2, by omega, k4, by omega, k6, k7⟩
    have hpQ : p + 2 + 2 * (Q + 1) + Q ≤ 500000 := by omega
    clear ih h3 hp1 hp hq hN h3d hpow
    go_enter Try.func83, Try.ntmps83
    go_wp2_with fail
    refine hpk.out.mono ?_
    rintro e w1 ⟨x, rfl, x0, _, x1, hr1, hg1⟩
    have hc := hcell.out w1 hg1
    have hx3 := x1 (by omega)
    have hwx := wf_small (x := x) (by omega) (by omega)
    have o1 := (Own.lit w1 x hwx).lower hg1.size
    have hr2 := hr1.since ((Since.refl _).alloc (.cells #[.int .i64 x] 3))
    have hg2 := grown_alloc hg1 (.cells #[.int .i64 x] 3)
    have hpk2 := Lib.hid (pick_any 3 w0 _ B (p + 1) (by omega) hr2)
    clear hpk x1 hr1 hg1
    go_wp2_with fail
    refine hpk2.out.mono ?_
    rintro e w2 ⟨k, rfl, k0, _, k1, hr3, hg3⟩
    have o2 := o1.over hg3 hB
    have hG := grown_trans hg2 hg3
    have hk2 := k1 (by omega)
    obtain ⟨k, rfl⟩ := Int.eq_ofNat_of_zero_le k0
    clear hpk2 k1 o1 hr2 hg2 hg3 hc
    go_wp2_with fail
    go_loopw [14, 15] (fun out kv wr => ∃ A1 n1 c1 xs k p1, out = .slice A1 n1 c1 ∧ kv = .int .i64 (k : Nat) ∧ Own wr w.heap.size A1 n1 c1 xs ∧ n1 % 2 = 1 ∧ k ≤ 2 ∧ n1 ≤ 1 + (2 - k) * NN ∧ InR xs ∧ p1 ≤ p + 2 + (2 - k) * (Q + 1) ∧ Rs 69 w0 wr B p1 ∧ w.grownBy wr (some B)) (fun _ kv _ => (intOf kv).toNat)
    case atStart => exact ⟨_, 1, 1, [x], k, p + 1 + 1, rfl, rfl, o2, rfl, by omega, by omega, InR.one (by omega) (by omega), by omega, hr3, hG⟩
    case round =>
      clear o2 hr3 hG
      obtain ⟨A1, n1, c1, xs, k, p1, rfl, rfl, o1, hodd, hk, hn1, hi, hpp, hr, hG⟩ := hrel
      have hk3 : k = 0 ∨ k = 1 ∨ k = 2 := by omega
      by_cases hlt : 0 < k
      · obtain ⟨k, rfl⟩ : ∃ q, k = q + 1 := ⟨k - 1, by omega⟩
        have hk4 : k = 0 ∨ k = 1 := by omega
        have hpp2 : p1 + Q ≤ 500000 := by
          rcases hk4 with rfl | rfl
          · simp at hpp; omega
          · simp at hpp; omega
        have hcall := Lib.hid (ih'.out wr p1 hpp2 hr (ha1.out wr hG))
        have hkz : (0 : Int) < (k : Int) + 1 := by omega
        go_wp2_with fail
        refine hcall.out.mono ?_
        rintro e w3 ⟨A2, n2, c2, ys, p2, rfl, o2, hodd2, hn2, hi2, hp2, hr2, hg2⟩
        have o1' := o1.over hg2 hB
        have hG2 := grown_trans hG hg2
        have hn1b : n1 ≤ 1000000 := by
          rcases hk4 with rfl | rfl
          · simp at hn1; omega
          · simp at hn1; omega
        have hgl := Lib.hid (glue_any w0 w3 B p2 w.heap.size A1 n1 c1 xs A2 n2 c2 ys (by omega) hr2 hG2.size hB o1' (o2.lower hG.size) (by omega) hn1b (by omega) hi hi2)
        clear hcall o1 o2 o1' hr hr2 hg2
        go_wp2_with fail
        refine hgl.out.mono ?_
        rintro e w4 ⟨A3, n3, c3, zs, p3, rfl, o3, hn3, hi3, hp3, hr3, hg3⟩
        go_wp2_with fail
        go_roundw
        case rel =>
          refine ⟨A3, n3, c3, zs, k, p3, rfl, by go_num, o3, by omega, by omega, ?_, hi3, ?_, hr3, grown_trans hG2 hg3⟩
          · rcases hk4 with rfl | rfl
            · simp at hn1 ⊢; omega
            · simp at hn1 ⊢; omega
          · rcases hk4 with rfl | rfl
            · simp at hpp ⊢; omega
            · simp at hpp ⊢; omega
        case measure => simp [intOf]
      · obtain rfl : k = 0 := by omega
        go_wp2_with fail
        go_ret
        exact post.out _ _ _ _ _ _ o1 hodd (by simp at hn1; omega) hi (by simp at hpp; omega) hr hG
end Go.Proofs.Ytlnkkjmejmhaiaa
