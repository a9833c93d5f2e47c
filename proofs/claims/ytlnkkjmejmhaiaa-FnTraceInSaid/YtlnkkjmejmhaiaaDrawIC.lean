/-
  A drawn trace of a sum or a product.
-/
import Derived.Test.YtlnkkjmejmhaiaaDrawIA
import Derived.Deep.RegionLaw
import Derived.Deep.RegionHeld3
namespace Go.Proofs.Ytlnkkjmejmhaiaa
open Go.RowKit
set_option linter.unusedVariables false
set_option maxHeartbeats 400000

theorem of_bin (s : Int) (a b : Tr) (iha : OfP a) (ihb : OfP b) : OfP (.bin s a b) := by
  intro d g off n c w0 w B p ht hsz hd hne h hp hr
  obtain ⟨hs, ha, hb⟩ := ht
  have hB := hr.lt
  have hlen := h.len
  rw [Tr.length_steps] at hlen
  simp only [Tr.size] at hlen hsz hp ⊢
  obtain ⟨j, rfl⟩ : ∃ j, n = j + 1 := ⟨n - 1, by omega⟩
  have hja : j = a.size + b.size := by omega
  have hj40 : j ≤ 40 := by omega
  have hcap := h.cap
  have hv0 : (Tr.bin s a b).steps.getD j 0 = s := by
    simp only [Tr.steps]
    rw [hja]
    simp [List.getD_eq_getElem?_getD, ← Tr.length_steps]
  have hq : 10 * (a.size + b.size + 1) * 3 ^ d = 10 * a.size * 3 ^ d + 10 * b.size * 3 ^ d + 10 * 3 ^ d := by simp [Nat.mul_add, Nat.add_mul]
  have hN : 3 * (a.size + b.size + 1) * 3 ^ d = 3 * a.size * 3 ^ d + 3 * b.size * 3 ^ d + 3 * 3 ^ d := by simp [Nat.mul_add, Nat.add_mul]
  have hbd : ∀ x, x ≤ 40 → 3 * x * 3 ^ d ≤ 1080 := by
    intro x hx
    have h9 : 3 ^ d ≤ 9 := by
      have : d = 0 ∨ d = 1 ∨ d = 2 := by omega
      rcases this with rfl | rfl | rfl <;> decide
    calc 3 * x * 3 ^ d ≤ 120 * 9 := Nat.mul_le_mul (by omega) h9
      _ = 1080 := by decide
  have hba := hbd a.size (by omega)
  have hbb := hbd b.size (by omega)
  have h3 : 1 ≤ 3 ^ d := Nat.one_le_pow _ _ (by omega)
  have hcell : ∀ w', w.grownBy w' (some B) → w'.cell? ⟨g, off + j, none⟩ = some (.int .i64 s) := fun w' hg => by
    obtain ⟨b, off', v, e', _, hc, hv⟩ := (h.grownB hg hne).at_ (k := j) (by omega)
    injection e' with e'
    injection e' with e1 e2
    subst e1 e2
    rw [hc, ← hv.out, hv0]
  have hh := Lib.hid (fun w' (hg : w.grownBy w' (some B)) => spec_l2HalvesX g off (j + 1) c s a b w' (by omega) (h.grownB hg hne) ha hb)
  have iha' := Lib.hid (fun w1 p1 (hp1 : p1 + 10 * a.size * 3 ^ d ≤ 500000) (hr1 : Rs 69 w0 w1 B p1) (hg : w.grownBy w1 (some B)) => iha d g off a.size c w0 w1 B p1 ha (by omega) hd hne (half_one (h.grownB hg hne)) hp1 hr1)
  have ihb' := Lib.hid (fun w1 p1 (hp1 : p1 + 10 * b.size * 3 ^ d ≤ 500000) (hr1 : Rs 69 w0 w1 B p1) (hg : w.grownBy w1 (some B)) => ihb d g (off + a.size) b.size (c - a.size) w0 w1 B p1 hb (by omega) hd hne (half_two (h.grownB hg hne)) hp1 hr1)
  rw [hq] at hp
  rw [hq, hN]
  generalize 10 * a.size * 3 ^ d = Qa at *
  generalize 10 * b.size * 3 ^ d = Qb at *
  generalize 3 * a.size * 3 ^ d = Na at *
  generalize 3 * b.size * 3 ^ d = Nb at *
  generalize 3 ^ d = P3 at *
  have post : Hid (∀ A1 n1 c1 (xs : List Int) p1 (w1 : World), Own w1 w.heap.size A1 n1 c1 xs → n1 % 2 = 1 → n1 ≤ Na + Nb → InR xs → p1 ≤ p + 3 + Qa + Qb → Rs 69 w0 w1 B p1 → w.grownBy w1 (some B) → DrewO w0 w B p (Qa + Qb + 10 * P3) (Na + Nb + 3 * P3) (.returned (.slice A1 n1 c1)) w1) :=
    fun A1 n1 c1 xs p1 w1 k1 k2 k3 k4 k5 k6 k7 => ⟨A1, n1, c1, xs, p1, rfl, k1, k2, by omega, k4, by omega, k6, k7⟩
  have hpQ : p + 10 + Qa + Qb ≤ 500000 := by omega
  have hpk := Lib.hid (pick_any 4 w0 w B p (by omega) hr)
  replace hcell := Lib.hid hcell
  generalize a.size = sa at *
  generalize b.size = sb at *
  subst hja
  clear hp hq hN hbd iha ihb hlen hv0 h h3 hr
  rcases hs with rfl | rfl
  · go_enter Try.func83, Try.ntmps83
    go_wp2_with fail
    refine hpk.out.mono ?_
    rintro e w1 ⟨x, rfl, x0, _, x1, hr1, hg1⟩
    have hc := hcell.out w1 hg1
    have hh1 := Lib.hid (hh.out w1 hg1)
    clear hpk x1
    go_wp2_with fail
    refine hh1.out.mono ?_
    rintro e w2 ⟨rfl, s2⟩
    have hr2 := hr1.since s2.since
    have hg2 := grown_since hg1 s2.since
    have ca := Lib.hid (iha'.out w2 (p + 1) (by omega) hr2 hg2)
    clear hh1 hc hr1 hg1 s2
    go_wp2_with fail
    refine ca.out.mono ?_
    rintro e w3 ⟨A1, n1, c1, xs, p3, rfl, o3, hodd3, hn3, hi3, hp3, hr3, hg3⟩
    have hg23 := grown_trans hg2 hg3
    have cb := Lib.hid (ihb'.out w3 p3 (by omega) hr3 hg23)
    clear ca
    go_wp2_with fail
    refine cb.out.mono ?_
    rintro e w4 ⟨A2, n2, c2, ys, p4, rfl, o4, hodd4, hn4, hi4, hp4, hr4, hg4⟩
    have hg24 := grown_trans hg23 hg4
    have o3' := (o3.lower hg2.size).over hg4 hB
    have hgl := Lib.hid (glue_any w0 w4 B p4 w.heap.size A1 n1 c1 xs A2 n2 c2 ys (by omega) hr4 hg24.size hB o3' (o4.lower hg23.size) (by omega) (by omega) (by omega) hi3 hi4)
    clear cb o3 o4 o3' hr3 hr4
    go_wp2_with fail
    refine hgl.out.mono ?_
    rintro e w5 ⟨A3, n5, c5, zs, p5, rfl, o5, hn5, hi5, hp5, hr5, hg5⟩
    go_wp2_with fail
    go_ret
    exact post.out _ _ _ _ _ _ o5 (by omega) (by omega) hi5 (by omega) hr5 (grown_trans hg24 hg5)
  · go_enter Try.func83, Try.ntmps83
    go_wp2_with fail
    refine hpk.out.mono ?_
    rintro e w1 ⟨x, rfl, x0, _, x1, hr1, hg1⟩
    have hc := hcell.out w1 hg1
    have hh1 := Lib.hid (hh.out w1 hg1)
    clear hpk x1
    go_wp2_with fail
    refine hh1.out.mono ?_
    rintro e w2 ⟨rfl, s2⟩
    have hr2 := hr1.since s2.since
    have hg2 := grown_since hg1 s2.since
    have hpk2 := Lib.hid (pick_any 2 w0 w2 B (p + 1) (by omega) hr2)
    clear hh1 hc hr1 hg1 s2
    go_wp2_with fail
    refine hpk2.out.mono ?_
    rintro e w3 ⟨m, rfl, m0, _, _, hr3, hg3⟩
    have hg23 := grown_trans hg2 hg3
    by_cases hm : m = 0
    · subst hm
      have ca := Lib.hid (iha'.out w3 (p + 1 + 1) (by omega) hr3 hg23)
      clear hpk2
      go_wp2_with fail
      refine ca.out.mono ?_
      rintro e w4 ⟨A1, n1, c1, xs, p4, rfl, o4, hodd4, hn4, hi4, hp4, hr4, hg4⟩
      go_wp2_with fail
      go_ret
      exact post.out _ _ _ _ _ _ (o4.lower hg23.size) hodd4 (by omega) hi4 (by omega) hr4 (grown_trans hg23 hg4)
    · have q0 : (m == 0) = false := by simp [hm]
      have cb := Lib.hid (ihb'.out w3 (p + 1 + 1) (by omega) hr3 hg23)
      clear hpk2
      go_wp2_with fail
      refine cb.out.mono ?_
      rintro e w4 ⟨A1, n1, c1, xs, p4, rfl, o4, hodd4, hn4, hi4, hp4, hr4, hg4⟩
      go_wp2_with fail
      go_ret
      exact post.out _ _ _ _ _ _ (o4.lower hg23.size) hodd4 (by omega) hi4 (by omega) hr4 (grown_trans hg23 hg4)
end Go.Proofs.Ytlnkkjmejmhaiaa
