/-
  A drawn trace of an expression.
-/
import Derived.Test.YtlnkkjmejmhaiaaDrawIB
import Derived.Test.YtlnkkjmejmhaiaaDrawIC
import Derived.Deep.RegionLaw
import Derived.Deep.RegionHeld3
namespace Go.Proofs.Ytlnkkjmejmhaiaa
open Go.RowKit
set_option linter.unusedVariables false
set_option maxHeartbeats 400000

theorem of_any (t : Tr) : OfP t := by
  induction t with
  | leaf s => exact of_leaf s
  | star a ih => exact of_star a ih
  | bin s a b iha ihb => exact of_bin s a b iha ihb
/-- What a draw of an expression and a trace leaves. -/
def DrewET (w : World) (e : Ending) (w' : World) : Prop := ∃ A n c xs A' n' c' ys, e = .returned (.tuple #[.slice A n c, .slice A' n' c']) ∧ Own w' w.heap.size A n c xs ∧ n ≤ 41 ∧ Own w' w.heap.size A' n' c' ys ∧ n' ≤ 43 ∧ Since w w'
theorem told_any (parts : Int) (h0 : 0 ≤ parts) (h1 : parts ≤ 90) (w0 w : World) (hr : Rs 69 w0 w w0.heap.size 0) :
    Calls Try.prog 66 #[.pointer (some ⟨w0.heap.size, 0, none⟩), .int .i64 parts] w (DrewET w0) := by
  have hB := hr.lt
  have hb0 : w0.heap.size ≤ w.heap.size := hr.below.size
  go_enter Try.func66, Try.ntmps66
  go_wp2_with fail
  refine (kat_any parts 12 h0 h1 (by omega) w0 w _ 0 (by omega) hr).mono ?_
  rintro e w1 ⟨A, n, c, xs, p1, rfl, o1, hn1, hi1, hp1, hr1, hg1⟩
  have hkv := Lib.hid (spec_KatValid A n c _ xs w1 (by omega) o1.ls)
  have hxl := Lib.hid o1.len
  clear hr
  cases hk : katV xs
  · rw [hk] at hkv
    clear hk
    go_wp2_with (go_at_call 27; refine hkv.out.mono ?_; rintro e w' ⟨rfl, rfl⟩)
    refine (trace_any 3 12 (by omega) (by omega) (by omega) w0 w1 _ p1 (by omega) hr1).mono ?_
    rintro e w2 ⟨A2, n2, c2, ys, p2, rfl, o2, hn2, hi2, hp2, hr2, hg2⟩
    have hbel : Since w0 w2 := hr2.below
    have o1' := (o1.over hg2 hB).lower hb0
    have o2' := o2.lower (show w0.heap.size ≤ w1.heap.size from hr1.below.size)
    clear hr1 hr2 o1 o2 hg2
    go_wp2_with fail
    go_ret2
    exact ⟨_, _, _, _, _, _, _, _, rfl, o1', hn1, o2', hn2, hbel⟩
  · rw [hk] at hkv
    have hpk := Lib.hid (pick_any 3 w0 w1 _ p1 (by omega) hr1)
    go_wp2_with (go_at_call 27; refine hkv.out.mono ?_; rintro e w' ⟨rfl, rfl⟩)
    refine hpk.out.mono ?_
    rintro e w2 ⟨m, rfl, m0, _, _, hr2, hg2⟩
    have o1' := o1.over hg2 hB
    clear hpk o1 hr1
    by_cases hm : m = 0
    · subst hm
      clear hk
      go_wp2_with fail
      refine (trace_any 3 12 (by omega) (by omega) (by omega) w0 w2 _ _ (by omega) hr2).mono ?_
      rintro e w3 ⟨A2, n2, c2, ys, p2, rfl, o2, hn2, hi2, hp2, hr3, hg3⟩
      have hbel : Since w0 w3 := hr3.below
      have o1'' := (o1'.over hg3 hB).lower hb0
      have o2' := o2.lower (show w0.heap.size ≤ w2.heap.size from hr2.below.size)
      clear hr2 hr3 o1' o2 hg3
      go_wp2_with fail
      go_ret2
      exact ⟨_, _, _, _, _, _, _, _, rfl, o1'', hn1, o2', hn2, hbel⟩
    · have q0 : (m == 0) = false := by simp [hm]
      obtain ⟨t, ht, rfl, hs⟩ := katV_tree hk
      rcases o1'.form with ⟨_, hn0, _⟩ | ⟨g, rfl, hg1', hg2', _⟩
      · have := (katV_len hk).1
        have := hxl.out
        omega
      · have hQ : 10 * t.size * 3 ^ 2 ≤ 3600 := by omega
        have hof := Lib.hid (of_any t 2 g 0 n c w0 w2 w0.heap.size (p1 + 1) ht hs (by omega) (by omega) o1'.ls (by omega) hr2)
        have hb2 : w0.heap.size ≤ w2.heap.size := hr2.below.size
        have hlt2 : w0.heap.size < w2.heap.size := hr2.lt
        clear hk hr2 hxl
        go_wp2_with fail
        refine hof.out.mono ?_
        rintro e w3 ⟨A2, n2, c2, ys, p3, rfl, o2, hodd, hn2, hi2, hp3, hr3, hg3⟩
        have o1'' := o1'.over hg3 hB
        have ap : ∀ g2, A2 = some ⟨g2, 0, none⟩ → g2 ≠ g := fun g2 hA2 => by
          rcases o2.form with ⟨rfl, _⟩ | ⟨g3, rfl, hg3', _⟩
          · cases hA2
          · injection hA2 with e; injection e with e; omega
        replace ap := Lib.hid ap
        clear hof o1'
        have hn2b : n2 ≤ 1080 := by omega
        have hc2 : n2 ≤ c2 := o2.ls.cap
        -- the trace, cut
        obtain ⟨n4, hn4, o4, hcut⟩ : ∃ n4, n4 % 2 = 1 ∧ (Own w3 w2.heap.size A2 n4 c2 (ys.take n4) ∧ n4 ≤ 41) ∧ ((41 < n2 ∧ n4 = 41) ∨ (¬ 41 < n2 ∧ n4 = n2)) := by
          by_cases h41 : 41 < n2
          · exact ⟨41, rfl, ⟨o2.takeO (by omega), Nat.le_refl _⟩, .inl ⟨h41, rfl⟩⟩
          · exact ⟨n2, hodd, ⟨o2.takeO (Nat.le_refl _), by omega⟩, .inr ⟨h41, rfl⟩⟩
        obtain ⟨o4, h41⟩ := o4
        have hpk5 := Lib.hid (pick_any 5 w0 w3 _ p3 (by omega) hr3)
        have hpk6 := Lib.hid (fun w4 p4 (hp : p4 ≤ p3 + 10) (hr : Rs 69 w0 w4 w0.heap.size p4) => pick_any ((n4 / 2 : Nat) + 1) w0 w4 _ p4 (by omega) hr)
        have e0 := o4.len
        have tail : Hid (∀ w4 p4, p4 ≤ p3 + 1 → Rs 69 w0 w4 w0.heap.size p4 → Own w4 w.heap.size (some ⟨g, 0, none⟩) n c t.steps → Own w4 w2.heap.size A2 n4 c2 (ys.take n4) → DrewET w0 (.returned (.tuple #[.slice (some ⟨g, 0, none⟩) n c, .slice A2 n4 c2])) w4) :=
          fun w4 p4 _ k1 k2 k3 => ⟨_, _, _, _, _, _, _, _, rfl, k2.lower hb0, hn1, k3.lower hb2, by omega, k1.below⟩
        rcases o4.form with ⟨_, hz, _⟩ | ⟨g4, rfl, hg4, _, _⟩
        · omega
        · have hgg : g4 ≠ g := ap.out g4 rfl
          have fin : Hid (∀ w5 (q : Nat) (u : Int) p5, q < n4 → 0 ≤ u → u ≤ 3 → Rs 69 w0 w5 w0.heap.size p5 → Own w5 w.heap.size (some ⟨g, 0, none⟩) n c t.steps → Own w5 w2.heap.size (some ⟨g4, 0, none⟩) n4 c2 (ys.take n4) →
              (∃ v, w5.cell? ⟨g4, q, none⟩ = some v) ∧ w5.frozen? ⟨g4, q, none⟩ = false ∧ DrewET w0 (.returned (.tuple #[.slice (some ⟨g, 0, none⟩) n c, .slice (some ⟨g4, 0, none⟩) n4 c2])) (w5.setCell ⟨g4, q, none⟩ (.int .i64 u))) := by
            intro w5 q u p5 hq hu0 hu3 k1 k2 k3
            obtain ⟨v, hc, _⟩ := k3.at_ hq
            refine ⟨⟨_, hc⟩, k3.free q, _, _, _, _, _, _, _, _, rfl, (k2.keep (grown_setCell w5 g4 q (.int .i64 u)) (fun r hr hrow => by injection hr with e; injection e with e; injection hrow with e2; omega)).lower hb0, hn1,
              (k3.set_ hq (wf_small (x := u) (by omega) (by omega))).lower hb2, by omega, ?_⟩
            exact (show Since w0 w5 from k1.below).setCell (p := ⟨g4, q, none⟩) (show w0.heap.size ≤ g4 by omega) _
          have o1d := Lib.hid o1''
          have o4d := Lib.hid o4
          clear o1'' o4 o2 hr3
          rcases hcut with ⟨hbig, rfl⟩ | ⟨hsml, rfl⟩
          · have hbigz : (41 : Int) < n2 := by omega
            have hcz : (41 : Int) ≤ c2 := by omega
            go_wp2_with fail
            refine hpk5.out.mono ?_
            rintro e w4 ⟨m5, rfl, m50, _, _, hr4, hg4'⟩
            have k1 := o1d.out.over hg4' hB
            have k2 := o4d.out.over hg4' hlt2
            by_cases hm5 : m5 = 0
            · subst hm5
              have hpk7 := Lib.hid (hpk6.out w4 (p3 + 1) (by omega) hr4)
              clear hpk5
              go_wp2_with fail
              refine hpk7.out.mono ?_
              rintro e w5 ⟨q, rfl, q0, _, q1, hr5, hg5⟩
              have hq1 := q1 (by omega)
              obtain ⟨q, rfl⟩ := Int.eq_ofNat_of_zero_le q0
              have k3 := k1.over hg5 hB
              have k4 := k2.over hg5 hlt2
              have hpk8 := Lib.hid (pick_any 4 w0 w5 _ (p3 + 1 + 1) (by omega) hr5)
              clear hpk7 q1
              go_wp2_with fail
              refine hpk8.out.mono ?_
              rintro e w6 ⟨u, rfl, u0, _, u1, hr6, hg6⟩
              have hu := u1 (by omega)
              obtain ⟨⟨v, hc⟩, hf, hfin⟩ := fin.out w6 (q * 2) u _ (by omega) u0 (by omega) hr6 (k3.over hg6 hB) (k4.over hg6 hlt2)
              replace hfin := Lib.hid hfin
              have hqn : q * 2 < 41 := by omega
              clear hpk8 u1 k1 k2 k3 k4
              go_wp2_with fail
              go_ret2
              exact hfin.out
            · have q5 : (m5 == 0) = false := by simp [hm5]
              have hfin := Lib.hid (tail.out w4 (p3 + 1) (Nat.le_refl _) hr4 k1 k2)
              go_wp2_with fail
              go_ret2
              exact hfin.out
          · have hsmlz : ¬ (41 : Int) < n4 := by omega
            go_wp2_with fail
            refine hpk5.out.mono ?_
            rintro e w4 ⟨m5, rfl, m50, _, _, hr4, hg4'⟩
            have k1 := o1d.out.over hg4' hB
            have k2 := o4d.out.over hg4' hlt2
            by_cases hm5 : m5 = 0
            · subst hm5
              have hpk7 := Lib.hid (hpk6.out w4 (p3 + 1) (by omega) hr4)
              obtain ⟨hn, hh⟩ : ∃ hn : Nat, hn = n4 / 2 := ⟨_, rfl⟩
              rw [← hh] at hpk7
              have hdv : ((n4 : Int)).tdiv 2 = (hn : Int) := by rw [Int.tdiv_eq_ediv_of_nonneg (by omega)]; omega
              have hdv2 : (n4 : Int) / 2 = (hn : Int) := by omega
              replace hh := Lib.hid hh
              clear hpk5
              go_wp2_with fail
              refine hpk7.out.mono ?_
              rintro e w5 ⟨q, rfl, q0, _, q1, hr5, hg5⟩
              have hq1 := q1 (by omega)
              obtain ⟨q, rfl⟩ := Int.eq_ofNat_of_zero_le q0
              have k3 := k1.over hg5 hB
              have k4 := k2.over hg5 hlt2
              have hpk8 := Lib.hid (pick_any 4 w0 w5 _ (p3 + 1 + 1) (by omega) hr5)
              have hqn : q * 2 < n4 := by have := hh.out; omega
              clear hpk7 q1 hh hdv hdv2 hq1
              go_wp2_with fail
              refine hpk8.out.mono ?_
              rintro e w6 ⟨u, rfl, u0, _, u1, hr6, hg6⟩
              have hu := u1 (by omega)
              obtain ⟨⟨v, hc⟩, hf, hfin⟩ := fin.out w6 (q * 2) u _ (by omega) u0 (by omega) hr6 (k3.over hg6 hB) (k4.over hg6 hlt2)
              replace hfin := Lib.hid hfin
              clear hpk8 u1 k1 k2 k3 k4
              go_wp2_with fail
              go_ret2
              exact hfin.out
            · have q5 : (m5 == 0) = false := by simp [hm5]
              have hfin := Lib.hid (tail.out w4 (p3 + 1) (Nat.le_refl _) hr4 k1 k2)
              go_wp2_with fail
              go_ret2
              exact hfin.out
theorem draw_TraceIn (a : Option Addr) (len cap : Nat) (z : List Int) (w : World) (h : RowIn .u8 w a len cap z) : Calls Try.prog 33 #[.slice a len cap] w (DrewET w) := by
  go_enter Try.func33, Try.ntmps33
  go_wp2_with fail
  refine (open_any a len cap z w h).mono ?_
  rintro e w1 ⟨rfl, hr⟩
  have ht := Lib.hid (told_any 5 (by omega) (by omega) w w1 hr)
  clear h hr
  go_wp2_with fail
  refine ht.out.mono ?_
  rintro e w2 ⟨A, n, c, xs, A', n', c', ys, rfl, o1, h1, o2, h2, s⟩
  go_wp2_with fail
  go_ret2
  exact ⟨A, n, c, xs, A', n', c', ys, rfl, o1, h1, o2, h2, s⟩
end Go.Proofs.Ytlnkkjmejmhaiaa
