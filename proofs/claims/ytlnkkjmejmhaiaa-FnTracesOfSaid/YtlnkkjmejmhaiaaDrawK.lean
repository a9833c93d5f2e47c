/-
  Contracts of the draws of expressions.
-/
import Derived.Test.YtlnkkjmejmhaiaaDrawB
import Derived.Test.YtlnkkjmejmhaiaaKatJ
namespace Go.Proofs.Ytlnkkjmejmhaiaa
open Go.RowKit
set_option linter.unusedVariables false
set_option maxHeartbeats 400000

theorem InR.jn {xs ys : List Int} {s : Int} (h : InR xs) (h' : InR ys) (h0 : -1 ≤ s) (h1 : s ≤ 22) : InR (jn xs ys s) := (h.app h').app (InR.one h0 h1)
theorem leaf_any (w0 w : World) (B p : Nat) (hp : p + 20 ≤ 1000000) (h : Rs 69 w0 w B p) :
    Calls Try.prog 77 #[.pointer (some ⟨B, 0, none⟩)] w (DrewL w0 w B p 5 1) := by
  go_enter Try.func77, Try.ntmps77
  go_wp2_with fail
  refine (pick_any 3 w0 w B p (by omega) h).mono ?_
  rintro e w1 ⟨m, rfl, m0, _, m1, hr1, hg1⟩
  by_cases hm : m = 0
  · subst hm
    go_wp2_with fail
    refine (test_any 0 (by omega) w0 w1 B _ (by omega) hr1).mono ?_
    rintro e w2 ⟨t, p2, rfl, t0, t1, _, hp2, hr2, hg2⟩
    go_wp2
    go_ret
    exact ⟨_, _, _, [t], p2, rfl, (Own.lit w2 t (wf_small (by omega) (by omega))).lower (grown_trans hg1 hg2).size, Nat.le_refl _, InR.one (by omega) (by omega), by omega, hr2.since ((Since.refl _).alloc _), grown_alloc (grown_trans hg1 hg2) _⟩
  · have hm1 : (m == 0) = false := by simp [hm]
    go_wp2_with fail
    refine (pick_any 3 w0 w1 B _ (by omega) hr1).mono ?_
    rintro e w2 ⟨t, rfl, t0, _, t1, hr2, hg2⟩
    go_wp2
    go_ret
    exact ⟨_, _, _, [16 + t], _, rfl, (Own.lit w2 (16 + t) (wf_small (by omega) (by omega))).lower (grown_trans hg1 hg2).size, Nat.le_refl _, InR.one (by omega) (by omega), by omega, hr2.since ((Since.refl _).alloc _), grown_alloc (grown_trans hg1 hg2) _⟩
/-- l20Kat, at the head of its first loop. -/
def KRel (w0 w : World) (B P : Nat) (out kk : Value) (wr : World) : Prop :=
  ∃ (A : Option Addr) (n c : Nat) (xs : List Int) (k p1 : Nat), out = .slice A n c ∧ kk = .int .i64 k ∧ Own wr w.heap.size A n c xs ∧ n ≤ 40 ∧ InR xs ∧ k ≤ 100 ∧ p1 + 10 * k ≤ P ∧ Rs 69 w0 wr B p1 ∧ w.grownBy wr (some B)
/-- .. and of its second one. -/
def KRel2 (w0 w : World) (B P : Nat) (out : Value) (wr : World) : Prop :=
  ∃ (A : Option Addr) (n c : Nat) (xs : List Int), out = .slice A n c ∧ Own wr w.heap.size A n c xs ∧ n ≤ 41 ∧ InR xs ∧ Rs 69 w0 wr B P ∧ w.grownBy wr (some B)
set_option maxHeartbeats 2000000 in
theorem kat_any (parts m : Int) (h0 : 0 ≤ parts) (h1 : parts ≤ 90) (hm : m ≤ 1000) (w0 w : World) (B p : Nat) (hp : p + 2000 ≤ 1000000) (h : Rs 69 w0 w B p) :
    Calls Try.prog 54 #[.pointer (some ⟨B, 0, none⟩), .int .i64 parts, .int .i64 m] w (DrewL w0 w B p 1200 41) := by
  have hB := h.lt
  go_enter Try.func54, Try.ntmps54
  go_wp2_with fail
  refine (leaf_any w0 w B p (by omega) h).mono ?_
  rintro e w1 ⟨A, n, c, xs, p1, rfl, o1, hn1, hi1, hp1, hr1, hg1⟩
  go_wp2_with fail
  refine (pick_any (parts + 1) w0 w1 B p1 (by omega) hr1).mono ?_
  rintro e w2 ⟨k0, rfl, k00, _, k01, hr2, hg2⟩
  have hk01 := k01 (by omega)
  obtain ⟨k, rfl⟩ := Int.eq_ofNat_of_zero_le k00
  have o2 := o1.over hg2 hB
  have hG := grown_trans hg1 hg2
  clear k01 k00 o1 hg1 hg2 hr1 h
  go_wp2_with fail
  go_loopw [7, 8] (fun out kk wr => KRel w0 w B (p + 1010) out kk wr) (fun _ kk _ => (intOf kk).toNat)
  case atStart => exact ⟨A, n, c, xs, k, p1 + 1, rfl, rfl, o2, by omega, hi1, by omega, by omega, hr2, hG⟩
  case round =>
    clear o2 hi1 hr2 hG
    obtain ⟨A, n, c, xs, k, p2, rfl, rfl, o, hn, hi, hk, hp2, hr, hG⟩ := hrel
    by_cases hgo : 0 < k ∧ n < 38
    · obtain ⟨hk0, hn38⟩ := hgo
      obtain ⟨k, rfl⟩ : ∃ j, k = j + 1 := ⟨k - 1, by omega⟩
      have hkz : (0 : Int) < ((k + 1 : Nat) : Int) := by omega
      have hnz : ((n : Nat) : Int) < 38 := by omega
      go_wp2_with fail
      refine (pick_any 6 w0 wr B p2 (by omega) hr).mono ?_
      rintro e w3 ⟨t, rfl, t0, _, t1, hr3, hg3⟩
      have o3 := o.over hg3 hB
      have hG3 := grown_trans hG hg3
      have t6 := t1 (by omega)
      clear o hr hG hg3 t1
      by_cases ht : t = 0
      · subst ht
        go_wp2_with (at_builtin
                     refine wpList_app rfl _ _ rfl w.heap.size A n c xs rfl (o3.alloc _) _ _ 1 1 [21] rfl (Ls.one w3 21 (by decide) _) (by omega) (by simp; exact Nat.le_succ_of_le hG3.size) ?_
                     intro A4 c4 w4 o4 g4
                     have hr4 := (hr3.since ((Since.refl _).alloc _)).app hB g4
                     have hG4 := grown_app (grown_alloc hG3 _) (Nat.le_refl _) g4
                     clear g4)
        go_roundw
        case rel => exact ⟨A4, n + 1, c4, xs ++ [21], k, p2 + 1, rfl, by go_num, o4, by omega, hi.app (InR.one (by omega) (by omega)), by omega, by omega, hr4, hG4⟩
        case measure => simp [intOf]
      by_cases ht1 : t = 1
      · subst ht1
        go_wp2_with fail
        refine (leaf_any w0 w3 B _ (by omega) hr3).mono ?_
        rintro e w4 ⟨A4, n4, c4, ys, p4, rfl, o4, hn4, hi4, hp4, hr4, hg4⟩
        have o3 := o3.over hg4 hB
        have hG4 := grown_trans hG3 hg4
        clear hr3 hG3 hg4
        go_wp2_with fail
        refine (l2Join_any A4 n4 c4 ys A n c xs 19 w4 (by omega) (by omega) o4.ls o3.ls (by decide)).mono ?_
        rintro e w5 ⟨A5, n5, c5, rfl, o5, s5⟩
        have hr5 := hr4.since s5
        have o5 := o5.lower hG4.size
        have hG5 := grown_since hG4 s5
        have hn5 : n5 ≤ n + 2 := by have := o5.len; rw [jn_length, o4.len, o3.len] at this; omega
        go_wp2_with fail
        go_roundw
        case rel => exact ⟨A5, n5, c5, _, k, p4, rfl, by go_num, o5, by omega, hi4.jn hi (by omega) (by omega), by omega, by omega, hr5, hG5⟩
        case measure => simp [intOf]
      by_cases ht2 : t = 2
      · subst ht2
        go_wp2_with fail
        refine (leaf_any w0 w3 B _ (by omega) hr3).mono ?_
        rintro e w4 ⟨A4, n4, c4, ys, p4, rfl, o4, hn4, hi4, hp4, hr4, hg4⟩
        have o3 := o3.over hg4 hB
        have hG4 := grown_trans hG3 hg4
        clear hr3 hG3 hg4
        go_wp2_with fail
        refine (l2Join_any A4 n4 c4 ys A n c xs 20 w4 (by omega) (by omega) o4.ls o3.ls (by decide)).mono ?_
        rintro e w5 ⟨A5, n5, c5, rfl, o5, s5⟩
        have hr5 := hr4.since s5
        have o5 := o5.lower hG4.size
        have hG5 := grown_since hG4 s5
        have hn5 : n5 ≤ n + 2 := by have := o5.len; rw [jn_length, o4.len, o3.len] at this; omega
        go_wp2_with fail
        go_roundw
        case rel => exact ⟨A5, n5, c5, _, k, p4, rfl, by go_num, o5, by omega, hi4.jn hi (by omega) (by omega), by omega, by omega, hr5, hG5⟩
        case measure => simp [intOf]
      by_cases ht3 : t = 3
      · subst ht3
        go_wp2_with fail
        refine (leaf_any w0 w3 B _ (by omega) hr3).mono ?_
        rintro e w4 ⟨A4, n4, c4, ys, p4, rfl, o4, hn4, hi4, hp4, hr4, hg4⟩
        have o3 := o3.over hg4 hB
        have hG4 := grown_trans hG3 hg4
        clear hr3 hG3 hg4
        go_wp2_with fail
        refine (l2Join_any A n c xs A4 n4 c4 ys 20 w4 (by omega) (by omega) o3.ls o4.ls (by decide)).mono ?_
        rintro e w5 ⟨A5, n5, c5, rfl, o5, s5⟩
        have hr5 := hr4.since s5
        have o5 := o5.lower hG4.size
        have hG5 := grown_since hG4 s5
        have hn5 : n5 ≤ n + 2 := by have := o5.len; rw [jn_length, o4.len, o3.len] at this; omega
        go_wp2_with fail
        go_roundw
        case rel => exact ⟨A5, n5, c5, _, k, p4, rfl, by go_num, o5, by omega, hi.jn hi4 (by omega) (by omega), by omega, by omega, hr5, hG5⟩
        case measure => simp [intOf]
      · have q0 : (t == 0) = false := by simp [ht]
        have q1 : (t == 1) = false := by simp [ht1]
        have q2 : (t == 2) = false := by simp [ht2]
        have q3 : (t == 3) = false := by simp [ht3]
        go_wp2_with fail
        refine (leaf_any w0 w3 B _ (by omega) hr3).mono ?_
        rintro e w4 ⟨A4, n4, c4, ys, p4, rfl, o4, hn4, hi4, hp4, hr4, hg4⟩
        have o3 := o3.over hg4 hB
        have hG4 := grown_trans hG3 hg4
        clear hr3 hG3 hg4
        go_wp2_with fail
        refine (l2Join_any A n c xs A4 n4 c4 ys 19 w4 (by omega) (by omega) o3.ls o4.ls (by decide)).mono ?_
        rintro e w5 ⟨A5, n5, c5, rfl, o5, s5⟩
        have hr5 := hr4.since s5
        have o5 := o5.lower hG4.size
        have hG5 := grown_since hG4 s5
        have hn5 : n5 ≤ n + 2 := by have := o5.len; rw [jn_length, o4.len, o3.len] at this; omega
        go_wp2_with fail
        go_roundw
        case rel => exact ⟨A5, n5, c5, _, k, p4, rfl, by go_num, o5, by omega, hi.jn hi4 (by omega) (by omega), by omega, by omega, hr5, hG5⟩
        case measure => simp [intOf]
    · have post : ∀ (A5 : Option Addr) (n5 c5 : Nat) (l : List Int) (p5 : Nat) (w5 : World), Own w5 w.heap.size A5 n5 c5 l → n5 ≤ 41 → InR l → p5 ≤ p + 1200 → Rs 69 w0 w5 B p5 → w.grownBy w5 (some B) → DrewL w0 w B p 1200 41 (.returned (.slice A5 n5 c5)) w5 :=
        fun A5 n5 c5 l p5 w5 o5 h5 h6 h7 h8 h9 => ⟨A5, n5, c5, l, p5, rfl, o5, h5, h6, h7, h8, h9⟩
      have post := Lib.hid post
      rcases (show (0 < k ∧ ¬ n < 38) ∨ ¬ 0 < k by omega) with ⟨hk0, hn38⟩ | hk0
      all_goals
        go_wp2_with fail
        refine (odd_any m hm w0 wr B p2 (by omega) hr).mono ?_
        rintro e w3 ⟨b, p3, rfl, hp3, _, hr3, hg3⟩
        have o3 := o.over hg3 hB
        have hG3 := grown_trans hG hg3
        clear o hr hG hg3
        cases b
        · go_wp2_with fail
          go_ret
          exact post.out _ _ _ _ p3 _ o3 (by omega) hi (by omega) hr3 hG3
        · go_wp2_with fail
          refine (pick_any 5 w0 w3 B p3 (by omega) hr3).mono ?_
          rintro e w4 ⟨t, rfl, t0, _, t1, hr4, hg4⟩
          have o4 := o3.over hg4 hB
          have hG4 := grown_trans hG3 hg4
          have t5 := t1 (by omega)
          clear o3 hr3 hG3 hg4 t1
          by_cases ht : t = 0
          · subst ht
            go_wp2_with fail
            go_ret
            exact post.out _ _ _ [] (p3 + 1) _ ((Own.zero w4).lower hG4.size) (by omega) InR.nil (by omega) (hr4.since ((Since.refl _).alloc _)) (grown_alloc hG4 _)
          · by_cases ht1 : t = 1
            · subst ht1
              go_wp2_with (at_builtin
                           refine wpList_app rfl _ _ rfl w.heap.size A n c xs rfl (o4.alloc _) _ _ 1 1 [16] rfl (Ls.one w4 16 (by decide) _) (by omega) (by simp; exact Nat.le_succ_of_le hG4.size) ?_
                           intro A5 c5 w5 o5 g5
                           have hr5 := (hr4.since ((Since.refl _).alloc _)).app hB g5
                           have hG5 := grown_app (grown_alloc hG4 _) (Nat.le_refl _) g5
                           clear g5)
              go_ret
              exact post.out _ _ _ _ (p3 + 1) _ o5 (by omega) (hi.app (InR.one (by omega) (by omega))) (by omega) hr5 hG5
            · by_cases ht2 : t = 2
              · subst ht2
                go_wp2_with (at_builtin
                             refine wpList_app rfl _ _ rfl w.heap.size _ 1 1 [20] rfl ((Own.lit w4 20 (by decide)).lower hG4.size) _ A n c xs rfl (o4.alloc _).ls (by omega) (by simp; exact Nat.le_succ_of_le hG4.size) ?_
                             intro A5 c5 w5 o5 g5
                             have hr5 := (hr4.since ((Since.refl _).alloc _)).app hB g5
                             have hG5 := grown_app (grown_alloc hG4 _) (Nat.le_refl _) g5
                             clear g5)
                go_ret
                exact post.out _ _ _ _ (p3 + 1) _ o5 (by omega) ((InR.one (by omega) (by omega)).app hi) (by omega) hr5 hG5
              · by_cases ht3 : t = 3
                · subst ht3
                  go_wp2_with fail
                  refine (pick_any 2 w0 _ B _ (by omega) (hr4.since ((Since.refl _).alloc _))).mono ?_
                  rintro e w5 ⟨u, rfl, u0, _, u1, hr5, hg5⟩
                  have u2 := u1 (by omega)
                  have hB4 := hr4.lt
                  have hnew := grown_keep hg5 (heap_alloc_new w4 _) (by omega)
                  obtain ⟨v, hv, v0, v1⟩ : ∃ v : Int, w5.cell? ⟨w4.heap.size, u.toNat, none⟩ = some (.int .i64 v) ∧ -1 ≤ v ∧ v ≤ 22 := by
                    rw [cell_at hnew]
                    have h8 : u = 0 ∨ u = 1 := by omega
                    rcases h8 with rfl | rfl <;> exact ⟨_, rfl, by omega, by omega⟩
                  have o5 := (o4.alloc _).over hg5 hB
                  have hG5 := grown_trans (grown_alloc hG4 _) hg5
                  have hvw : (Lit.int .i64 v).wf = true := wf_small (by omega) (by omega)
                  clear hnew hr4 hG4 hg5 u1
                  go_wp2_with (at_builtin
                               refine wpList_app rfl _ _ rfl w.heap.size A n c xs rfl (o5.alloc _) _ _ 1 1 [v] rfl (Ls.one w5 v hvw _) (by omega) (by simp; exact Nat.le_succ_of_le hG5.size) ?_
                               intro A6 c6 w6 o6 g6
                               have hr6 := (hr5.since ((Since.refl _).alloc _)).app hB g6
                               have hG6 := grown_app (grown_alloc hG5 _) (Nat.le_refl _) g6
                               clear g6)
                  go_ret
                  exact post.out _ _ _ _ _ _ o6 (by omega) (hi.app (InR.one (by omega) (by omega))) (by omega) hr6 hG6
                · have q0 : (t == 0) = false := by simp [ht]
                  have q1 : (t == 1) = false := by simp [ht1]
                  have q2 : (t == 2) = false := by simp [ht2]
                  have q3 : (t == 3) = false := by simp [ht3]
                  go_wp2_with fail
                  go_loopw [7] (fun out wr => KRel2 w0 w B (p3 + 1) out wr) (fun out _ => 41 - lenOf out)
                  case atStart => exact ⟨A, n, c, xs, rfl, o4, by omega, hi, hr4, hG4⟩
                  case round =>
                    clear o4 hi hr4 hG4
                    obtain ⟨A, n, c, xs, rfl, o5, hn5, hi, hr5, hG5⟩ := hrel
                    by_cases hlt : n ≤ 40
                    · go_wp2_with (at_builtin
                                   refine wpList_app rfl _ _ rfl w.heap.size A n c xs rfl (o5.alloc _) _ _ 1 1 [21] rfl (Ls.one _ 21 (by decide) _) (by omega) (by simp; exact Nat.le_succ_of_le hG5.size) ?_
                                   intro A6 c6 w6 o6 g6
                                   have hr6 := (hr5.since ((Since.refl _).alloc _)).app hB g6
                                   have hG6 := grown_app (grown_alloc hG5 _) (Nat.le_refl _) g6
                                   clear g6)
                      go_roundw
                      case rel => exact ⟨A6, n + 1, c6, _, rfl, o6, by omega, hi.app (InR.one (by omega) (by omega)), hr6, hG6⟩
                      case measure => simp [lenOf]; omega
                    · go_wp2_with fail
                      go_ret
                      exact post.out _ _ _ _ _ _ o5 (by omega) hi (by omega) hr5 hG5
/-- What a draw of an expression leaves. -/
def DrewK (w : World) (e : Ending) (w' : World) : Prop := ∃ A n c xs, e = .returned (.slice A n c) ∧ Own w' w.heap.size A n c xs ∧ n ≤ 41 ∧ Since w w'
/-- .. of two. -/
def DrewKK (w : World) (e : Ending) (w' : World) : Prop := ∃ A n c xs A' n' c' ys, e = .returned (.tuple #[.slice A n c, .slice A' n' c']) ∧ Own w' w.heap.size A n c xs ∧ n ≤ 41 ∧ Own w' w.heap.size A' n' c' ys ∧ n' ≤ 41 ∧ Since w w'
/-- .. of a test and two. -/
def DrewTKK (w : World) (e : Ending) (w' : World) : Prop := ∃ t A n c xs A' n' c' ys, e = .returned (.tuple #[.int .i64 t, .slice A n c, .slice A' n' c']) ∧ -1 ≤ t ∧ t ≤ 16 ∧ Own w' w.heap.size A n c xs ∧ n ≤ 41 ∧ Own w' w.heap.size A' n' c' ys ∧ n' ≤ 41 ∧ Since w w'
/-- .. of a test and one. -/
def DrewTK (w : World) (e : Ending) (w' : World) : Prop := ∃ t A n c xs, e = .returned (.tuple #[.int .i64 t, .slice A n c]) ∧ -1 ≤ t ∧ t ≤ 16 ∧ Own w' w.heap.size A n c xs ∧ n ≤ 41 ∧ Since w w'
theorem draw_KatActs (a : Option Addr) (len cap : Nat) (z : List Int) (w : World) (h : RowIn .u8 w a len cap z) :
    Calls Try.prog 20 #[.slice a len cap] w (DrewK w) := by
  go_enter Try.func20, Try.ntmps20
  go_wp2_with fail
  refine (open_any a len cap z w h).mono ?_
  rintro e w1 ⟨rfl, hr⟩
  go_wp2_with fail
  refine (kat_any 8 9 (by omega) (by omega) (by omega) w w1 _ 0 (by omega) hr).mono ?_
  rintro e w2 ⟨A, n, c, xs, p2, rfl, o2, hn2, _, _, hr2, _⟩
  have hbel : Since w w2 := hr2.below
  have o2 := o2.lower (show w.heap.size ≤ w1.heap.size from hr.below.size)
  clear hr hr2 h
  go_wp2
  go_ret
  exact ⟨A, n, c, xs, rfl, o2, hn2, hbel⟩
theorem draw_KatBack (a : Option Addr) (len cap : Nat) (z : List Int) (w : World) (h : RowIn .u8 w a len cap z) :
    Calls Try.prog 25 #[.slice a len cap] w (DrewK w) := by
  go_enter Try.func25, Try.ntmps25
  go_wp2_with fail
  refine (open_any a len cap z w h).mono ?_
  rintro e w1 ⟨rfl, hr⟩
  go_wp2_with fail
  refine (kat_any 8 9 (by omega) (by omega) (by omega) w w1 _ 0 (by omega) hr).mono ?_
  rintro e w2 ⟨A, n, c, xs, p2, rfl, o2, hn2, _, _, hr2, _⟩
  have hbel : Since w w2 := hr2.below
  have o2 := o2.lower (show w.heap.size ≤ w1.heap.size from hr.below.size)
  clear hr hr2 h
  go_wp2
  go_ret
  exact ⟨A, n, c, xs, rfl, o2, hn2, hbel⟩
theorem draw_KatThen (a : Option Addr) (len cap : Nat) (z : List Int) (w : World) (h : RowIn .u8 w a len cap z) :
    Calls Try.prog 28 #[.slice a len cap] w (DrewKK w) := by
  go_enter Try.func28, Try.ntmps28
  go_wp2_with fail
  refine (open_any a len cap z w h).mono ?_
  rintro e w1 ⟨rfl, hr⟩
  go_wp2_with fail
  refine (kat_any 12 12 (by omega) (by omega) (by omega) w w1 _ 0 (by omega) hr).mono ?_
  rintro e w2 ⟨A, n, c, xs, p2, rfl, o2, hn2, _, hp2, hr2, _⟩
  go_wp2_with fail
  refine (kat_any 8 12 (by omega) (by omega) (by omega) w w2 _ p2 (by omega) hr2).mono ?_
  rintro e w3 ⟨A', n', c', ys, p3, rfl, o3, hn3, _, hp3, hr3, hg3⟩
  have hbel : Since w w3 := hr3.below
  have o2 := (o2.over hg3 hr.lt).lower (show w.heap.size ≤ w1.heap.size from hr.below.size)
  have o3 := o3.lower (show w.heap.size ≤ w2.heap.size from hr2.below.size)
  clear hr hr2 hr3 hg3 h
  go_wp2
  go_ret2
  exact ⟨A, n, c, xs, A', n', c', ys, rfl, o2, hn2, o3, hn3, hbel⟩
end Go.Proofs.Ytlnkkjmejmhaiaa
