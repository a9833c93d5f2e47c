/-
  Contracts of the draws of traces.
-/
import Derived.Test.YtlnkkjmejmhaiaaDrawB
namespace Go.Proofs.Ytlnkkjmejmhaiaa
open Go.RowKit
set_option linter.unusedVariables false
set_option maxHeartbeats 400000

/-- l20Trace, at the head of its first loop. -/
def TRel (w0 w : World) (B P : Nat) (out kk : Value) (wr : World) : Prop :=
  ∃ (A : Option Addr) (n c : Nat) (xs : List Int) (k p1 : Nat), out = .slice A n c ∧ kk = .int .i64 k ∧ Own wr w.heap.size A n c xs ∧ n + 2 * k ≤ 41 ∧ InR xs ∧ p1 + 2 * k ≤ P ∧ Rs 69 w0 wr B p1 ∧ w.grownBy wr (some B)
/-- .. and of its second one. -/
def TRel2 (w0 w : World) (B P : Nat) (out : Value) (wr : World) : Prop :=
  ∃ (A : Option Addr) (n c : Nat) (xs : List Int), out = .slice A n c ∧ Own wr w.heap.size A n c xs ∧ n ≤ 43 ∧ InR xs ∧ Rs 69 w0 wr B P ∧ w.grownBy wr (some B)
set_option maxHeartbeats 2000000 in
theorem trace_any (most m : Int) (h0 : 0 ≤ most) (h1 : most ≤ 20) (hm : m ≤ 1000) (w0 w : World) (B p : Nat) (hp : p + 200 ≤ 1000000) (h : Rs 69 w0 w B p) :
    Calls Try.prog 82 #[.pointer (some ⟨B, 0, none⟩), .int .i64 most, .int .i64 m] w (DrewL w0 w B p 60 43) := by
  have hB := h.lt
  go_enter Try.func82, Try.ntmps82
  go_wp2_with fail
  refine (pick_any 4 w0 w B p (by omega) h).mono ?_
  rintro e w1 ⟨a0, rfl, a00, _, a01, hr1, hg1⟩
  have ha := a01 (by omega)
  have o1 := (Own.lit w1 a0 (wf_small (by omega) (by omega))).lower hg1.size
  have hrx := hr1.since ((Since.refl w1).alloc (.cells #[.int .i64 a0] 3))
  have hgx := grown_alloc hg1 (.cells #[.int .i64 a0] 3)
  clear a01
  go_wp2_with fail
  refine (pick_any (most + 1) w0 _ B (p + 1) (by omega) hrx).mono ?_
  rintro e w2 ⟨k0, rfl, k00, _, k01, hr2, hg2⟩
  have hk01 := k01 (by omega)
  obtain ⟨k, rfl⟩ := Int.eq_ofNat_of_zero_le k00
  have o2 := o1.over hg2 hB
  have hG := grown_trans hgx hg2
  clear k01 k00 o1 hg1 hg2 hr1 h hrx hgx
  go_wp2_with fail
  go_loopw [7, 8] (fun out kk wr => TRel w0 w B (p + 42) out kk wr) (fun _ kk _ => (intOf kk).toNat)
  case atStart => exact ⟨_, 1, 1, [a0], k, p + 1 + 1, rfl, rfl, o2, by omega, InR.one (by omega) (by omega), by omega, hr2, hG⟩
  case round =>
    clear o2 hr2 hG
    obtain ⟨A, n, c, xs, k, p2, rfl, rfl, o, hn, hi, hp2, hr, hG⟩ := hrel
    by_cases hgo : 0 < k
    · obtain ⟨k, rfl⟩ : ∃ j, k = j + 1 := ⟨k - 1, by omega⟩
      go_wp2_with fail
      refine (pick_any 3 w0 wr B p2 (by omega) hr).mono ?_
      rintro e w3 ⟨t, rfl, t0, _, t1, hr3, hg3⟩
      have t3 := t1 (by omega)
      go_wp2_with fail
      refine (pick_any 4 w0 w3 B _ (by omega) hr3).mono ?_
      rintro e w4 ⟨u, rfl, u0, _, u1, hr4, hg4⟩
      have u4 := u1 (by omega)
      have o4 := (o.over hg3 hB).over hg4 hB
      have hG4 := grown_trans (grown_trans hG hg3) hg4
      have hw1 : (Lit.int .i64 (16 + t)).wf = true := wf_small (by omega) (by omega)
      have hw2 : (Lit.int .i64 u).wf = true := wf_small (by omega) (by omega)
      clear o hr hG hg3 hg4 t1 u1 hr3
      go_wp2_with (at_builtin
                   refine wpList_app rfl _ _ rfl w.heap.size A n c xs rfl (o4.alloc _) _ _ 2 2 [16 + t, u] rfl (Ls.two w4 _ _ hw1 hw2 _) (by omega) (by simp; exact Nat.le_succ_of_le hG4.size) ?_
                   intro A5 c5 w5 o5 g5
                   have hr5 := (hr4.since ((Since.refl _).alloc _)).app hB g5
                   have hG5 := grown_app (grown_alloc hG4 _) (Nat.le_refl _) g5
                   clear g5)
      go_roundw
      case rel => exact ⟨A5, n + 2, c5, _, k, _, rfl, by go_num, o5, by omega, hi.app (InR.two (by omega) (by omega) (by omega) (by omega)), by omega, hr5, hG5⟩
      case measure => simp [intOf]
    · have post : ∀ (A5 : Option Addr) (n5 c5 : Nat) (l : List Int) (p5 : Nat) (w5 : World), Own w5 w.heap.size A5 n5 c5 l → n5 ≤ 43 → InR l → p5 ≤ p + 60 → Rs 69 w0 w5 B p5 → w.grownBy w5 (some B) → DrewL w0 w B p 60 43 (.returned (.slice A5 n5 c5)) w5 :=
        fun A5 n5 c5 l p5 w5 o5 h5 h6 h7 h8 h9 => ⟨A5, n5, c5, l, p5, rfl, o5, h5, h6, h7, h8, h9⟩
      have post := Lib.hid post
      go_wp2_with fail
      refine (odd_any m hm w0 wr B p2 (by omega) hr).mono ?_
      rintro e w3 ⟨b, p3, rfl, hp3, _, hr3, hg3⟩
      have o3 := o.over hg3 hB
      have hG3 := grown_trans hG hg3
      clear o hr hG hg3
      cases b
      · go_wp2_with fail
        go_ret
        exact post.out _ _ _ _ p3 _ o3 (by omega) hi (by omega) hr3 hG3
      · go_wp2_with fail
        refine (pick_any 4 w0 w3 B p3 (by omega) hr3).mono ?_
        rintro e w4 ⟨t, rfl, t0, _, t1, hr4, hg4⟩
        have o4 := o3.over hg4 hB
        have hG4 := grown_trans hG3 hg4
        have t5 := t1 (by omega)
        clear o3 hr3 hG3 hg4 t1
        by_cases ht : t = 0
        · subst ht
          go_wp2_with fail
          go_ret
          exact post.out _ _ _ [] (p3 + 1) _ ((Own.zero w4).lower hG4.size) (by omega) InR.nil (by omega) (hr4.since ((Since.refl _).alloc _)) (grown_alloc hG4 _)
        · by_cases ht1 : t = 1
          · subst ht1
            go_wp2_with (at_builtin
                         refine wpList_app rfl _ _ rfl w.heap.size A n c xs rfl (o4.alloc _) _ _ 1 1 [16] rfl (Ls.one w4 16 (by decide) _) (by omega) (by simp; exact Nat.le_succ_of_le hG4.size) ?_
                         intro A5 c5 w5 o5 g5
                         have hr5 := (hr4.since ((Since.refl _).alloc _)).app hB g5
                         have hG5 := grown_app (grown_alloc hG4 _) (Nat.le_refl _) g5
                         clear g5)
            go_ret
            exact post.out _ _ _ _ (p3 + 1) _ o5 (by omega) (hi.app (InR.one (by omega) (by omega))) (by omega) hr5 hG5
          · by_cases ht2 : t = 2
            · subst ht2
              go_wp2_with (at_builtin
                           refine wpList_app rfl _ _ rfl w.heap.size A n c xs rfl (o4.alloc _) _ _ 2 2 [19, 0] rfl (Ls.two w4 19 0 (by decide) (by decide) _) (by omega) (by simp; exact Nat.le_succ_of_le hG4.size) ?_
                           intro A5 c5 w5 o5 g5
                           have hr5 := (hr4.since ((Since.refl _).alloc _)).app hB g5
                           have hG5 := grown_app (grown_alloc hG4 _) (Nat.le_refl _) g5
                           clear g5)
              go_ret
              exact post.out _ _ _ _ (p3 + 1) _ o5 (by omega) (hi.app (InR.two (by omega) (by omega) (by omega) (by omega))) (by omega) hr5 hG5
            · have q0 : (t == 0) = false := by simp [ht]
              have q1 : (t == 1) = false := by simp [ht1]
              have q2 : (t == 2) = false := by simp [ht2]
              go_wp2_with fail
              go_loopw [7] (fun out wr => TRel2 w0 w B (p3 + 1) out wr) (fun out _ => 42 - lenOf out)
              case atStart => exact ⟨A, n, c, xs, rfl, o4, by omega, hi, hr4, hG4⟩
              case round =>
                clear o4 hi hr4 hG4
                obtain ⟨A, n, c, xs, rfl, o5, hn5, hi, hr5, hG5⟩ := hrel
                by_cases hlt : n ≤ 41
                · go_wp2_with (at_builtin
                               refine wpList_app rfl _ _ rfl w.heap.size A n c xs rfl (o5.alloc _) _ _ 2 2 [16, 0] rfl (Ls.two _ 16 0 (by decide) (by decide) _) (by omega) (by simp; exact Nat.le_succ_of_le hG5.size) ?_
                               intro A6 c6 w6 o6 g6
                               have hr6 := (hr5.since ((Since.refl _).alloc _)).app hB g6
                               have hG6 := grown_app (grown_alloc hG5 _) (Nat.le_refl _) g6
                               clear g6)
                  go_roundw
                  case rel => exact ⟨A6, n + 2, c6, _, rfl, o6, by omega, hi.app (InR.two (by omega) (by omega) (by omega) (by omega)), hr6, hG6⟩
                  case measure => simp [lenOf]; omega
                · go_wp2_with fail
                  go_ret
                  exact post.out _ _ _ _ _ _ o5 (by omega) hi (by omega) hr5 hG5
/-- What a draw of a trace leaves. -/
def DrewT (w : World) (e : Ending) (w' : World) : Prop := ∃ A n c xs, e = .returned (.slice A n c) ∧ Own w' w.heap.size A n c xs ∧ n ≤ 43 ∧ Since w w'
/-- .. of two. -/
def DrewTT (w : World) (e : Ending) (w' : World) : Prop := ∃ A n c xs A' n' c' ys, e = .returned (.tuple #[.slice A n c, .slice A' n' c']) ∧ Own w' w.heap.size A n c xs ∧ n ≤ 43 ∧ Own w' w.heap.size A' n' c' ys ∧ n' ≤ 43 ∧ Since w w'
end Go.Proofs.Ytlnkkjmejmhaiaa
