/-
  Contracts of impl.allTraces, impl.AllTraces (chapter 3).
-/
import Derived.Test.YtlnkkjmejmhaiaaFrom
namespace Go.Proofs.Ytlnkkjmejmhaiaa
open Go.RowKit
set_option linter.unusedVariables false
set_option maxHeartbeats 400000

def afL (m : Nat) (j : Nat) : List (List Int) := (List.range j).flatMap fun a : Nat => trFrom m [(a : Int)]
theorem afL_step (m j : Nat) : afL m (j + 1) = afL m j ++ trFrom m [(j : Int)] := by simp [afL, List.range_succ]
theorem afL_all (m : Nat) : afL m 4 = allTr m := rfl
theorem afL_len {m : Nat} (hm : m ≤ 2) {j : Nat} (hj : j ≤ 4) : (afL m j).length ≤ 400000 := by
  have key : ∀ j, (afL m j).length ≤ j * 100000 := by
    intro j
    induction j with
    | zero => simp [afL]
    | succ j ih =>
      rw [afL_step, List.length_append]
      have := from_len2 (k := m) hm (t := [(j : Int)])
      omega
  have := key j
  omega
theorem impl_allTraces (m : Nat) (hm : m ≤ 2) (w : World) : Calls Try.prog 71 #[.int .i64 m] w (FreshOO w (allTr m)) := by
  go_enter Try.func71, Try.ntmps71
  go_wp2_with fail
  go_loopw [3, 5] (fun out i wr => ∃ (j : Nat) (A1 : Option Addr) (n1 c1 : Nat), j ≤ 4 ∧ i = .int .i64 j ∧ out = .slice A1 n1 c1 ∧ OO wr w.heap.size A1 n1 c1 (afL m j) ∧ Since w wr) (fun _ i _ => 4 - (intOf i).toNat)
  case atStart => exact ⟨0, _, _, _, by omega, rfl, rfl, OO.nil _ _, Since.refl _⟩
  case round =>
    obtain ⟨j, A1, n1, c1, hj, rfl, rfl, oo, s1⟩ := hrel
    by_cases hlt : j < 4
    · have hst := Lib.hid (afL_step m j)
      have hws := wf_small (x := (j : Int)) (by omega) (by omega)
      have hn1 : n1 ≤ 400000 := by rw [← oo.len]; exact afL_len hm hj
      have sa : Since wr (wr.alloc (.cells #[.int .i64 (j : Int)] 3)) := (Since.refl wr).alloc _
      have hcall := Lib.hid (impl_tracesFrom m (some ⟨wr.heap.size, 0, none⟩) 1 1 [(j : Int)] (wr.alloc (.cells #[.int .i64 (j : Int)] 3)) hm (by omega) (Ls.lit wr j hws _))
      obtain ⟨vs, own, ows⟩ := oo
      go_wp2_with fail
      refine hcall.out.mono ?_
      rintro e w5 ⟨A4, n4, c4, rfl, oo4, s4⟩
      have hn4 : n4 ≤ 100000 := by rw [← oo4.len]; exact from_len2 hm
      have sx := sa.trans s4
      obtain ⟨us, own4, ows4⟩ := oo4
      have hb4 := sa.size
      clear hcall
      go_wp2_with (at_builtin
                   refine wpList_appS rfl _ _ rfl w.heap.size A1 n1 c1 vs rfl (own.since sx) _ A4 n4 c4 us rfl own4.ls (by omega) (s1.trans sx).size ?_
                   intro A5 c5 w6 o5 g5)
      go_roundw
      case rel =>
        have hoo := OO.app own ows s1.size sx (ows4.mono fun _ _ _ _ o => o.lower hb4) o5 g5
        exact ⟨j + 1, _, _, _, by omega, by go_num, rfl, by rw [hst.out]; exact hoo, since_row (s1.trans sx) (Nat.le_refl _) g5⟩
      case measure => simp [intOf]; omega
    · obtain rfl : j = 4 := by omega
      go_wp2_with fail
      go_ret
      exact ⟨_, _, _, rfl, by rw [← afL_all]; exact oo, s1⟩
theorem impl_AllTraces (m : Int) (w : World) : Calls Try.prog 44 #[.int .i64 m] w (FreshOO w (trAll m)) := by
  rcases inR_cases m 0 2 with h | ⟨h1, h2⟩ | h
  · have hfin : Hid (trAll m = []) := by simp [Hid, trAll, inR_lo h]
    go_enter Try.func44, Try.ntmps44
    go_wp2
    go_ret
    exact ⟨_, _, _, rfl, by rw [hfin.out]; exact OO.nil _ _, Since.refl _⟩
  · obtain ⟨k, rfl⟩ := Int.eq_ofNat_of_zero_le h1
    have hfin : Hid (trAll k = allTr k) := by simp [Hid, trAll, inR_true h1 h2]
    have hc := Lib.hid (impl_allTraces k (by omega) w)
    go_enter Try.func44, Try.ntmps44
    go_wp2_with fail
    refine hc.out.mono ?_
    rintro e w1 ⟨A, n, c, rfl, oo, s1⟩
    go_wp2_with fail
    go_ret
    exact ⟨_, _, _, rfl, by rw [hfin.out]; exact oo, s1⟩
  · have hfin : Hid (trAll m = []) := by simp [Hid, trAll, inR_hi h]
    go_enter Try.func44, Try.ntmps44
    go_wp2
    go_ret
    exact ⟨_, _, _, rfl, by rw [hfin.out]; exact OO.nil _ _, Since.refl _⟩
end Go.Proofs.Ytlnkkjmejmhaiaa
