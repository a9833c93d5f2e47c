/-
  Contracts of slices.Clone and slices.Reverse at []int.
-/
import Derived.Test.YtlnkkjmejmhaiaaLib
import Derived.RegionTactic
import Derived.Lib.SliceRun
namespace Go.Proofs.Ytlnkkjmejmhaiaa
open Go.RowKit
set_option linter.unusedVariables false
set_option maxHeartbeats 400000

theorem clone_any (A : Option Addr) (n c : Nat) (xs : List Int) (w : World) (hn : n ≤ 274877906944) (h : Ls w w.heap.size A n c xs) :
    Calls Try.prog 67 #[.slice A n c] w (Fresh w xs) := by
  have hnil := fun (w : World) => Lib.run_eql_slice_nil (P := Try.prog) w 22 3 A n c 0 0 Try.underlying22
  rcases A with _ | ad
  · have hn0 : n = 0 := by
      rcases Nat.eq_zero_or_pos n with h0 | h0
      · exact h0
      · obtain ⟨b, off, e, _⟩ := h.cells h0
        cases e
    subst hn0
    obtain rfl : xs = [] := List.eq_nil_of_length_eq_zero h.len
    clear h
    go_enter Try.func67, Try.ntmps67
    go_wp2
    go_ret
    exact ⟨none, 0, 0, rfl, Own.nil _ _, Since.refl _⟩
  · go_enter Try.func67, Try.ntmps67
    go_wp2_with (at_builtin
                 refine wpList_app rfl _ _ rfl w.heap.size _ 0 0 [] rfl (Own.zero w) _ _ n c xs rfl (h.alloc (Nat.le_refl _) _) (by omega) (by simp) ?_
                 intro A1 c1 w1 o1 g1
                 have s1 : Since w w1 := ((Since.refl w).alloc _).app (Nat.le_refl _) g1
                 simp only [Nat.zero_add, List.nil_append] at o1
                 simp only [Nat.zero_add]
                 clear g1)
    go_ret
    exact ⟨_, _, _, rfl, o1, s1⟩
/-- k numbers at either end are exchanged already -/
def RevK (xs ys : List Int) (k : Nat) : Prop := ys.length = xs.length ∧ ∀ i, i < xs.length → ys.getD i 0 = if i < k ∨ xs.length ≤ i + k then xs.getD (xs.length - 1 - i) 0 else xs.getD i 0
theorem RevK.zero (xs : List Int) : RevK xs xs 0 := ⟨rfl, fun i hi => by rw [if_neg (by omega)]⟩
theorem getD_set_ (ys : List Int) (i k : Nat) (v : Int) (hi : i < ys.length) : (ys.set k v).getD i 0 = if k = i then v else ys.getD i 0 := by
  simp only [List.getD_eq_getElem?_getD, List.getElem?_set]
  by_cases h : k = i
  · subst h; simp [hi]
  · simp [h]
theorem RevK.step {xs ys : List Int} {k j n : Nat} {u v : Int} (h : RevK xs ys k) (hn : xs.length = n) (hj : n - 1 - k = j) (hk : k < j) (hv : ys.getD k 0 = v) (hu : ys.getD j 0 = u) : RevK xs ((ys.set k u).set j v) (k + 1) := by
  obtain ⟨h1, h2⟩ := h
  refine ⟨by simp [h1], fun i hi => ?_⟩
  rw [getD_set_ _ _ _ _ (by simp; omega), getD_set_ _ _ _ _ (by omega)]
  have hv' := h2 k (by omega)
  have hu' := h2 j (by omega)
  rw [if_neg (by omega)] at hv' hu'
  by_cases e1 : j = i
  · subst e1
    rw [if_pos rfl, if_pos (by omega), ← hv, hv']
    congr 1; omega
  · rw [if_neg e1]
    by_cases e2 : k = i
    · subst e2
      rw [if_pos rfl, if_pos (by omega), ← hu, hu']
      congr 1; omega
    · rw [if_neg e2, h2 i hi]
      by_cases e3 : i < k ∨ xs.length ≤ i + k
      · rw [if_pos e3, if_pos (by omega)]
      · rw [if_neg e3, if_neg (by omega)]
theorem RevK.done {xs ys : List Int} {k : Nat} (h : RevK xs ys k) (hk : xs.length ≤ k + 1 + k) : ys = xs.reverse := by
  obtain ⟨h1, h2⟩ := h
  apply List.ext_getElem (by simp [h1])
  intro i hi hi'
  have := h2 i (by omega)
  rw [List.getElem_reverse]
  have e1 : ys.getD i 0 = ys[i] := by simp [List.getD_eq_getElem?_getD, List.getElem?_eq_getElem hi]
  have e2 : xs.getD (xs.length - 1 - i) 0 = xs[xs.length - 1 - i]'(by omega) := by
    simp [List.getD_eq_getElem?_getD, List.getElem?_eq_getElem (show xs.length - 1 - i < xs.length by omega)]
  rw [e1] at this
  rw [this, ← e2]
  by_cases e3 : i < k ∨ xs.length ≤ i + k
  · rw [if_pos e3]
  · rw [if_neg e3]; congr 1; omega
theorem reverse_any (A : Option Addr) (n c base : Nat) (xs : List Int) (w : World) (hn : n ≤ 1099511627776) (h : Own w base A n c xs) :
    Calls Try.prog 68 #[.slice A n c] w fun e w' => e = .returned (.tuple #[]) ∧ Own w' base A n c xs.reverse ∧ Marked A w w' := by
  rcases h.form with ⟨rfl, rfl, rfl⟩ | ⟨g, rfl, hg1, hg2, hg3⟩
  · have hx : xs = [] := List.eq_nil_of_length_eq_zero h.len
    subst hx
    clear h
    go_enter Try.func68, Try.ntmps68
    go_wp2_with fail
    go_loop [2, 3] (fun i j => i = .int .i64 0 ∧ j = .int .i64 (-1)) (fun _ _ => 0)
    case atStart => exact ⟨rfl, rfl⟩
    case round =>
      obtain ⟨rfl, rfl⟩ := hrel
      go_wp2
      go_end0
      exact ⟨rfl, Own.nil _ _, none, grown_refl _ _, by simp⟩
  · have hlen := h.len
    go_enter Try.func68, Try.ntmps68
    go_wp2_with fail
    go_loopw [2, 3] (fun i j wr => ∃ (k : Nat) (ys : List Int), k ≤ n ∧ i = .int .i64 k ∧ j = .int .i64 ((n : Int) - 1 - k) ∧ Hid (RevK xs ys k) ∧ Own wr base (some ⟨g, 0, none⟩) n c ys ∧ w.grownBy wr (some g)) (fun i _ _ => n - (intOf i).toNat)
    case atStart => exact ⟨0, xs, by omega, rfl, by simp, RevK.zero xs, h, grown_refl _ _⟩
    case round =>
      clear h
      obtain ⟨k, ys, hk, rfl, rfl, hrk, h, hgr⟩ := hrel
      by_cases hlt : k + 1 + k < n
      · obtain ⟨v, hc, hv⟩ := h.at_ (k := k) (by omega)
        obtain ⟨u, hc', hu⟩ := h.at_ (k := n - 1 - k) (by omega)
        have e1 : ((n : Int) - 1 - k) = ((n - 1 - k : Nat) : Int) := by omega
        have hf := h.free k
        have hf' := h.free (n - 1 - k)
        rw [e1]
        generalize hj : n - 1 - k = j at *
        have hkj : k < j := by omega
        have hkj' : (k : Int) < (j : Int) := by omega
        have hjn : (j : Int) < n := by omega
        have hkn : (k : Int) < n := by omega
        have hstep := Lib.hid (hrk.out.step hlen hj hkj hv.out hu.out)
        have hjj : Hid ((j : Int) - 1 = (n : Int) - 1 - ((k + 1 : Nat) : Int)) := by show (j : Int) - 1 = (n : Int) - 1 - ((k + 1 : Nat) : Int); omega
        have hwu : (Lit.int .i64 u).wf = true := by
          rw [← hu.out]; exact wf_small (h.ls.bd j).1 (h.ls.bd j).2
        have hwv : (Lit.int .i64 v).wf = true := by
          rw [← hv.out]; exact wf_small (h.ls.bd k).1 (h.ls.bd k).2
        have hO := (h.set_ (i := k) (v := u) (by omega) hwu).set_ (i := j) (v := v) (by omega) hwv
        have hG := grown_drew (grown_trans (grown_trans hgr (grown_setCell wr g k (.int .i64 u))) (grown_setCell _ g j (.int .i64 v)))
        clear hlen hj e1 hwu hwv h hgr
        go_wp2_with fail
        go_region
        all_goals (go_wp2_with fail)
        go_roundw
        case rel => exact ⟨k + 1, _, by omega, by go_num, by rw [hjj.out], hstep.out, ⟨hO.len, hO.own, hO.fit⟩, hG⟩
        case measure => simp [intOf]; omega
      · have hdone : ys = xs.reverse := hrk.out.done (by omega)
        subst hdone
        clear hlen
        go_wp2
        go_end0
        exact ⟨rfl, h, some g, hgr, by simp⟩
end Go.Proofs.Ytlnkkjmejmhaiaa
