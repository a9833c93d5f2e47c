/-
  Contracts of the laws' own small functions on lists of integers: a copy, equality, marks.
-/
import Derived.Test.YtfhfjkpheloanaaDoorSl
import Derived.Deep.OwnRows
import Derived.Test.YtfhfjkpheloanaaDoorPlainT
namespace Go.Proofs.YtfhfjkpheloanaaDoor
open Go.RowKit
set_option linter.unusedVariables false
set_option maxHeartbeats 400000

/-- Block g is just the integers xs. -/
def Arr (w : World) (g : Nat) (xs : List Int) : Prop := w.heap[g]? = some (.cells (xs.map (Value.int .i64)).toArray 3 (0, 0))
section
variable {w w' : World} {g : Nat} {xs : List Int}
theorem Arr.lt (h : Arr w g xs) : g < w.heap.size := lt_of_block h
theorem Arr.cell (h : Arr w g xs) {i : Nat} (hi : i < xs.length) : w.cell? ⟨g, i, none⟩ = some (.int .i64 (xs.getD i 0)) := by
  rw [cell_at h]
  simp [List.getD_eq_getElem?_getD, List.getElem?_eq_getElem hi]
theorem Arr.free (h : Arr w g xs) (i : Nat) : w.frozen? ⟨g, i, none⟩ = false := free_at h
theorem Arr.set_ (h : Arr w g xs) (i : Nat) (v : Int) : Arr (w.setCell ⟨g, i, none⟩ (.int .i64 v)) g (xs.set i v) := by
  have := block_setCell (i := i) (v := .int .i64 v) h
  unfold Arr
  rw [this]
  congr 2
  simp [List.map_set]
theorem Arr.own {base n c : Nat} (h : Arr w g xs) (hb : base ≤ g) (hn : xs.length = n) (hc : n = c) (hm : n ≤ maxLen) (hf : ∀ x ∈ xs, (Lit.int .i64 x).wf = true) : Own w base (some ⟨g, 0, none⟩) n c xs :=
  ⟨hn, ⟨by simp [hn], .inr ⟨g, c, _, rfl, hb, h, by omega, by omega, by simp; omega, by rw [Nat.mul_one]; exact List.take_of_length_le (by simp; omega)⟩⟩, hf⟩
end
theorem made_ints (n : Nat) : madeCells #[.int .i64 0] n = ((List.replicate n (0 : Int)).map (Value.int .i64)).toArray := by
  apply Array.ext
  · simp [madeCells]
  · intro i h1 h2
    simp [madeCells, Nat.mod_one]
theorem wf0 : (Lit.int .i64 0).wf = true := by decide
theorem wf_small {x : Int} (h0 : -9223372036854775808 ≤ x) (h1 : x ≤ 9223372036854775807) : (Lit.int .i64 x).wf = true := WalkArith.wf_i64 (by omega)

/-- What a fresh list leaves. -/
def Fresh (w : World) (xs : List Int) (e : Ending) (w' : World) : Prop := ∃ A n c, e = .returned (.slice A n c) ∧ Own w' w.heap.size A n c xs ∧ Since w w'

/-- k elements of ys, then those of xs -/
def mixed (xs ys : List Int) (k : Nat) : List Int := ys.take k ++ xs.drop k
theorem mixed_length {xs ys : List Int} {k : Nat} (h : xs.length = ys.length) : (mixed xs ys k).length = ys.length := by simp [mixed]; omega
theorem mixed_set {xs ys : List Int} {k : Nat} (h : xs.length = ys.length) (hk : k < ys.length) : (mixed xs ys k).set k (ys.getD k 0) = mixed xs ys (k + 1) := by
  apply List.ext_getElem?
  intro i
  simp only [mixed, List.getElem?_set, List.getElem?_append, List.length_append, List.length_take, List.length_drop, List.getElem?_take, List.getElem?_drop, List.getD_eq_getElem?_getD]
  by_cases h1 : k = i
  · subst h1
    rw [if_pos rfl, if_pos (by omega), if_pos (by omega), if_pos (by omega)]
    simp [List.getElem?_eq_getElem hk]
  · rw [if_neg h1]
    by_cases h2 : i < k
    · rw [if_pos (by omega), if_pos h2, if_pos (by omega), if_pos (by omega)]
    · rw [if_neg (by omega), if_neg (by omega)]
      congr 1
      omega
theorem mixed_getD {xs ys : List Int} {k : Nat} (h : xs.length = ys.length) (hk : k < ys.length) : ∃ v, (mixed xs ys k).getD k 0 = v := ⟨_, rfl⟩

theorem eq_bad {xs ys : List Int} {k : Nat} (h : xs.getD k 0 ≠ ys.getD k 0) : decide (xs = ys) = false := by
  simp; intro e; exact h (by rw [e])
theorem eq_good {xs ys : List Int} {n : Nat} (hx : xs.length = n) (hy : ys.length = n) (h : ∀ i, i < n → xs.getD i 0 = ys.getD i 0) : decide (xs = ys) = true := by
  simp
  apply List.ext_getElem (by omega)
  intro i h1 h2
  have := h i (by omega)
  simpa [List.getD_eq_getElem?_getD, List.getElem?_eq_getElem h1, List.getElem?_eq_getElem h2] using this
theorem eqIntS_any (A : Option Addr) (n c B : Nat) (xs : List Int) (A' : Option Addr) (n' c' B' : Nat) (ys : List Int) (w : World) (hn : n ≤ 1099511627776) (h : Ls w B A n c xs) (h' : Ls w B' A' n' c' ys) :
    Calls Tryd.prog 6 #[.slice A n c, .slice A' n' c'] w fun e w' => e = .returned (.bool (decide (xs = ys))) ∧ Since w w' := by
  have hlen := h.len
  have hlen' := h'.len
  by_cases hnn : n = n'
  · subst hnn
    have hq : ((n : Int) != n) = false := by simp
    go_enter Tryd.func6, Tryd.ntmps6
    go_wp2
    go_loopw [5] (fun i wr => ∃ k : Nat, k ≤ n ∧ i = .int .i64 k ∧ Hid (∀ i, i < k → xs.getD i 0 = ys.getD i 0) ∧ Since w wr ∧ Ls wr B A n c xs ∧ Ls wr B' A' n c' ys) (fun i _ => n - (intOf i).toNat)
    case atStart => exact ⟨0, Nat.zero_le _, rfl, fun i hi => absurd hi (by omega), Since.refl w, h, h'⟩
    case round =>
      clear h h'
      obtain ⟨k, hk, rfl, hall, hs, h, h'⟩ := hrel
      by_cases hlt : k < n
      · have hZ : (k : Int) < n := by omega
        obtain ⟨b, off, v, rfl, hb, hc, hv⟩ := h.at_ hlt
        obtain ⟨b', off', v', rfl, hb', hc', hv'⟩ := h'.at_ hlt
        by_cases hvv : v = v'
        · subst hvv
          have hstep : Hid (∀ i, i < k + 1 → xs.getD i 0 = ys.getD i 0) := by
            intro i hi
            by_cases e : i = k
            · subst e; rw [hv.out, hv'.out]
            · exact hall.out i (by omega)
          have hq2 : (v != v) = false := by simp
          clear hlen hlen'
          go_wp2
          go_quiet (fail)
          go_wp2
          go_roundw
          case rel => exact ⟨k + 1, by omega, by go_num, hstep, hs.drewN _, h.drewN _, h'.drewN _⟩
          case measure => simp [intOf]; omega
        · have hq2 : (v != v') = true := by simpa using hvv
          have hfin : Hid (decide (xs = ys) = false) := eq_bad (k := k) (by rw [hv.out, hv'.out]; exact hvv)
          clear hlen hlen'
          go_wp2
          go_quiet (fail)
          go_wp2
          go_ret
          exact ⟨ret_bool hfin.out.symm, hs.drewN _⟩
      · obtain rfl : n = k := by omega
        have hfin : Hid (decide (xs = ys) = true) := eq_good hlen hlen' hall.out
        clear hlen hlen'
        go_wp2
        go_ret
        exact ⟨ret_bool hfin.out.symm, hs⟩
  · have hq : ((n : Int) != n') = true := by simp; omega
    have hfin : Hid (decide (xs = ys) = false) := by
      have : ¬ xs = ys := by intro e; subst e; omega
      simpa [Hid] using this
    clear hlen hlen'
    go_enter Tryd.func6, Tryd.ntmps6
    go_wp2
    go_ret
    exact ⟨ret_bool hfin.out.symm, Since.refl w⟩
/-- Two slices of the call's own lie in blocks apart. -/
def Apart (A B : Option Addr) : Prop := ∀ g, A = some ⟨g, 0, none⟩ → B ≠ some ⟨g, 0, none⟩
theorem Own.apart {w w' : World} {b n c n' c' : Nat} {A A' : Option Addr} {xs ys : List Int} (h : Own w b A n c xs) (h' : Own w' w.heap.size A' n' c' ys) : Apart A A' := by
  intro g hg hg'
  rcases h.form with ⟨rfl, _⟩ | ⟨g1, rfl, _, h1, _⟩
  · cases hg
  · rcases h'.form with ⟨rfl, _⟩ | ⟨g2, rfl, h2, _, _⟩
    · cases hg'
    · simp at hg hg'; omega
theorem Apart.symm {A B : Option Addr} (h : Apart A B) : Apart B A := fun g hb ha => h g ha hb
/-- What a marking of the slice at A leaves of the memory. -/
def Marked (A : Option Addr) (w w' : World) : Prop := ∃ row, w.grownBy w' row ∧ ∀ g, row = some g → A = some ⟨g, 0, none⟩
theorem Own.marked {w w' : World} {b n c : Nat} {A B : Option Addr} {xs : List Int} (h : Own w b B n c xs) (hm : Marked A w w') (ap : Apart A B) : Own w' b B n c xs := by
  obtain ⟨row, hg, hr⟩ := hm
  exact h.keep hg fun g hB hrow => ap g (hr g hrow) hB
theorem Since.marked {w0 w w' : World} {n c : Nat} {A : Option Addr} {xs : List Int} (t : Since w0 w) (h : Own w w0.heap.size A n c xs) (hm : Marked A w w') : Since w0 w' := by
  obtain ⟨row, hg, hr⟩ := hm
  refine t.grown hg fun k hk => ?_
  have := hr k hk
  rcases h.form with ⟨rfl, _⟩ | ⟨g, rfl, h1, _, _⟩
  · cases this
  · simp at this; omega
/-- k, k+1, .. -/
def marks (k : Int) (n : Nat) : List Int := (List.range n).map fun i : Nat => k + (i : Int)
theorem marks_length (k : Int) (n : Nat) : (marks k n).length = n := by simp [marks]
theorem marks_getD (k : Int) (n i : Nat) (hi : i < n) : (marks k n).getD i 0 = k + i := by
  simp [marks, List.getD_eq_getElem?_getD, hi]
/-- The marks are laid into a slice of the call's own. -/
theorem markIntS_any (A : Option Addr) (n c base : Nat) (xs : List Int) (k : Int) (w : World) (hn : n ≤ 1099511627776) (h : Own w base A n c xs) (hk0 : 0 ≤ k) (hk1 : k ≤ 1099511627776) :
    Calls Tryd.prog 7 #[.slice A n c, .int .i64 k] w fun e w' => e = .returned (.int .i64 (k + n)) ∧ Own w' base A n c (marks k n) ∧ Marked A w w' := by
  rcases h.form with ⟨rfl, rfl, rfl⟩ | ⟨g, rfl, hg1, hg2, hg3⟩
  · clear h
    go_enter Tryd.func7, Tryd.ntmps7
    go_wp2
    go_loop [1, 5] (fun kk i => i = .int .i64 0 ∧ kk = .int .i64 k) (fun _ _ => 0)
    case atStart => exact ⟨rfl, rfl⟩
    case round =>
      obtain ⟨rfl, rfl⟩ := hrel
      go_wp2
      go_ret
      exact ⟨ret_int (by simp), Own.nil _ _, none, grown_refl _ _, by simp⟩
  · have hlen := h.len
    have hml := marks_length k n
    go_enter Tryd.func7, Tryd.ntmps7
    go_wp2
    go_loopw [1, 5] (fun kk i wr => ∃ j : Nat, j ≤ n ∧ i = .int .i64 j ∧ kk = .int .i64 (k + j) ∧ Own wr base (some ⟨g, 0, none⟩) n c (mixed xs (marks k n) j) ∧ w.grownBy wr (some g)) (fun _ i _ => n - (intOf i).toNat)
    case atStart => exact ⟨0, Nat.zero_le _, rfl, by simp, by simpa [mixed] using h, grown_refl _ _⟩
    case round =>
      clear h
      obtain ⟨j, hj, rfl, rfl, h, hgr⟩ := hrel
      by_cases hlt : j < n
      · have hms := Lib.hid (mixed_set (xs := xs) (ys := marks k n) (k := j) (by omega) (by omega))
        have hmk := Lib.hid (marks_getD k n j hlt)
        have hst := Lib.hid (h.set_ hlt (v := k + j) (wf_small (by omega) (by omega)))
        have hfr := h.free j
        obtain ⟨v, hc, hv⟩ := h.at_ hlt
        clear h hml hlen
        go_wp2
        go_roundw
        case rel => exact ⟨j + 1, by omega, by go_num, by go_num, by rw [← hms.out, hmk.out]; exact hst.out, grown_trans hgr (grown_setCell _ _ _ _)⟩
        case measure => simp [intOf]; omega
      · obtain rfl : n = j := by omega
        have hm : mixed xs (marks k n) n = marks k n := by simp [mixed]; rw [List.take_of_length_le (by omega), List.drop_eq_nil_of_le (by omega)]; simp
        rw [hm] at h
        clear hml hlen hm
        go_wp2
        go_ret
        exact ⟨rfl, h, some g, hgr, by simp⟩
/-- The marks are found. -/
theorem heldIntS_any (A : Option Addr) (n c B : Nat) (k : Int) (w : World) (hn : n ≤ 1099511627776) (h : Ls w B A n c (marks k n)) (hk0 : 0 ≤ k) (hk1 : k ≤ 1099511627776) :
    Calls Tryd.prog 8 #[.slice A n c, .int .i64 k] w fun e w' => e = .returned (.int .i64 (k + n)) ∧ w = w' := by
  go_enter Tryd.func8, Tryd.ntmps8
  go_wp2
  go_loop [1, 5] (fun kk i => ∃ j : Nat, j ≤ n ∧ i = .int .i64 j ∧ kk = .int .i64 (k + j)) (fun _ i => n - (intOf i).toNat)
  case atStart => exact ⟨0, Nat.zero_le _, rfl, by simp⟩
  case round =>
    obtain ⟨j, hj, rfl, rfl⟩ := hrel
    by_cases hlt : j < n
    · obtain ⟨b, off, v, rfl, hb, hc, hv⟩ := h.at_ hlt
      have hvv : v = k + j := by rw [← hv.out]; exact marks_getD k n j hlt
      subst hvv
      have hq : (k + (j : Int) != k + (j : Int)) = false := by simp
      go_wp2
      go_round
      case rel => exact ⟨j + 1, by omega, by go_num, by go_num⟩
      case measure => simp [intOf]; omega
    · obtain rfl : n = j := by omega
      go_wp2
      go_ret
      exact ⟨rfl, rfl⟩
end Go.Proofs.YtfhfjkpheloanaaDoor
