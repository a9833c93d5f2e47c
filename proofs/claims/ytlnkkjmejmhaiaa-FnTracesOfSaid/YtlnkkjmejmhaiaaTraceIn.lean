/-
  Contracts of impl.TraceIn and spec.TraceIn (chapter 3).
-/
import Derived.Test.YtlnkkjmejmhaiaaCut
import Derived.Test.YtlnkkjmejmhaiaaPlainS
import Derived.Carry
namespace Go.Proofs.Ytlnkkjmejmhaiaa
open Go.RowKit
set_option linter.unusedVariables false
set_option maxHeartbeats 400000

/-- a trace of an expression -/
def tIn (xs tr : List Int) : Bool := katV xs && trV tr && (match xs.foldl pst [] with | [t] => isIn t tr | _ => false)
theorem tIn_of {t : Tr} (h : t.ok) (hl : t.size ≤ 40) (tr : List Int) : tIn t.steps tr = (trV tr && isIn t tr) := by
  have := pst_steps h [] []
  simp only [List.append_nil, List.foldl_nil] at this
  rw [tIn, Tr.katV_steps h hl, this, Bool.true_and]
theorem tIn_no {xs tr : List Int} (h : katV xs = false) : tIn xs tr = false := by simp [tIn, h]
theorem tIn_no2 {xs tr : List Int} (h : trV tr = false) : tIn xs tr = false := by simp [tIn, h]
theorem trV_N {tr : List Int} (h : trV tr = true) : TrN tr (tr.length / 2) ∧ tr.length / 2 ≤ 20 := by
  obtain ⟨h1, h2⟩ := trV_iff.1 h
  refine ⟨⟨by omega, fun i hi => ?_⟩, by omega⟩
  have := h2 (2 * i) (by omega)
  rw [trAt_even rfl (by omega)] at this
  simpa [inR, atomAt] using this
theorem impl_traceIn {X : Nat → Prop} (t : Tr) (g : Nat) (A : Option Addr) (m c : Nat) (tr : List Int) (w : World) (hs : t.size ≤ 40) (ht : t.ok) (hv : trV tr = true) (hT : isT w X t g) (htr : Ls w w.heap.size A m c tr) :
    Calls Try.prog 65 #[pv g, .slice A m c] w fun e w' => e = .returned (.bool (isIn t tr)) ∧ Since w w' := by
  obtain ⟨hN, hn⟩ := trV_N hv
  unfold isIn
  have hlen := htr.len
  have hlen2 := hN.len
  rw [hlen] at hN hn hlen2 ⊢
  generalize hq : m / 2 = n at *
  have hm : m = 2 * n + 1 := by omega
  subst hm
  have em : ((2 * n + 1 : Nat) : Int) / 2 = n := by omega
  have em2 : (2 * (n : Int) + 1) / 2 = n := by omega
  have em3 : (2 * (n : Int) + 1).tdiv 2 = n := by rw [Int.tdiv_eq_ediv_of_nonneg (by omega)]; omega
  have hmm := @run_makeMap Try.prog
  have s2 : Since w ((w.alloc (.map #[] 0)).alloc (.cells #[.slice A (2 * n + 1) c, .map (some w.heap.size)] 74)) := ((Since.refl w).alloc _).alloc _
  have ci : CI w tr A (2 * n + 1) c (w.heap.size + 1) w.heap.size ((w.alloc (.map #[] 0)).alloc (.cells #[.slice A (2 * n + 1) c, .map (some w.heap.size)] 74)) :=
    ⟨s2, by omega, Nat.le_refl _, by have := heap_alloc_new (w.alloc (.map #[] 0)) (.cells #[.slice A (2 * n + 1) c, .map (some w.heap.size)] 74); simpa using this,
      (Memo.made w _).keep (Below.heap_alloc _ _ _ (by simp))⟩
  have hin := in_step t g 0 n _ ⟨by omega, by omega⟩ hT ci fun w' ci' => find_any hN (by omega) htr (t.size + n) t g 0 n w' (by omega) (by omega) (by omega) (by omega) ht hT ci'
  replace hin := Lib.hid hin
  clear hN hq hlen hlen2 ci hT htr
  unfold pv at *
  go_enter Try.func65, Try.ntmps65
  go_wp2_with fail
  refine hin.out.mono ?_
  rintro e w' ⟨rfl, ci', -⟩
  go_wp2_with fail
  go_ret
  exact ⟨rfl, ci'.since⟩
theorem impl_TraceIn (A : Option Addr) (n c : Nat) (xs : List Int) (A' : Option Addr) (n' c' : Nat) (tr : List Int) (w : World) (hn : n ≤ 274877906944) (hn' : n' ≤ 274877906944) (h : Ls w w.heap.size A n c xs) (h' : Ls w w.heap.size A' n' c' tr) :
    Calls Try.prog 32 #[.slice A n c, .slice A' n' c'] w fun e w' => e = .returned (.bool (tIn xs tr)) ∧ Since w w' := by
  have hkv := Lib.hid (impl_KatValid A n c _ xs w h)
  have htv := Lib.hid (impl_TraceValid A' n' c' _ tr w (by omega) h')
  cases hk : katV xs
  · have hfin := Lib.hid (tIn_no (tr := tr) hk)
    rw [hk] at hkv
    clear hk htv h h'
    go_enter Try.func32, Try.ntmps32
    go_wp2_with (go_at_call 23; refine hkv.out.mono ?_; rintro e w' ⟨rfl, rfl⟩)
    go_ret
    exact ⟨ret_bool hfin.out.symm, Since.refl w⟩
  · cases hv : trV tr
    · have hfin := Lib.hid (tIn_no2 (xs := xs) hv)
      rw [hk] at hkv
      rw [hv] at htv
      clear hk hv h h'
      go_enter Try.func32, Try.ntmps32
      go_wp2_with (first | (go_at_call 23; refine hkv.out.mono ?_; rintro e w' ⟨rfl, rfl⟩) | (go_at_call 47; refine htv.out.mono ?_; rintro e w' ⟨rfl, rfl⟩))
      go_ret
      exact ⟨ret_bool hfin.out.symm, Since.refl w⟩
    · obtain ⟨t, ht, rfl, hs⟩ := katV_tree hk
      have hfin : Hid (tIn t.steps tr = isIn t tr) := by have := tIn_of ht hs tr; rw [hv, Bool.true_and] at this; exact this
      have hb := Lib.hid (build_any A n c t w hn h ht)
      have hti := Lib.hid (fun w' g (hT : isT w' (fun b => b < w.heap.size) t g) (s : Since w w') => impl_traceIn t g A' n' c' tr w' hs ht hv hT (h'.since s))
      rw [hk] at hkv
      rw [hv] at htv
      clear hk hv h h'
      go_enter Try.func32, Try.ntmps32
      go_wp2_with (first | (go_at_call 23; refine hkv.out.mono ?_; rintro e w' ⟨rfl, rfl⟩) | (go_at_call 47; refine htv.out.mono ?_; rintro e w' ⟨rfl, rfl⟩))
      refine hb.out.mono ?_
      rintro e w1 ⟨g, rfl, hT, s1⟩
      have hti1 := Lib.hid (hti.out w1 g hT s1)
      unfold pv at *
      go_wp2_with fail
      refine hti1.out.mono ?_
      rintro e w2 ⟨rfl, s2⟩
      go_wp2_with fail
      go_ret
      exact ⟨ret_bool hfin.out.symm, s1.trans s2⟩
theorem spec_TraceIn (A : Option Addr) (n c : Nat) (xs : List Int) (A' : Option Addr) (n' c' : Nat) (tr : List Int) (w : World) (hn : n ≤ 274877906944) (hn' : n' ≤ 274877906944) (h : Ls w w.heap.size A n c xs) (h' : Ls w w.heap.size A' n' c' tr) :
    Calls Try.prog 31 #[.slice A n c, .slice A' n' c'] w fun e w' => e = .returned (.bool (tIn xs tr)) ∧ Since w w' := by
  have hkv := Lib.hid (spec_KatValid A n c _ xs w (by omega) h)
  have htv := Lib.hid (spec_TraceValid A' n' c' _ tr w (by omega) h')
  cases hk : katV xs
  · have hfin := Lib.hid (tIn_no (tr := tr) hk)
    rw [hk] at hkv
    clear hk htv h h'
    go_enter Try.func31, Try.ntmps31
    go_wp2_with (go_at_call 27; refine hkv.out.mono ?_; rintro e w' ⟨rfl, rfl⟩)
    go_ret
    exact ⟨ret_bool hfin.out.symm, Since.refl w⟩
  · cases hv : trV tr
    · have hfin := Lib.hid (tIn_no2 (xs := xs) hv)
      rw [hk] at hkv
      rw [hv] at htv
      clear hk hv h h'
      go_enter Try.func31, Try.ntmps31
      go_wp2_with (first | (go_at_call 27; refine hkv.out.mono ?_; rintro e w' ⟨rfl, rfl⟩) | (go_at_call 63; refine htv.out.mono ?_; rintro e w' ⟨rfl, rfl⟩))
      go_ret
      exact ⟨ret_bool hfin.out.symm, Since.refl w⟩
    · obtain ⟨t, ht, rfl, hs⟩ := katV_tree hk
      have hfin : Hid (tIn t.steps tr = inB tr t 0 (tr.length / 2)) := by have := tIn_of ht hs tr; rw [hv, Bool.true_and] at this; exact this
      obtain ⟨hN, hn2⟩ := trV_N hv
      have hti := Lib.hid (spec_l3In (t.size + tr.length / 2) t _ tr A n c A' n' c' w (Nat.le_refl _) (by omega) ht hN h h')
      rw [hk] at hkv
      rw [hv] at htv
      clear hk hv h h' hN hn2
      go_enter Try.func31, Try.ntmps31
      go_wp2_with (first | (go_at_call 27; refine hkv.out.mono ?_; rintro e w' ⟨rfl, rfl⟩) | (go_at_call 63; refine htv.out.mono ?_; rintro e w' ⟨rfl, rfl⟩))
      refine hti.out.mono ?_
      rintro e w1 ⟨rfl, s1⟩
      go_wp2_with fail
      go_ret
      exact ⟨ret_bool hfin.out.symm, s1.since⟩
end Go.Proofs.Ytlnkkjmejmhaiaa
