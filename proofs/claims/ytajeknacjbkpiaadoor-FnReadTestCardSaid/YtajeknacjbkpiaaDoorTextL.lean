/-
  The walks of FnTestText and FnReadTest, and the draw of a text.
-/
import Derived.Test.YtajeknacjbkpiaaDoorText
import Derived.Deep.RegionHeld3
import Derived.Deep.RegionLaw
import Derived.IntWalk
namespace Go.Proofs.YtajeknacjbkpiaaDoor
open Go.RowKit Go.Maps
set_option linter.unusedVariables false
set_option maxHeartbeats 400000

theorem tText_nat (j : Nat) (hj : j < 16) : tText (j : Int) = (List.range 16).foldr (fun i r => if i = j then tText (i : Int) else r) [] := by
  have : j = 0 ∨ j = 1 ∨ j = 2 ∨ j = 3 ∨ j = 4 ∨ j = 5 ∨ j = 6 ∨ j = 7 ∨ j = 8 ∨ j = 9 ∨ j = 10 ∨ j = 11 ∨ j = 12 ∨ j = 13 ∨ j = 14 ∨ j = 15 := by omega
  rcases this with rfl | rfl | rfl | rfl | rfl | rfl | rfl | rfl | rfl | rfl | rfl | rfl | rfl | rfl | rfl | rfl <;> rfl
theorem rTest_text {t : Int} (h : vT t = true) : rTest (tText t) = (t, true) := by
  have hb := vT_iff.1 h
  have : t = 0 ∨ t = 1 ∨ t = 2 ∨ t = 3 ∨ t = 4 ∨ t = 5 ∨ t = 6 ∨ t = 7 ∨ t = 8 ∨ t = 9 ∨ t = 10 ∨ t = 11 ∨ t = 12 ∨ t = 13 ∨ t = 14 ∨ t = 15 := by omega
  rcases this with rfl | rfl | rfl | rfl | rfl | rfl | rfl | rfl | rfl | rfl | rfl | rfl | rfl | rfl | rfl | rfl <;> decide +kernel
theorem tText_ne {t : Int} (h : vT t = true) : tText t ≠ [] := by
  have hb := vT_iff.1 h
  have : t = 0 ∨ t = 1 ∨ t = 2 ∨ t = 3 ∨ t = 4 ∨ t = 5 ∨ t = 6 ∨ t = 7 ∨ t = 8 ∨ t = 9 ∨ t = 10 ∨ t = 11 ∨ t = 12 ∨ t = 13 ∨ t = 14 ∨ t = 15 := by omega
  rcases this with rfl | rfl | rfl | rfl | rfl | rfl | rfl | rfl | rfl | rfl | rfl | rfl | rfl | rfl | rfl | rfl <;> decide +kernel
theorem rTest_some {l : List UInt8} (h : (rTest l).2 = true) : tText (rTest l).1 = l := by
  unfold rTest at h ⊢
  cases hf : (List.range 16).find? (fun t : Nat => tText (t : Int) == l) with
  | none => rw [hf] at h; cases h
  | some k =>
    have := List.find?_some hf
    simpa using this
theorem rTest_none {l : List UInt8} (h : (rTest l).2 = false) : (rTest l).1 = -1 := by
  unfold rTest at h ⊢
  cases hf : (List.range 16).find? (fun t : Nat => tText (t : Int) == l) with
  | none => rfl
  | some k => rw [hf] at h; cases h
theorem tText_space (j : Nat) (hj : j < 16) : (tText (j : Int)).getLast? ≠ some 32 := by
  have : j = 0 ∨ j = 1 ∨ j = 2 ∨ j = 3 ∨ j = 4 ∨ j = 5 ∨ j = 6 ∨ j = 7 ∨ j = 8 ∨ j = 9 ∨ j = 10 ∨ j = 11 ∨ j = 12 ∨ j = 13 ∨ j = 14 ∨ j = 15 := by omega
  rcases this with rfl | rfl | rfl | rfl | rfl | rfl | rfl | rfl | rfl | rfl | rfl | rfl | rfl | rfl | rfl | rfl <;> decide +kernel
theorem rTest_space (l : List UInt8) : rTest (l ++ [32]) = (-1, false) := by
  refine rTest_miss fun j hj e => tText_space j hj ?_
  rw [e]; simp
theorem rTest_range (l : List UInt8) : -1 ≤ (rTest l).1 ∧ (rTest l).1 ≤ 15 := by
  unfold rTest
  cases hf : (List.range 16).find? (fun t : Nat => tText (t : Int) == l) with
  | none => simp
  | some k =>
    have := List.mem_of_find?_eq_some hf
    simp at this ⊢; omega
theorem tText_len (t : Int) : (tText t).length ≤ 8 := by
  unfold tText
  split
  · split
    · have := digs_le t 4; simp; omega
    · unfold named; repeat' split
      all_goals simp
  · simp
theorem walk_FnTestText (a0 : Option Addr) (len0 cap0 : Nat) (z0 : List Int) (w : World) (w0 : RowIn .u8 w a0 len0 cap0 z0) (h : NM w) :
    Calls Tryd.prog 5 #[.slice a0 len0 cap0] w fun e w' => e = .returned (.bool true) ∧ Below w.heap.size w w' := by
  by_cases hl : 1048576 < len0
  · clear w0 h
    go_enter Tryd.func5, Tryd.ntmps5
    go_wp2
    go_ret
    exact ⟨rfl, Below.refl _ _⟩
  · go_enter Tryd.func5, Tryd.ntmps5
    go_wp2_with fail
    refine (draw_TestText a0 len0 cap0 z0 w w0).mono ?_
    rintro e w1 ⟨t, rfl, ht0, ht1, s1⟩
    have h1 := h.below s1
    clear w0
    have hq : ((bs (tText t)).toList == (bs (tText t)).toList) = true := by simp
    go_wp2_with fail
    refine (impl_TestText t w1 h1).mono ?_
    rintro e w' ⟨rfl, rfl⟩
    go_wp2_with fail
    refine (spec_TestText t w1).mono ?_
    rintro e w2 ⟨rfl, s2⟩
    have h2 := h1.below s2
    have s12 := s1.trans (Below.mono s2 s1.size)
    cases hv : vT t
    · have hk := tText_no hv
      rw [hk] at hq ⊢
      have hq2 : ((bs []).toList == ByteArray.toList { data := #[] }) = true := by decide +kernel
      have hq3 : (bs []).toList.isEmpty = true := by decide +kernel
      replace hv := Lib.hid hv
      clear hk
      go_wp2_with (first | (go_at_call 12; refine (impl_TestValid _ _).mono ?_; rintro e w' ⟨rfl, rfl⟩; rw [hv.out]) | (go_at_call 13; refine (laws_alive _).mono ?_; rintro e w' ⟨rfl, rfl⟩))
      go_ret
      exact ⟨rfl, s12⟩
    · have hr := Lib.hid (rTest_text hv)
      have hne := tText_ne hv
      generalize tText t = l at *
      have hq3 : (bs l).toList.isEmpty = false := by
        rw [ByteArray.toList_eq]
        cases l with
        | nil => exact absurd rfl hne
        | cons a l => rfl
      clear hv hne
      have hq4 : (t == t) = true := by simp
      go_wp2_with fail
      refine (impl_ReadTest l w2 h2).mono ?_
      rintro e w' ⟨rfl, rfl⟩
      rw [hr.out]
      go_wp2
      go_ret
      exact ⟨rfl, s12⟩
/-- What a draw of a text leaves. -/
def DrewS (w : World) (e : Ending) (w' : World) : Prop := ∃ l : List UInt8, e = .returned (.string (bs l)) ∧ l.length ≤ 100 ∧ Below w.heap.size w w'
theorem walk_FnReadTest_of (a0 : Option Addr) (len0 cap0 : Nat) (w : World) (h : NM w) (hd : Calls Tryd.prog 14 #[.slice a0 len0 cap0] w (DrewS w)) :
    Calls Tryd.prog 6 #[.slice a0 len0 cap0] w fun e w' => e = .returned (.bool true) ∧ Below w.heap.size w w' := by
  by_cases hl : 1048576 < len0
  · clear h
    go_enter Tryd.func6, Tryd.ntmps6
    go_wp2
    go_ret
    exact ⟨rfl, Below.refl _ _⟩
  · replace hd := Lib.hid hd
    go_enter Tryd.func6, Tryd.ntmps6
    go_wp2_with fail
    refine hd.out.mono ?_
    rintro e w1 ⟨l, rfl, hll, s1⟩
    have h1 := h.below s1
    clear hd
    go_wp2_with fail
    refine (impl_ReadTest l w1 h1).mono ?_
    rintro e w' ⟨rfl, rfl⟩
    go_wp2_with fail
    refine (spec_ReadTest l w1).mono ?_
    rintro e w2 ⟨rfl, s2⟩
    have h2 := h1.below s2
    have s12 := s1.trans (Below.mono s2 s1.size)
    have hsz : (bs l).size = l.length := rfl
    have hcat : bs l ++ { data := #[32] } = bs (l ++ [32]) := bs_append l [32]
    have hsp := Lib.hid (rTest_space l)
    have hsome := fun hh => rTest_some (l := l) hh
    have hnone := fun hh => rTest_none (l := l) hh
    have hrg := rTest_range l
    generalize rTest l = r at *
    obtain ⟨r1, r2⟩ := r
    simp only [] at hsome hnone hrg ⊢
    have hq1 : (r1 != r1) = false := by simp
    have hq2 : (r2 != r2) = false := by simp
    cases r2
    · obtain rfl : r1 = -1 := hnone rfl
      clear hsome hnone
      go_wp2_with (go_at_call 13; refine (laws_alive _).mono ?_; rintro e w' ⟨rfl, rfl⟩)
      go_ret
      exact ⟨rfl, s12⟩
    · have htx := hsome rfl
      replace htx := Lib.hid htx
      have hq3 : ((bs l).toList == (bs l).toList) = true := by simp
      clear hsome hnone
      go_wp2_with fail
      refine (impl_ReadTest (l ++ [32]) w2 h2).mono ?_
      rintro e w' ⟨rfl, rfl⟩
      rw [hsp.out]
      go_wp2_with fail
      refine (impl_TestText r1 w2 h2).mono ?_
      rintro e w' ⟨rfl, rfl⟩
      rw [htx.out]
      go_wp2
      go_ret
      exact ⟨rfl, s12⟩
theorem nb2 {a b : Nat} (ha : a ≤ 8) (hb : b ≤ 1) : ¬ 9223372036854775807 < a + b := by omega
theorem nb3 {a b c : Nat} (ha : a ≤ 8) (hb : b ≤ 1) (hc : c ≤ 8) : ¬ 9223372036854775807 < a + b + c := by omega
theorem bs_take (l : List UInt8) (k : Nat) : (bs l).extract 0 k = bs (l.take k) := by
  have := ByteArray.extract_mk l 0 k
  simpa [bs] using this
theorem bs_drop (l : List UInt8) (k : Nat) : (bs l).extract k l.length = bs (l.drop k) := by
  have := ByteArray.extract_mk l k l.length
  rw [show bs l = ⟨l.toArray⟩ from rfl, this, List.take_of_length_le (by simp)]
  rfl
/-- the letters of DrawReadTest -/
abbrev LITS : Array Value := #[.string { data := #[] }, .string { data := #[48] }, .string { data := #[91] }, .string { data := #[33] }, .string { data := #[113] }]
theorem lits_at (m : Int) (h0 : 0 ≤ m) (h5 : m < 5) : ∃ x : List UInt8, x.length ≤ 1 ∧ LITS[m.toNat]? = some (.string (bs x)) := by
  have : m = 0 ∨ m = 1 ∨ m = 2 ∨ m = 3 ∨ m = 4 := by omega
  rcases this with rfl | rfl | rfl | rfl | rfl
  · exact ⟨[], by decide, rfl⟩
  · exact ⟨[48], by decide, rfl⟩
  · exact ⟨[91], by decide, rfl⟩
  · exact ⟨[33], by decide, rfl⟩
  · exact ⟨[113], by decide, rfl⟩
theorem fin5 {w w5 : World} {p : Nat} (hr : Rs 44 w w5 w.heap.size p) {n : Int} (hn : n = 5) :
    ∀ (w6 : World) (e : Ending) (W0 : World), (W0 = w5.drew ∨ W0 = w5.drew.alloc (.cells LITS 9)) → Picked n w W0 w.heap.size p e w6 →
    ∃ (m : Int) (x : List UInt8), e = .returned (.int .i64 m) ∧ x.length ≤ 1 ∧ 0 ≤ m ∧ m < 5 ∧ Below w.heap.size w w6 ∧
      (W0 = w5.drew.alloc (.cells LITS 9) → w6.cell? ⟨w5.heap.size, m.toNat, none⟩ = some (.string (bs x))) ∧ (w6.alloc (.cells LITS 9)).cell? ⟨w6.heap.size, m.toNat, none⟩ = some (.string (bs x)) := by
  subst hn
  rintro w6 e W0 hW ⟨m, rfl, m0, -, m5, hr6, hg⟩
  obtain ⟨x, hx, hat⟩ := lits_at m m0 (m5 (by omega))
  refine ⟨m, x, rfl, hx, m0, m5 (by omega), hr6.below, fun hB => ?_, ?_⟩
  · subst hB
    have hlt : w.heap.size < w5.heap.size := by obtain ⟨_, _, a, n, c, hh, _⟩ := hr; exact lt_of_block hh
    have hnew := grown_keep hg (heap_alloc_new w5.drew (.cells LITS 9)) (show w5.drew.heap.size ≠ w.heap.size from by show w5.heap.size ≠ _; omega)
    rw [cell_at (B := w5.heap.size) hnew]; exact hat
  · rw [cell_at (heap_alloc_new w6 _)]; exact hat
theorem draw_ReadTest (a : Option Addr) (len cap : Nat) (z : List Int) (w : World) (h : RowIn .u8 w a len cap z) :
    Calls Tryd.prog 14 #[.slice a len cap] w (DrewS w) := by
  go_enter Tryd.func14, Tryd.ntmps14
  go_wp2_with fail
  refine (open_any a len cap z w h).mono ?_
  rintro e w1 ⟨rfl, hr⟩
  clear h
  go_wp2_with fail
  refine (test_any 0 (by omega) w w1 _ 0 (by omega) hr).mono ?_
  rintro e w2 ⟨t, p, rfl, ht0, ht1, hp0, hp1, hr2, hg2⟩
  go_wp2_with fail
  refine (spec_TestText t w2).mono ?_
  rintro e w3 ⟨rfl, s3⟩
  have hlen := tText_len t
  generalize tText t = l at *
  have hsz : (bs l).size = l.length := rfl
  have hr3 : Rs 44 w w3 w.heap.size p := hr2.grown ⟨s3.os, s3.tape, s3.output, s3.size, fun k hk _ => s3.block k hk⟩
  clear hr hr2 hg2 s3
  go_wp2_with fail
  refine (pick_any 3 w w3 _ p (by omega) hr3).mono ?_
  rintro e w4 ⟨m1, rfl, m10, -, m12, hr4, hg4⟩
  clear hr3 hg4
  by_cases hc : m1 = 0 ∧ 0 < l.length
  · obtain ⟨rfl, hpos⟩ := hc
    have hposZ : (0 : Int) < (l.length : Int) := by omega
    go_wp2_with fail
    refine (pick_any l.length w w4 _ (p + 1) (by omega) hr4).mono ?_
    rintro e w5 ⟨m2, rfl, m20, -, m22, hr5, hg5⟩
    have m22 := m22 (by omega)
    obtain ⟨k, rfl⟩ : ∃ k : Nat, m2 = k := ⟨m2.toNat, by omega⟩
    clear hr4 hg5
    have hkl : k < l.length := by omega
    have hx1 : (bs l).extract 0 k = bs (l.take k) := bs_take l k
    have hx2 : (bs l).extract (k + 1) l.length = bs (l.drop (k + 1)) := bs_drop l (k + 1)
    have hla : (l.take k).length ≤ 8 := by simp; omega
    have hlc : (l.drop (k + 1)).length ≤ 8 := by simp; omega
    have hkz : (k : Int) + 1 ≤ l.length := by omega
    have hkz2 : (k : Int) ≤ l.length := by omega
    generalize l.take k = la at *
    generalize l.drop (k + 1) = lc at *
    have hsa : (bs la).size = la.length := rfl
    have hsc : (bs lc).size = lc.length := rfl
    have tokc : True := trivial
    go_wp2_with fail
    have hwk : IntKind.i64.wrap ((k : Int) + 1) = (k : Int) + 1 := IntWalk.i64_in _ (by omega)
    have hk0 : (0 : Int) ≤ (k : Int) + 1 := by omega
    have hkt : ((k : Int) + 1).toNat = k + 1 := by omega
    have hF := fin5 hr5 (show (5 : Int) = 5 from rfl)
    have hrA : Rs 44 w w5.drew w.heap.size (p + 1 + 1) := hr5.grown (grown_drew (grown_refl _ _))
    have hrB : Rs 44 w (w5.drew.alloc (.cells LITS 9)) w.heap.size (p + 1 + 1) := hr5.grown (grown_alloc (grown_drew (grown_refl _ _)) _)
    go_region_law (first
      | ((go_simp; go_at_call 22; have _t := tokc; refine (pick_any 5 w w5.drew _ (p + 1 + 1) (by omega) hrA).mono ?_; rintro e w6 h6; obtain ⟨m3, x, rfl, hxl, m30, m35, hbel, hcA, hcB⟩ := hF w6 e _ (.inl rfl) h6; have hsx : (bs x).size = x.length := rfl; have hcat : bs la ++ bs x = bs (la ++ x) := bs_append la x; have hs3 : (bs (la ++ x)).size = la.length + x.length := List.length_append; have hnb2 := nb2 hla hxl; have hnb3 := nb3 hla hxl hlc; have hcat2 : bs (la ++ x) ++ bs lc = bs (la ++ x ++ lc) := bs_append _ _; clear tokc))
      | ((go_simp; go_at_call 22; have _t := tokc; refine (pick_any 5 w (w5.drew.alloc (.cells LITS 9)) _ (p + 1 + 1) (by omega) hrB).mono ?_; rintro e w6 h6; obtain ⟨m3, x, rfl, hxl, m30, m35, hbel, hcA, hcB⟩ := hF w6 e _ (.inr rfl) h6; replace hcA := hcA rfl; have hsx : (bs x).size = x.length := rfl; have hcat : bs la ++ bs x = bs (la ++ x) := bs_append la x; have hs3 : (bs (la ++ x)).size = la.length + x.length := List.length_append; have hnb2 := nb2 hla hxl; have hnb3 := nb3 hla hxl hlc; have hcat2 : bs (la ++ x) ++ bs lc = bs (la ++ x ++ lc) := bs_append _ _; clear tokc)))
    all_goals (clear hwk hk0 hkt)
    all_goals (go_wp2_with fail)
    all_goals go_ret
    all_goals first
      | exact ⟨_, rfl, by simp; omega, hbel⟩
      | exact ⟨_, rfl, by simp; omega, Below.alloc hbel hbel.size _⟩
  · have hc' : (m1 == 0 && decide (0 < l.length)) = false := by
      cases hb : (m1 == 0 && decide (0 < l.length)) with
      | false => rfl
      | true => simp at hb; exact absurd hb hc
    have hb := hr4.below
    by_cases hm : m1 = 0
    · subst hm
      have h0 : l.length = 0 := by omega
      obtain rfl : l = [] := List.eq_nil_of_length_eq_zero h0
      clear hc hc'
      go_wp2
      go_ret
      exact ⟨[], rfl, by simp, hb⟩
    · have hm' : (m1 == 0) = false := by simpa using hm
      clear hc hc'
      go_wp2
      go_ret
      exact ⟨l, rfl, by omega, hb⟩
theorem walk_FnReadTest (a0 : Option Addr) (len0 cap0 : Nat) (z0 : List Int) (w : World) (w0 : RowIn .u8 w a0 len0 cap0 z0) (h : NM w) :
    Calls Tryd.prog 6 #[.slice a0 len0 cap0] w fun e w' => e = .returned (.bool true) ∧ Below w.heap.size w w' := walk_FnReadTest_of a0 len0 cap0 w h (draw_ReadTest a0 len0 cap0 z0 w w0)
end Go.Proofs.YtajeknacjbkpiaaDoor
