/-
  Contracts of the functions on the texts of tests (chapter 1), over what the listed map holds.
-/
import Derived.Test.YtfhfjkpheloanaaDoorBase
import Derived.Test.YtfhfjkpheloanaaDoorLawsT
import Derived.Maps.StringElems
namespace Go.Proofs.YtfhfjkpheloanaaDoor
open Go.RowKit Go.Maps
set_option linter.unusedVariables false
set_option maxHeartbeats 400000

/-- a string of bytes -/
def bs (l : List UInt8) : ByteArray := ⟨l.toArray⟩
/-- the names, of those that have one -/
def named (t : Int) : List UInt8 := if t = 0 then [48] else if t = 15 then [49] else if t = 10 then [112] else if t = 12 then [113] else if t = 5 then [33, 112] else if t = 3 then [33, 113] else []
/-- the atoms below k as digits -/
def digs (t : Int) (k : Nat) : List UInt8 := (List.range k).flatMap fun (i : Nat) => if bitI t (i : Int) = 1 then [48 + UInt8.ofNat i] else []
def tText (t : Int) : List UInt8 := if vT t then (if (named t).isEmpty then [91] ++ digs t 4 ++ [93] else named t) else []

/-- What the listed map is. -/
def namesD : DataW Unit := Rows.laid_loop_example_kleenetests_impl_testNames
structure NM (w : World) : Prop where
  pos : 0 < w.heap.size
  map : ∃ bm n, w.cell? ⟨0, 0, none⟩ = some (.map (some bm)) ∧ bm < w.heap.size ∧ w.ownsMap Tryd.prog 3 (plainElem Tryd.prog 9) bm n namesD
theorem NM.below {w w' : World} (h : NM w) (s : Below w.heap.size w w') : NM w' := by
  obtain ⟨hp, bm, n, h1, h2, h3⟩ := h
  have hs := s.size
  refine ⟨by omega, bm, n, by rw [s.cell (p := ⟨0, 0, none⟩) hp]; exact h1, by omega, ?_⟩
  obtain ⟨es, clock, hb, F, hle, hD⟩ := h3
  exact ⟨es, clock, by rw [s.block bm h2]; exact hb, F, hle, hD⟩
theorem zero_str (w : World) : (zeroValue 9).run Tryd.prog w = .ok (.string (bs [])) w := by kernel_rfl
theorem int_keyed' : Keyed Tryd.prog 3 := int_keyed Tryd.underlying3
theorem NM.look {w : World} (h : NM w) (t : Int) (h0 : 0 ≤ t) (h15 : t ≤ 15) : ∃ bm, w.cell? ⟨0, 0, none⟩ = some (.map (some bm)) ∧
    (Instr.lookup 51 (.map (some bm)) (.int .i64 t) true).run Tryd.prog w = .ok (.tuple #[.string (bs (named t)), .bool (!(named t).isEmpty)]) w := by
  obtain ⟨hp, bm, n, h1, h2, h3⟩ := h
  refine ⟨bm, h1, ?_⟩
  have hwf : (Lit.int .i64 t).wf = true := WalkArith.wf_i64 (by omega)
  obtain ⟨v, ps, hrun, hv⟩ := h3.look_ok int_keyed' Tryd.underlying51 (zero_str w) (plainElem_string Tryd.underlying9 (s := bs []) (by decide)) (keyOf_int_mk Tryd.underlying3 hwf)
  obtain ⟨s, rfl, hs, _⟩ := plainElem_string_inv Tryd.underlying9 hv
  rw [hrun]
  have ht : t = 0 ∨ t = 1 ∨ t = 2 ∨ t = 3 ∨ t = 4 ∨ t = 5 ∨ t = 6 ∨ t = 7 ∨ t = 8 ∨ t = 9 ∨ t = 10 ∨ t = 11 ∨ t = 12 ∨ t = 13 ∨ t = 14 ∨ t = 15 := by omega
  have hs1 := congrArg Prod.fst hs
  simp only [] at hs1
  have key : ∀ l : List UInt8, namesD.atKey (.int .i64 t) (.lit (.string (bs []).data.toList)) = .lit (.string l) → s = bs l := by
    intro l hl
    rw [hl] at hs1
    injection hs1 with hs1
    injection hs1 with hs1
    cases s
    rename_i d
    simp at hs1
    subst hs1
    simp [bs]
  have hk2 : namesD.atKey (.int .i64 t) (.lit (.string (bs []).data.toList)) = .lit (.string (named t)) := by
    rcases ht with rfl | rfl | rfl | rfl | rfl | rfl | rfl | rfl | rfl | rfl | rfl | rfl | rfl | rfl | rfl | rfl <;> rfl
  have hk3 : Maps.has namesD (.int .i64 t) = !(named t).isEmpty := by
    rcases ht with rfl | rfl | rfl | rfl | rfl | rfl | rfl | rfl | rfl | rfl | rfl | rfl | rfl | rfl | rfl | rfl <;> rfl
  rw [key _ hk2, hk3]

theorem spec_l1Named (t : Int) (w : World) : Calls Tryd.prog 26 #[.int .i64 t] w fun e w' => e = .returned (.string (bs (named t))) ∧ w = w' := by
  by_cases h0 : t = 0
  · subst h0; go_enter Tryd.func26, Tryd.ntmps26; go_wp2; go_ret; exact ⟨rfl, rfl⟩
  by_cases h1 : t = 15
  · subst h1; go_enter Tryd.func26, Tryd.ntmps26; go_wp2; go_ret; exact ⟨rfl, rfl⟩
  by_cases h2 : t = 10
  · subst h2; go_enter Tryd.func26, Tryd.ntmps26; go_wp2; go_ret; exact ⟨rfl, rfl⟩
  by_cases h3 : t = 12
  · subst h3; go_enter Tryd.func26, Tryd.ntmps26; go_wp2; go_ret; exact ⟨rfl, rfl⟩
  by_cases h4 : t = 5
  · subst h4; go_enter Tryd.func26, Tryd.ntmps26; go_wp2; go_ret; exact ⟨rfl, rfl⟩
  by_cases h5 : t = 3
  · subst h5; go_enter Tryd.func26, Tryd.ntmps26; go_wp2; go_ret; exact ⟨rfl, rfl⟩
  · have e : named t = [] := by simp [named, h0, h1, h2, h3, h4, h5]
    have e0 : (t == 0) = false := by simpa using h0
    have e1 : (t == 15) = false := by simpa using h1
    have e2 : (t == 10) = false := by simpa using h2
    have e3 : (t == 12) = false := by simpa using h3
    have e4 : (t == 5) = false := by simpa using h4
    have e5 : (t == 3) = false := by simpa using h5
    rw [e]
    go_enter Tryd.func26, Tryd.ntmps26
    go_wp2
    go_ret
    exact ⟨rfl, rfl⟩
theorem digs_yes {t : Int} {k : Nat} (h : bitI t k = 1) : digs t (k + 1) = digs t k ++ [48 + UInt8.ofNat k] := by simp [digs, List.range_succ, h]
theorem digs_no {t : Int} {k : Nat} (h : ¬ bitI t k = 1) : digs t (k + 1) = digs t k := by simp [digs, List.range_succ, h]
theorem digs_le (t : Int) (k : Nat) : (digs t k).length ≤ k := by
  induction k with
  | zero => simp [digs]
  | succ k ih =>
    by_cases h : bitI t k = 1
    · rw [digs_yes h, List.length_append]; simp; omega
    · rw [digs_no h]; omega
theorem bs_append (a b : List UInt8) : bs a ++ bs b = bs (a ++ b) := by
  apply ByteArray.ext
  simp [bs]
theorem bs_size (a : List UInt8) : (bs a).size = a.length := rfl
theorem cat_digit {t : Int} {k : Nat} (h : digs t (k + 1) = digs t k ++ [48 + UInt8.ofNat k]) : bs (91 :: digs t k) ++ bs [48 + UInt8.ofNat k] = bs (91 :: digs t (k + 1)) := by
  rw [h, bs_append]; rfl
theorem tText_no {t : Int} (h : vT t = false) : tText t = [] := by simp [tText, h]
theorem tText_named {t : Int} (h : vT t = true) (hn : (named t).isEmpty = false) : tText t = named t := by simp [tText, h, hn]
theorem tText_digits {t : Int} (h : vT t = true) (hn : (named t).isEmpty = true) : tText t = [91] ++ digs t 4 ++ [93] := by simp [tText, h, hn]
theorem impl_TestText (t : Int) (w : World) (h : NM w) : Calls Tryd.prog 33 #[.int .i64 t] w fun e w' => e = .returned (.string (bs (tText t))) ∧ w = w' := by
  cases hv : vT t
  · have hk := Lib.hid (tText_no hv)
    have hV := Lib.hid hv
    clear hv h
    go_enter Tryd.func33, Tryd.ntmps33
    go_wp2_with (go_at_call 35; refine (impl_TestValid _ _).mono ?_; rintro e w' ⟨rfl, rfl⟩; rw [hV.out])
    go_ret
    exact ⟨by rw [hk.out]; rfl, rfl⟩
  · have hb := vT_iff.1 hv
    obtain ⟨bm, hc, hrun⟩ := h.look t hb.1 hb.2
    have hV := Lib.hid hv
    cases hn : (named t).isEmpty
    · have hk := Lib.hid (tText_named hv hn)
      rw [hn] at hrun
      clear hv hn h
      go_enter Tryd.func33, Tryd.ntmps33
      go_wp2_with (go_at_call 35; refine (impl_TestValid _ _).mono ?_; rintro e w' ⟨rfl, rfl⟩; rw [hV.out])
      go_ret
      exact ⟨by rw [hk.out]; rfl, rfl⟩
    · have hk := Lib.hid (tText_digits hv hn)
      rw [hn] at hrun
      clear hv hn h
      go_enter Tryd.func33, Tryd.ntmps33
      go_wp2_with (go_at_call 35; refine (impl_TestValid _ _).mono ?_; rintro e w' ⟨rfl, rfl⟩; rw [hV.out])
      go_loop [5, 18] (fun out i => ∃ k : Nat, k ≤ 4 ∧ i = .int .i64 k ∧ out = .string (bs (91 :: digs t k))) (fun _ i => 4 - (intOf i).toNat)
      case atStart => exact ⟨0, by omega, rfl, rfl⟩
      case round =>
        obtain ⟨k, hk4, rfl, rfl⟩ := hrel
        by_cases hlt : k < 4
        · have hsz := digs_le t k
          cases hbit : (bitI t k == 1)
          · have hd := Lib.hid (digs_no (by simpa using hbit))
            have hbit := Lib.hid hbit
            go_wp2_with (go_at_call 36; refine (impl_holds t k hb.1 hb.2 (by omega) (by omega) _).mono ?_; rintro e w' ⟨rfl, rfl⟩; rw [hbit.out])
            go_round
            case rel => exact ⟨k + 1, by omega, by go_num, by rw [hd.out]⟩
            case measure => simp [intOf]; omega
          · have hd := Lib.hid (digs_yes (by simpa using hbit))
            have hbit := Lib.hid hbit
            have hcat := Lib.hid (cat_digit hd.out)
            have hsz1 : (bs (91 :: digs t k)).size = (digs t k).length + 1 := bs_size _
            generalize bs (91 :: digs t k) = s0 at *
            have hsz2 : s0.size ≤ 5 := by omega
            have hk4 : k = 0 ∨ k = 1 ∨ k = 2 ∨ k = 3 := by omega
            clear hsz1 hsz
            rcases hk4 with rfl | rfl | rfl | rfl
            · have he : Utf8.encode 48 = bs [48] := rfl
              have hs1 : (bs [48]).size = 1 := rfl
              have hbit : Hid ((bitI t 0 == 1) = true) := by simpa [Hid] using hbit.out
              go_wp2_with (go_at_call 36; refine (impl_holds t 0 hb.1 hb.2 (by omega) (by omega) _).mono ?_; rintro e w' ⟨rfl, rfl⟩; rw [hbit.out])
              go_round
              case rel => exact ⟨1, by omega, by go_num, congrArg Value.string hcat.out⟩
              case measure => simp [intOf]
            · have he : Utf8.encode 49 = bs [49] := rfl
              have hs1 : (bs [49]).size = 1 := rfl
              have hbit : Hid ((bitI t 1 == 1) = true) := by simpa [Hid] using hbit.out
              go_wp2_with (go_at_call 36; refine (impl_holds t 1 hb.1 hb.2 (by omega) (by omega) _).mono ?_; rintro e w' ⟨rfl, rfl⟩; rw [hbit.out])
              go_round
              case rel => exact ⟨2, by omega, by go_num, congrArg Value.string hcat.out⟩
              case measure => simp [intOf]
            · have he : Utf8.encode 50 = bs [50] := rfl
              have hs1 : (bs [50]).size = 1 := rfl
              have hbit : Hid ((bitI t 2 == 1) = true) := by simpa [Hid] using hbit.out
              go_wp2_with (go_at_call 36; refine (impl_holds t 2 hb.1 hb.2 (by omega) (by omega) _).mono ?_; rintro e w' ⟨rfl, rfl⟩; rw [hbit.out])
              go_round
              case rel => exact ⟨3, by omega, by go_num, congrArg Value.string hcat.out⟩
              case measure => simp [intOf]
            · have he : Utf8.encode 51 = bs [51] := rfl
              have hs1 : (bs [51]).size = 1 := rfl
              have hbit : Hid ((bitI t 3 == 1) = true) := by simpa [Hid] using hbit.out
              go_wp2_with (go_at_call 36; refine (impl_holds t 3 hb.1 hb.2 (by omega) (by omega) _).mono ?_; rintro e w' ⟨rfl, rfl⟩; rw [hbit.out])
              go_round
              case rel => exact ⟨4, by omega, by go_num, congrArg Value.string hcat.out⟩
              case measure => simp [intOf]
        · obtain rfl : k = 4 := by omega
          have hsz := digs_le t 4
          have hsz1 : (bs (91 :: digs t 4)).size = (digs t 4).length + 1 := bs_size _
          have hcat : bs (91 :: digs t 4) ++ bs [93] = bs ([91] ++ digs t 4 ++ [93]) := by rw [bs_append]; rfl
          rw [← hk.out] at hcat
          replace hcat := Lib.hid hcat
          generalize bs (91 :: digs t 4) = s0 at *
          have hsz2 : s0.size ≤ 5 := by omega
          clear hsz1 hsz
          go_wp2
          go_ret
          exact ⟨by rw [← hcat.out]; rfl, rfl⟩
theorem conv_one (w : World) (x : UInt8) : (convert 38 9 (.slice (some ⟨w.heap.size, 0, none⟩) 1 1)).run Tryd.prog (w.alloc (.cells #[.int .u8 x.toNat] 5)) = .ok (.string (bs [x])) (w.alloc (.cells #[.int .u8 x.toNat] 5)) :=
  run_convert_bytes_back _ _ _ _ _ _ [x] Tryd.underlying38 Tryd.underlying5 Tryd.underlying9 (by intro j hj; simp at hj; subst hj; rw [add_at, cell_at (heap_alloc_new w _)]; rfl)
theorem spec_TestText (t : Int) (w : World) : Calls Tryd.prog 23 #[.int .i64 t] w fun e w' => e = .returned (.string (bs (tText t))) ∧ Below w.heap.size w w' := by
  cases hv : vT t
  · have hk := Lib.hid (tText_no hv)
    have hn : named t = [] := by
      have : ¬ (0 ≤ t ∧ t ≤ 15) := fun h => by rw [vT_iff.2 h] at hv; cases hv
      unfold named
      rw [if_neg (by omega), if_neg (by omega), if_neg (by omega), if_neg (by omega), if_neg (by omega), if_neg (by omega)]
    have hV := Lib.hid hv
    have hn := Lib.hid hn
    clear hv
    go_enter Tryd.func23, Tryd.ntmps23
    go_wp2_with (first | (go_at_call 25; refine (spec_TestValid _ _).mono ?_; rintro e w' ⟨rfl, rfl⟩; rw [hV.out]) | (go_at_call 26; refine (spec_l1Named _ _).mono ?_; rintro e w' ⟨rfl, rfl⟩; rw [hn.out]))
    go_ret
    exact ⟨by rw [hk.out]; rfl, Below.refl _ _⟩
  · have hb := vT_iff.1 hv
    have hV := Lib.hid hv
    cases hn : (named t).isEmpty
    · have hk := Lib.hid (tText_named hv hn)
      have hq : (bs (named t)).toList.isEmpty = false := by
        have ht : t = 0 ∨ t = 15 ∨ t = 10 ∨ t = 12 ∨ t = 5 ∨ t = 3 := by
          apply Classical.byContradiction
          intro hno
          have : named t = [] := by
            unfold named
            rw [if_neg (by omega), if_neg (by omega), if_neg (by omega), if_neg (by omega), if_neg (by omega), if_neg (by omega)]
          rw [this] at hn; cases hn
        rcases ht with rfl | rfl | rfl | rfl | rfl | rfl <;> decide +kernel
      clear hv hn
      generalize hg : named t = l at *
      replace hg := Lib.hid hg
      go_enter Tryd.func23, Tryd.ntmps23
      go_wp2_with (first | (go_at_call 25; refine (spec_TestValid _ _).mono ?_; rintro e w' ⟨rfl, rfl⟩; rw [hV.out]) | (go_at_call 26; refine (spec_l1Named _ _).mono ?_; rintro e w' ⟨rfl, rfl⟩; rw [hg.out]))
      go_ret
      exact ⟨by rw [hk.out]; rfl, Below.refl _ _⟩
    · have hk := Lib.hid (tText_digits hv hn)
      have hg : named t = [] := by simpa using hn
      replace hg := Lib.hid hg
      have hq : (bs []).toList.isEmpty = true := by decide +kernel
      clear hv hn
      go_enter Tryd.func23, Tryd.ntmps23
      go_wp2_with (first | (go_at_call 25; refine (spec_TestValid _ _).mono ?_; rintro e w' ⟨rfl, rfl⟩; rw [hV.out]) | (go_at_call 26; refine (spec_l1Named _ _).mono ?_; rintro e w' ⟨rfl, rfl⟩; rw [hg.out]))
      go_loopw [3, 4] (fun out i wr => ∃ k : Nat, k ≤ 4 ∧ i = .int .i64 k ∧ out = .string (bs (91 :: digs t k)) ∧ Below w.heap.size w wr) (fun _ i _ => 4 - (intOf i).toNat)
      case atStart => exact ⟨0, by omega, rfl, rfl, Below.refl _ _⟩
      case round =>
        obtain ⟨k, hk4, rfl, rfl, hbel⟩ := hrel
        by_cases hlt : k < 4
        · have hsz := digs_le t k
          cases hbit : (bitI t k == 1)
          · have hd := Lib.hid (digs_no (by simpa using hbit))
            have hbit := Lib.hid hbit
            go_wp2_with (go_at_call 27; refine (spec_l1Bit t k hb.1 hb.2 (by omega) (by omega) _).mono ?_; rintro e w' ⟨rfl, rfl⟩; have hbb := hbit.out)
            go_roundw
            case rel => exact ⟨k + 1, by omega, by go_num, by rw [hd.out], hbel⟩
            case measure => simp [intOf]; omega
          · have hd := Lib.hid (digs_yes (by simpa using hbit))
            have hbit := Lib.hid hbit
            have hcat := Lib.hid (cat_digit hd.out)
            have hsz1 : (bs (91 :: digs t k)).size = (digs t k).length + 1 := bs_size _
            generalize bs (91 :: digs t k) = s0 at *
            have hsz2 : s0.size ≤ 5 := by omega
            have hk4 : k = 0 ∨ k = 1 ∨ k = 2 ∨ k = 3 := by omega
            clear hsz1 hsz
            rcases hk4 with rfl | rfl | rfl | rfl
            · have hbit : Hid (bitI t 0 = 1) := by simpa [Hid] using hbit.out
              have hcv : (convert 38 9 (.slice (some ⟨wr.heap.size, 0, none⟩) 1 1)).run Tryd.prog (wr.alloc (.cells #[.int .u8 48] 5)) = .ok (.string (bs [48])) (wr.alloc (.cells #[.int .u8 48] 5)) := conv_one wr 48
              have hs1 : (bs [48]).size = 1 := rfl
              go_wp2_with (go_at_call 27; refine (spec_l1Bit t 0 hb.1 hb.2 (by omega) (by omega) _).mono ?_; rintro e w' ⟨rfl, rfl⟩; rw [hbit.out])
              go_roundw
              case rel => exact ⟨1, by omega, by go_num, congrArg Value.string hcat.out, Below.alloc hbel hbel.size _⟩
              case measure => simp [intOf]
            · have hbit : Hid (bitI t 1 = 1) := by simpa [Hid] using hbit.out
              have hcv : (convert 38 9 (.slice (some ⟨wr.heap.size, 0, none⟩) 1 1)).run Tryd.prog (wr.alloc (.cells #[.int .u8 49] 5)) = .ok (.string (bs [49])) (wr.alloc (.cells #[.int .u8 49] 5)) := conv_one wr 49
              have hs1 : (bs [49]).size = 1 := rfl
              go_wp2_with (go_at_call 27; refine (spec_l1Bit t 1 hb.1 hb.2 (by omega) (by omega) _).mono ?_; rintro e w' ⟨rfl, rfl⟩; rw [hbit.out])
              go_roundw
              case rel => exact ⟨2, by omega, by go_num, congrArg Value.string hcat.out, Below.alloc hbel hbel.size _⟩
              case measure => simp [intOf]
            · have hbit : Hid (bitI t 2 = 1) := by simpa [Hid] using hbit.out
              have hcv : (convert 38 9 (.slice (some ⟨wr.heap.size, 0, none⟩) 1 1)).run Tryd.prog (wr.alloc (.cells #[.int .u8 50] 5)) = .ok (.string (bs [50])) (wr.alloc (.cells #[.int .u8 50] 5)) := conv_one wr 50
              have hs1 : (bs [50]).size = 1 := rfl
              go_wp2_with (go_at_call 27; refine (spec_l1Bit t 2 hb.1 hb.2 (by omega) (by omega) _).mono ?_; rintro e w' ⟨rfl, rfl⟩; rw [hbit.out])
              go_roundw
              case rel => exact ⟨3, by omega, by go_num, congrArg Value.string hcat.out, Below.alloc hbel hbel.size _⟩
              case measure => simp [intOf]
            · have hbit : Hid (bitI t 3 = 1) := by simpa [Hid] using hbit.out
              have hcv : (convert 38 9 (.slice (some ⟨wr.heap.size, 0, none⟩) 1 1)).run Tryd.prog (wr.alloc (.cells #[.int .u8 51] 5)) = .ok (.string (bs [51])) (wr.alloc (.cells #[.int .u8 51] 5)) := conv_one wr 51
              have hs1 : (bs [51]).size = 1 := rfl
              go_wp2_with (go_at_call 27; refine (spec_l1Bit t 3 hb.1 hb.2 (by omega) (by omega) _).mono ?_; rintro e w' ⟨rfl, rfl⟩; rw [hbit.out])
              go_roundw
              case rel => exact ⟨4, by omega, by go_num, congrArg Value.string hcat.out, Below.alloc hbel hbel.size _⟩
              case measure => simp [intOf]
        · obtain rfl : k = 4 := by omega
          have hsz := digs_le t 4
          have hsz1 : (bs (91 :: digs t 4)).size = (digs t 4).length + 1 := bs_size _
          have hcat : bs (91 :: digs t 4) ++ bs [93] = bs ([91] ++ digs t 4 ++ [93]) := by rw [bs_append]; rfl
          rw [← hk.out] at hcat
          replace hcat := Lib.hid hcat
          generalize bs (91 :: digs t 4) = s0 at *
          have hsz2 : s0.size ≤ 5 := by omega
          clear hsz1 hsz
          go_wp2
          go_ret
          exact ⟨by rw [← hcat.out]; rfl, hbel⟩
/-- the least test whose text is l -/
def rTest (l : List UInt8) : Int × Bool := match (List.range 16).find? (fun t : Nat => tText (t : Int) == l) with | some t => ((t : Int), true) | none => (-1, false)
theorem rTest_hit {l : List UInt8} {k : Nat} (hk : k < 16) (hno : ∀ j : Nat, j < k → tText (j : Int) ≠ l) (h : tText (k : Int) = l) : rTest l = ((k : Int), true) := by
  unfold rTest
  have : (List.range 16).find? (fun t : Nat => tText (t : Int) == l) = some k := by
    rw [List.find?_range_eq_some]
    refine ⟨by simpa using h, by simpa using hk, fun j hj => by simpa using hno j hj⟩
  rw [this]
theorem rTest_miss {l : List UInt8} (hno : ∀ j : Nat, j < 16 → tText (j : Int) ≠ l) : rTest l = (-1, false) := by
  unfold rTest
  have : (List.range 16).find? (fun t : Nat => tText (t : Int) == l) = none := by
    rw [List.find?_range_eq_none]
    intro j hj; simpa using hno j hj
  rw [this]
theorem bs_inj {a b : List UInt8} (h : bs a = bs b) : a = b := by
  have := congrArg (fun s : ByteArray => s.data.toList) h
  simpa [bs] using this
theorem bs_eq {a b : List UInt8} (h : a = b) : ((bs a).toList == (bs b).toList) = true := by subst h; simp
theorem bs_ne {a b : List UInt8} (h : a ≠ b) : ((bs a).toList == (bs b).toList) = false := by
  rw [ByteArray.toList_eq, ByteArray.toList_eq]
  simpa [bs] using h
theorem impl_ReadTest (l : List UInt8) (w : World) (h : NM w) : Calls Tryd.prog 30 #[.string (bs l)] w fun e w' => e = .returned (.tuple #[.int .i64 (rTest l).1, .bool (rTest l).2]) ∧ w = w' := by
  go_enter Tryd.func30, Tryd.ntmps30
  go_wp2_with fail
  go_loop [5] (fun i => ∃ k : Nat, k ≤ 16 ∧ i = .int .i64 k ∧ Hid (∀ j : Nat, j < k → tText (j : Int) ≠ l)) (fun i => 16 - (intOf i).toNat)
  case atStart => exact ⟨0, by omega, rfl, fun j hj => by omega⟩
  case round =>
    obtain ⟨k, hk, rfl, hno⟩ := hrel
    by_cases hlt : k < 16
    · by_cases he : tText (k : Int) = l
      · have hr := Lib.hid (rTest_hit hlt hno.out he)
        have hq := bs_eq he
        clear he
        go_wp2_with (go_at_call 33; refine (impl_TestText _ _ h).mono ?_; rintro e w' ⟨rfl, rfl⟩)
        go_ret2
        exact ⟨by rw [hr.out]; rfl, rfl⟩
      · have hq := bs_ne he
        have hno' : Hid (∀ j : Nat, j < k + 1 → tText (j : Int) ≠ l) := by
          intro j hj
          by_cases e : j = k
          · subst e; exact he
          · exact hno.out j (by omega)
        clear he
        go_wp2_with (go_at_call 33; refine (impl_TestText _ _ h).mono ?_; rintro e w' ⟨rfl, rfl⟩)
        go_round
        case rel => exact ⟨k + 1, by omega, by go_num, hno'⟩
        case measure => simp [intOf]; omega
    · obtain rfl : k = 16 := by omega
      have hr := Lib.hid (rTest_miss hno.out)
      go_wp2
      go_ret2
      exact ⟨by rw [hr.out]; rfl, rfl⟩
theorem spec_ReadTest (l : List UInt8) (w : World) : Calls Tryd.prog 21 #[.string (bs l)] w fun e w' => e = .returned (.tuple #[.int .i64 (rTest l).1, .bool (rTest l).2]) ∧ Below w.heap.size w w' := by
  go_enter Tryd.func21, Tryd.ntmps21
  go_wp2_with fail
  go_loopw [4] (fun i wr => ∃ k : Nat, k ≤ 16 ∧ i = .int .i64 k ∧ Hid (∀ j : Nat, j < k → tText (j : Int) ≠ l) ∧ Below w.heap.size w wr) (fun i _ => 16 - (intOf i).toNat)
  case atStart => exact ⟨0, by omega, rfl, fun j hj => by omega, Below.refl _ _⟩
  case round =>
    obtain ⟨k, hk, rfl, hno, hbel⟩ := hrel
    by_cases hlt : k < 16
    · by_cases he : tText (k : Int) = l
      · have hr := Lib.hid (rTest_hit hlt hno.out he)
        have hq := bs_eq he
        clear he
        go_wp2_with fail
        refine (spec_TestText _ _).mono ?_
        rintro e w' ⟨rfl, s⟩
        go_wp2
        go_ret2
        exact ⟨by rw [hr.out]; rfl, hbel.trans (Below.mono s hbel.size)⟩
      · have hq := bs_ne he
        have hno' : Hid (∀ j : Nat, j < k + 1 → tText (j : Int) ≠ l) := by
          intro j hj
          by_cases e : j = k
          · subst e; exact he
          · exact hno.out j (by omega)
        clear he
        go_wp2_with fail
        refine (spec_TestText _ _).mono ?_
        rintro e w' ⟨rfl, s⟩
        go_wp2
        go_roundw
        case rel => exact ⟨k + 1, by omega, by go_num, hno', hbel.trans (Below.mono s hbel.size)⟩
        case measure => simp [intOf]; omega
    · obtain rfl : k = 16 := by omega
      have hr := Lib.hid (rTest_miss hno.out)
      go_wp2
      go_ret2
      exact ⟨by rw [hr.out]; rfl, hbel⟩
end Go.Proofs.YtfhfjkpheloanaaDoor
