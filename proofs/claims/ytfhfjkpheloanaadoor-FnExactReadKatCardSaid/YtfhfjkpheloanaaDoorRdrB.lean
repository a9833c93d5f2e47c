/-
  Contract of the program's reader of a single expression without brackets: (*katReader).single (chapter 2).
-/
import Derived.Test.YtfhfjkpheloanaaDoorRdrA
import Derived.Test.YtfhfjkpheloanaaDoorShelf
import Derived.Test.YtfhfjkpheloanaaDoorText
namespace Go.Proofs.YtfhfjkpheloanaaDoor
open Go.RowKit
set_option linter.unusedVariables false
set_option maxHeartbeats 400000

/-- The reader in a world that goes on from w0. -/
structure Rd (w0 w : World) (g : Nat) (l : List UInt8) (i : Nat) : Prop where
  it : At w g l i
  since : Since w0 w
  base : w0.heap.size ≤ g
theorem Rd.next {w0 w w' : World} {g i j : Nat} {l : List UInt8} (h : Rd w0 w g l i) (hg : w.grownBy w' (some g)) (ha : At w' g l j) : Rd w0 w' g l j :=
  ⟨ha, h.since.grown hg fun k hk => by injection hk with hk; subst hk; exact h.base, h.base⟩
theorem Rd.nm {w0 w : World} {g i : Nat} {l : List UInt8} (h : Rd w0 w g l i) (hN : NM w0) : NM w := hN.below h.since
theorem Rd.stepN {w0 w : World} {g i : Nat} {l : List UInt8} (h : Rd w0 w g l i) (k : Nat) (v : Int) (m : Nat) (hv : v = m) : Rd w0 ((w.drewN k).setCell ⟨g, 1, none⟩ (.int .i64 v)) g l m :=
  h.next (grown_trans (grown_drewN (grown_refl _ _) _) (grown_setCell _ _ _ _)) ((h.it.drewN _).step _ _ hv)
theorem own_one (w : World) (x : Int) (hx : (Lit.int .i64 x).wf = true) : Own (w.alloc (.cells #[.int .i64 x] 3)) w.heap.size (some ⟨w.heap.size, 0, none⟩) 1 1 [x] := by
  refine Arr.own (xs := [x]) (heap_alloc_new w _) (Nat.le_refl _) rfl rfl (by decide) ?_
  intro v hv
  simp at hv
  subst hv
  exact hx
theorem own_at {w : World} {N : Nat} (x : Int) (hx : (Lit.int .i64 x).wf = true) (h : w.heap.size = N) : Own (w.alloc (.cells #[.int .i64 x] 3)) w.heap.size (some ⟨N, 0, none⟩) 1 1 [x] := by
  subst h; exact own_one w x hx
/-- what a reader panics with -/
def wrongV : Ending := .panicked [{ v := .iface 32 (.agg #[]), recovered := false }]
/-- What a reader of the program leaves. -/
def RdI (l : List UInt8) (g : Nat) (w : World) (r : Option (List Int × Nat)) (e : Ending) (w' : World) : Prop :=
  match r with
  | some (xs, to) => ∃ A n c, e = .returned (.slice A n c) ∧ Own w' w.heap.size A n c xs ∧ w.grownBy w' (some g) ∧ At w' g l to
  | none => e = wrongV ∧ w.grownBy w' (some g)
theorem wlen_le (r : List UInt8) : wlen r ≤ r.length := by
  cases r with
  | nil => exact Nat.zero_le _
  | cons x q =>
    unfold wlen
    simp only
    split
    · simp; omega
    · split
      · cases hf : List.findIdx? (fun c => c == 93) (x :: q) with
        | none => simp
        | some k =>
          have := List.findIdx?_eq_some_iff_getElem.1 hf
          obtain ⟨h1, _⟩ := this
          simp only [List.length_cons] at h1 ⊢
          omega
      · simp
theorem bs_from (l : List UInt8) (k : Nat) : (bs l).extract k l.length = bs (l.drop k) := by
  apply ByteArray.ext
  apply Array.toList_inj.1
  rw [Lib.extract_data]
  show (l.drop k).take (l.length - k) = l.drop k
  rw [List.take_of_length_le (by rw [List.length_drop]; omega)]
theorem bs_upto (l : List UInt8) (k : Nat) : (bs l).extract 0 k = bs (l.take k) := by
  apply ByteArray.ext
  apply Array.toList_inj.1
  rw [Lib.extract_data]
  rfl
theorem drop_cons {l : List UInt8} {i : Nat} (hi : i < l.length) : l.drop i = l.getD i 0 :: l.drop (i + 1) := by
  rw [List.drop_eq_getElem_cons hi]
  congr 1
  simp [List.getD_eq_getElem?_getD, List.getElem?_eq_getElem hi]
theorem single_end (w0 : World) (l : List UInt8) (hl : l.length ≤ 199) (g i : Nat) (w : World) (R : Rd w0 w g l i) (hi : i = l.length) :
    Calls Tryd.prog 24 #[.pointer (some ⟨g, 0, none⟩)] w (RdI l g w none) := by
  have hz : (bs l).size = l.length := rfl
  have h40 := atB_no (l := l) (i := i) (c := 40) (by omega)
  have hx : (bs l).extract l.length l.length = bs [] := by
    have := bs_from l l.length
    rw [List.drop_length] at this
    exact this
  subst hi
  have ht := impl_take l hl g l.length 40 w R.it (Nat.le_refl _)
  go_enter Tryd.func24, Tryd.ntmps24
  go_wp2_with fail
  refine ht.mono ?_
  rintro e w1 ⟨rfl, g1, a1⟩
  rw [h40] at a1 ⊢
  simp only [Bool.false_eq_true, if_false] at a1
  have c0 := a1.c0
  have c1 := a1.c1
  clear h40 ht
  go_wp2_with fail
  go_quiet (fail)
  go_wp2_with fail
  refine (prefix_one [] 33 _).mono ?_
  rintro e w' ⟨rfl, rfl⟩
  go_wp2_with fail
  refine (prefix_one [] 91 _).mono ?_
  rintro e w' ⟨rfl, rfl⟩
  go_wp2_with fail
  exact ⟨rfl, rfl, grown_drewN g1 _⟩
theorem word_none {x : UInt8} {q : List UInt8} {i : Nat} (h : (rTest ((x :: q).take (wlen (x :: q)))).2 = false) : ((wordP (x :: q)).map fun r => ([r.1], i + r.2)) = none := by
  unfold wordP; rw [h]; rfl
theorem word_some {x : UInt8} {q : List UInt8} {i : Nat} (h : (rTest ((x :: q).take (wlen (x :: q)))).2 = true) : ((wordP (x :: q)).map fun r => ([r.1], i + r.2)) = some ([(rTest ((x :: q).take (wlen (x :: q)))).1], i + wlen (x :: q)) := by
  unfold wordP; rw [h]; rfl
theorem wlen_bang (q : List UInt8) : wlen (33 :: q) = min 2 (q.length + 1) := rfl
theorem wlen_other {x : UInt8} {q : List UInt8} (h1 : x ≠ 33) (h2 : x ≠ 91) : wlen (x :: q) = 1 := by unfold wlen; simp only; rw [if_neg h1, if_neg h2]
theorem wlen_square (q : List UInt8) : wlen (91 :: q) ≠ 1 := by
  have h : wlen (91 :: q) = match (91 :: q).findIdx? (fun c => c == 93) with | some k => k + 1 | none => 0 := rfl
  rw [h, List.findIdx?_cons, if_neg (by decide)]
  cases List.findIdx? (fun c => c == 93) q with
  | none => simp
  | some k => simp
theorem single_word (w0 : World) (hN : NM w0) (l : List UInt8) (hl : l.length ≤ 199) (g i : Nat) (w : World) (R : Rd w0 w g l i) (hi : i < l.length) (h40 : atB l i 40 = false) (x : UInt8) (q : List UInt8) (hr : l.drop i = x :: q)
    (hsw : x = 33 ∨ x = 91 ∨ (x ≠ 33 ∧ x ≠ 91 ∧ x.toNat < 97) ∨ (x ≠ 33 ∧ x ≠ 91 ∧ 99 < x.toNat)) :
    Calls Tryd.prog 24 #[.pointer (some ⟨g, 0, none⟩)] w (RdI l g w ((wordP (x :: q)).map fun r => ([r.1], i + r.2))) := by
  have hz : (bs l).size = l.length := rfl
  have hiz : (i : Int) < l.length := by omega
  have hx : (bs l).extract i l.length = bs (x :: q) := by rw [bs_from, hr]
  have hlen : (x :: q).length = l.length - i := by rw [← hr, List.length_drop]
  have hzr : (bs (x :: q)).size = l.length - i := hlen
  have hnl : wlen (x :: q) ≤ l.length - i := by rw [← hlen]; exact wlen_le _
  have hnl2 : ((wlen (x :: q) : Nat) : Int) ≤ ((l.length - i : Nat) : Int) := by omega
  have ht := impl_take l hl g i 40 w R.it (Nat.le_of_lt hi)
  have hwd : (bs (x :: q)).extract 0 (wlen (x :: q)) = bs ((x :: q).take (wlen (x :: q))) := bs_upto _ _
  have hzw : (bs ((x :: q).take (wlen (x :: q)))).size = wlen (x :: q) := by show List.length _ = _; rw [List.length_take]; omega
  have hf1 := @word_none x q i
  have hf2 := @word_some x q i
  have hrange := rTest_rangeX ((x :: q).take (wlen (x :: q)))
  have hrt : ∀ W, NM W → Calls Tryd.prog 30 #[.string (bs ((x :: q).take (wlen (x :: q))))] W fun e w' => e = .returned (.tuple #[.int .i64 (rTest ((x :: q).take (wlen (x :: q)))).1, .bool (rTest ((x :: q).take (wlen (x :: q)))).2]) ∧ W = w' := fun W h => impl_ReadTest _ W h
  have hp33 := prefix_one (x :: q) 33
  have hp91 := prefix_one (x :: q) 91
  have hcs : (x = 33 ∧ min (2 : Int) ((l.length - i : Nat) : Int) = wlen (x :: q) ∧ (wlen (x :: q) ≠ 1 ∨ wlen (x :: q) = 1 ∧ x.toNat < 97)) ∨ (x = 91 ∧ wlen (x :: q) ≠ 1) ∨ (x ≠ 33 ∧ x ≠ 91 ∧ wlen (x :: q) = 1 ∧ x.toNat < 97) ∨ (x ≠ 33 ∧ x ≠ 91 ∧ wlen (x :: q) = 1 ∧ 99 < x.toNat) := by
    rcases hsw with rfl | rfl | ⟨h1, h2, h3⟩ | ⟨h1, h2, h3⟩
    · refine .inl ⟨rfl, ?_, ?_⟩
      · rw [wlen_bang, ← hlen]; simp only [List.length_cons]; omega
      · by_cases h : wlen (33 :: q) = 1
        · exact .inr ⟨h, by decide⟩
        · exact .inl h
    · exact .inr (.inl ⟨rfl, wlen_square q⟩)
    · exact .inr (.inr (.inl ⟨h1, h2, wlen_other h1 h2, h3⟩))
    · exact .inr (.inr (.inr ⟨h1, h2, wlen_other h1 h2, h3⟩))
  have hw1 : wlen (x :: q) = 1 → (x :: q).take (wlen (x :: q)) = [x] := fun h => by rw [h]; rfl
  have hix : ∀ W, x = 91 → Calls Tryd.prog 29 #[.string (bs (x :: q)), .int .u8 93] W fun e w' => e = .returned (.int .i64 ((wlen (x :: q) : Int) - 1)) ∧ W = w' := fun W h => by subst h; exact index_wlen q W
  have hd33 : hd (x :: q) 33 = (x == 33) := rfl
  have hd91 : hd (x :: q) 91 = (x == 91) := rfl
  have hem : (bs (x :: q)).toList.isEmpty = false := by rw [ByteArray.toList_eq]; rfl
  clear hsw hr hlen
  generalize (x :: q).take (wlen (x :: q)) = wd at *
  generalize wlen (x :: q) = n at *
  generalize bs (x :: q) = r at *
  generalize ((wordP (x :: q)).map fun r => ([r.1], i + r.2)) = F at *
  generalize hd (x :: q) 33 = p33 at *
  generalize hd (x :: q) 91 = p91 at *
  generalize rTest wd = rt at *
  obtain ⟨tv, tb⟩ := rt
  simp only at hf1 hf2 hrange hrt
  obtain ⟨m, hm⟩ : ∃ m, m = i + n := ⟨_, rfl⟩
  rw [← hm] at hf2
  replace hm := Lib.hid hm
  replace hrt := Lib.hid hrt
  replace hf1 := Lib.hid hf1
  replace hf2 := Lib.hid hf2
  replace hix := Lib.hid hix
  replace hp33 := Lib.hid hp33
  replace hp91 := Lib.hid hp91
  replace hw1 := Lib.hid hw1
  replace hd33 := Lib.hid hd33
  replace hd91 := Lib.hid hd91
  go_enter Tryd.func24, Tryd.ntmps24
  go_wp2_with fail
  refine ht.mono ?_
  rintro e w1 ⟨rfl, g1, a1⟩
  rw [h40] at a1 ⊢
  simp only [Bool.false_eq_true, if_false] at a1
  have R1 := R.next g1 a1
  have c0 := a1.c0
  have c1 := a1.c1
  have fr := a1.free
  clear h40 ht
  rcases hcs with ⟨rfl, hmin, hn⟩ | ⟨rfl, hn⟩ | ⟨h33, h91, hn, hlo⟩ | ⟨h33, h91, hn, hhi⟩
  · obtain rfl : p33 = true := hd33.out
    rcases hn with hn | ⟨hn, hlo⟩
    · have hnz : ¬ (n : Int) = 1 := by omega
      go_wp2_with fail
      go_quiet (fail)
      go_wp2_with fail
      refine (hp33.out _).mono ?_
      rintro e w' ⟨rfl, rfl⟩
      go_wp2_with fail
      have hmm := hm.out
      refine (hrt.out _ ((R1.stepN _ _ m (by omega)).nm hN)).mono ?_
      rintro e w' ⟨rfl, rfl⟩
      cases tb
      · obtain rfl : F = none := hf1.out rfl
        clear hf1 hf2 hmm
        go_wp2_with fail
        exact ⟨rfl, rfl, grown_trans (grown_drewN g1 _) (grown_setCell _ _ _ _)⟩
      · obtain rfl : F = some ([tv], m) := hf2.out rfl
        clear hf1 hf2 hmm
        go_wp2_with fail
        go_ret
        have hmm := hm.out
        refine ⟨_, _, _, rfl, (own_at tv (wf_small (by omega) (by omega)) (by simp [World.setCell, World.drewN])).lower ?_, grown_alloc (grown_trans (grown_drewN g1 _) (grown_setCell _ _ _ _)) _, ((a1.drewN _).step _ m (by omega)).alloc _⟩
        exact (grown_trans (grown_drewN g1 _) (grown_setCell _ _ _ _)).size
    · obtain rfl := hn
      obtain rfl : wd = [33] := hw1.out rfl
      have hzx : (bs [33]).size = 1 := rfl
      have hx0 : ∀ h : 0 < (bs [33]).size, (bs [33])[0]'h = 33 := fun _ => rfl
      go_wp2_with fail
      go_quiet (fail)
      go_wp2_with fail
      refine (hp33.out _).mono ?_
      rintro e w' ⟨rfl, rfl⟩
      go_wp2_with fail
      have hmm := hm.out
      refine (hrt.out _ ((R1.stepN _ _ m (by omega)).nm hN)).mono ?_
      rintro e w' ⟨rfl, rfl⟩
      cases tb
      · obtain rfl : F = none := hf1.out rfl
        clear hf1 hf2 hmm
        go_wp2_with fail
        exact ⟨rfl, rfl, grown_trans (grown_drewN g1 _) (grown_setCell _ _ _ _)⟩
      · obtain rfl : F = some ([tv], m) := hf2.out rfl
        clear hf1 hf2 hmm
        go_wp2_with fail
        go_ret
        have hmm := hm.out
        refine ⟨_, _, _, rfl, (own_at tv (wf_small (by omega) (by omega)) (by simp [World.setCell, World.drewN])).lower ?_, grown_alloc (grown_trans (grown_drewN g1 _) (grown_setCell _ _ _ _)) _, ((a1.drewN _).step _ m (by omega)).alloc _⟩
        exact (grown_trans (grown_drewN g1 _) (grown_setCell _ _ _ _)).size
  · obtain rfl : p33 = false := hd33.out
    obtain rfl : p91 = true := hd91.out
    have hnz : ¬ (n : Int) = 1 := by omega
    go_wp2_with fail
    go_quiet (fail)
    go_wp2_with fail
    refine (hp33.out _).mono ?_
    rintro e w' ⟨rfl, rfl⟩
    go_wp2_with fail
    refine (hp91.out _).mono ?_
    rintro e w' ⟨rfl, rfl⟩
    go_wp2_with fail
    refine (hix.out _ (by first | rfl | trivial)).mono ?_
    rintro e w' ⟨rfl, rfl⟩
    go_wp2_with fail
    have hmm := hm.out
    refine (hrt.out _ ((R1.stepN _ _ m (by omega)).nm hN)).mono ?_
    rintro e w' ⟨rfl, rfl⟩
    cases tb
    · obtain rfl : F = none := hf1.out rfl
      clear hf1 hf2 hmm
      go_wp2_with fail
      exact ⟨rfl, rfl, grown_trans (grown_drewN g1 _) (grown_setCell _ _ _ _)⟩
    · obtain rfl : F = some ([tv], m) := hf2.out rfl
      clear hf1 hf2 hmm
      go_wp2_with fail
      go_ret
      have hmm := hm.out
      refine ⟨_, _, _, rfl, (own_at tv (wf_small (by omega) (by omega)) (by simp [World.setCell, World.drewN])).lower ?_, grown_alloc (grown_trans (grown_drewN g1 _) (grown_setCell _ _ _ _)) _, ((a1.drewN _).step _ m (by omega)).alloc _⟩
      exact (grown_trans (grown_drewN g1 _) (grown_setCell _ _ _ _)).size
  · obtain rfl : p33 = false := by rw [hd33.out]; simpa using h33
    obtain rfl : p91 = false := by rw [hd91.out]; simpa using h91
    clear h33 h91
    have hlz : ¬ (97 : Int) ≤ (x.toNat : Int) := by omega
    obtain rfl := hn
    obtain rfl : wd = [x] := hw1.out rfl
    have hzx : (bs [x]).size = 1 := rfl
    have hx0 : ∀ h : 0 < (bs [x]).size, (bs [x])[0]'h = x := fun _ => rfl
    go_wp2_with fail
    go_quiet (fail)
    go_wp2_with fail
    refine (hp33.out _).mono ?_
    rintro e w' ⟨rfl, rfl⟩
    go_wp2_with fail
    refine (hp91.out _).mono ?_
    rintro e w' ⟨rfl, rfl⟩
    go_wp2_with fail
    have hmm := hm.out
    refine (hrt.out _ ((R1.stepN _ _ m (by omega)).nm hN)).mono ?_
    rintro e w' ⟨rfl, rfl⟩
    cases tb
    · obtain rfl : F = none := hf1.out rfl
      clear hf1 hf2 hmm
      go_wp2_with fail
      exact ⟨rfl, rfl, grown_trans (grown_drewN g1 _) (grown_setCell _ _ _ _)⟩
    · obtain rfl : F = some ([tv], m) := hf2.out rfl
      clear hf1 hf2 hmm
      go_wp2_with fail
      go_ret
      have hmm := hm.out
      refine ⟨_, _, _, rfl, (own_at tv (wf_small (by omega) (by omega)) (by simp [World.setCell, World.drewN])).lower ?_, grown_alloc (grown_trans (grown_drewN g1 _) (grown_setCell _ _ _ _)) _, ((a1.drewN _).step _ m (by omega)).alloc _⟩
      exact (grown_trans (grown_drewN g1 _) (grown_setCell _ _ _ _)).size
  · obtain rfl : p33 = false := by rw [hd33.out]; simpa using h33
    obtain rfl : p91 = false := by rw [hd91.out]; simpa using h91
    clear h33 h91
    have hlz : (97 : Int) ≤ (x.toNat : Int) := by omega
    have hhz : ¬ (x.toNat : Int) ≤ 99 := by omega
    obtain rfl := hn
    obtain rfl : wd = [x] := hw1.out rfl
    have hzx : (bs [x]).size = 1 := rfl
    have hx0 : ∀ h : 0 < (bs [x]).size, (bs [x])[0]'h = x := fun _ => rfl
    go_wp2_with fail
    go_quiet (fail)
    go_wp2_with fail
    refine (hp33.out _).mono ?_
    rintro e w' ⟨rfl, rfl⟩
    go_wp2_with fail
    refine (hp91.out _).mono ?_
    rintro e w' ⟨rfl, rfl⟩
    go_wp2_with fail
    have hmm := hm.out
    refine (hrt.out _ ((R1.stepN _ _ m (by omega)).nm hN)).mono ?_
    rintro e w' ⟨rfl, rfl⟩
    cases tb
    · obtain rfl : F = none := hf1.out rfl
      clear hf1 hf2 hmm
      go_wp2_with fail
      exact ⟨rfl, rfl, grown_trans (grown_drewN g1 _) (grown_setCell _ _ _ _)⟩
    · obtain rfl : F = some ([tv], m) := hf2.out rfl
      clear hf1 hf2 hmm
      go_wp2_with fail
      go_ret
      have hmm := hm.out
      refine ⟨_, _, _, rfl, (own_at tv (wf_small (by omega) (by omega)) (by simp [World.setCell, World.drewN])).lower ?_, grown_alloc (grown_trans (grown_drewN g1 _) (grown_setCell _ _ _ _)) _, ((a1.drewN _).step _ m (by omega)).alloc _⟩
      exact (grown_trans (grown_drewN g1 _) (grown_setCell _ _ _ _)).size
end Go.Proofs.YtfhfjkpheloanaaDoor
