/-
  Contracts of the program's readers of repeated expressions: (*katReader).starred, product, sum (chapter 2).
-/
import Derived.Test.YtfhfjkpheloanaaDoorRdrC
namespace Go.Proofs.YtfhfjkpheloanaaDoor
open Go.RowKit
set_option linter.unusedVariables false
set_option maxHeartbeats 400000
/-- where the reader in block g is -/
def posOf (w : World) (g : Nat) : Nat := match w.cell? ⟨g, 1, none⟩ with | some (.int .i64 t) => t.toNat | _ => 0
theorem At.pos {w : World} {g i : Nat} {l : List UInt8} (h : At w g l i) : posOf w g = i := by unfold posOf; rw [h.c1]; simp
theorem grown_own {w w2 w3 : World} {g : Nat} {row : Option Nat} (h : w.grownBy w2 (some g)) (k : w2.grownBy w3 row) (hr : ∀ j, row = some j → w.heap.size ≤ j) : w.grownBy w3 (some g) :=
  ⟨k.os.trans h.os, k.tape.trans h.tape, k.output.trans h.output, Nat.le_trans h.size k.size, fun i hi hne => (k.block i (Nat.lt_of_lt_of_le hi h.size) (fun e => by have := hr i e.symm; omega)).trans (h.block i hi hne)⟩
/-- what an append to a slice of the reader's own leaves of the reader -/
theorem app_keeps {w w2 w3 : World} {g t : Nat} {l : List UInt8} {o : Obj} {A : Option Addr} (hg : g < w.heap.size) (h : w.grownBy w2 (some g)) (a : At w2 g l t)
    (k : ∃ row, (w2.alloc o).grownBy w3 row ∧ ∀ j, row = some j → w.heap.size ≤ j ∧ A = some (⟨j, 0, none⟩ : Addr)) : w.grownBy w3 (some g) ∧ At w3 g l t := by
  obtain ⟨row, k1, k2⟩ := k
  exact ⟨grown_own (grown_alloc h _) k1 fun j hj => (k2 j hj).1, (a.alloc o).grown k1 fun e => by have := (k2 g e).1; omega⟩
theorem app_keeps0 {w w2 w3 : World} {g t : Nat} {l : List UInt8} {A : Option Addr} (hg : g < w.heap.size) (h : w.grownBy w2 (some g)) (a : At w2 g l t)
    (k : ∃ row, w2.grownBy w3 row ∧ ∀ j, row = some j → w.heap.size ≤ j ∧ A = some (⟨j, 0, none⟩ : Addr)) : w.grownBy w3 (some g) ∧ At w3 g l t := by
  obtain ⟨row, k1, k2⟩ := k
  exact ⟨grown_own h k1 fun j hj => (k2 j hj).1, a.grown k1 fun e => by have := (k2 g e).1; omega⟩
theorem stars_more {l : List UInt8} {k : Nat} {xs : List Int} {t : Nat} (h : atB l t 42 = true) : starsP l (k + 1) xs t = starsP l k (xs ++ [21]) (t + 1) := by simp [starsP, h]
theorem stars_end {l : List UInt8} {k : Nat} {xs : List Int} {t : Nat} (h : atB l t 42 = false) : starsP l k xs t = (xs, t) := by
  cases k with
  | zero => rfl
  | succ k => simp [starsP, h]
theorem chain_go {sub : Nat → Option (List Int × Nat)} {sign : UInt8} {op : Int} {l : List UInt8} {k : Nat} {e : List Int} {i : Nat} (hb : atB l i sign = true) :
    chainP sub sign op l (k + 1) e i = (sub (i + 1)).bind fun r => chainP sub sign op l k (e ++ r.1 ++ [op]) r.2 := by simp [chainP, hb]
theorem chain_end {sub : Nat → Option (List Int × Nat)} {sign : UInt8} {op : Int} {l : List UInt8} {k : Nat} {e : List Int} {i : Nat} (hb : atB l i sign = false) : chainP sub sign op l k e i = some (e, i) := by
  cases k with
  | zero => rfl
  | succ k => simp [chainP, hb]
theorem starred_any (w0 : World) (l : List UInt8) (hl : l.length ≤ 199) (g i : Nat) (w : World) (R : Rd w0 w g l i) (sing : Option (List Int × Nat)) (hb : ∀ r, sing = some r → i < r.2 ∧ r.2 ≤ l.length ∧ 1 ≤ r.1.length ∧ r.1.length ≤ 2 * (r.2 - i))
    (hs : Calls Tryd.prog 24 #[.pointer (some ⟨g, 0, none⟩)] w (RdI l g w sing)) :
    Calls Tryd.prog 22 #[.pointer (some ⟨g, 0, none⟩)] w (RdI l g w (sing.map fun r => starsP l l.length r.1 r.2)) := by
  have hg := R.it.lt
  have hF : Hid ((sing.map fun r => starsP l l.length r.1 r.2) = (sing.map fun r => starsP l l.length r.1 r.2)) := rfl
  generalize hFF : (sing.map fun r => starsP l l.length r.1 r.2) = F at *
  replace hFF := Lib.hid hFF
  clear hF
  replace hs := Lib.hid hs
  replace hb := Lib.hid hb
  go_enter Tryd.func22, Tryd.ntmps22
  go_wp2_with fail
  refine hs.out.mono ?_
  intro e w1 hr
  cases sing with
  | none =>
    obtain ⟨rfl, g1⟩ := hr
    have hN : F = none := hFF.out.symm
    subst hN
    clear hFF hs hb
    unfold wrongV
    go_wp2_with fail
    exact ⟨rfl, rfl, g1⟩
  | some p =>
    obtain ⟨xs, t⟩ := p
    obtain ⟨A, n, c, rfl, o, g1, a1⟩ := hr
    have h4 := hb.out _ rfl
    simp only at h4
    have hch : Hid (some (starsP l l.length xs t) = F) := hFF.out
    have hol := o.len
    have hit := h4.1
    have ht := h4.2.1
    have hn : n ≤ 2 * (t - i) := by omega
    have hkt : l.length ≤ l.length + t := by omega
    clear hFF hs hb h4 hol
    go_wp2_with fail
    go_loopw [3] (fun out wr => ∃ A n c xs, ∃ k t : Nat, out = .slice A n c ∧ Own wr w.heap.size A n c xs ∧ w.grownBy wr (some g) ∧ At wr g l t ∧ t ≤ l.length ∧ i < t ∧ l.length ≤ k + t ∧ n ≤ 2 * (t - i) ∧ Hid (some (starsP l k xs t) = F)) (fun _ wr => l.length - posOf wr g)
    case atStart => exact ⟨A, n, c, xs, l.length, t, rfl, o, g1, a1, ht, hit, hkt, hn, hch⟩
    case round =>
      clear o g1 a1 ht hit hkt hn hch
      obtain ⟨A, n, c, xs, k, t, rfl, o, g1, a1, ht, hit, hkt, hn, hch⟩ := hrel
      have hpos := Lib.hid a1.pos
      have htk := Lib.hid (impl_take l hl g t 42 wr a1 ht)
      have hnb : n ≤ 1000 := by omega
      cases hb : atB l t 42
      · have hF2 : some (xs, t) = F := by rw [← hch.out, stars_end hb]
        subst hF2
        replace hb := Lib.hid hb
        clear hch
        go_wp2_with fail
        refine htk.out.mono ?_
        rintro e w2 ⟨rfl, g2, a2⟩
        rw [hb.out] at a2 ⊢
        simp only [Bool.false_eq_true, if_false] at a2
        have o2 := o.past g2 hg
        clear htk o
        go_wp2_with fail
        go_ret
        exact ⟨_, _, _, rfl, o2, grown_trans g1 g2, a2⟩
      · have htl := atB_lt hb
        obtain ⟨k, rfl⟩ : ∃ q, k = q + 1 := ⟨k - 1, by omega⟩
        have hF2 : Hid (some (starsP l k (xs ++ [21]) (t + 1)) = F) := by show _ = _; rw [← hch.out, stars_more hb]
        replace hb := Lib.hid hb
        clear hch
        go_wp2_with fail
        refine htk.out.mono ?_
        rintro e w2 ⟨rfl, g2, a2⟩
        rw [hb.out] at a2 ⊢
        simp only [if_true] at a2
        have o2 := o.past g2 hg
        have g3 := grown_trans g1 g2
        have hsz := g3.size
        clear htk o g1 g2
        replace hn := Lib.hid hn
        replace hkt := Lib.hid hkt
        replace hsz := Lib.hid hsz
        go_wp2_with (
          at_builtin
          refine wpList_app rfl _ _ rfl w.heap.size _ n c xs rfl (o2.alloc _) _ _ 1 1 [21] rfl (Ls.one w2 21 (by decide) _) (by omega) (by have := hsz.out; simp; omega) ?_
          intro A3 c3 w3 o3 k3
          obtain ⟨g4, a4⟩ := app_keeps hg g3 a2 k3
          clear k3)
        replace hn := hn.out
        replace hkt := hkt.out
        go_roundw
        case rel => exact ⟨A3, n + 1, c3, _, k, t + 1, rfl, o3, g4, a4, by omega, by omega, by omega, by omega, hF2⟩
        case measure =>
          rw [a4.pos, hpos.out]
          omega
theorem product_any (w0 : World) (l : List UInt8) (hl : l.length ≤ 199) (g i : Nat) (w : World) (R : Rd w0 w g l i) (hi : i ≤ l.length) (sub : Nat → Option (List Int × Nat)) (hf : Fwd l sub)
    (hsub : ∀ j w, i ≤ j → j ≤ l.length → Rd w0 w g l j → Calls Tryd.prog 22 #[.pointer (some ⟨g, 0, none⟩)] w (RdI l g w (sub j))) :
    Calls Tryd.prog 18 #[.pointer (some ⟨g, 0, none⟩)] w (RdI l g w (seqP sub 59 19 l i)) := by
  have hg := R.it.lt
  have hF : Hid (seqP sub 59 19 l i = (sub i).bind fun r => chainP sub 59 19 l l.length r.1 r.2) := rfl
  have hs := Lib.hid (hsub i w (Nat.le_refl _) hi R)
  have hfi := Lib.hid (hf i)
  generalize seqP sub 59 19 l i = F at *
  generalize sub i = ri at *
  replace hsub := Lib.hid hsub
  replace hf := Lib.hid hf
  go_enter Tryd.func18, Tryd.ntmps18
  go_wp2_with fail
  refine hs.out.mono ?_
  intro e w1 hr
  cases ri with
  | none =>
    obtain ⟨rfl, g1⟩ := hr
    have hN : F = none := hF.out
    subst hN
    clear hF hs hsub hfi hf
    unfold wrongV
    go_wp2_with fail
    exact ⟨rfl, rfl, g1⟩
  | some p =>
    obtain ⟨xs, t⟩ := p
    obtain ⟨A, n, c, rfl, o, g1, a1⟩ := hr
    have h4 := hfi.out _ rfl
    simp only at h4
    have hch : Hid (chainP sub 59 19 l l.length xs t = F) := hF.out.symm
    have hol := o.len
    have hit := h4.1
    have ht := h4.2.1
    have hn : n ≤ 2 * (t - i) := by omega
    have hkt : l.length + 1 ≤ l.length + t := by omega
    clear hF hs hfi h4 hol
    go_wp2_with fail
    go_loopw [3] (fun out wr => ∃ A n c xs, ∃ k t : Nat, out = .slice A n c ∧ Own wr w.heap.size A n c xs ∧ w.grownBy wr (some g) ∧ At wr g l t ∧ t ≤ l.length ∧ i < t ∧ l.length + 1 ≤ k + t ∧ n ≤ 2 * (t - i) ∧ Hid (chainP sub 59 19 l k xs t = F)) (fun _ wr => l.length - posOf wr g)
    case atStart => exact ⟨A, n, c, xs, l.length, t, rfl, o, g1, a1, ht, hit, hkt, hn, hch⟩
    case round =>
      clear o g1 a1 ht hit hkt hn hch
      obtain ⟨A, n, c, xs, k, t, rfl, o, g1, a1, ht, hit, hkt, hn, hch⟩ := hrel
      have hpos := Lib.hid a1.pos
      have htk := Lib.hid (impl_take l hl g t 59 wr a1 ht)
      have hnb : n ≤ 1000 := by omega
      cases hb : atB l t 59
      · have hF2 : some (xs, t) = F := by rw [← hch.out, chain_end hb]
        subst hF2
        replace hb := Lib.hid hb
        clear hch
        go_wp2_with fail
        refine htk.out.mono ?_
        rintro e w2 ⟨rfl, g2, a2⟩
        rw [hb.out] at a2 ⊢
        simp only [Bool.false_eq_true, if_false] at a2
        have o2 := o.past g2 hg
        clear htk o
        go_wp2_with fail
        go_ret
        exact ⟨_, _, _, rfl, o2, grown_trans g1 g2, a2⟩
      · have htl := atB_lt hb
        obtain ⟨k, rfl⟩ : ∃ q, k = q + 1 := ⟨k - 1, by omega⟩
        have hF2 : Hid ((sub (t + 1)).bind (fun r => chainP sub 59 19 l k (xs ++ r.1 ++ [19]) r.2) = F) := by show _ = _; rw [← hch.out, chain_go hb]
        have hf2 := Lib.hid (hf.out (t + 1))
        have hsub2 := fun w R => hsub.out (t + 1) w (by omega) (by omega) R
        replace hb := Lib.hid hb
        clear hch
        generalize sub (t + 1) = r2 at *
        replace hsub2 := Lib.hid hsub2
        go_wp2_with fail
        refine htk.out.mono ?_
        rintro e w2 ⟨rfl, g2, a2⟩
        rw [hb.out] at a2 ⊢
        simp only [if_true] at a2
        have o2 := o.past g2 hg
        have g3 := grown_trans g1 g2
        clear htk o g1 g2
        replace hn := Lib.hid hn
        replace hkt := Lib.hid hkt
        go_wp2_with fail
        refine (hsub2.out w2 (R.next g3 a2)).mono ?_
        intro e w3 hr
        cases r2 with
        | none =>
          obtain ⟨rfl, g4⟩ := hr
          have hN : F = none := hF2.out.symm
          subst hN
          clear hF2 hsub hsub2 hf hf2
          unfold wrongV
          go_wp2_with fail
          exact ⟨rfl, rfl, grown_trans g3 g4⟩
        | some p =>
          obtain ⟨ys, t2⟩ := p
          obtain ⟨A2, n2, c2, rfl, o3, g4, a4⟩ := hr
          have h4 := hf2.out _ rfl
          simp only at h4
          have hF3 : Hid (chainP sub 59 19 l k (xs ++ ys ++ [19]) t2 = F) := hF2.out
          have hol := o3.len
          have ht2 := h4.2.1
          have htt := h4.1
          have hn2 : n2 ≤ 2 * (t2 - (t + 1)) := by omega
          have hn2b : n2 ≤ 1000 := by omega
          have o5 := o2.past g4 hg
          have g5 := grown_trans g3 g4
          have hsz := Lib.hid g5.size
          have hl3 := o3.ls
          replace hn2 := Lib.hid hn2
          clear hF2 hsub2 hf2 h4 hol o2 g3 a2 o3 hsub
          have tok1 : True := trivial
          have tok2 : True := trivial
          go_wp2_with (first
            | (at_builtin
               have _t := tok1
               refine wpList_app rfl _ _ rfl w.heap.size _ n c xs rfl o5 _ A2 n2 c2 ys rfl hl3 (by omega) hsz.out ?_
               intro A6 c6 w6 o6 k6
               obtain ⟨g6, a6⟩ := app_keeps0 hg g5 a4 k6
               have hsz6 := Lib.hid g6.size
               clear k6 tok1)
            | (at_builtin
               have _t := tok2
               refine wpList_app rfl _ _ rfl w.heap.size _ (n + n2) c6 (xs ++ ys) rfl (o6.alloc _) _ _ 1 1 [19] rfl (Ls.one w6 19 (by decide) _) (by omega) (by have := hsz6.out; simp; omega) ?_
               intro A7 c7 w7 o7 k7
               obtain ⟨g7, a7⟩ := app_keeps hg g6 a6 k7
               clear k7 tok2))
          replace hn := hn.out
          replace hkt := hkt.out
          replace hn2 := hn2.out
          go_roundw
          case rel => exact ⟨A7, n + n2 + 1, c7, _, k, t2, rfl, o7, g7, a7, ht2, by omega, by omega, by omega, hF3⟩
          case measure =>
            rw [a7.pos, hpos.out]
            omega
theorem sum_any (w0 : World) (l : List UInt8) (hl : l.length ≤ 199) (g i : Nat) (w : World) (R : Rd w0 w g l i) (hi : i ≤ l.length) (sub : Nat → Option (List Int × Nat)) (hf : Fwd l sub)
    (hsub : ∀ j w, i ≤ j → j ≤ l.length → Rd w0 w g l j → Calls Tryd.prog 18 #[.pointer (some ⟨g, 0, none⟩)] w (RdI l g w (sub j))) :
    Calls Tryd.prog 12 #[.pointer (some ⟨g, 0, none⟩)] w (RdI l g w (seqP sub 43 20 l i)) := by
  have hg := R.it.lt
  have hF : Hid (seqP sub 43 20 l i = (sub i).bind fun r => chainP sub 43 20 l l.length r.1 r.2) := rfl
  have hs := Lib.hid (hsub i w (Nat.le_refl _) hi R)
  have hfi := Lib.hid (hf i)
  generalize seqP sub 43 20 l i = F at *
  generalize sub i = ri at *
  replace hsub := Lib.hid hsub
  replace hf := Lib.hid hf
  go_enter Tryd.func12, Tryd.ntmps12
  go_wp2_with fail
  refine hs.out.mono ?_
  intro e w1 hr
  cases ri with
  | none =>
    obtain ⟨rfl, g1⟩ := hr
    have hN : F = none := hF.out
    subst hN
    clear hF hs hsub hfi hf
    unfold wrongV
    go_wp2_with fail
    exact ⟨rfl, rfl, g1⟩
  | some p =>
    obtain ⟨xs, t⟩ := p
    obtain ⟨A, n, c, rfl, o, g1, a1⟩ := hr
    have h4 := hfi.out _ rfl
    simp only at h4
    have hch : Hid (chainP sub 43 20 l l.length xs t = F) := hF.out.symm
    have hol := o.len
    have hit := h4.1
    have ht := h4.2.1
    have hn : n ≤ 2 * (t - i) := by omega
    have hkt : l.length + 1 ≤ l.length + t := by omega
    clear hF hs hfi h4 hol
    go_wp2_with fail
    go_loopw [3] (fun out wr => ∃ A n c xs, ∃ k t : Nat, out = .slice A n c ∧ Own wr w.heap.size A n c xs ∧ w.grownBy wr (some g) ∧ At wr g l t ∧ t ≤ l.length ∧ i < t ∧ l.length + 1 ≤ k + t ∧ n ≤ 2 * (t - i) ∧ Hid (chainP sub 43 20 l k xs t = F)) (fun _ wr => l.length - posOf wr g)
    case atStart => exact ⟨A, n, c, xs, l.length, t, rfl, o, g1, a1, ht, hit, hkt, hn, hch⟩
    case round =>
      clear o g1 a1 ht hit hkt hn hch
      obtain ⟨A, n, c, xs, k, t, rfl, o, g1, a1, ht, hit, hkt, hn, hch⟩ := hrel
      have hpos := Lib.hid a1.pos
      have htk := Lib.hid (impl_take l hl g t 43 wr a1 ht)
      have hnb : n ≤ 1000 := by omega
      cases hb : atB l t 43
      · have hF2 : some (xs, t) = F := by rw [← hch.out, chain_end hb]
        subst hF2
        replace hb := Lib.hid hb
        clear hch
        go_wp2_with fail
        refine htk.out.mono ?_
        rintro e w2 ⟨rfl, g2, a2⟩
        rw [hb.out] at a2 ⊢
        simp only [Bool.false_eq_true, if_false] at a2
        have o2 := o.past g2 hg
        clear htk o
        go_wp2_with fail
        go_ret
        exact ⟨_, _, _, rfl, o2, grown_trans g1 g2, a2⟩
      · have htl := atB_lt hb
        obtain ⟨k, rfl⟩ : ∃ q, k = q + 1 := ⟨k - 1, by omega⟩
        have hF2 : Hid ((sub (t + 1)).bind (fun r => chainP sub 43 20 l k (xs ++ r.1 ++ [20]) r.2) = F) := by show _ = _; rw [← hch.out, chain_go hb]
        have hf2 := Lib.hid (hf.out (t + 1))
        have hsub2 := fun w R => hsub.out (t + 1) w (by omega) (by omega) R
        replace hb := Lib.hid hb
        clear hch
        generalize sub (t + 1) = r2 at *
        replace hsub2 := Lib.hid hsub2
        go_wp2_with fail
        refine htk.out.mono ?_
        rintro e w2 ⟨rfl, g2, a2⟩
        rw [hb.out] at a2 ⊢
        simp only [if_true] at a2
        have o2 := o.past g2 hg
        have g3 := grown_trans g1 g2
        clear htk o g1 g2
        replace hn := Lib.hid hn
        replace hkt := Lib.hid hkt
        go_wp2_with fail
        refine (hsub2.out w2 (R.next g3 a2)).mono ?_
        intro e w3 hr
        cases r2 with
        | none =>
          obtain ⟨rfl, g4⟩ := hr
          have hN : F = none := hF2.out.symm
          subst hN
          clear hF2 hsub hsub2 hf hf2
          unfold wrongV
          go_wp2_with fail
          exact ⟨rfl, rfl, grown_trans g3 g4⟩
        | some p =>
          obtain ⟨ys, t2⟩ := p
          obtain ⟨A2, n2, c2, rfl, o3, g4, a4⟩ := hr
          have h4 := hf2.out _ rfl
          simp only at h4
          have hF3 : Hid (chainP sub 43 20 l k (xs ++ ys ++ [20]) t2 = F) := hF2.out
          have hol := o3.len
          have ht2 := h4.2.1
          have htt := h4.1
          have hn2 : n2 ≤ 2 * (t2 - (t + 1)) := by omega
          have hn2b : n2 ≤ 1000 := by omega
          have o5 := o2.past g4 hg
          have g5 := grown_trans g3 g4
          have hsz := Lib.hid g5.size
          have hl3 := o3.ls
          replace hn2 := Lib.hid hn2
          clear hF2 hsub2 hf2 h4 hol o2 g3 a2 o3 hsub
          have tok1 : True := trivial
          have tok2 : True := trivial
          go_wp2_with (first
            | (at_builtin
               have _t := tok1
               refine wpList_app rfl _ _ rfl w.heap.size _ n c xs rfl o5 _ A2 n2 c2 ys rfl hl3 (by omega) hsz.out ?_
               intro A6 c6 w6 o6 k6
               obtain ⟨g6, a6⟩ := app_keeps0 hg g5 a4 k6
               have hsz6 := Lib.hid g6.size
               clear k6 tok1)
            | (at_builtin
               have _t := tok2
               refine wpList_app rfl _ _ rfl w.heap.size _ (n + n2) c6 (xs ++ ys) rfl (o6.alloc _) _ _ 1 1 [20] rfl (Ls.one w6 20 (by decide) _) (by omega) (by have := hsz6.out; simp; omega) ?_
               intro A7 c7 w7 o7 k7
               obtain ⟨g7, a7⟩ := app_keeps hg g6 a6 k7
               clear k7 tok2))
          replace hn := hn.out
          replace hkt := hkt.out
          replace hn2 := hn2.out
          go_roundw
          case rel => exact ⟨A7, n + n2 + 1, c7, _, k, t2, rfl, o7, g7, a7, ht2, by omega, by omega, by omega, hF3⟩
          case measure =>
            rw [a7.pos, hpos.out]
            omega
end Go.Proofs.YtfhfjkpheloanaaDoor
