/-
  Contract of the program's reader of a single expression: letters, leaves, brackets: (*katReader).single (chapter 2).
-/
import Derived.Test.YtfhfjkpheloanaaDoorRdrB
namespace Go.Proofs.YtfhfjkpheloanaaDoor
open Go.RowKit
set_option linter.unusedVariables false
set_option maxHeartbeats 400000
theorem Own.past {w w' : World} {b n c g : Nat} {A : Option Addr} {xs : List Int} (o : Own w b A n c xs) (hg : w.grownBy w' (some g)) (hb : g < b) : Own w' b A n c xs := by
  refine o.keep hg fun k hk e => ?_
  rcases o.form with ⟨rfl, _⟩ | ⟨k', rfl, h1, _⟩
  · cases hk
  · injection hk with hk; injection hk with hk; injection e with e; omega
/-- a leaf, or what is in brackets -/
def singP (l : List UInt8) (inner : Nat → Option (List Int × Nat)) (i : Nat) : Option (List Int × Nat) :=
  if atB l i 40 then (inner (i + 1)).bind fun r => if atB l r.2 41 then some (r.1, r.2 + 1) else none else leafP l i
theorem single_let (w0 : World) (hN : NM w0) (l : List UInt8) (hl : l.length ≤ 199) (g i : Nat) (w : World) (R : Rd w0 w g l i) (hi : i < l.length) (h40 : atB l i 40 = false) (x : UInt8) (q : List UInt8) (hr : l.drop i = x :: q)
    (h97 : 97 ≤ x.toNat) (h99 : x.toNat ≤ 99) :
    Calls Tryd.prog 24 #[.pointer (some ⟨g, 0, none⟩)] w (RdI l g w (some ([16 + ((x.toNat : Int) - 97)], i + 1))) := by
  have hz : (bs l).size = l.length := rfl
  have hiz : (i : Int) < l.length := by omega
  have hx : (bs l).extract i l.length = bs (x :: q) := by rw [bs_from, hr]
  have hlen : (x :: q).length = l.length - i := by rw [← hr, List.length_drop]
  have hzr : (bs (x :: q)).size = l.length - i := hlen
  have hnl2 : (1 : Int) ≤ ((l.length - i : Nat) : Int) := by omega
  have ht := impl_take l hl g i 40 w R.it (Nat.le_of_lt hi)
  have hwd : (bs (x :: q)).extract 0 1 = bs [x] := bs_upto _ _
  have hzw : (bs [x]).size = 1 := rfl
  have hx0 : ∀ h : 0 < (bs [x]).size, (bs [x])[0]'h = x := fun _ => rfl
  have h33 : hd (x :: q) 33 = false := by
    show (x == 33) = false
    rw [beq_eq_false_iff_ne]; intro e; rw [e] at h97; exact absurd h97 (by decide)
  have h91 : hd (x :: q) 91 = false := by
    show (x == 91) = false
    rw [beq_eq_false_iff_ne]; intro e; rw [e] at h97; exact absurd h97 (by decide)
  have hp33 := prefix_one (x :: q) 33
  have hp91 := prefix_one (x :: q) 91
  have hem : (bs (x :: q)).toList.isEmpty = false := by rw [ByteArray.toList_eq]; rfl
  have hlz : (97 : Int) ≤ (x.toNat : Int) := by omega
  have hhz : (x.toNat : Int) ≤ 99 := by omega
  rw [h33] at hp33
  rw [h91] at hp91
  clear hr hlen h33 h91
  generalize bs (x :: q) = r at *
  replace hp33 := Lib.hid hp33
  replace hp91 := Lib.hid hp91
  go_enter Tryd.func24, Tryd.ntmps24
  go_wp2_with fail
  refine ht.mono ?_
  rintro e w1 ⟨rfl, g1, a1⟩
  rw [h40] at a1 ⊢
  simp only [Bool.false_eq_true, if_false] at a1
  have R1 := R.next g1 a1
  have c0 := a1.c0
  have c1 := a1.c1
  have fr := a1.free
  clear h40 ht
  go_wp2_with fail
  go_quiet (fail)
  go_wp2_with fail
  refine (hp33.out _).mono ?_
  rintro e w' ⟨rfl, rfl⟩
  go_wp2_with fail
  refine (hp91.out _).mono ?_
  rintro e w' ⟨rfl, rfl⟩
  go_wp2_with fail
  go_ret
  refine ⟨_, _, _, rfl, (own_at _ (wf_small (by omega) (by omega)) (by simp [World.setCell, World.drewN])).lower ?_, grown_alloc (grown_trans (grown_drewN g1 _) (grown_setCell _ _ _ _)) _, ((a1.drewN _).step _ (i + 1) (by omega)).alloc _⟩
  exact (grown_trans (grown_drewN g1 _) (grown_setCell _ _ _ _)).size
theorem single_leaf (w0 : World) (hN : NM w0) (l : List UInt8) (hl : l.length ≤ 199) (g i : Nat) (w : World) (R : Rd w0 w g l i) (hi : i ≤ l.length) (h40 : atB l i 40 = false) :
    Calls Tryd.prog 24 #[.pointer (some ⟨g, 0, none⟩)] w (RdI l g w (leafP l i)) := by
  by_cases hlt : i < l.length
  · have hr := drop_cons hlt
    have hn40 : (l.getD i 0).toNat ≠ 40 := by
      intro e
      have : atB l i 40 = true := by
        unfold atB
        rw [decide_eq_true hlt, UInt8.toNat_inj.1 (show (l.getD i 0).toNat = (40 : UInt8).toNat from e)]; rfl
      rw [this] at h40; cases h40
    unfold leafP
    rw [if_pos hlt]
    by_cases h97 : 97 ≤ (l.getD i 0).toNat
    · by_cases h99 : (l.getD i 0).toNat ≤ 99
      · rw [if_pos ⟨UInt8.le_iff_toNat_le.2 h97, UInt8.le_iff_toNat_le.2 h99⟩]
        exact single_let w0 hN l hl g i w R hlt h40 _ _ hr h97 h99
      · rw [if_neg (fun e => h99 (by have := UInt8.le_iff_toNat_le.1 e.2; exact this)), hr]
        refine single_word w0 hN l hl g i w R hlt h40 _ _ hr (.inr (.inr (.inr ⟨?_, ?_, by omega⟩)))
        · intro e; rw [e] at h99; exact h99 (by decide)
        · intro e; rw [e] at h99; exact h99 (by decide)
    · rw [if_neg (fun e => h97 (by have := UInt8.le_iff_toNat_le.1 e.1; exact this)), hr]
      refine single_word w0 hN l hl g i w R hlt h40 _ _ hr ?_
      by_cases h33 : l.getD i 0 = 33
      · exact .inl h33
      · by_cases h91 : l.getD i 0 = 91
        · exact .inr (.inl h91)
        · exact .inr (.inr (.inl ⟨h33, h91, by omega⟩))
  · unfold leafP
    rw [if_neg hlt]
    exact single_end w0 l hl g i w R (by omega)
theorem single_any (w0 : World) (hN : NM w0) (l : List UInt8) (hl : l.length ≤ 199) (g i : Nat) (w : World) (R : Rd w0 w g l i) (hi : i ≤ l.length) (inner : Nat → Option (List Int × Nat)) (hf : Fwd l inner)
    (hsum : ∀ w, i + 1 ≤ l.length → Rd w0 w g l (i + 1) → Calls Tryd.prog 12 #[.pointer (some ⟨g, 0, none⟩)] w (RdI l g w (inner (i + 1)))) :
    Calls Tryd.prog 24 #[.pointer (some ⟨g, 0, none⟩)] w (RdI l g w (singP l inner i)) := by
  cases h40 : atB l i 40
  · have : singP l inner i = leafP l i := by unfold singP; rw [h40]; rfl
    rw [this]
    exact single_leaf w0 hN l hl g i w R hi h40
  · have hlt := atB_lt h40
    have hF : Hid (singP l inner i = (inner (i + 1)).bind fun r => if atB l r.2 41 then some (r.1, r.2 + 1) else none) := by show _ = _; unfold singP; rw [h40]; rfl
    have ht := impl_take l hl g i 40 w R.it hi
    have hfi := Lib.hid (hf (i + 1))
    replace hsum := Lib.hid (fun w => hsum w (by omega))
    generalize singP l inner i = F at *
    generalize inner (i + 1) = r at *
    go_enter Tryd.func24, Tryd.ntmps24
    go_wp2_with fail
    refine ht.mono ?_
    rintro e w1 ⟨rfl, g1, a1⟩
    rw [h40] at a1 ⊢
    simp only [if_true] at a1
    clear ht h40
    go_wp2_with fail
    refine (hsum.out w1 (R.next g1 a1)).mono ?_
    intro e w2 hr
    have hb : g < w1.heap.size := a1.lt
    cases r with
    | none =>
      obtain ⟨rfl, g2⟩ := hr
      have hN : F = none := hF.out
      subst hN
      clear hF
      unfold wrongV
      go_wp2_with fail
      exact ⟨rfl, rfl, grown_trans g1 g2⟩
    | some p =>
      obtain ⟨xs, t⟩ := p
      obtain ⟨A, n, c, rfl, o, g2, a2⟩ := hr
      have h4 := hfi.out _ rfl
      simp only at h4
      have ht := impl_take l hl g t 41 w2 a2 h4.2.1
      cases h41 : atB l t 41
      · have hN : F = none := by rw [hF.out]; simp [h41]
        subst hN
        clear hF h4 hfi
        go_wp2_with fail
        refine ht.mono ?_
        rintro e w3 ⟨rfl, g3, a3⟩
        rw [h41]
        clear ht h41
        go_wp2_with fail
        exact ⟨rfl, rfl, grown_trans g1 (grown_trans g2 g3)⟩
      · have hN : F = some (xs, t + 1) := by rw [hF.out]; simp [h41]
        subst hN
        clear hF h4 hfi
        go_wp2_with fail
        refine ht.mono ?_
        rintro e w3 ⟨rfl, g3, a3⟩
        rw [h41] at a3 ⊢
        simp only [if_true] at a3
        clear ht h41
        go_wp2_with fail
        go_ret
        exact ⟨_, _, _, rfl, (o.past g3 hb).lower g1.size, grown_trans g1 (grown_trans g2 g3), a3⟩
end Go.Proofs.YtfhfjkpheloanaaDoor
