/-
  Contract of the specification's reader of a small expression: l2Small (chapter 2): the end of the text; brackets.
-/
import Derived.Test.YtfhfjkpheloanaaDoorReadT
namespace Go.Proofs.YtfhfjkpheloanaaDoor
open Go.RowKit
set_option linter.unusedVariables false
set_option maxHeartbeats 400000
theorem small_end (l : List UInt8) (hl : l.length ≤ 199) (deep : Nat) (inner : Nat → Option (List Int × Nat)) (i : Nat) (hi : l.length ≤ i) (hi2 : i ≤ l.length) (w : World) :
    Calls Tryd.prog 14 #[.string (bs l), .int .i64 i, .int .i64 deep] w (Rdr l w i (smallP (leafP l) inner l i)) := by
  have hz : (bs l).size = l.length := rfl
  have hiz : ¬ (i : Int) < l.length := by omega
  have hiz2 : ¬ (i : Int) + 1 ≤ l.length := by omega
  have hN : Hid (smallP (leafP l) inner l i = none) := by show _ = _; rw [small_leaf (atB_no hi), leafP, if_neg (by omega)]; rfl
  generalize smallP (leafP l) inner l i = F at *
  have o := Own.zero w
  have s : Since w (w.alloc (.cells #[] 3)) := (Since.refl w).alloc _
  go_enter Tryd.func14, Tryd.ntmps14
  go_wp2_with fail
  go_loopw [9, 10, 11, 15] (fun out to f e wr => out = .slice (some ⟨w.heap.size, 0, none⟩) 0 0 ∧ to = .int .i64 i ∧ f = .bool false ∧ e = .int .i64 ((i : Int) + 1) ∧ Own wr w.heap.size (some ⟨w.heap.size, 0, none⟩) 0 0 [] ∧ Since w wr) (fun _ _ _ _ _ => 0)
  case atStart => exact ⟨rfl, rfl, rfl, rfl, o, s⟩
  case round =>
    clear o s
    obtain ⟨rfl, rfl, rfl, rfl, o, s⟩ := hrel
    go_wp2_with fail
    go_loopw [9, 10] (fun out tov wr => out = .slice (some ⟨w.heap.size, 0, none⟩) 0 0 ∧ tov = .int .i64 i ∧ Own wr w.heap.size (some ⟨w.heap.size, 0, none⟩) 0 0 [] ∧ Since w wr) (fun _ _ _ => 0)
    case atStart => exact ⟨rfl, rfl, o, s⟩
    case round =>
      clear o s
      obtain ⟨rfl, rfl, o, s⟩ := hrel
      go_wp2_with fail
      go_ret3
      rw [hN.out]
      exact ⟨_, _, _, _, _, rfl, o, by omega, s⟩
set_option maxRecDepth 20000 in
/-- brackets -/
theorem small_open (l : List UInt8) (hl : l.length ≤ 199) (deep : Nat) (hdeep : (deep : Int) < 99) (inner : Nat → Option (List Int × Nat)) (hf : Fwd l inner)
    (hin : ∀ i w, i ≤ l.length → Calls Tryd.prog 9 #[.string (bs l), .int .i64 i, .int .i64 1, .int .i64 ((deep : Int) + 1)] w (Rdr l w i (inner i)))
    (i : Nat) (hi : i < l.length) (c40 : (((bs l)[i]'hi).toNat : Int) = 40) (c97 : ¬ (97 : Int) ≤ (((bs l)[i]'hi).toNat : Int)) (w : World) :
    Calls Tryd.prog 14 #[.string (bs l), .int .i64 i, .int .i64 deep] w (Rdr l w i (smallP (leafP l) inner l i)) := by
  have hz : (bs l).size = l.length := rfl
  have hiz : (i : Int) < l.length := by omega
  have hF : Hid (((inner (i + 1)).bind fun r => if atB l r.2 41 then some (r.1, r.2 + 1) else none).map (fun r => starsP l l.length r.1 r.2) = smallP (leafP l) inner l i) := by
    show _ = _
    have h1 : atB l i 40 = true := by
      unfold atB
      rw [decide_eq_true hi]
      rw [bs_at l i hi] at c40
      have : l.getD i 0 = 40 := UInt8.toNat_inj.1 (by show _ = 40; omega)
      rw [this]; rfl
    unfold smallP
    rw [if_pos h1]
  generalize smallP (leafP l) inner l i = F at *
  have s0 : Since w (w.alloc (.cells #[] 3)) := (Since.refl w).alloc _
  have o0 := Own.zero w
  have h2 := hin (i + 1) (w.alloc (.cells #[] 3)) (by omega)
  rw [show ((i + 1 : Nat) : Int) = (i : Int) + 1 by omega] at h2
  replace h2 := Lib.hid h2
  have hfi := Lib.hid (hf (i + 1))
  generalize inner (i + 1) = r2 at *
  clear hin hf
  go_enter Tryd.func14, Tryd.ntmps14
  go_wp2_with fail
  refine h2.out.mono ?_
  intro e w1 hr
  clear h2
  cases r2 with
  | none =>
    obtain ⟨A, n, c, xs, to, rfl, o, hn, s⟩ := hr
    have hN : Hid (F = none) := hF.out.symm
    clear hF
    have o2 := o0.since s
    have s2 := s0.trans s
    go_wp2_with fail
    go_ret3
    rw [hN.out]
    exact ⟨_, _, _, _, _, rfl, o2, by omega, s2⟩
  | some p =>
    obtain ⟨xs, t⟩ := p
    obtain ⟨A, n, c, rfl, o, s⟩ := hr
    have h4 := hfi.out _ rfl
    simp only at h4
    have o2 := o0.since s
    have s2 := s0.trans s
    have hlen := o.len
    by_cases htl : t < l.length
    · have htz : (t : Int) < l.length := by omega
      have htl' : t < (bs l).size := htl
      have htz2 : ¬ (l.length : Int) ≤ t := by omega
      have hx := bs_at l t htl'
      by_cases hb : l.getD t 0 = 41
      · have hx1 : ((((bs l)[t]'htl').toNat : Int) != 41) = false := by rw [hx, hb]; rfl
        have hF2 : Hid (some (starsP l l.length xs (t + 1)) = F) := by
          show _ = _
          rw [← hF.out]
          have : atB l t 41 = true := by unfold atB; rw [decide_eq_true htl, hb]; rfl
          simp [this]
        have hn : n ≤ 2 * (t + 1 - i) := by omega
        have ht : t + 1 ≤ l.length := by omega
        have hit : i < t + 1 := by omega
        have hkt : l.length ≤ l.length + (t + 1) := by omega
        replace o := o.lower s0.size
        replace s := s2
        have hnd := Lib.hid h4
        clear hx hb hF h4 hfi o2 s0 o0 s2 htz2 hlen
        go_wp2_with fail
        go_loopw [9, 10, 11, 15] (fun out to f e wr => out = .slice A n c ∧ to = .int .i64 ((t : Int) + 1) ∧ f = .bool true ∧ e = .int .i64 ((i : Int) + 1) ∧ Own wr w.heap.size A n c xs ∧ Since w wr) (fun _ _ _ _ _ => 0)
        case atStart => exact ⟨rfl, rfl, rfl, rfl, o, s⟩
        case round =>
          clear o s
          obtain ⟨rfl, rfl, rfl, rfl, o, s⟩ := hrel
          clear hx1
          go_wp2_with fail
          have hF := hF2
          clear hF2
          go_loopw [9, 10] (fun out tov wr => ∃ A n c xs, ∃ k t : Nat, out = .slice A n c ∧ tov = .int .i64 t ∧ Own wr w.heap.size A n c xs ∧ Since w wr ∧ t ≤ l.length ∧ i < t ∧ l.length ≤ k + t ∧ n ≤ 2 * (t - i) ∧ Hid (some (starsP l k xs t) = F)) (fun _ tov _ => l.length - (intOf tov).toNat)
          case atStart => exact ⟨_, _, _, _, _, t + 1, rfl, by go_num, o, s, ht, hit, hkt, hn, hF⟩
          case round =>
            clear o s hF ht hit hkt hn
            obtain ⟨A, n, c, xs, k, t, rfl, rfl, o, s, ht, hit, hkt, hn, hF⟩ := hrel
            by_cases htl : t < l.length
            · have htz : (t : Int) < l.length := by omega
              have hx := bs_at l t htl
              obtain ⟨k, rfl⟩ : ∃ q, k = q + 1 := ⟨k - 1, by omega⟩
              by_cases hb : l.getD t 0 = 42
              · have hx1 : ((bs l)[t]'htl).toNat = 42 := by rw [hx, hb]; rfl
                have hF2 : Hid (some (starsP l k (xs ++ [21]) (t + 1)) = F) := by show _ = _; rw [← hF.out, star_step (show atB l t 42 = true by unfold atB; rw [decide_eq_true htl, hb]; rfl)]
                have hl2 := o.ls
                have hnb : n ≤ 1000 := by omega
                have tok1 : True := trivial
                have tok2 : True := trivial
                replace hn := Lib.hid hn
                replace hkt := Lib.hid hkt
                clear hx hb hF
                go_wp2_with (first
                  | (at_builtin
                     have _t := tok1
                     refine wpList_app rfl _ _ rfl wr.heap.size _ 0 0 [] rfl (Own.zero wr) _ A n c xs rfl (hl2.alloc (Nat.le_refl _) _) (by omega) (by simp) ?_
                     intro A1 c1 w1 o1 g1
                     have s1 : Since wr w1 := ((Since.refl wr).alloc _).app (Nat.le_refl _) g1
                     simp only [Nat.zero_add, List.nil_append] at o1
                     simp only [Nat.zero_add]
                     clear g1 tok1)
                  | (at_builtin
                     have _t := tok2
                     refine wpList_app rfl _ _ rfl wr.heap.size _ n c1 xs rfl (o1.alloc _) _ _ 1 1 [21] rfl (Ls.one w1 21 (by decide) _) (by omega) (s1.alloc _).size ?_
                     intro A2 c2 w2 o2 g2
                     have s2 : Since wr w2 := (s1.alloc _).app (Nat.le_refl _) g2
                     clear g2 tok2))
                replace hn := hn.out
                replace hkt := hkt.out
                go_roundw
                case rel => exact ⟨A2, n + 1, c2, _, k, t + 1, rfl, by go_num, o2.lower s.size, s.trans s2, by omega, by omega, by omega, by omega, hF2⟩
                case measure => simp [intOf]; omega
              · have hx2 : ((((bs l)[t]'htl).toNat : Int) == 42) = false := by
                  rw [hx]
                  have : (l.getD t 0).toNat ≠ 42 := fun e => hb (UInt8.toNat_inj.1 e)
                  simpa using fun e : ((l.getD t 0).toNat : Int) = 42 => this (by omega)
                have hF2 : Hid (some (xs, t) = F) := by show _ = _; rw [← hF.out, star_stop (show atB l t 42 = false by unfold atB; rw [decide_eq_true htl]; simpa using hb)]
                clear hx hb hF
                go_wp2_with fail
                go_ret3
                rw [← hF2.out]
                exact ⟨_, _, _, rfl, o, s⟩
            · have hF2 : Hid (some (xs, t) = F) := by show _ = _; rw [← hF.out, star_stop (atB_no (show l.length ≤ t by omega))]
              have htz : ¬ (t : Int) < l.length := by omega
              clear hF
              go_wp2_with fail
              go_ret3
              rw [← hF2.out]
              exact ⟨_, _, _, rfl, o, s⟩
      · have hx2 : ((((bs l)[t]'htl').toNat : Int) != 41) = true := by
          rw [hx]
          have : (l.getD t 0).toNat ≠ 41 := fun e => hb (UInt8.toNat_inj.1 e)
          simpa using fun e : ((l.getD t 0).toNat : Int) = 41 => this (by omega)
        have hN : Hid (F = none) := by
          show _ = _
          rw [← hF.out]
          have : atB l t 41 = false := by unfold atB; rw [decide_eq_true htl]; simpa using hb
          simp [this]
        clear hx hb hF h4 hfi hlen
        go_wp2_with fail
        go_ret3
        rw [hN.out]
        exact ⟨_, _, _, _, _, rfl, o2, by omega, s2⟩
    · have htz : (l.length : Int) ≤ t := by omega
      have hN : Hid (F = none) := by
        show _ = _
        rw [← hF.out]
        simp [atB_no (c := 41) (show l.length ≤ t by omega)]
      clear hF h4 hfi hlen
      go_wp2_with fail
      go_ret3
      rw [hN.out]
      exact ⟨_, _, _, _, _, rfl, o2, by omega, s2⟩
end Go.Proofs.YtfhfjkpheloanaaDoor
