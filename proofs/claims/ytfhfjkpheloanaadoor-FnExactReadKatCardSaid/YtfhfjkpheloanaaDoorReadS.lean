/-
  Contracts of the specification's readers of expressions: l2Small, l2Great, ReadKat (chapter 2).
-/
import Derived.Test.YtfhfjkpheloanaaDoorReadP
import Derived.Test.YtfhfjkpheloanaaDoorKatJ
import Derived.Test.YtfhfjkpheloanaaDoorLib
namespace Go.Proofs.YtfhfjkpheloanaaDoor
open Go.RowKit
set_option linter.unusedVariables false
set_option maxHeartbeats 400000

/-- What a reader leaves: what the grammar says, or a list of no account. -/
def Rdr (l : List UInt8) (w : World) (i : Nat) (r : Option (List Int × Nat)) (e : Ending) (w' : World) : Prop :=
  match r with
  | some (xs, to) => ∃ A n c, e = .returned (.tuple #[.slice A n c, .int .i64 to, .bool true]) ∧ Own w' w.heap.size A n c xs ∧ Since w w'
  | none => ∃ A n c xs, ∃ to : Int, e = .returned (.tuple #[.slice A n c, .int .i64 to, .bool false]) ∧ Own w' w.heap.size A n c xs ∧ n ≤ 2 * (l.length - i) + 2 ∧ Since w w'
theorem great_three (l : List UInt8) (i deep : Nat) (w : World) (r : Option (List Int × Nat))
    (h : Calls Tryd.prog 14 #[.string (bs l), .int .i64 i, .int .i64 deep] w (Rdr l w i r)) :
    Calls Tryd.prog 9 #[.string (bs l), .int .i64 i, .int .i64 3, .int .i64 deep] w (Rdr l w i r) := by
  replace h := Lib.hid h
  cases r with
  | some p =>
    obtain ⟨xs, to⟩ := p
    go_enter Tryd.func9, Tryd.ntmps9
    go_wp2_with fail
    refine h.out.mono ?_
    rintro e w1 ⟨A, n, c, rfl, o, s⟩
    go_wp2_with fail
    go_ret3
    exact ⟨A, n, c, rfl, o, s⟩
  | none =>
    go_enter Tryd.func9, Tryd.ntmps9
    go_wp2_with fail
    refine h.out.mono ?_
    rintro e w1 ⟨A, n, c, xs, to, rfl, o, hn, s⟩
    go_wp2_with fail
    go_ret3
    exact ⟨A, n, c, xs, to, rfl, o, hn, s⟩
theorem bs_at (l : List UInt8) (i : Nat) (h : i < (bs l).size) : (bs l)[i] = l.getD i 0 := by
  have h' : i < l.length := h
  show (bs l).data[i] = _
  simp [bs, List.getD_eq_getElem?_getD, List.getElem?_eq_getElem h']
theorem bs_len (l : List UInt8) : (bs l).size = l.length := rfl
theorem Rdr.sinceO {l : List UInt8} {w0 w w' : World} {i : Nat} {r : Option (List Int × Nat)} {e : Ending} (h : Rdr l w i r e w') (s : Since w0 w) : Rdr l w0 i r e w' := by
  cases r with
  | some p => obtain ⟨xs, to⟩ := p; obtain ⟨A, n, c, h1, h2, h3⟩ := h; exact ⟨A, n, c, h1, h2.lower s.size, s.trans h3⟩
  | none => obtain ⟨A, n, c, xs, to, h1, h2, h3, h4⟩ := h; exact ⟨A, n, c, xs, to, h1, h2.lower s.size, h3, s.trans h4⟩
theorem chain_step {sub : Nat → Option (List Int × Nat)} {sign : UInt8} {op : Int} {l : List UInt8} {k : Nat} {e : List Int} {i : Nat} (hb : atB l i sign = true) :
    chainP sub sign op l (k + 1) e i = (sub (i + 1)).bind fun r => chainP sub sign op l k (e ++ r.1 ++ [op]) r.2 := by simp [chainP, hb]
theorem chain_stop {sub : Nat → Option (List Int × Nat)} {sign : UInt8} {op : Int} {l : List UInt8} {k : Nat} {e : List Int} {i : Nat} (hb : atB l i sign = false) : chainP sub sign op l k e i = some (e, i) := by
  cases k with
  | zero => rfl
  | succ k => simp [chainP, hb]
/-- Signs of strength 1, over what reads the next one. -/
theorem great_one (l : List UInt8) (hl : l.length ≤ 199) (deep : Nat) (sub : Nat → Option (List Int × Nat)) (hf : Fwd l sub)
    (hsub : ∀ i w, i ≤ l.length → Calls Tryd.prog 9 #[.string (bs l), .int .i64 i, .int .i64 2, .int .i64 deep] w (Rdr l w i (sub i))) (i : Nat) (hi : i ≤ l.length) (w : World) :
    Calls Tryd.prog 9 #[.string (bs l), .int .i64 i, .int .i64 1, .int .i64 deep] w (Rdr l w i (seqP sub 43 20 l i)) := by
  have hz : (bs l).size = l.length := rfl
  have h1 := Lib.hid (hsub i w hi)
  have hF : Hid (seqP sub 43 20 l i = (sub i).bind fun r => chainP sub 43 20 l l.length r.1 r.2) := rfl
  have hfi := Lib.hid (hf i)
  generalize hFF : seqP sub 43 20 l i = F at *
  have hsubH := Lib.hid hsub
  generalize sub i = ri at *
  replace hFF := Lib.hid hFF
  replace hf := Lib.hid hf
  clear hsub
  have key : ∀ e w1, Rdr l w i ri e w1 → ∃ A n c xs, ∃ to : Int, ∃ okb : Bool, e = .returned (.tuple #[.slice A n c, .int .i64 to, .bool okb]) ∧ Own w1 w.heap.size A n c xs ∧ Since w w1 ∧
      ((okb = false ∧ Hid (F = none) ∧ n ≤ 2 * (l.length - i) + 2) ∨ (∃ k t : Nat, okb = true ∧ to = t ∧ t ≤ l.length ∧ i < t ∧ l.length + 1 ≤ k + t ∧ n ≤ 2 * (t - i) ∧ Hid (chainP sub 43 20 l k xs t = F))) := by
    intro e w1 h
    cases ri with
    | none =>
      obtain ⟨A, n, c, xs, to, h1, h2, h3, h4⟩ := h
      exact ⟨A, n, c, xs, to, false, h1, h2, h4, .inl ⟨rfl, by rw [hF.out]; rfl, h3⟩⟩
    | some p =>
      obtain ⟨xs, to⟩ := p
      obtain ⟨A, n, c, h1, h2, h3⟩ := h
      have h4 := hfi.out _ rfl
      simp only at h4
      exact ⟨A, n, c, xs, to, true, h1, h2, h3, .inr ⟨l.length, to, rfl, rfl, h4.2.1, h4.1, by omega, by rw [← h2.len]; exact h4.2.2.2, by rw [hF.out]; rfl⟩⟩
  replace key := Lib.hid key
  clear hF hfi
  go_enter Tryd.func9, Tryd.ntmps9
  go_wp2_with fail
  refine h1.out.mono ?_
  intro e w1 hr1
  obtain ⟨A, n, c, xs, to, okb, rfl, o, s, hst⟩ := key.out e w1 hr1
  clear h1 hr1 key
  go_wp2_with fail
  go_loopw [11, 12, 13] (fun out tov okv wr => ∃ A n c xs, ∃ to : Int, ∃ okb : Bool, out = .slice A n c ∧ tov = .int .i64 to ∧ okv = .bool okb ∧ Own wr w.heap.size A n c xs ∧ Since w wr ∧
      ((okb = false ∧ Hid (F = none) ∧ n ≤ 2 * (l.length - i) + 2) ∨ (∃ k t : Nat, okb = true ∧ to = t ∧ t ≤ l.length ∧ i < t ∧ l.length + 1 ≤ k + t ∧ n ≤ 2 * (t - i) ∧ Hid (chainP sub 43 20 l k xs t = F)))) (fun _ tov okv _ => match okv with | .bool true => l.length + 1 - (intOf tov).toNat | _ => 0)
  case atStart => exact ⟨A, n, c, xs, to, okb, rfl, rfl, rfl, o, s, hst⟩
  case round =>
    clear o s hst
    obtain ⟨A, n, c, xs, to, okb, rfl, rfl, rfl, o, s, hst⟩ := hrel
    rcases hst with ⟨rfl, hN, hn⟩ | ⟨k, t, rfl, rfl, ht, hit, hkt, hn, hch⟩
    · go_wp2_with fail
      go_region
      all_goals (go_wp2_with fail)
      all_goals go_ret3
      all_goals (rw [hN.out]; exact ⟨_, _, _, _, _, rfl, o.drew, hn, s.drew⟩)
    · by_cases htl : t < l.length
      · have htz : (t : Int) < l.length := by omega
        have hx := bs_at l t htl
        by_cases hb : l.getD t 0 = 43
        · have hx1 : ((((bs l)[t]'htl).toNat : Int) == 43) = true := by rw [hx, hb]; rfl
          clear hx
          have hbb := Lib.hid (show atB l t 43 = true by unfold atB; rw [decide_eq_true htl, hb]; rfl)
          obtain ⟨k, rfl⟩ : ∃ q, k = q + 1 := ⟨k - 1, by omega⟩
          have hch2 : Hid ((sub (t + 1)).bind (fun r => chainP sub 43 20 l k (xs ++ r.1 ++ [20]) r.2) = F) := by show _ = _; rw [← hch.out]; exact (chain_step hbb.out).symm
          have sb : Since wr ((wr.alloc (.cells #[.int .u8 43, .int .u8 59] 5)).drew) := ((Since.refl wr).alloc _).drew
          have h2 := hsubH.out (t + 1) ((wr.alloc (.cells #[.int .u8 43, .int .u8 59] 5)).drew) (by omega)
          rw [show ((t + 1 : Nat) : Int) = (t : Int) + 1 by omega] at h2
          have hf2 := Lib.hid (hf.out (t + 1))
          generalize sub (t + 1) = r2 at *
          replace h2 := Lib.hid h2
          replace o := o.since sb
          replace s := s.trans sb
          have hno : n ≤ 400 := by omega
          clear hb hbb sb hch
          go_wp2_with fail
          go_region
          go_wp2_with fail
          refine h2.out.mono ?_
          intro e w2 hr2
          have hex : ∃ A2 n2 c2 ys, ∃ to2 : Int, ∃ ok2 : Bool, e = .returned (.tuple #[.slice A2 n2 c2, .int .i64 to2, .bool ok2]) ∧ Own w2 w.heap.size A2 n2 c2 ys ∧ Since w w2 ∧ n2 ≤ 1000 ∧ Own w2 w.heap.size A n c xs ∧
              ((ok2 = false ∧ Hid (F = none) ∧ n + n2 + 1 ≤ 2 * (l.length - i) + 2) ∨ (∃ k' t2 : Nat, ok2 = true ∧ to2 = t2 ∧ t2 ≤ l.length ∧ i < t2 ∧ t < t2 ∧ l.length + 1 ≤ k' + t2 ∧ n + n2 + 1 ≤ 2 * (t2 - i) ∧ Hid (chainP sub 43 20 l k' (xs ++ ys ++ [20]) t2 = F))) := by
            cases r2 with
            | none =>
              obtain ⟨A2, n2, c2, ys, to2, k1, k2, k3, k4⟩ := hr2
              exact ⟨A2, n2, c2, ys, to2, false, k1, k2.lower s.size, s.trans k4, by omega, o.since k4, .inl ⟨rfl, by rw [← hch2.out]; rfl, by omega⟩⟩
            | some p =>
              obtain ⟨ys, to2⟩ := p
              obtain ⟨A2, n2, c2, k1, k2, k4⟩ := hr2
              have h4 := hf2.out _ rfl
              simp only at h4
              rw [k2.len] at h4
              exact ⟨A2, n2, c2, ys, to2, true, k1, k2.lower s.size, s.trans k4, by omega, o.since k4, .inr ⟨k, to2, rfl, rfl, h4.2.1, by omega, by omega, by omega, by omega, by rw [← hch2.out]; rfl⟩⟩
          clear hr2 h2 o hch2 hf2 s
          obtain ⟨A2, n2, c2, ys, to2, ok2, rfl, o2, s2, hn2, o, hst⟩ := hex
          have sb2 : Since w2 (w2.alloc (.cells #[.int .i64 20, .int .i64 19] 3)) := (Since.refl w2).alloc _
          have hj := Lib.hid (l2Join_any A n c xs A2 n2 c2 ys 20 _ (by omega) (by omega) (o.since sb2).ls (o2.since sb2).ls (by decide))
          have s3 := s2.trans sb2
          have hjl := Lib.hid (jn_length xs ys 20)
          have hol := Lib.hid o.len
          have hol2 := Lib.hid o2.len
          clear o o2 s2 sb2
          go_wp2_with fail
          refine hj.out.mono ?_
          rintro e w3 ⟨A3, n3, c3, rfl, o3, s4⟩
          have hn3 : n3 = n + n2 + 1 := by rw [← o3.len, hjl.out, hol.out, hol2.out]
          clear hj hjl hol hol2
          subst hn3
          rcases hst with ⟨rfl, hN, hb2⟩ | ⟨k', t2, rfl, rfl, ht2, hit2, htt, hk2, hb2, hch2⟩
          · go_wp2_with fail
            go_roundw
            case rel => exact ⟨A3, _, c3, _, to2, false, rfl, rfl, rfl, o3.lower s3.size, s3.trans s4, .inl ⟨rfl, hN, hb2⟩⟩
            case measure => simp [intOf]; omega
          · go_wp2_with fail
            go_roundw
            case rel => exact ⟨A3, _, c3, _, (t2 : Int), true, rfl, rfl, rfl, o3.lower s3.size, s3.trans s4, .inr ⟨k', t2, rfl, rfl, ht2, hit2, hk2, hb2, hch2⟩⟩
            case measure => simp [intOf]; omega
        · have hbb := Lib.hid (show atB l t 43 = false by unfold atB; rw [decide_eq_true htl]; simpa using hb)
          have hx2 : ((((bs l)[t]'htl).toNat : Int) == 43) = false := by
            rw [hx]
            have : (l.getD t 0).toNat ≠ 43 := fun e => hb (UInt8.toNat_inj.1 e)
            simpa using fun e : ((l.getD t 0).toNat : Int) = 43 => this (by omega)
          clear hx hb
          go_wp2_with fail
          go_region
          all_goals (go_wp2_with fail)
          all_goals go_ret3
          all_goals (rw [← hch.out, chain_stop hbb.out]; exact ⟨_, _, _, rfl, (o.alloc _).drew, (s.alloc _).drew⟩)
      · have hb := Lib.hid (atB_no (c := 43) (show l.length ≤ t by omega))
        have htz : ¬ (t : Int) < l.length := by omega
        go_wp2_with fail
        go_region
        all_goals (go_wp2_with fail)
        all_goals go_ret3
        all_goals (rw [← hch.out, chain_stop hb.out]; exact ⟨_, _, _, rfl, o.drew, s.drew⟩)
/-- Signs of strength 2, over what reads the next one. -/
theorem great_two (l : List UInt8) (hl : l.length ≤ 199) (deep : Nat) (sub : Nat → Option (List Int × Nat)) (hf : Fwd l sub)
    (hsub : ∀ i w, i ≤ l.length → Calls Tryd.prog 9 #[.string (bs l), .int .i64 i, .int .i64 3, .int .i64 deep] w (Rdr l w i (sub i))) (i : Nat) (hi : i ≤ l.length) (w : World) :
    Calls Tryd.prog 9 #[.string (bs l), .int .i64 i, .int .i64 2, .int .i64 deep] w (Rdr l w i (seqP sub 59 19 l i)) := by
  have hz : (bs l).size = l.length := rfl
  have h1 := Lib.hid (hsub i w hi)
  have hF : Hid (seqP sub 59 19 l i = (sub i).bind fun r => chainP sub 59 19 l l.length r.1 r.2) := rfl
  have hfi := Lib.hid (hf i)
  generalize hFF : seqP sub 59 19 l i = F at *
  have hsubH := Lib.hid hsub
  generalize sub i = ri at *
  replace hFF := Lib.hid hFF
  replace hf := Lib.hid hf
  clear hsub
  have key : ∀ e w1, Rdr l w i ri e w1 → ∃ A n c xs, ∃ to : Int, ∃ okb : Bool, e = .returned (.tuple #[.slice A n c, .int .i64 to, .bool okb]) ∧ Own w1 w.heap.size A n c xs ∧ Since w w1 ∧
      ((okb = false ∧ Hid (F = none) ∧ n ≤ 2 * (l.length - i) + 2) ∨ (∃ k t : Nat, okb = true ∧ to = t ∧ t ≤ l.length ∧ i < t ∧ l.length + 1 ≤ k + t ∧ n ≤ 2 * (t - i) ∧ Hid (chainP sub 59 19 l k xs t = F))) := by
    intro e w1 h
    cases ri with
    | none =>
      obtain ⟨A, n, c, xs, to, h1, h2, h3, h4⟩ := h
      exact ⟨A, n, c, xs, to, false, h1, h2, h4, .inl ⟨rfl, by rw [hF.out]; rfl, h3⟩⟩
    | some p =>
      obtain ⟨xs, to⟩ := p
      obtain ⟨A, n, c, h1, h2, h3⟩ := h
      have h4 := hfi.out _ rfl
      simp only at h4
      exact ⟨A, n, c, xs, to, true, h1, h2, h3, .inr ⟨l.length, to, rfl, rfl, h4.2.1, h4.1, by omega, by rw [← h2.len]; exact h4.2.2.2, by rw [hF.out]; rfl⟩⟩
  replace key := Lib.hid key
  clear hF hfi
  go_enter Tryd.func9, Tryd.ntmps9
  go_wp2_with fail
  refine h1.out.mono ?_
  intro e w1 hr1
  obtain ⟨A, n, c, xs, to, okb, rfl, o, s, hst⟩ := key.out e w1 hr1
  clear h1 hr1 key
  go_wp2_with fail
  go_loopw [11, 12, 13] (fun out tov okv wr => ∃ A n c xs, ∃ to : Int, ∃ okb : Bool, out = .slice A n c ∧ tov = .int .i64 to ∧ okv = .bool okb ∧ Own wr w.heap.size A n c xs ∧ Since w wr ∧
      ((okb = false ∧ Hid (F = none) ∧ n ≤ 2 * (l.length - i) + 2) ∨ (∃ k t : Nat, okb = true ∧ to = t ∧ t ≤ l.length ∧ i < t ∧ l.length + 1 ≤ k + t ∧ n ≤ 2 * (t - i) ∧ Hid (chainP sub 59 19 l k xs t = F)))) (fun _ tov okv _ => match okv with | .bool true => l.length + 1 - (intOf tov).toNat | _ => 0)
  case atStart => exact ⟨A, n, c, xs, to, okb, rfl, rfl, rfl, o, s, hst⟩
  case round =>
    clear o s hst
    obtain ⟨A, n, c, xs, to, okb, rfl, rfl, rfl, o, s, hst⟩ := hrel
    rcases hst with ⟨rfl, hN, hn⟩ | ⟨k, t, rfl, rfl, ht, hit, hkt, hn, hch⟩
    · go_wp2_with fail
      go_region
      all_goals (go_wp2_with fail)
      all_goals go_ret3
      all_goals (rw [hN.out]; exact ⟨_, _, _, _, _, rfl, o.drew, hn, s.drew⟩)
    · by_cases htl : t < l.length
      · have htz : (t : Int) < l.length := by omega
        have hx := bs_at l t htl
        by_cases hb : l.getD t 0 = 59
        · have hx1 : ((((bs l)[t]'htl).toNat : Int) == 59) = true := by rw [hx, hb]; rfl
          clear hx
          have hbb := Lib.hid (show atB l t 59 = true by unfold atB; rw [decide_eq_true htl, hb]; rfl)
          obtain ⟨k, rfl⟩ : ∃ q, k = q + 1 := ⟨k - 1, by omega⟩
          have hch2 : Hid ((sub (t + 1)).bind (fun r => chainP sub 59 19 l k (xs ++ r.1 ++ [19]) r.2) = F) := by show _ = _; rw [← hch.out]; exact (chain_step hbb.out).symm
          have sb : Since wr ((wr.alloc (.cells #[.int .u8 43, .int .u8 59] 5)).drew) := ((Since.refl wr).alloc _).drew
          have h2 := hsubH.out (t + 1) ((wr.alloc (.cells #[.int .u8 43, .int .u8 59] 5)).drew) (by omega)
          rw [show ((t + 1 : Nat) : Int) = (t : Int) + 1 by omega] at h2
          have hf2 := Lib.hid (hf.out (t + 1))
          generalize sub (t + 1) = r2 at *
          replace h2 := Lib.hid h2
          replace o := o.since sb
          replace s := s.trans sb
          have hno : n ≤ 400 := by omega
          clear hb hbb sb hch
          go_wp2_with fail
          go_region
          go_wp2_with fail
          refine h2.out.mono ?_
          intro e w2 hr2
          have hex : ∃ A2 n2 c2 ys, ∃ to2 : Int, ∃ ok2 : Bool, e = .returned (.tuple #[.slice A2 n2 c2, .int .i64 to2, .bool ok2]) ∧ Own w2 w.heap.size A2 n2 c2 ys ∧ Since w w2 ∧ n2 ≤ 1000 ∧ Own w2 w.heap.size A n c xs ∧
              ((ok2 = false ∧ Hid (F = none) ∧ n + n2 + 1 ≤ 2 * (l.length - i) + 2) ∨ (∃ k' t2 : Nat, ok2 = true ∧ to2 = t2 ∧ t2 ≤ l.length ∧ i < t2 ∧ t < t2 ∧ l.length + 1 ≤ k' + t2 ∧ n + n2 + 1 ≤ 2 * (t2 - i) ∧ Hid (chainP sub 59 19 l k' (xs ++ ys ++ [19]) t2 = F))) := by
            cases r2 with
            | none =>
              obtain ⟨A2, n2, c2, ys, to2, k1, k2, k3, k4⟩ := hr2
              exact ⟨A2, n2, c2, ys, to2, false, k1, k2.lower s.size, s.trans k4, by omega, o.since k4, .inl ⟨rfl, by rw [← hch2.out]; rfl, by omega⟩⟩
            | some p =>
              obtain ⟨ys, to2⟩ := p
              obtain ⟨A2, n2, c2, k1, k2, k4⟩ := hr2
              have h4 := hf2.out _ rfl
              simp only at h4
              rw [k2.len] at h4
              exact ⟨A2, n2, c2, ys, to2, true, k1, k2.lower s.size, s.trans k4, by omega, o.since k4, .inr ⟨k, to2, rfl, rfl, h4.2.1, by omega, by omega, by omega, by omega, by rw [← hch2.out]; rfl⟩⟩
          clear hr2 h2 o hch2 hf2 s
          obtain ⟨A2, n2, c2, ys, to2, ok2, rfl, o2, s2, hn2, o, hst⟩ := hex
          have sb2 : Since w2 (w2.alloc (.cells #[.int .i64 20, .int .i64 19] 3)) := (Since.refl w2).alloc _
          have hj := Lib.hid (l2Join_any A n c xs A2 n2 c2 ys 19 _ (by omega) (by omega) (o.since sb2).ls (o2.since sb2).ls (by decide))
          have s3 := s2.trans sb2
          have hjl := Lib.hid (jn_length xs ys 19)
          have hol := Lib.hid o.len
          have hol2 := Lib.hid o2.len
          clear o o2 s2 sb2
          go_wp2_with fail
          refine hj.out.mono ?_
          rintro e w3 ⟨A3, n3, c3, rfl, o3, s4⟩
          have hn3 : n3 = n + n2 + 1 := by rw [← o3.len, hjl.out, hol.out, hol2.out]
          clear hj hjl hol hol2
          subst hn3
          rcases hst with ⟨rfl, hN, hb2⟩ | ⟨k', t2, rfl, rfl, ht2, hit2, htt, hk2, hb2, hch2⟩
          · go_wp2_with fail
            go_roundw
            case rel => exact ⟨A3, _, c3, _, to2, false, rfl, rfl, rfl, o3.lower s3.size, s3.trans s4, .inl ⟨rfl, hN, hb2⟩⟩
            case measure => simp [intOf]; omega
          · go_wp2_with fail
            go_roundw
            case rel => exact ⟨A3, _, c3, _, (t2 : Int), true, rfl, rfl, rfl, o3.lower s3.size, s3.trans s4, .inr ⟨k', t2, rfl, rfl, ht2, hit2, hk2, hb2, hch2⟩⟩
            case measure => simp [intOf]; omega
        · have hbb := Lib.hid (show atB l t 59 = false by unfold atB; rw [decide_eq_true htl]; simpa using hb)
          have hx2 : ((((bs l)[t]'htl).toNat : Int) == 59) = false := by
            rw [hx]
            have : (l.getD t 0).toNat ≠ 59 := fun e => hb (UInt8.toNat_inj.1 e)
            simpa using fun e : ((l.getD t 0).toNat : Int) = 59 => this (by omega)
          clear hx hb
          go_wp2_with fail
          go_region
          all_goals (go_wp2_with fail)
          all_goals go_ret3
          all_goals (rw [← hch.out, chain_stop hbb.out]; exact ⟨_, _, _, rfl, (o.alloc _).drew, (s.alloc _).drew⟩)
      · have hb := Lib.hid (atB_no (c := 59) (show l.length ≤ t by omega))
        have htz : ¬ (t : Int) < l.length := by omega
        go_wp2_with fail
        go_region
        all_goals (go_wp2_with fail)
        all_goals go_ret3
        all_goals (rw [← hch.out, chain_stop hb.out]; exact ⟨_, _, _, rfl, o.drew, s.drew⟩)
end Go.Proofs.YtfhfjkpheloanaaDoor
