/-
  Contract of the specification's reader of a small expression: l2Small (chapter 2).
-/
import Derived.Test.YtfhfjkpheloanaaDoorReadS
import Derived.Test.YtfhfjkpheloanaaDoorText
import Derived.Lib.Strings
namespace Go.Proofs.YtfhfjkpheloanaaDoor
open Go.RowKit
set_option linter.unusedVariables false
set_option maxHeartbeats 400000

theorem star_step {l : List UInt8} {k : Nat} {xs : List Int} {t : Nat} (h : atB l t 42 = true) : starsP l (k + 1) xs t = starsP l k (xs ++ [21]) (t + 1) := by simp [starsP, h]
theorem star_stop {l : List UInt8} {k : Nat} {xs : List Int} {t : Nat} (h : atB l t 42 = false) : starsP l k xs t = (xs, t) := by
  cases k with
  | zero => rfl
  | succ k => simp [starsP, h]
theorem small_leaf {l : List UInt8} {inner : Nat → Option (List Int × Nat)} {i : Nat} (h : atB l i 40 = false) : smallP (leafP l) inner l i = (leafP l i).map fun r => starsP l l.length r.1 r.2 := by simp [smallP, h]
theorem atB_ne {l : List UInt8} {i : Nat} {c : UInt8} (h : l.getD i 0 ≠ c) : atB l i c = false := by unfold atB; rw [show (l.getD i 0 == c) = false by simpa using h, Bool.and_false]
theorem own_lit1 (w : World) (x : Int) (hx : (Lit.int .i64 x).wf = true) : Own (w.alloc (.cells #[.int .i64 x] 3)) w.heap.size (some ⟨w.heap.size, 0, none⟩) 1 1 [x] := by
  refine Arr.own (xs := [x]) (heap_alloc_new w _) (Nat.le_refl _) rfl rfl (by decide) ?_
  intro v hv
  simp at hv
  subst hv
  exact hx
theorem own_lit2 (w : World) (x y : Int) (e : x = y) (hy : (Lit.int .i64 y).wf = true) : Own ((w.alloc (.cells #[] 3)).alloc (.cells #[.int .i64 x] 3)) w.heap.size (some ⟨w.heap.size + 1, 0, none⟩) 1 1 [y] := by
  subst e
  have := (own_lit1 (w.alloc (.cells #[] 3)) x hy).lower (base' := w.heap.size) (by simp)
  simpa using this
theorem bs_mid (l : List UInt8) (a b : Nat) : (bs l).extract a b = bs ((l.drop a).take (b - a)) := by
  apply ByteArray.ext
  apply Array.toList_inj.1
  rw [Lib.extract_data]
  rfl
theorem try_more {l : List UInt8} {i k : Nat} {r : List Int × Nat} (h : tryP l i k = some r) : ∀ m, tryP l i (k + m) = some r := by
  intro m
  induction m with
  | zero => exact h
  | succ m ih => show (tryP l i (k + m)).or _ = _; rw [ih]; rfl
theorem try_six {l : List UInt8} {i k : Nat} {r : List Int × Nat} (hk : k ≤ 6) (h : tryP l i k = some r) : tryP l i 6 = some r := by
  have := try_more h (6 - k)
  rwa [show k + (6 - k) = 6 by omega] at this
theorem try_out {l : List UInt8} {i k : Nat} (hk : k ≤ 6) (he : 6 ≤ k ∨ l.length < i + 1 + k) (h : tryP l i k = none) : tryP l i 6 = none := by
  rcases he with he | he
  · obtain rfl : k = 6 := by omega
    exact h
  · have key : ∀ m, tryP l i (k + m) = none := by
      intro m
      induction m with
      | zero => exact h
      | succ m ih => show (tryP l i (k + m)).or _ = _; rw [ih, if_neg (by intro e; have h1 := e.1; have h2 : k.add m = k + m := rfl; omega)]; rfl
    have := key (6 - k)
    rwa [show k + (6 - k) = 6 by omega] at this
theorem try_step {l : List UInt8} {i k : Nat} (h : tryP l i k = none) (he : i + (k + 1) ≤ l.length) : tryP l i (k + 1) = if (rTest ((l.drop i).take (k + 1))).2 then some ([(rTest ((l.drop i).take (k + 1))).1], i + (k + 1)) else none := by
  show (tryP l i k).or _ = _
  rw [h, Option.none_or]
  by_cases hc : (rTest ((l.drop i).take (k + 1))).2 = true
  · rw [if_pos ⟨he, hc⟩, if_pos hc]
  · rw [if_neg (fun e => hc e.2), if_neg hc]
theorem try_paren {l : List UInt8} {i : Nat} (hi : i < l.length) (h : l.getD i 0 = 40) : tryP l i 6 = none := by
  rw [try_is (Nat.le_of_lt hi)]
  have e : l.drop i = 40 :: l.drop (i + 1) := by
    rw [List.drop_eq_getElem_cons hi]
    congr 1
    rw [← h]; simp [List.getD_eq_getElem?_getD, List.getElem?_eq_getElem hi]
  rw [e]
  unfold wordP
  have h1 : wlen (40 :: l.drop (i + 1)) = 1 := rfl
  rw [h1]
  have h2 : (rTest ((40 :: l.drop (i + 1)).take 1)).2 = false := by
    show (rTest [40]).2 = false
    decide
  rw [h2]; rfl
theorem try_paren' {l : List UInt8} {i : Nat} (hi : i < l.length) {x : Nat} (h : (l.getD i 0).toNat = 40) : tryP l i 6 = none := try_paren hi (UInt8.toNat_inj.1 h)
set_option maxRecDepth 20000 in
/-- a letter -/
theorem small_letter (l : List UInt8) (hl : l.length ≤ 199) (deep : Nat) (inner : Nat → Option (List Int × Nat)) (i : Nat) (hi : i < l.length) (v : Nat) (hv : v ≤ 2) (hx0 : (l.getD i 0).toNat = 97 + v) (w : World) :
    Calls Tryd.prog 14 #[.string (bs l), .int .i64 i, .int .i64 deep] w (Rdr l w i (smallP (leafP l) inner l i)) := by
  have hz : (bs l).size = l.length := rfl
  have h40 : l.getD i 0 ≠ 40 := fun e => by rw [e] at hx0; have : (40 : UInt8).toNat = 40 := rfl; omega
  have hF : Hid (some (starsP l l.length [16 + (v : Int)] (i + 1)) = smallP (leafP l) inner l i) := by
    show _ = _
    have h1 : (97 : UInt8) ≤ l.getD i 0 := UInt8.le_iff_toNat_le.2 (by rw [hx0]; show 97 ≤ _; omega)
    have h2 : l.getD i 0 ≤ 99 := UInt8.le_iff_toNat_le.2 (by rw [hx0]; show _ ≤ 99; omega)
    rw [small_leaf (atB_ne h40), leafP, if_pos hi, if_pos ⟨h1, h2⟩, hx0]
    simp only [Option.map_some]
    congr 3
    omega
  generalize smallP (leafP l) inner l i = F at *
  have hx : ((bs l)[i]'hi).toNat = 97 + v := by rw [bs_at l i hi]; exact hx0
  have hiz : (i : Int) < l.length := by omega
  clear hx0 h40
  have ht : i + 1 ≤ l.length := by omega
  have hit : i < i + 1 := by omega
  have hkt : l.length ≤ l.length + (i + 1) := by omega
  have hn : 1 ≤ 2 * (i + 1 - i) := by omega
  have c40 : ((((bs l)[i]'hi).toNat : Int) == 40) = false := by rw [hx]; simp; omega
  have c97 : (97 : Int) ≤ (((bs l)[i]'hi).toNat : Int) := by rw [hx]; omega
  have c99 : (((bs l)[i]'hi).toNat : Int) ≤ 99 := by rw [hx]; omega
  replace hx := Lib.hid hx
  go_enter Tryd.func14, Tryd.ntmps14
  go_wp2_with fail
  go_loopw [9, 10, 11, 15] (fun out to f e wr => out = .slice (some ⟨w.heap.size + 1, 0, none⟩) 1 1 ∧ to = .int .i64 ((i : Int) + 1) ∧ f = .bool true ∧ e = .int .i64 ((i : Int) + 1) ∧ Own wr w.heap.size (some ⟨w.heap.size + 1, 0, none⟩) 1 1 [16 + (v : Int)] ∧ Since w wr) (fun _ _ _ _ _ => 0)
  case atStart => exact ⟨rfl, rfl, rfl, rfl, own_lit2 w _ (16 + (v : Int)) (by have := hx.out; omega) (wf_small (by omega) (by omega)), ((Since.refl w).alloc _).alloc _⟩
  case round =>
    obtain ⟨rfl, rfl, rfl, rfl, o, s⟩ := hrel
    go_wp2_with fail
    clear hx c40 c97 c99
    go_loopw [9, 10] (fun out tov wr => ∃ A n c xs, ∃ k t : Nat, out = .slice A n c ∧ tov = .int .i64 t ∧ Own wr w.heap.size A n c xs ∧ Since w wr ∧ t ≤ l.length ∧ i < t ∧ l.length ≤ k + t ∧ n ≤ 2 * (t - i) ∧ Hid (some (starsP l k xs t) = F)) (fun _ tov _ => l.length - (intOf tov).toNat)
    case atStart => exact ⟨_, _, _, _, _, i + 1, rfl, by go_num, o, s, ht, hit, hkt, hn, hF⟩
    case round =>
      clear o s hF ht hit hkt hn
      obtain ⟨A, n, c, xs, k, t, rfl, rfl, o, s, ht, hit, hkt, hn, hF⟩ := hrel
      by_cases htl : t < l.length
      · have htz : (t : Int) < l.length := by omega
        have hx := bs_at l t htl
        obtain ⟨k, rfl⟩ : ∃ q, k = q + 1 := ⟨k - 1, by omega⟩
        by_cases hb : l.getD t 0 = 42
        · have hx1 : ((bs l)[t]'htl).toNat = 42 := by rw [hx, hb]; rfl
          have hF2 : Hid (some (starsP l k (xs ++ [21]) (t + 1)) = F) := by show _ = _; rw [← hF.out, star_step (show atB l t 42 = true by unfold atB; rw [decide_eq_true htl, hb]; rfl)]
          have hl2 := o.ls
          have hnb : n ≤ 1000 := by omega
          have tok1 : True := trivial
          have tok2 : True := trivial
          replace hn := Lib.hid hn
          replace hkt := Lib.hid hkt
          clear hx hb hF
          go_wp2_with (first
            | (at_builtin
               have _t := tok1
               refine wpList_app rfl _ _ rfl wr.heap.size _ 0 0 [] rfl (Own.zero wr) _ A n c xs rfl (hl2.alloc (Nat.le_refl _) _) (by omega) (by simp) ?_
               intro A1 c1 w1 o1 g1
               have s1 : Since wr w1 := ((Since.refl wr).alloc _).app (Nat.le_refl _) g1
               simp only [Nat.zero_add, List.nil_append] at o1
               simp only [Nat.zero_add]
               clear g1 tok1)
            | (at_builtin
               have _t := tok2
               refine wpList_app rfl _ _ rfl wr.heap.size _ n c1 xs rfl (o1.alloc _) _ _ 1 1 [21] rfl (Ls.one w1 21 (by decide) _) (by omega) (s1.alloc _).size ?_
               intro A2 c2 w2 o2 g2
               have s2 : Since wr w2 := (s1.alloc _).app (Nat.le_refl _) g2
               clear g2 tok2))
          replace hn := hn.out
          replace hkt := hkt.out
          go_roundw
          case rel => exact ⟨A2, n + 1, c2, _, k, t + 1, rfl, by go_num, o2.lower s.size, s.trans s2, by omega, by omega, by omega, by omega, hF2⟩
          case measure => simp [intOf]; omega
        · have hx2 : ((((bs l)[t]'htl).toNat : Int) == 42) = false := by
            rw [hx]
            have : (l.getD t 0).toNat ≠ 42 := fun e => hb (UInt8.toNat_inj.1 e)
            simpa using fun e : ((l.getD t 0).toNat : Int) = 42 => this (by omega)
          have hF2 : Hid (some (xs, t) = F) := by show _ = _; rw [← hF.out, star_stop (show atB l t 42 = false by unfold atB; rw [decide_eq_true htl]; simpa using hb)]
          clear hx hb hF
          go_wp2_with fail
          go_ret3
          rw [← hF2.out]
          exact ⟨_, _, _, rfl, o, s⟩
      · have hF2 : Hid (some (xs, t) = F) := by show _ = _; rw [← hF.out, star_stop (atB_no (show l.length ≤ t by omega))]
        have htz : ¬ (t : Int) < l.length := by omega
        clear hF
        go_wp2_with fail
        go_ret3
        rw [← hF2.out]
        exact ⟨_, _, _, rfl, o, s⟩
set_option maxRecDepth 20000 in
/-- neither a letter nor a bracket: below the letters -/
theorem small_low (l : List UInt8) (hl : l.length ≤ 199) (deep : Nat) (i : Nat) (hi : i < l.length) (F : Option (List Int × Nat)) (hF : Hid ((tryP l i 6).map (fun r => starsP l l.length r.1 r.2) = F))
    (c40 : ¬ (((bs l)[i]'hi).toNat : Int) = 40) (c97 : ¬ (97 : Int) ≤ (((bs l)[i]'hi).toNat : Int)) (w : World) :
    Calls Tryd.prog 14 #[.string (bs l), .int .i64 i, .int .i64 deep] w (Rdr l w i F) := by
  have hz : (bs l).size = l.length := rfl
  have hiz : (i : Int) < l.length := by omega
  go_enter Tryd.func14, Tryd.ntmps14
  go_wp2_with fail
  go_loopw [9, 10, 11, 15] (fun out to f e wr => ∃ m : Nat, ∃ A n c xs, ∃ t : Nat, ∃ fb : Bool, out = .slice A n c ∧ to = .int .i64 t ∧ f = .bool fb ∧ e = .int .i64 m ∧ i + 1 ≤ m ∧ m ≤ i + 7 ∧ Own wr w.heap.size A n c xs ∧ Since w wr ∧ n ≤ 1 ∧
      ((fb = false ∧ Hid (tryP l i (m - (i + 1)) = none)) ∨ (fb = true ∧ Hid (tryP l i 6 = some (xs, t)) ∧ n = 1 ∧ i < t ∧ t ≤ l.length))) (fun _ _ f e _ => match f with | .bool false => i + 8 - (intOf e).toNat | _ => 0)
  case atStart => exact ⟨i + 1, _, _, _, _, i, false, rfl, rfl, rfl, by go_num, by omega, by omega, Own.zero w, (Since.refl w).alloc _, by omega, .inl ⟨rfl, by show tryP l i (i + 1 - (i + 1)) = none; rw [Nat.sub_self]; rfl⟩⟩
  case round =>
    obtain ⟨m, A, n, c, xs, t, fb, rfl, rfl, rfl, rfl, hm1, hm7, o, s, hn1, hst⟩ := hrel
    rcases hst with ⟨rfl, hno⟩ | ⟨rfl, hyes, hn, hit, ht⟩
    · by_cases hme : m ≤ l.length ∧ m ≤ i + 6
      · have hmz : (m : Int) ≤ l.length := by omega
        have hmz6 : (m : Int) ≤ i + 6 := by omega
        have hx0 : (bs l).extract i m = bs ((l.drop i).take (m - i)) := bs_mid l i m
        have hstep := Lib.hid (try_step hno.out (by omega))
        have hml : m - (i + 1) + 1 = m - i := by omega
        rw [hml] at hstep
        generalize hw : (l.drop i).take (m - i) = wd at *
        have hlen : wd.length = m - i := by rw [← hw, List.length_take, List.length_drop]; omega
        clear hw hno hml
        have hrt := spec_ReadTest wd
        have hrange := rTest_rangeX wd
        generalize rTest wd = rt at *
        obtain ⟨tv, tb⟩ := rt
        simp only at hrt hrange
        replace hrt := Lib.hid hrt
        replace hlen := Lib.hid hlen
        go_wp2_with fail
        refine (hrt.out _).mono ?_
        rintro e w1 ⟨rfl, s1⟩
        have s2 := s.trans s1
        cases tb
        · have hstep2 : Hid (tryP l i (m + 1 - (i + 1)) = none) := by show _ = _; rw [show m + 1 - (i + 1) = m - i by omega]; exact hstep.out
          go_wp2_with fail
          go_roundw
          case rel => exact ⟨m + 1, A, n, c, xs, t, false, rfl, rfl, rfl, by go_num, by omega, by omega, o.since s1, s2, hn1, .inl ⟨rfl, hstep2⟩⟩
          case measure => simp [intOf]; omega
        · have hyes : Hid (tryP l i 6 = some ([tv], m)) := by
            show _ = _
            have h1 : tryP l i (m - i) = some ([tv], i + (m - i)) := hstep.out
            rw [show i + (m - i) = m by omega] at h1
            exact try_six (by omega) h1
          have ol := own_lit1 w1 tv (wf_small (by omega) (by omega))
          go_wp2_with fail
          go_roundw
          case rel => exact ⟨m + 1, _, 1, 1, [tv], m, true, rfl, rfl, rfl, by go_num, by omega, by omega, ol.lower s2.size, s2.alloc _, by omega, .inr ⟨rfl, hyes, rfl, by omega, hme.1⟩⟩
          case measure => simp [intOf]; omega
      · have hN : Hid (F = none) := by
          show _ = _
          rw [← hF.out, try_out (k := m - (i + 1)) (by omega) (by omega) hno.out]; rfl
        have hcs : ((m : Int) ≤ l.length ∧ ¬ (m : Int) ≤ i + 6) ∨ ¬ ((m : Int) ≤ l.length) := by omega
        clear hF hno
        rcases hcs with ⟨h1, h2⟩ | h1
        all_goals
          clear hme
          go_wp2_with fail
          go_loopw [9, 10] (fun out tov wr => out = .slice A n c ∧ tov = .int .i64 t ∧ Own wr w.heap.size A n c xs ∧ Since w wr) (fun _ _ _ => 0)
          case atStart => exact ⟨rfl, rfl, o, s⟩
          case round =>
            clear o s
            obtain ⟨rfl, rfl, o, s⟩ := hrel
            go_wp2_with fail
            go_ret3
            rw [hN.out]
            exact ⟨_, _, _, _, _, rfl, o, by omega, s⟩
    · have hF1 : Hid (some (starsP l l.length xs t) = F) := by show _ = _; rw [← hF.out, hyes.out]; rfl
      have hcs : ((m : Int) ≤ l.length ∧ (m : Int) ≤ i + 6) ∨ ((m : Int) ≤ l.length ∧ ¬ (m : Int) ≤ i + 6) ∨ ¬ ((m : Int) ≤ l.length) := by omega
      clear hF hyes hm1 hm7
      have hF := hF1
      clear hF1
      have hn0 : n ≤ 2 * (t - i) := by omega
      clear hn1 hn
      have hn := hn0
      clear hn0
      have hkt : l.length ≤ l.length + t := by omega
      rcases hcs with ⟨h1, h2⟩ | ⟨h1, h2⟩ | h1
      all_goals
        go_wp2_with fail
        go_loopw [9, 10] (fun out tov wr => ∃ A n c xs, ∃ k t : Nat, out = .slice A n c ∧ tov = .int .i64 t ∧ Own wr w.heap.size A n c xs ∧ Since w wr ∧ t ≤ l.length ∧ i < t ∧ l.length ≤ k + t ∧ n ≤ 2 * (t - i) ∧ Hid (some (starsP l k xs t) = F)) (fun _ tov _ => l.length - (intOf tov).toNat)
        case atStart => exact ⟨_, _, _, _, _, t, rfl, rfl, o, s, ht, hit, hkt, hn, hF⟩
        case round =>
          clear o s hF ht hit hkt hn
          obtain ⟨A, n, c, xs, k, t, rfl, rfl, o, s, ht, hit, hkt, hn, hF⟩ := hrel
          by_cases htl : t < l.length
          · have htz : (t : Int) < l.length := by omega
            have hx := bs_at l t htl
            obtain ⟨k, rfl⟩ : ∃ q, k = q + 1 := ⟨k - 1, by omega⟩
            by_cases hb : l.getD t 0 = 42
            · have hx1 : ((bs l)[t]'htl).toNat = 42 := by rw [hx, hb]; rfl
              have hF2 : Hid (some (starsP l k (xs ++ [21]) (t + 1)) = F) := by show _ = _; rw [← hF.out, star_step (show atB l t 42 = true by unfold atB; rw [decide_eq_true htl, hb]; rfl)]
              have hl2 := o.ls
              have hnb : n ≤ 1000 := by omega
              have tok1 : True := trivial
              have tok2 : True := trivial
              replace hn := Lib.hid hn
              replace hkt := Lib.hid hkt
              clear hx hb hF
              go_wp2_with (first
                | (at_builtin
                   have _t := tok1
                   refine wpList_app rfl _ _ rfl wr.heap.size _ 0 0 [] rfl (Own.zero wr) _ A n c xs rfl (hl2.alloc (Nat.le_refl _) _) (by omega) (by simp) ?_
                   intro A1 c1 w1 o1 g1
                   have s1 : Since wr w1 := ((Since.refl wr).alloc _).app (Nat.le_refl _) g1
                   simp only [Nat.zero_add, List.nil_append] at o1
                   simp only [Nat.zero_add]
                   clear g1 tok1)
                | (at_builtin
                   have _t := tok2
                   refine wpList_app rfl _ _ rfl wr.heap.size _ n c1 xs rfl (o1.alloc _) _ _ 1 1 [21] rfl (Ls.one w1 21 (by decide) _) (by omega) (s1.alloc _).size ?_
                   intro A2 c2 w2 o2 g2
                   have s2 : Since wr w2 := (s1.alloc _).app (Nat.le_refl _) g2
                   clear g2 tok2))
              replace hn := hn.out
              replace hkt := hkt.out
              go_roundw
              case rel => exact ⟨A2, n + 1, c2, _, k, t + 1, rfl, by go_num, o2.lower s.size, s.trans s2, by omega, by omega, by omega, by omega, hF2⟩
              case measure => simp [intOf]; omega
            · have hx2 : ((((bs l)[t]'htl).toNat : Int) == 42) = false := by
                rw [hx]
                have : (l.getD t 0).toNat ≠ 42 := fun e => hb (UInt8.toNat_inj.1 e)
                simpa using fun e : ((l.getD t 0).toNat : Int) = 42 => this (by omega)
              have hF2 : Hid (some (xs, t) = F) := by show _ = _; rw [← hF.out, star_stop (show atB l t 42 = false by unfold atB; rw [decide_eq_true htl]; simpa using hb)]
              clear hx hb hF
              go_wp2_with fail
              go_ret3
              rw [← hF2.out]
              exact ⟨_, _, _, rfl, o, s⟩
          · have hF2 : Hid (some (xs, t) = F) := by show _ = _; rw [← hF.out, star_stop (atB_no (show l.length ≤ t by omega))]
            have htz : ¬ (t : Int) < l.length := by omega
            clear hF
            go_wp2_with fail
            go_ret3
            rw [← hF2.out]
            exact ⟨_, _, _, rfl, o, s⟩
end Go.Proofs.YtfhfjkpheloanaaDoor
