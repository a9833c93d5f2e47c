/-
  Contracts of the functions on traces (chapter 3): TraceValid, TraceJoin, TraceBack.
-/
import Derived.Test.YtlnkkjmejmhaiaaLib
import Derived.Test.YtlnkkjmejmhaiaaTests
import Derived.Test.YtlnkkjmejmhaiaaPlainV
import Derived.Test.YtlnkkjmejmhaiaaKat
import Derived.Test.YtlnkkjmejmhaiaaSlices
import Derived.Deep.RegionLaw
import Derived.Deep.RegionWith
import Derived.Deep.RegionHeld3
namespace Go.Proofs.Ytlnkkjmejmhaiaa
open Go.RowKit
set_option linter.unusedVariables false
set_option maxHeartbeats 400000

theorem impl_TraceValid (A : Option Addr) (n c B : Nat) (xs : List Int) (w : World) (hn : n ≤ 1099511627776) (h : Ls w B A n c xs) :
    Calls Try.prog 47 #[.slice A n c] w fun e w' => e = .returned (.bool (trV xs)) ∧ w = w' := by
  have hlen := h.len
  by_cases hodd : n % 2 = 1
  · have q1 : ((n : Int) % 2 != 1) = false := by simp; omega
    by_cases h41 : n ≤ 41
    · go_enter Try.func47, Try.ntmps47
      go_wp2_with fail
      go_loop [16] (fun i => ∃ k : Nat, k ≤ n ∧ i = .int .i64 k ∧ Hid (∀ i, i < k → trAt xs i = true)) (fun i => n - (intOf i).toNat)
      case atStart => exact ⟨0, Nat.zero_le _, rfl, fun i hi => absurd hi (by omega)⟩
      case round =>
        obtain ⟨k, hk, rfl, hall⟩ := hrel
        by_cases hlt : k < n
        · obtain ⟨b, off, v, rfl, hb, hc, hv⟩ := h.at_ hlt
          have hstep : trAt xs k = true → Hid (∀ i, i < k + 1 → trAt xs i = true) := fun ht i hi => by
            by_cases e : i = k
            · subst e; exact ht
            · exact hall.out i (by omega)
          have hbad : trAt xs k = false → trV xs = false := trV_bad (by omega)
          clear hlen h
          by_cases hpar : k % 2 = 0
          · have q2 : ((k : Int) % 2 == 0) = true := by simp; omega
            have q3 : ((k : Int) % 2 == 1) = false := by simp; omega
            have he := trAt_even hv.out hpar
            cases hr : inR v 0 3
            · have hf := Lib.hid (hbad (by rw [he, hr]))
              clear hstep hbad he hpar
              go_wp2_with (go_at_call 74; refine (impl_isAtom _ _).mono ?_; rintro e w' ⟨rfl, rfl⟩)
              go_ret
              exact ⟨ret_bool hf.out.symm, rfl⟩
            · have hf := hstep (by rw [he, hr])
              clear hstep hbad he hpar
              go_wp2_with (go_at_call 74; refine (impl_isAtom _ _).mono ?_; rintro e w' ⟨rfl, rfl⟩)
              go_round
              case rel => exact ⟨k + 1, by omega, by go_num, hf⟩
              case measure => simp [intOf]; omega
          · have q2 : ((k : Int) % 2 == 0) = false := by simp; omega
            have q3 : ((k : Int) % 2 == 1) = true := by simp; omega
            have he := trAt_odd hv.out hpar
            cases hr : inR v 16 18
            · have hf := Lib.hid (hbad (by rw [he, hr]))
              clear hstep hbad he hpar
              go_wp2_with (go_at_call 56; refine (impl_isAct _ _).mono ?_; rintro e w' ⟨rfl, rfl⟩)
              go_ret
              exact ⟨ret_bool hf.out.symm, rfl⟩
            · have hf := hstep (by rw [he, hr])
              clear hstep hbad he hpar
              go_wp2_with (go_at_call 56; refine (impl_isAct _ _).mono ?_; rintro e w' ⟨rfl, rfl⟩)
              go_round
              case rel => exact ⟨k + 1, by omega, by go_num, hf⟩
              case measure => simp [intOf]; omega
        · obtain rfl : n = k := by omega
          have hf := Lib.hid (trV_ok (t := xs) (by omega) (by omega) hall.out)
          clear hlen h
          go_wp2
          go_ret
          exact ⟨ret_bool hf.out.symm, rfl⟩
    · have hf := Lib.hid (trV_len (t := xs) (by omega))
      clear hlen h
      go_enter Try.func47, Try.ntmps47
      go_wp2
      go_ret
      exact ⟨ret_bool hf.out.symm, rfl⟩
  · have q1 : ((n : Int) % 2 != 1) = true := by simp; omega
    have hf := Lib.hid (trV_len (t := xs) (by omega))
    clear hlen h
    go_enter Try.func47, Try.ntmps47
    go_wp2
    go_ret
    exact ⟨ret_bool hf.out.symm, rfl⟩
theorem spec_TraceValid (A : Option Addr) (n c B : Nat) (xs : List Int) (w : World) (hn : n ≤ 1099511627776) (h : Ls w B A n c xs) :
    Calls Try.prog 63 #[.slice A n c] w fun e w' => e = .returned (.bool (trV xs)) ∧ w = w' := by
  have hlen := h.len
  go_enter Try.func63, Try.ntmps63
  go_wp2_with fail
  go_loop [3] (fun i => ∃ k : Nat, k ≤ n ∧ i = .int .i64 k ∧ Hid (∀ i, i < k → trAt xs i = true)) (fun i => n - (intOf i).toNat)
  case atStart => exact ⟨0, Nat.zero_le _, rfl, fun i hi => absurd hi (by omega)⟩
  case round =>
    obtain ⟨k, hk, rfl, hall⟩ := hrel
    by_cases hlt : k < n
    · obtain ⟨b, off, v, rfl, hb, hc, hv⟩ := h.at_ hlt
      have hstep : trAt xs k = true → Hid (∀ i, i < k + 1 → trAt xs i = true) := fun ht i hi => by
        by_cases e : i = k
        · subst e; exact ht
        · exact hall.out i (by omega)
      have hbad : trAt xs k = false → trV xs = false := trV_bad (by omega)
      clear hlen h
      by_cases hpar : k % 2 = 0
      · have q2 : ((k : Int) % 2 == 0) = true := by simp; omega
        have q3 : ((k : Int) % 2 == 1) = false := by simp; omega
        have he := trAt_even hv.out hpar
        cases hr : inR v 0 3
        · have hf := Lib.hid (hbad (by rw [he, hr]))
          clear hstep hbad he hpar
          go_wp2_with (go_at_call 57; refine (spec_l1In _ _ _ _).mono ?_; rintro e w' ⟨rfl, rfl⟩)
          go_ret
          exact ⟨ret_bool hf.out.symm, rfl⟩
        · have hf := hstep (by rw [he, hr])
          clear hstep hbad he hpar
          go_wp2_with (go_at_call 57; refine (spec_l1In _ _ _ _).mono ?_; rintro e w' ⟨rfl, rfl⟩)
          go_round
          case rel => exact ⟨k + 1, by omega, by go_num, hf⟩
          case measure => simp [intOf]; omega
      · have q2 : ((k : Int) % 2 == 0) = false := by simp; omega
        have q3 : ((k : Int) % 2 == 1) = true := by simp; omega
        have he := trAt_odd hv.out hpar
        cases hr : inR v 16 18
        · have hf := Lib.hid (hbad (by rw [he, hr]))
          clear hstep hbad he hpar
          go_wp2_with (go_at_call 57; refine (spec_l1In _ _ _ _).mono ?_; rintro e w' ⟨rfl, rfl⟩)
          go_ret
          exact ⟨ret_bool hf.out.symm, rfl⟩
        · have hf := hstep (by rw [he, hr])
          clear hstep hbad he hpar
          go_wp2_with (go_at_call 57; refine (spec_l1In _ _ _ _).mono ?_; rintro e w' ⟨rfl, rfl⟩)
          go_round
          case rel => exact ⟨k + 1, by omega, by go_num, hf⟩
          case measure => simp [intOf]; omega
    · obtain rfl : n = k := by omega
      by_cases hok : n % 2 = 1 ∧ n ≤ 41
      · have q1 : ((n : Int) % 2 == 1) = true := by simp; omega
        have hf := Lib.hid (trV_ok (t := xs) (by omega) (by omega) hall.out)
        clear hlen h
        go_wp2
        go_ret
        exact ⟨ret_bool (by rw [hf.out]; simp; omega), rfl⟩
      · have hf := Lib.hid (trV_len (t := xs) (by omega))
        by_cases hodd : n % 2 = 1
        · have q1 : ((n : Int) % 2 == 1) = true := by simp; omega
          clear hlen h
          go_wp2
          go_ret
          exact ⟨ret_bool (by rw [hf.out]; simp; omega), rfl⟩
        · have q1 : ((n : Int) % 2 == 1) = false := by simp; omega
          clear hlen h
          go_wp2
          go_ret
          exact ⟨ret_bool hf.out.symm, rfl⟩
/-- What a fresh list and a truth leave. -/
def FreshT (w : World) (r : List Int × Bool) (e : Ending) (w' : World) : Prop := ∃ A n c, e = .returned (.tuple #[.slice A n c, .bool r.2]) ∧ Own w' w.heap.size A n c r.1 ∧ Since w w'
theorem FreshT.mk {w w' : World} {r : List Int × Bool} {l : List Int} {b : Bool} {A : Option Addr} {n c : Nat} (h : r = (l, b)) (o : Own w' w.heap.size A n c l) (s : Since w w') :
    FreshT w r (.returned (.tuple #[.slice A n c, .bool b])) w' := by
  subst h
  exact ⟨A, n, c, rfl, o, s⟩
theorem tJ_no1 {a b : List Int} (h : trV a = false) : tJoin a b = ([], false) := by simp [tJoin, h]
theorem tJ_no2 {a b : List Int} (h : trV b = false) : tJoin a b = ([], false) := by simp [tJoin, h]
theorem tJ_no3 {a b : List Int} (h : (a.getD (a.length - 1) 0 == b.getD 0 0) = false) : tJoin a b = ([], false) := by unfold tJoin; rw [h]; simp
theorem tJ_no4 {a b : List Int} (h : trV (a ++ b.drop 1) = false) : tJoin a b = ([], false) := by unfold tJoin; rw [h]; simp
theorem tJ_yes {a b : List Int} (h : trV a = true) (h2 : trV b = true) (h3 : (a.getD (a.length - 1) 0 == b.getD 0 0) = true) (h4 : trV (a ++ b.drop 1) = true) : tJoin a b = (a ++ b.drop 1, true) := by unfold tJoin; rw [h, h2, h3, h4]; simp
theorem spec_TraceJoin (A : Option Addr) (n c : Nat) (xs : List Int) (A' : Option Addr) (n' c' : Nat) (ys : List Int) (w : World)
    (hn : n ≤ 274877906944) (hn' : n' ≤ 274877906944) (h : Ls w w.heap.size A n c xs) (h' : Ls w w.heap.size A' n' c' ys) :
    Calls Try.prog 94 #[.slice A n c, .slice A' n' c'] w (FreshT w (tJoin xs ys)) := by
  have hq := fun k => quiet_mine (spec_TraceValid A n c w.heap.size xs (w.drewN k) (by omega) (h.drewN k))
  have hq' := fun k => quiet_mine (spec_TraceValid A' n' c' w.heap.size ys (w.drewN k) (by omega) (h'.drewN k))
  have HQ := Lib.hid hq
  have HQ' := Lib.hid hq'
  clear hq hq'
  cases hva : trV xs
  · have hk := Lib.hid (tJ_no1 (b := ys) hva)
    rw [hva] at HQ
    go_enter Try.func94, Try.ntmps94
    go_wp2_with fail
    go_quiet ((go_at_call 63; exact HQ.out _))
    go_wp2_with fail
    go_ret2
    exact FreshT.mk hk.out ((Own.zero _).lower (Nat.le_refl _)) (((Since.refl w).drewN _).alloc _)
  · rw [hva] at HQ
    cases hvb : trV ys
    · have hk := Lib.hid (tJ_no2 (a := xs) hvb)
      rw [hvb] at HQ'
      go_enter Try.func94, Try.ntmps94
      go_wp2_with fail
      go_quiet ((first | (go_at_call_of 63 (Value.slice A n c); exact HQ.out _) | (go_at_call_of 63 (Value.slice A' n' c'); exact HQ'.out _)))
      go_wp2_with fail
      go_ret2
      exact FreshT.mk hk.out ((Own.zero _).lower (Nat.le_refl _)) (((Since.refl w).drewN _).alloc _)
    · rw [hvb] at HQ'
      have hla := (trV_iff.1 hva).1
      have hlb := (trV_iff.1 hvb).1
      rw [h.len] at hla
      rw [h'.len] at hlb
      obtain ⟨b, off, v, rfl, hb, hc, hv⟩ := h.at_ (k := n - 1) (by omega)
      obtain ⟨b', off', u, rfl, hb', hc', hu⟩ := h'.at_ (k := 0) (by omega)
      have e1 : IntKind.i64.wrap ((n : Int) - 1) = ((n - 1 : Nat) : Int) := by rw [IntWalk.i64_in _ (by omega)]; omega
      have e2 : ((n - 1 : Nat) : Int) < n := by omega
      have e3 : (0 : Int) < n' := by omega
      have hlx := Lib.hid h.len
      have hva := Lib.hid hva
      have hvb := Lib.hid hvb
      generalize hj : n - 1 = j at *
      rw [Nat.add_zero] at hc'
      by_cases hvu : v = u
      · subst hvu
        have hne : (v != v) = false := by simp
        clear hla hlb
        go_enter Try.func94, Try.ntmps94
        go_wp2_with fail
        go_quiet ((first | (go_at_call_of 63 (Value.slice (some ⟨b, off, none⟩) n c); exact HQ.out _) | (go_at_call_of 63 (Value.slice (some ⟨b', off', none⟩) n' c'); exact HQ'.out _)))
        go_wp2_with fail
        have sq : Since w (w.drewN nq) := (Since.refl w).drewN nq
        have hq := h.since sq
        have hq' := h'.since sq
        have hly' := Lib.hid h'.len
        have hcap := h'.cap
        have hcz : (n' : Int) ≤ c' := by omega
        have hn1 : 1 ≤ n' := by omega
        have hz1 : (1 : Int) ≤ (n' : Int) := by omega
        clear h h' hc hc'
        generalize w.drewN nq = wq at *
        by_cases hc1 : c' = 1
        · subst hc1
          obtain rfl : n' = 1 := by omega
          have hd : ∀ (w1 : World) (s1 : Since wq w1), Ls w1 w1.heap.size (some ⟨b', off', none⟩) (1 - 1) (1 - 1) (ys.drop 1) := fun w1 s1 => by
            have := (hq'.since s1).drop (k := 1) hn1
            rw [if_pos rfl] at this
            exact this
          have HD := Lib.hid hd
          clear hd
          have tok1 : True := trivial
          have tok2 : True := trivial
          have s0 : Since wq ((wq.alloc (.cells #[] 3)).drew) := ((Since.refl wq).alloc _).drew
          go_region_held3 (fun _ => True) (go_keep) (first | (have _t := tok1; refine step_app rfl _ _ rfl wq.heap.size _ 0 0 [] rfl (Own.zero wq).drew _ _ n c xs rfl (hq.since s0) (by omega) s0.size ?_; intro A1 c1 w1 o1 g1; have s1 : Since wq w1 := s0.app (Nat.le_refl _) g1; clear tok1) | (have _t := tok2; refine step_app rfl _ _ rfl wq.heap.size A1 (0 + n) c1 ([] ++ xs) rfl o1 _ _ (1 - 1) _ (ys.drop 1) rfl (HD.out _ s1) (by omega) s1.size ?_; intro A2 c2 w2 o2 g2; clear tok2))
          have s2 : Since wq w2 := s1.app (Nat.le_refl _) g2
          have s3 := sq.trans s2
          have o3 := o2.lower sq.size
          simp only [Nat.sub_self, Nat.add_zero, Nat.zero_add, List.nil_append] at o3
          have hb2 : n ≤ 549755813888 := by omega
          clear g1 g2 o1 hq hq' o2 s2 HD s0 hcz hz1 hcap
          generalize hz : xs ++ ys.drop 1 = zs at *
          have hz := Lib.hid hz
          cases hvc : trV zs
          · have hk := Lib.hid (tJ_no4 (a := xs) (b := ys) (by rw [hz.out]; exact hvc))
            go_wp2_with (go_at_call 63; refine (spec_TraceValid A2 n c2 _ _ w2 (by omega) o3.ls).mono ?_; rintro e w' ⟨rfl, rfl⟩)
            go_ret2
            exact FreshT.mk hk.out ((Own.zero _).lower s3.size) (s3.alloc _)
          · have hk := Lib.hid (tJ_yes hva.out hvb.out (by rw [hlx.out, hj, hv.out, hu.out]; simp) (by rw [hz.out]; exact hvc))
            rw [hz.out] at hk
            go_wp2_with (go_at_call 63; refine (spec_TraceValid A2 n c2 _ _ w2 (by omega) o3.ls).mono ?_; rintro e w' ⟨rfl, rfl⟩)
            go_ret2
            exact FreshT.mk hk.out o3 s3
        · have hd : ∀ (w1 : World) (s1 : Since wq w1), Ls w1 w1.heap.size (some ⟨b', off' + 1, none⟩) (n' - 1) (c' - 1) (ys.drop 1) := fun w1 s1 => by
            have := (hq'.since s1).drop (k := 1) hn1
            rw [if_neg hc1] at this
            simpa [add_at] using this
          have HD := Lib.hid hd
          clear hd
          have tok1 : True := trivial
          have tok2 : True := trivial
          have s0 : Since wq ((wq.alloc (.cells #[] 3)).drew) := ((Since.refl wq).alloc _).drew
          go_region_held3 (fun _ => True) (go_keep) (first | (have _t := tok1; refine step_app rfl _ _ rfl wq.heap.size _ 0 0 [] rfl (Own.zero wq).drew _ _ n c xs rfl (hq.since s0) (by omega) s0.size ?_; intro A1 c1 w1 o1 g1; have s1 : Since wq w1 := s0.app (Nat.le_refl _) g1; clear tok1) | (have _t := tok2; refine step_app rfl _ _ rfl wq.heap.size A1 (0 + n) c1 ([] ++ xs) rfl o1 _ _ (n' - 1) _ (ys.drop 1) rfl (HD.out _ s1) (by omega) s1.size ?_; intro A2 c2 w2 o2 g2; clear tok2))
          have s2 : Since wq w2 := s1.app (Nat.le_refl _) g2
          have s3 := sq.trans s2
          have o3 := o2.lower sq.size
          simp only [Nat.zero_add, List.nil_append] at o3
          have hb2 : n + (n' - 1) ≤ 549755813888 := by omega
          clear g1 g2 o1 hq hq' o2 s2 HD s0 hcz hz1 hcap
          generalize hz : xs ++ ys.drop 1 = zs at *
          have hz := Lib.hid hz
          cases hvc : trV zs
          · have hk := Lib.hid (tJ_no4 (a := xs) (b := ys) (by rw [hz.out]; exact hvc))
            go_wp2_with (go_at_call 63; refine (spec_TraceValid A2 (n + (n' - 1)) c2 _ _ w2 (by omega) o3.ls).mono ?_; rintro e w' ⟨rfl, rfl⟩)
            go_ret2
            exact FreshT.mk hk.out ((Own.zero _).lower s3.size) (s3.alloc _)
          · have hk := Lib.hid (tJ_yes hva.out hvb.out (by rw [hlx.out, hj, hv.out, hu.out]; simp) (by rw [hz.out]; exact hvc))
            rw [hz.out] at hk
            go_wp2_with (go_at_call 63; refine (spec_TraceValid A2 (n + (n' - 1)) c2 _ _ w2 (by omega) o3.ls).mono ?_; rintro e w' ⟨rfl, rfl⟩)
            go_ret2
            exact FreshT.mk hk.out o3 s3
      · have hne : (v != u) = true := by simpa using hvu
        have hk := Lib.hid (tJ_no3 (a := xs) (b := ys) (by rw [hlx.out, hj, hv.out, hu.out]; simpa using hvu))
        clear hla hlb
        go_enter Try.func94, Try.ntmps94
        go_wp2_with fail
        go_quiet ((first | (go_at_call_of 63 (Value.slice (some ⟨b, off, none⟩) n c); exact HQ.out _) | (go_at_call_of 63 (Value.slice (some ⟨b', off', none⟩) n' c'); exact HQ'.out _)))
        go_wp2_with fail
        go_ret2
        exact FreshT.mk hk.out ((Own.zero _).lower (Nat.le_refl _)) (((Since.refl w).drewN _).alloc _)
theorem rev_step {xs : List Int} {j : Nat} {v : Int} (hj : j < xs.length) (hv : xs.getD (xs.length - 1 - j) 0 = v) : (xs.drop (xs.length - (j + 1))).reverse = (xs.drop (xs.length - j)).reverse ++ [v] := by
  have e : xs.length - (j + 1) = xs.length - 1 - j := by omega
  rw [e, List.drop_eq_getElem_cons (by omega), List.reverse_cons]
  congr 2
  · congr 1; omega
  · rw [← hv]; simp [List.getD_eq_getElem?_getD, List.getElem?_eq_getElem (show xs.length - 1 - j < xs.length by omega)]
theorem impl_TraceBack (A : Option Addr) (n c : Nat) (xs : List Int) (w : World) (hn : n ≤ 274877906944) (h : Ls w w.heap.size A n c xs) :
    Calls Try.prog 35 #[.slice A n c] w (Fresh w (tBack xs)) := by
  cases hva : trV xs
  · have hk : Hid (tBack xs = []) := by simp [Hid, tBack, hva]
    go_enter Try.func35, Try.ntmps35
    go_wp2_with (go_at_call 47; refine (impl_TraceValid A n c _ xs _ (by omega) h).mono ?_; rintro e w' ⟨rfl, rfl⟩)
    go_ret
    exact ⟨_, _, _, rfl, by rw [hk.out]; exact Own.nil _ _, Since.refl w⟩
  · have hk : Hid (tBack xs = xs.reverse) := by simp [Hid, tBack, hva]
    have hla := (trV_iff.1 hva).1
    rw [h.len] at hla
    have hva := Lib.hid hva
    go_enter Try.func35, Try.ntmps35
    go_wp2_with fail
    refine (impl_TraceValid A n c _ xs _ (by omega) h).mono ?_
    rintro e w' ⟨rfl, rfl⟩
    rw [hva.out]
    clear hla
    go_wp2_with fail
    refine (clone_any A n c xs w (by omega) h).mono ?_
    rintro e w1 ⟨A1, n1, c1, rfl, o1, s1⟩
    have hb1 : n1 ≤ 274877906944 := by have := o1.len; rw [h.len] at this; omega
    go_wp2_with fail
    refine (reverse_any A1 n1 c1 _ xs w1 (by omega) o1).mono ?_
    rintro e w2 ⟨rfl, o2, hm⟩
    have s2 := s1.marked o1 hm
    clear hm o1
    go_wp2
    go_ret
    exact ⟨_, _, _, rfl, by rw [hk.out]; exact o2, s2⟩
end Go.Proofs.Ytlnkkjmejmhaiaa
