/-
  Contracts of the specification's l3Add, l3Fuse, l3List and TracesOf (chapter 3).
-/
import Derived.Test.YtlnkkjmejmhaiaaSSL
import Derived.Test.YtlnkkjmejmhaiaaTrace
import Derived.Deep.RegionLaw
import Derived.Deep.RegionHeld3
namespace Go.Proofs.Ytlnkkjmejmhaiaa
open Go.RowKit
set_option linter.unusedVariables false
set_option maxHeartbeats 400000

theorem LR.sinceQ {w w' : World} {n c : Nat} {A : Option Addr} {xss : List (List Int)} (h : LR w w.heap.size A n c xss) (s : Qt w w') : LR w' w'.heap.size A n c xss := h.since s.since
/-- where a list is put -/
theorem addL_at : ∀ {xss : List (List Int)} {t : List Int} {k : Nat}, k ≤ xss.length → (∀ i, i < k → lexB (xss.getD i []) t = true) → (k = xss.length ∨ lexB (xss.getD k []) t = false) →
    addL xss t = if k < xss.length ∧ xss.getD k [] = t then xss else xss.take k ++ [t] ++ xss.drop k := by
  intro xss
  induction xss with
  | nil =>
    intro t k h1 h2 h3
    obtain rfl : k = 0 := by simpa using h1
    simp [addL]
  | cons x r ih =>
    intro t k h1 h2 h3
    cases k with
    | zero =>
      have h4 : lexB x t = false := by
        rcases h3 with h3 | h3
        · simp at h3
        · exact h3
      unfold addL
      rw [if_neg (by rw [h4]; decide)]
      by_cases e : x = t
      · rw [if_pos e, if_pos ⟨by simp, e⟩]
      · rw [if_neg e, if_neg (fun h => e h.2)]; rfl
    | succ k =>
      have h4 : lexB x t = true := h2 0 (by omega)
      have := ih (t := t) (k := k) (by simpa using h1) (fun i hi => h2 (i + 1) (by omega)) (by
        rcases h3 with h3 | h3
        · left; simpa using h3
        · right; exact h3)
      unfold addL
      rw [if_pos h4, this]
      by_cases e : k < r.length ∧ r.getD k [] = t
      · rw [if_pos e, if_pos ⟨by simpa using e.1, by simpa using e.2⟩]
      · rw [if_neg e, if_neg (fun h => e ⟨by simpa using h.1, by simpa using h.2⟩)]; rfl
theorem spec_l3Add (A : Option Addr) (n c : Nat) (xss : List (List Int)) (A' : Option Addr) (n' c' : Nat) (t : List Int) (w : World) (hn : n ≤ 274877906944) (hx : ∀ x ∈ xss, x.length ≤ 1000) (h : LR w w.heap.size A n c xss) (h' : Ls w w.heap.size A' n' c' t) :
    Calls Try.prog 84 #[.slice A n c, .slice A' n' c'] w (FreshLR w (addL xss t)) := by
  have hlen := h.len
  have hxH := Lib.hid hx
  clear hx
  go_enter Try.func84, Try.ntmps84
  go_wp2
  go_loopw [5] (fun i wr => ∃ k : Nat, k ≤ n ∧ i = .int .i64 k ∧ Hid (∀ i, i < k → lexB (xss.getD i []) t = true) ∧ Qt w wr) (fun i _ => n - (intOf i).toNat)
  case atStart => exact ⟨0, Nat.zero_le _, rfl, fun i hi => absurd hi (by omega), Qt.refl w⟩
  case round =>
    obtain ⟨k, hk, rfl, hall, hs⟩ := hrel
    have hr := h.sinceQ hs
    have hr' := h'.sinceQ hs
    have fin : ∀ w2, Qt w w2 → (k = xss.length ∨ lexB (xss.getD k []) t = false) → True := fun _ _ _ => trivial
    clear fin
    by_cases hlt : k < n
    · have hZ : (k : Int) < n := by omega
      obtain ⟨b, off, A1, n1, c1, rfl, hc, l⟩ := hr.at_ hlt
      have hb1 : n1 ≤ 1000 := by rw [← l.len]; exact hxH.out _ (getD_mem (by omega))
      have hlq := Lib.hid (l1Less_q A1 n1 c1 _ _ A' n' c' _ _ wr (by omega) l hr')
      cases hA : lexB (xss.getD k []) t
      · have hfin := addL_at (xss := xss) (t := t) (k := k) (by omega) hall.out (.inr hA)
        have hsq := Lib.hid (fun j => (l1Same_q A1 n1 c1 _ _ A' n' c' _ _ (wr.drewN j) (by omega) (l.drewN j) (hr'.drewN j)))
        rw [hA] at hlq
        cases hB : decide (xss.getD k [] = t)
        · rw [if_neg (fun e => by rw [e.2] at hB; simp at hB)] at hfin
          rw [hB] at hsq
          replace hfin := Lib.hid hfin
          clear hA hB l hlen h h'
          go_wp2_with fail
          refine hlq.out.mono ?_
          rintro e w2' ⟨rfl, ⟨j, rfl⟩⟩
          go_wp2_with fail
          refine (hsq.out j).mono ?_
          rintro e wq ⟨rfl, s3'⟩
          go_wp2_with fail
          have s4 : Qt wr wq := Qt.trans ⟨j, rfl⟩ s3'
          replace hr := hr.sinceQ s4
          replace hr' := hr'.sinceQ s4
          replace hs := hs.trans s4
          clear s3' s4 hc hlq hsq
          obtain ⟨vs, hv, hvr⟩ := hr
          have hvl := Lib.hid hv.len
          have hcap := hv.cap
          have hck : c ≠ k := by omega
          have hcz : (k : Int) ≤ c := by omega
          have hnz : (k : Int) ≤ n := by omega
          have t1 := Lib.hid (fun w' (s : Since wq w') => ((hv.take (k := k) (by omega)).below (s.below)))
          have t3 := Lib.hid (fun w' (s : Since wq w') => ((hv.drop (k := k) (by omega)).below (s.below)))
          rw [if_neg hck] at t3
          simp only [Nat.mul_one, Option.map_some, add_at] at t3
          clear hv hall
          have tok1 : True := trivial
          have tok2 : True := trivial
          have tok3 : True := trivial
          have sa : Since wq ((wq.alloc (.cells #[] 22)).drew) := ((Since.refl wq).alloc _).drew
          have sb : Since wq (((wq.alloc (.cells #[] 22)).alloc (.cells #[.slice A' n' c'] 22)).drew) := (((Since.refl wq).alloc _).alloc _).drew
          have sc : Since wq (((wq.alloc (.cells #[.slice A' n' c'] 22)).alloc (.cells #[] 22)).drew) := (((Since.refl wq).alloc _).alloc _).drew
          have oa := (SOwn.zero wq).drew
          have ob := ((SOwn.zero wq).alloc (.cells #[.slice A' n' c'] 22)).drew
          have oc : SOwn (((wq.alloc (.cells #[.slice A' n' c'] 22)).alloc (.cells #[] 22)).drew) wq.heap.size (some ⟨wq.heap.size + 1, 0, none⟩) 0 0 [] := by
            have := ((SOwn.zero (wq.alloc (.cells #[.slice A' n' c'] 22))).lower (base' := wq.heap.size) (by simp)).drew
            simpa using this
          have hb2 : SLs (((wq.alloc (.cells #[] 22)).alloc (.cells #[.slice A' n' c'] 22)).drew) (wq.heap.size + 2) (some ⟨wq.heap.size + 1, 0, none⟩) 1 1 [.slice A' n' c'] :=
            (SLs.one_ (wq.alloc (.cells #[] 22)) _ ⟨_, _, _, rfl⟩ (wq.heap.size + 1) _ (by simp)).keep (fun _ _ => rfl)
          have hc2 : SLs (((wq.alloc (.cells #[.slice A' n' c'] 22)).alloc (.cells #[] 22)).drew) (wq.heap.size + 1) (some ⟨wq.heap.size, 0, none⟩) 1 1 [.slice A' n' c'] :=
            (SLs.one_ wq (.slice A' n' c') ⟨_, _, _, rfl⟩ wq.heap.size 22 rfl).keep (fun p hp => World.cell?_alloc_lt _ _ p (by simp; omega))
          go_region_held3 (fun _ => True) (go_keep) (first
            | (have _t := tok1; refine step_appS rfl _ _ rfl wq.heap.size _ 0 0 [] rfl oa _ _ k c (vs.take k) rfl (t1.out _ sa) (by omega) sa.size ?_; intro A1 c1 w1 o1 g1; have s1 : Since wq w1 := sa.app (Nat.le_refl _) g1; simp only [Nat.zero_add, List.nil_append] at o1; (try simp only [Nat.zero_add]); clear tok1)
            | (have _t := tok1; refine step_appS rfl _ _ rfl wq.heap.size _ 0 0 [] rfl ob _ _ k c (vs.take k) rfl (t1.out _ sb) (by omega) sb.size ?_; intro A1 c1 w1 o1 g1; have s1 : Since wq w1 := sb.app (Nat.le_refl _) g1; have ht := hb2.row (by simp) g1 (by simp); simp only [Nat.zero_add, List.nil_append] at o1; (try simp only [Nat.zero_add]); clear tok1)
            | (have _t := tok1; refine step_appS rfl _ _ rfl wq.heap.size _ 0 0 [] rfl oc _ _ k c (vs.take k) rfl (t1.out _ sc) (by omega) sc.size ?_; intro A1 c1 w1 o1 g1; have s1 : Since wq w1 := sc.app (Nat.le_refl _) g1; have ht := hc2.row (by simp) g1 (by simp); simp only [Nat.zero_add, List.nil_append] at o1; (try simp only [Nat.zero_add]); clear tok1)
            | (have _t := tok2; refine step_appS rfl _ _ rfl wq.heap.size A1 k c1 (vs.take k) rfl (o1.alloc _) _ _ 1 1 [.slice A' n' c'] rfl (SLs.one_ w1 _ ⟨_, _, _, rfl⟩ _ _ rfl) (by omega) (s1.alloc _).size ?_; intro A2 c2 w2 o2 g2; have s2 : Since wq w2 := (s1.alloc _).app (Nat.le_refl _) g2; clear tok2)
            | (have _t := tok2; refine step_appS rfl _ _ rfl wq.heap.size A1 k c1 (vs.take k) rfl o1 _ _ 1 1 [.slice A' n' c'] rfl ht (by omega) s1.size ?_; intro A2 c2 w2 o2 g2; have s2 : Since wq w2 := s1.app (Nat.le_refl _) g2; clear tok2)
            | (have _t := tok3; refine step_appS rfl _ _ rfl wq.heap.size A2 (k + 1) c2 (vs.take k ++ [.slice A' n' c']) rfl o2 _ _ (n - k) (c - k) (vs.drop k) rfl (t3.out _ s2) (by omega) s2.size ?_; intro A3 c3 w3 o3 g3; have s3 : Since wq w3 := s2.app (Nat.le_refl _) g3; clear tok3))
          all_goals (go_wp2_with fail)
          all_goals go_ret
          all_goals
            refine ⟨_, _, _, rfl, ⟨_, o3.ls, ?_⟩, hs.since.trans s3⟩
            rw [hfin.out]
            exact (((hvr.take k).app (Rds.one ⟨_, _, _, rfl, hr'⟩)).app (hvr.drop k)).mono fun _ _ _ _ l => l.since s3
        · rw [if_pos ⟨by omega, by simpa using hB⟩] at hfin
          rw [hB] at hsq
          replace hfin := Lib.hid hfin
          clear hA hB l hlen
          go_wp2_with fail
          refine hlq.out.mono ?_
          rintro e w2 ⟨rfl, ⟨j, rfl⟩⟩
          go_wp2_with fail
          refine (hsq.out j).mono ?_
          rintro e w3 ⟨rfl, s3⟩
          go_wp2_with fail
          go_ret
          have s4 : Qt wr w3 := Qt.trans ⟨j, rfl⟩ s3
          exact ⟨_, _, _, rfl, by rw [hfin.out]; exact hr.sinceQ s4, (hs.trans s4).since⟩
      · have hstep : Hid (∀ i, i < k + 1 → lexB (xss.getD i []) t = true) := by
          intro i hi
          by_cases e : i = k
          · subst e; exact hA
          · exact hall.out i (by omega)
        rw [hA] at hlq
        clear hA l hlen
        go_wp2_with fail
        refine hlq.out.mono ?_
        rintro e w2 ⟨rfl, s2⟩
        go_wp2
        go_roundw
        case rel => exact ⟨k + 1, by omega, by go_num, hstep, hs.trans s2⟩
        case measure => simp [intOf]; omega
    · obtain rfl : n = k := by omega
      have hfin := addL_at (xss := xss) (t := t) (k := n) (by omega) hall.out (.inl hlen.symm)
      rw [if_neg (fun e => by omega)] at hfin
      replace hfin := Lib.hid hfin
      obtain ⟨vs, hv, hvr⟩ := hr
      have hvl := Lib.hid hv.len
      have t1 := Lib.hid (fun w' (s : Since wr w') => ((hv.take (k := n) (by omega)).below (s.below)))
      have t3 := Lib.hid (fun w' (s : Since wr w') => ((hv.drop (k := n) (by omega)).below (s.below)))
      simp only [Nat.sub_self, Nat.mul_one] at t3
      have hcap := hv.cap
      clear h h' hall hlen hv
      go_wp2_with fail
      have tok1 : True := trivial
      have tok2 : True := trivial
      have tok3 : True := trivial
      have sa : Since wr ((wr.alloc (.cells #[] 22)).drew) := ((Since.refl wr).alloc _).drew
      have sb : Since wr (((wr.alloc (.cells #[] 22)).alloc (.cells #[.slice A' n' c'] 22)).drew) := (((Since.refl wr).alloc _).alloc _).drew
      have sc : Since wr (((wr.alloc (.cells #[.slice A' n' c'] 22)).alloc (.cells #[] 22)).drew) := (((Since.refl wr).alloc _).alloc _).drew
      have oa := (SOwn.zero wr).drew
      have ob := ((SOwn.zero wr).alloc (.cells #[.slice A' n' c'] 22)).drew
      have oc : SOwn (((wr.alloc (.cells #[.slice A' n' c'] 22)).alloc (.cells #[] 22)).drew) wr.heap.size (some ⟨wr.heap.size + 1, 0, none⟩) 0 0 [] := by
        have := ((SOwn.zero (wr.alloc (.cells #[.slice A' n' c'] 22))).lower (base' := wr.heap.size) (by simp)).drew
        simpa using this
      have hb2 : SLs (((wr.alloc (.cells #[] 22)).alloc (.cells #[.slice A' n' c'] 22)).drew) (wr.heap.size + 2) (some ⟨wr.heap.size + 1, 0, none⟩) 1 1 [.slice A' n' c'] :=
        (SLs.one_ (wr.alloc (.cells #[] 22)) _ ⟨_, _, _, rfl⟩ (wr.heap.size + 1) _ (by simp)).keep (fun _ _ => rfl)
      have hc2 : SLs (((wr.alloc (.cells #[.slice A' n' c'] 22)).alloc (.cells #[] 22)).drew) (wr.heap.size + 1) (some ⟨wr.heap.size, 0, none⟩) 1 1 [.slice A' n' c'] :=
        (SLs.one_ wr (.slice A' n' c') ⟨_, _, _, rfl⟩ wr.heap.size 22 rfl).keep (fun p hp => World.cell?_alloc_lt _ _ p (by simp; omega))
      go_region_held3 (fun _ => True) (go_keep) (first
        | (have _t := tok1; refine step_appS rfl _ _ rfl wr.heap.size _ 0 0 [] rfl oa _ _ n c (vs.take n) rfl (t1.out _ sa) (by omega) sa.size ?_; intro A1 c1 w1 o1 g1; have s1 : Since wr w1 := sa.app (Nat.le_refl _) g1; simp only [Nat.zero_add, List.nil_append] at o1; (try simp only [Nat.zero_add]); clear tok1)
        | (have _t := tok1; refine step_appS rfl _ _ rfl wr.heap.size _ 0 0 [] rfl ob _ _ n c (vs.take n) rfl (t1.out _ sb) (by omega) sb.size ?_; intro A1 c1 w1 o1 g1; have s1 : Since wr w1 := sb.app (Nat.le_refl _) g1; have ht := hb2.row (by simp) g1 (by simp); simp only [Nat.zero_add, List.nil_append] at o1; (try simp only [Nat.zero_add]); clear tok1)
        | (have _t := tok1; refine step_appS rfl _ _ rfl wr.heap.size _ 0 0 [] rfl oc _ _ n c (vs.take n) rfl (t1.out _ sc) (by omega) sc.size ?_; intro A1 c1 w1 o1 g1; have s1 : Since wr w1 := sc.app (Nat.le_refl _) g1; have ht := hc2.row (by simp) g1 (by simp); simp only [Nat.zero_add, List.nil_append] at o1; (try simp only [Nat.zero_add]); clear tok1)
        | (have _t := tok2; refine step_appS rfl _ _ rfl wr.heap.size A1 n c1 (vs.take n) rfl (o1.alloc _) _ _ 1 1 [.slice A' n' c'] rfl (SLs.one_ w1 _ ⟨_, _, _, rfl⟩ _ _ rfl) (by omega) (s1.alloc _).size ?_; intro A2 c2 w2 o2 g2; have s2 : Since wr w2 := (s1.alloc _).app (Nat.le_refl _) g2; clear tok2)
        | (have _t := tok2; refine step_appS rfl _ _ rfl wr.heap.size A1 n c1 (vs.take n) rfl o1 _ _ 1 1 [.slice A' n' c'] rfl ht (by omega) s1.size ?_; intro A2 c2 w2 o2 g2; have s2 : Since wr w2 := s1.app (Nat.le_refl _) g2; clear tok2)
        | (have _t := tok3; refine step_appS rfl _ _ rfl wr.heap.size A2 (n + 1) c2 (vs.take n ++ [.slice A' n' c']) rfl o2 _ _ 0 (c - n) (vs.drop n) rfl (t3.out _ s2) (by omega) s2.size ?_; intro A3 c3 w3 o3 g3; have s3 : Since wr w3 := s2.app (Nat.le_refl _) g3; clear tok3))
      all_goals (go_wp2_with fail)
      all_goals go_ret
      all_goals
        refine ⟨_, _, _, rfl, ⟨_, o3.ls, ?_⟩, hs.since.trans s3⟩
        rw [hfin.out]
        exact (((hvr.take n).app (Rds.one ⟨_, _, _, rfl, hr'⟩)).app (hvr.drop n)).mono fun _ _ _ _ l => l.since s3
end Go.Proofs.Ytlnkkjmejmhaiaa
