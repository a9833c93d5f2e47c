/-
  Contracts of the specification's l3List, TracesOf and AllTraces (chapter 3).
-/
import Derived.Test.YtlnkkjmejmhaiaaFuse
namespace Go.Proofs.Ytlnkkjmejmhaiaa
open Go.RowKit
set_option linter.unusedVariables false
set_option maxHeartbeats 400000

/-- A list in order of short traces is no longer than all of them. -/
theorem short_bound {most : Nat} (hm : most ≤ 2) {l : List (List Int)} (h : Srt l) (hs : ∀ x ∈ l, Short most x) : l.length ≤ 628 ∧ ∀ x ∈ l, x.length ≤ 1000 := by
  constructor
  · have e : l = (allTr most).filter (fun x => decide (x ∈ l)) := by
      refine srt_eq h ((srt_all hm).filter _) fun x => ?_
      rw [List.mem_filter, mem_all hm]
      simp only [decide_eq_true_eq]
      exact ⟨fun hx => ⟨hs x hx, hx⟩, fun hx => hx.2⟩
    rw [e]
    refine Nat.le_trans (List.length_filter_le _ _) ?_
    rw [all_len hm]
    split
    · omega
    · split <;> omega
  · intro x hx
    obtain ⟨n, hn, hv⟩ := hs x hx
    have := hv.2
    omega
theorem list_short {most : Nat} (hm : most ≤ 2) {t : Tr} (ht : t.ok) : ∀ x ∈ listL most t, Short most x := fun x hx => ((mem_listL (by omega) ht x).1 hx).1
theorem srt_now (A : List (List Int)) (most k : Nat) : Srt (nowL A most k) := by
  cases k with
  | zero => unfold Srt nowL; decide
  | succ k => exact srt_fuseL _ _ _
theorem now_short {most : Nat} (hm : most ≤ 2) {t : Tr} (ht : t.ok) (k : Nat) : ∀ x ∈ nowL (listL most t) most k, Short most x := fun x hx =>
  (now_sound (by omega) (fun x => mem_listL (by omega) ht x) hx).1
theorem star_short {most : Nat} (hm : most ≤ 2) {t : Tr} (ht : t.ok) (k : Nat) : ∀ x ∈ starL (listL most t) most k, Short most x := fun x hx => by
  obtain ⟨j, _, hj⟩ := mem_starL.1 hx
  exact now_short hm ht j x hj
/-- lists with others added, all short and in order -/
theorem adds_bound {most : Nat} (hm : most ≤ 2) {l m : List (List Int)} (h : Srt l) (hl : ∀ x ∈ l, Short most x) (hk : ∀ x ∈ m, Short most x) (j : Nat) : (addsL l (m.take j)).length ≤ 628 ∧ ∀ x ∈ addsL l (m.take j), x.length ≤ 1000 :=
  short_bound hm (srt_addsL h _) fun x hx => by
    rcases mem_addsL.1 hx with hx | hx
    · exact hl x hx
    · exact hk x (List.mem_of_mem_take hx)
theorem adds_step {l m : List (List Int)} {j : Nat} (hj : j < m.length) : addsL l (m.take (j + 1)) = addL (addsL l (m.take j)) (m.getD j []) := by
  rw [take_at_g (d := []) hj, addsL_snoc]
theorem adds_all (l m : List (List Int)) : addsL l (m.take m.length) = addsL l m := by rw [List.take_length]
theorem adds_none (l m : List (List Int)) : addsL l (m.take 0) = l := rfl
theorem leafB_succ (s : Int) (k : Nat) : leafB s (k + 1) = leafB s k ++ [[((k : Int) / 4), s, ((k : Int) % 4)]] := by simp [leafB, List.range_succ]
/-- the four atoms as a list of lists in new memory -/
theorem now_lit (w : World) : LR (((((w.alloc (.cells #[.int .i64 0] 3)).alloc (.cells #[.int .i64 1] 3)).alloc (.cells #[.int .i64 2] 3)).alloc (.cells #[.int .i64 3] 3)).alloc
      (.cells #[.slice (some ⟨w.heap.size, 0, none⟩) 1 1, .slice (some ⟨w.heap.size + 1, 0, none⟩) 1 1, .slice (some ⟨w.heap.size + 2, 0, none⟩) 1 1, .slice (some ⟨w.heap.size + 3, 0, none⟩) 1 1] 22))
    (w.heap.size + 5) (some ⟨w.heap.size + 4, 0, none⟩) 4 4 [[0], [1], [2], [3]] := by
  have l0 := Ls.lit w 0 (by decide) 3
  have l1 := Ls.lit (w.alloc (.cells #[.int .i64 0] 3)) 1 (by decide) 3
  have l2 := Ls.lit ((w.alloc (.cells #[.int .i64 0] 3)).alloc (.cells #[.int .i64 1] 3)) 2 (by decide) 3
  have l3 := Ls.lit (((w.alloc (.cells #[.int .i64 0] 3)).alloc (.cells #[.int .i64 1] 3)).alloc (.cells #[.int .i64 2] 3)) 3 (by decide) 3
  have hs : ∀ o, (((((w.alloc (.cells #[.int .i64 0] 3)).alloc (.cells #[.int .i64 1] 3)).alloc (.cells #[.int .i64 2] 3)).alloc (.cells #[.int .i64 3] 3)).alloc o).heap.size = w.heap.size + 5 := by intro o; simp
  have e4 : ((((w.alloc (.cells #[.int .i64 0] 3)).alloc (.cells #[.int .i64 1] 3)).alloc (.cells #[.int .i64 2] 3)).alloc (.cells #[.int .i64 3] 3)).heap.size = w.heap.size + 4 := by simp
  have k0 := (((l0.alloc_ (.cells #[.int .i64 1] 3)).alloc_ (.cells #[.int .i64 2] 3)).alloc_ (.cells #[.int .i64 3] 3))
  have k1 := ((l1.alloc_ (.cells #[.int .i64 2] 3)).alloc_ (.cells #[.int .i64 3] 3))
  have k2 := (l2.alloc_ (.cells #[.int .i64 3] 3))
  replace k0 := k0.alloc_ (.cells #[.slice (some ⟨w.heap.size, 0, none⟩) 1 1, .slice (some ⟨w.heap.size + 1, 0, none⟩) 1 1, .slice (some ⟨w.heap.size + 2, 0, none⟩) 1 1, .slice (some ⟨w.heap.size + 3, 0, none⟩) 1 1] 22)
  replace k1 := k1.alloc_ (.cells #[.slice (some ⟨w.heap.size, 0, none⟩) 1 1, .slice (some ⟨w.heap.size + 1, 0, none⟩) 1 1, .slice (some ⟨w.heap.size + 2, 0, none⟩) 1 1, .slice (some ⟨w.heap.size + 3, 0, none⟩) 1 1] 22)
  replace k2 := k2.alloc_ (.cells #[.slice (some ⟨w.heap.size, 0, none⟩) 1 1, .slice (some ⟨w.heap.size + 1, 0, none⟩) 1 1, .slice (some ⟨w.heap.size + 2, 0, none⟩) 1 1, .slice (some ⟨w.heap.size + 3, 0, none⟩) 1 1] 22)
  have k3 := l3.alloc_ (.cells #[.slice (some ⟨w.heap.size, 0, none⟩) 1 1, .slice (some ⟨w.heap.size + 1, 0, none⟩) 1 1, .slice (some ⟨w.heap.size + 2, 0, none⟩) 1 1, .slice (some ⟨w.heap.size + 3, 0, none⟩) 1 1] 22)
  rw [hs] at k0 k1 k2 k3
  simp only [World.size_alloc] at k1 k2 k3
  refine ⟨[.slice (some ⟨w.heap.size, 0, none⟩) 1 1, .slice (some ⟨w.heap.size + 1, 0, none⟩) 1 1, .slice (some ⟨w.heap.size + 2, 0, none⟩) 1 1, .slice (some ⟨w.heap.size + 3, 0, none⟩) 1 1], ⟨rfl, Nat.le_refl _, by decide, ?_, fun _ => ?_⟩, rfl, ?_⟩
  · intro v hv
    simp at hv
    rcases hv with rfl | rfl | rfl | rfl <;> exact ⟨_, _, _, rfl⟩
  · refine ⟨w.heap.size + 4, 0, rfl, by omega, fun i hi => ?_⟩
    have hb := heap_alloc_new ((((w.alloc (.cells #[.int .i64 0] 3)).alloc (.cells #[.int .i64 1] 3)).alloc (.cells #[.int .i64 2] 3)).alloc (.cells #[.int .i64 3] 3)) (.cells #[.slice (some ⟨w.heap.size, 0, none⟩) 1 1, .slice (some ⟨w.heap.size + 1, 0, none⟩) 1 1, .slice (some ⟨w.heap.size + 2, 0, none⟩) 1 1, .slice (some ⟨w.heap.size + 3, 0, none⟩) 1 1] 22)
    rw [e4] at hb
    rw [cell_at hb]
    have : i = 0 ∨ i = 1 ∨ i = 2 ∨ i = 3 := by omega
    rcases this with rfl | rfl | rfl | rfl <;> rfl
  · intro i hi
    simp at hi
    have : i = 0 ∨ i = 1 ∨ i = 2 ∨ i = 3 := by omega
    rcases this with rfl | rfl | rfl | rfl
    · exact ⟨_, _, _, rfl, k0⟩
    · exact ⟨_, _, _, rfl, k1⟩
    · exact ⟨_, _, _, rfl, k2⟩
    · exact ⟨_, _, _, rfl, k3⟩
theorem spec_l3List (most : Nat) (hm : most ≤ 2) : ∀ (M : Nat) (t : Tr) (A : Option Addr) (m c : Nat) (w : World), t.size ≤ M → M ≤ 1000 → t.ok → Ls w w.heap.size A m c t.steps →
    Calls Try.prog 69 #[.slice A m c, .int .i64 most] w (FreshLR w (listL most t)) := by
  intro M
  induction M with
  | zero => intro t A m c w h; have := t.size_pos; omega
  | succ M ih =>
    intro t A m c w hM hM2 ht h
    have hlen := h.len
    rw [Tr.length_steps] at hlen
    cases t with
    | leaf s =>
      obtain ⟨h0, h18⟩ := ht
      simp only [Tr.size] at hlen
      obtain rfl : 1 = m := hlen
      obtain ⟨b, off, v, rfl, hb, hc, hv⟩ := h.at_ (k := 0) (by omega)
      obtain rfl : s = v := hv.out
      simp only [Nat.add_zero] at hc
      have hws := wf_small (x := s) (by omega) (by omega)
      have z0 : OO (w.alloc (.cells #[] 22)) w.heap.size (some ⟨w.heap.size, 0, none⟩) 0 0 [] := ⟨[], SOwn.zero w, Ows.nil _ _⟩
      have sz : Since w (w.alloc (.cells #[] 22)) := (Since.refl w).alloc _
      clear hv h ih hM
      by_cases h15 : s ≤ 15
      · have hfin : Hid (listL most (.leaf s) = leafA s 4) := by simp [Hid, listL, h15]
        go_enter Try.func69, Try.ntmps69
        go_wp2_with fail
        go_loopw [7, 8] (fun out i wr => ∃ (k : Nat) (A1 : Option Addr) (n1 c1 : Nat), k ≤ 4 ∧ i = .int .i64 k ∧ out = .slice A1 n1 c1 ∧ OO wr w.heap.size A1 n1 c1 (leafA s k) ∧ Since w wr) (fun _ i _ => 4 - (intOf i).toNat)
        case atStart => exact ⟨0, _, 0, 0, by omega, rfl, rfl, z0, sz⟩
        case round =>
          clear z0 sz hc
          obtain ⟨k, A1, n1, c1, hk, rfl, rfl, oo, s1⟩ := hrel
          by_cases hlt : k < 4
          · have hbit := Lib.hid (spec_l1Bit s k h0 h15 (by omega) (by omega))
            have hun : leafA s (k + 1) = if bitI s k = 1 then leafA s k ++ [[(k : Int)]] else leafA s k := rfl
            by_cases hB : bitI s k = 1
            · rw [if_pos hB] at hun
              rw [hB] at hbit
              replace hun := Lib.hid hun
              obtain ⟨vs, own, ows⟩ := oo
              have hn1 : n1 ≤ 1000000 := by
                have h1 := own.len
                have h2 := ows.len
                have h3 : ∀ k, (leafA s k).length ≤ k := by
                  intro k
                  induction k with
                  | zero => simp [leafA]
                  | succ k ih =>
                    unfold leafA
                    split
                    · rw [List.length_append]; simp; omega
                    · omega
                have := h3 k
                omega
              have hwk := wf_small (x := (k : Int)) (by omega) (by omega)
              have ol := Own.litM wr k hwk _ rfl
              have sb : Since wr ((wr.alloc (.cells #[.int .i64 k] 3)).alloc (.cells #[.slice (some ⟨wr.heap.size, 0, none⟩) 1 1] 22)) := ((Since.refl wr).alloc _).alloc _
              have hrd := SLs.one_ (wr.alloc (.cells #[.int .i64 k] 3)) (.slice (some ⟨wr.heap.size, 0, none⟩) 1 1) ⟨_, _, _, rfl⟩ (wr.heap.size + 1) 22 (by simp)
              clear hB
              go_wp2_with (first
                | (go_at_call 80; refine (hbit.out _).mono ?_; rintro e w' ⟨rfl, rfl⟩)
                | (at_builtin
                   refine wpList_appS rfl _ _ rfl w.heap.size A1 n1 c1 vs rfl (own.since sb) _ _ 1 1 [.slice (some ⟨wr.heap.size, 0, none⟩) 1 1] rfl hrd (by omega) (s1.trans sb).size ?_
                   intro A2 c2 w2 o2 g2))
              go_roundw
              case rel =>
                have hoo := OO.app own ows s1.size sb (Ows.one ⟨_, _, _, rfl, ol.alloc _⟩) o2 g2
                exact ⟨k + 1, _, _, _, by omega, by go_num, rfl, by rw [hun.out]; exact hoo, since_row (s1.trans sb) (Nat.le_refl _) g2⟩
              case measure => simp [intOf]; omega
            · rw [if_neg hB] at hun
              have hB0 : bitI s k = 0 := by have := bitI_01 s k; omega
              rw [hB0] at hbit
              replace hun := Lib.hid hun
              clear hB hB0
              go_wp2_with (go_at_call 80; refine (hbit.out _).mono ?_; rintro e w' ⟨rfl, rfl⟩)
              go_roundw
              case rel => exact ⟨k + 1, _, _, _, by omega, by go_num, rfl, by rw [hun.out]; exact oo, s1⟩
              case measure => simp [intOf]; omega
          · obtain rfl : k = 4 := by omega
            go_wp2_with fail
            go_ret
            exact ⟨_, _, _, rfl, by rw [hfin.out]; exact oo.lr, s1⟩
      · by_cases hm0 : most = 0
        · subst hm0
          have hfin : Hid (listL 0 (.leaf s) = []) := by simp [Hid, listL, h15]
          go_enter Try.func69, Try.ntmps69
          go_wp2_with fail
          go_loopw [7, 9] (fun out i wr => i = .int .i64 0 ∧ out = .slice (some ⟨w.heap.size, 0, none⟩) 0 0 ∧ OO wr w.heap.size (some ⟨w.heap.size, 0, none⟩) 0 0 [] ∧ Since w wr) (fun _ i _ => 0)
          case atStart => exact ⟨rfl, rfl, z0, sz⟩
          case round =>
            clear z0 sz hc
            obtain ⟨rfl, rfl, oo, s1⟩ := hrel
            go_wp2_with fail
            go_ret
            exact ⟨_, _, _, rfl, by rw [hfin.out]; exact oo.lr, s1⟩
        · have hfin : Hid (listL most (.leaf s) = leafB s 16) := by simp [Hid, listL, h15, hm0]
          have hmz : (0 : Int) < most := by omega
          go_enter Try.func69, Try.ntmps69
          go_wp2_with fail
          go_loopw [7, 9] (fun out i wr => ∃ (k : Nat) (A1 : Option Addr) (n1 c1 : Nat), k ≤ 16 ∧ i = .int .i64 k ∧ out = .slice A1 n1 c1 ∧ OO wr w.heap.size A1 n1 c1 (leafB s k) ∧ Since w wr) (fun _ i _ => 16 - (intOf i).toNat)
          case atStart => exact ⟨0, _, 0, 0, by omega, rfl, rfl, z0, sz⟩
          case round =>
            clear z0 sz hc
            obtain ⟨k, A1, n1, c1, hk, rfl, rfl, oo, s1⟩ := hrel
            by_cases hlt : k < 16
            · have hun := Lib.hid (leafB_succ s k)
              have hn1 : n1 ≤ 1000000 := by have := oo.len; simp [leafB] at this; omega
              obtain ⟨vs, own, ows⟩ := oo
              have hw1 := wf_small (x := ((k : Int) / 4)) (by omega) (by omega)
              have hw2 := wf_small (x := ((k : Int) % 4)) (by omega) (by omega)
              have ol := Own.litM3 wr _ s _ hw1 hws hw2 _ rfl
              have sb : Since wr ((wr.alloc (.cells #[.int .i64 ((k : Int) / 4), .int .i64 s, .int .i64 ((k : Int) % 4)] 3)).alloc (.cells #[.slice (some ⟨wr.heap.size, 0, none⟩) 3 3] 22)) := ((Since.refl wr).alloc _).alloc _
              have hrd := SLs.one_ (wr.alloc (.cells #[.int .i64 ((k : Int) / 4), .int .i64 s, .int .i64 ((k : Int) % 4)] 3)) (.slice (some ⟨wr.heap.size, 0, none⟩) 3 3) ⟨_, _, _, rfl⟩ (wr.heap.size + 1) 22 (by simp)
              have hq4 : ((k : Int)).tdiv 4 = (k : Int) / 4 := Int.tdiv_eq_ediv_of_nonneg (by omega)
              have hr4 : ((k : Int)).tmod 4 = (k : Int) % 4 := Int.tmod_eq_emod_of_nonneg (by omega)
              go_wp2_with (at_builtin
                           refine wpList_appS rfl _ _ rfl w.heap.size A1 n1 c1 vs rfl (own.since sb) _ _ 1 1 [.slice (some ⟨wr.heap.size, 0, none⟩) 3 3] rfl hrd (by omega) (s1.trans sb).size ?_
                           intro A2 c2 w2 o2 g2)
              go_roundw
              case rel =>
                have hoo := OO.app own ows s1.size sb (Ows.one ⟨_, _, _, rfl, ol.alloc _⟩) o2 g2
                exact ⟨k + 1, _, _, _, by omega, by go_num, rfl, by rw [hun.out]; exact hoo, since_row (s1.trans sb) (Nat.le_refl _) g2⟩
              case measure => simp [intOf]; omega
            · obtain rfl : k = 16 := by omega
              go_wp2_with fail
              go_ret
              exact ⟨_, _, _, rfl, by rw [hfin.out]; exact oo.lr, s1⟩
    | star a =>
      have ha : a.ok := ht
      have hv0 : (Tr.star a).steps.getD (m - 1) 0 = 21 := by
        simp only [Tr.size] at hlen
        simp only [Tr.steps]
        rw [show m - 1 = a.size by omega]
        simp [List.getD_eq_getElem?_getD, ← Tr.length_steps]
      obtain ⟨bk, off, v, rfl, hbk, hc, hv⟩ := h.at_ (k := m - 1) (by have := (Tr.star a).size_pos; omega)
      obtain rfl : 21 = v := by rw [← hv.out]; exact hv0.symm
      simp only [Tr.size] at hlen hM
      have hmb : m ≤ 1001 := by omega
      have hcap := h.cap
      have ha1 : Ls w w.heap.size (some ⟨bk, off, none⟩) (m - 1) c a.steps := by
        have := h.take (k := m - 1) (by omega)
        simp only [Tr.steps] at this
        rw [List.take_append_of_le_length (by rw [Tr.length_steps]; omega), List.take_of_length_le (by rw [Tr.length_steps]; omega)] at this
        exact this
      have iha := Lib.hid (ih a (some ⟨bk, off, none⟩) (m - 1) c _ (show a.size ≤ M by omega) (by omega) ha (ha1.alloc_ (.cells #[] 22)))
      have hz0 : LR (w.alloc (.cells #[] 22)) (w.alloc (.cells #[] 22)).heap.size (some ⟨w.heap.size, 0, none⟩) 0 0 [] := ⟨[], (SOwn.zero w).ls, Rds.nil _ _⟩
      have sz : Since w (w.alloc (.cells #[] 22)) := (Since.refl w).alloc _
      have hfin : Hid (listL most (.star a) = starL (listL most a) most (most + 1)) := rfl
      have bone := short_bound hm (srt_listL most a) (list_short hm ha)
      have bnow := Lib.hid (fun k => short_bound hm (srt_now (listL most a) most k) (now_short hm ha k))
      have badd := Lib.hid (fun k j => adds_bound hm (srt_starL (listL most a) most k) (star_short hm ha k) (now_short hm ha k) j)
      have hsu : Hid (∀ k, starL (listL most a) most (k + 1) = addsL (starL (listL most a) most k) (nowL (listL most a) most k)) := fun _ => rfl
      have hnu : Hid (∀ k, nowL (listL most a) most (k + 1) = fuseL (nowL (listL most a) most k) (listL most a) most) := fun _ => rfl
      have hs0 : starL (listL most a) most 0 = [] := rfl
      have hn0 : nowL (listL most a) most 0 = [[0], [1], [2], [3]] := rfl
      generalize listL most a = one at *
      have ex : (m : Int) - 1 = ((m - 1 : Nat) : Int) := by omega
      generalize hmm : m - 1 = j at *
      have hjm : j + 1 = m := by omega
      subst hjm
      have hjc : (j : Int) ≤ c := by omega
      replace bone := Lib.hid bone
      clear hv hv0 h ih hlen hmm ha1 hM
      go_enter Try.func69, Try.ntmps69
      go_wp2_with fail
      refine iha.out.mono ?_
      rintro e w1 ⟨A3, n3, c3, rfl, l3, s1⟩
      clear iha
      have hn3 : n3 ≤ 628 := by rw [← l3.len]; exact bone.out.1
      have hnow := now_lit w1
      have s5 : Since w1 (((((w1.alloc (.cells #[.int .i64 0] 3)).alloc (.cells #[.int .i64 1] 3)).alloc (.cells #[.int .i64 2] 3)).alloc (.cells #[.int .i64 3] 3)).alloc
        (.cells #[.slice (some ⟨w1.heap.size, 0, none⟩) 1 1, .slice (some ⟨w1.heap.size + 1, 0, none⟩) 1 1, .slice (some ⟨w1.heap.size + 2, 0, none⟩) 1 1, .slice (some ⟨w1.heap.size + 3, 0, none⟩) 1 1] 22)) := (((((Since.refl w1).alloc _).alloc _).alloc _).alloc _).alloc _
      replace l3 := l3.since s5
      replace hz0 := (hz0.since s1).since s5
      have s15 := (sz.trans s1).trans s5
      replace hnow := hnow.more (B' := (((((w1.alloc (.cells #[.int .i64 0] 3)).alloc (.cells #[.int .i64 1] 3)).alloc (.cells #[.int .i64 2] 3)).alloc (.cells #[.int .i64 3] 3)).alloc
        (.cells #[.slice (some ⟨w1.heap.size, 0, none⟩) 1 1, .slice (some ⟨w1.heap.size + 1, 0, none⟩) 1 1, .slice (some ⟨w1.heap.size + 2, 0, none⟩) 1 1, .slice (some ⟨w1.heap.size + 3, 0, none⟩) 1 1] 22)).heap.size) (by simp)
      clear s5 s1 sz
      go_wp2_with fail
      generalize (((((w1.alloc (.cells #[.int .i64 0] 3)).alloc (.cells #[.int .i64 1] 3)).alloc (.cells #[.int .i64 2] 3)).alloc (.cells #[.int .i64 3] 3)).alloc
        (.cells #[.slice (some ⟨w1.heap.size, 0, none⟩) 1 1, .slice (some ⟨w1.heap.size + 1, 0, none⟩) 1 1, .slice (some ⟨w1.heap.size + 2, 0, none⟩) 1 1, .slice (some ⟨w1.heap.size + 3, 0, none⟩) 1 1] 22)) = w2 at *
      go_loopw [7, 17, 18] (fun out now i wr => ∃ (k : Nat) (A5 : Option Addr) (n5 c5 : Nat) (A6 : Option Addr) (n6 c6 : Nat), k ≤ most + 1 ∧ i = .int .i64 k ∧ out = .slice A5 n5 c5 ∧ now = .slice A6 n6 c6 ∧ LR wr wr.heap.size A5 n5 c5 (starL one most k) ∧ LR wr wr.heap.size A6 n6 c6 (nowL one most k) ∧ Since w2 wr) (fun _ _ i _ => most + 1 - (intOf i).toNat)
      case atStart => exact ⟨0, _, _, _, _, _, _, Nat.zero_le _, rfl, rfl, rfl, by rw [hs0]; exact hz0, by rw [hn0]; exact hnow, Since.refl _⟩
      case round =>
        clear hz0 hnow hs0 hn0
        obtain ⟨k, A5, n5, c5, A6, n6, c6, hk, rfl, rfl, rfl, l5, l6, s2⟩ := hrel
        by_cases hlt : k < most + 1
        · have hZ : (k : Int) ≤ most := by omega
          have hn6 : n6 ≤ 628 := by rw [← l6.len]; exact (bnow.out k).1
          have bn2 := Lib.hid (bnow.out k).2
          have b6 := Lib.hid l6.len
          go_wp2_with fail
          go_loopw [7, 19] (fun out i w3 => ∃ (j' : Nat) (A7 : Option Addr) (n7 c7 : Nat), j' ≤ n6 ∧ i = .int .i64 j' ∧ out = .slice A7 n7 c7 ∧ LR w3 w3.heap.size A7 n7 c7 (addsL (starL one most k) ((nowL one most k).take j')) ∧ Since wr w3) (fun _ i _ => n6 - (intOf i).toNat)
          case atStart => exact ⟨0, _, _, _, Nat.zero_le _, rfl, rfl, l5, Since.refl _⟩
          case round =>
            clear l5
            obtain ⟨j', A7, n7, c7, hj', rfl, rfl, l7, s3⟩ := hrel
            have h5 := badd.out k j'
            have hn7 : n7 ≤ 628 := by rw [← l7.len]; exact h5.1
            replace h5 := Lib.hid h5.2
            replace l6 := l6.since s3
            by_cases hlt' : j' < n6
            · have hZ' : (j' : Int) < n6 := by omega
              obtain ⟨b', off', Ay, ny, cy, rfl, hcy, ly⟩ := l6.at_ hlt'
              have hst := Lib.hid (adds_step (l := starL one most k) (m := nowL one most k) (j := j') (by have := b6.out; omega))
              have had := Lib.hid (spec_l3Add A7 n7 c7 _ Ay ny cy _ _ (by omega) h5.out l7 ly)
              clear ly
              go_wp2_with fail
              refine had.out.mono ?_
              rintro e w4 ⟨A8, n8, c8, rfl, l8, s6⟩
              go_wp2_with fail
              go_roundw
              case rel => exact ⟨j' + 1, _, _, _, by omega, by go_num, rfl, by rw [hst.out]; exact l8, s3.trans s6⟩
              case measure => simp [intOf]; omega
            · obtain rfl : n6 = j' := by omega
              have hst : Hid (addsL (starL one most k) ((nowL one most k).take n6) = starL one most (k + 1)) := by rw [← b6.out, hsu.out k]; exact adds_all _ _
              have hfu := Lib.hid (spec_l3Fuse A6 n6 c6 _ A3 n3 c3 _ most _ (by omega) (by omega) (by omega) bn2.out bone.out.2 l6 ((l3.since s2).since s3))
              clear l6
              go_wp2_with fail
              refine hfu.out.mono ?_
              rintro e w4 ⟨A8, n8, c8, rfl, l8, s6⟩
              go_wp2_with fail
              go_roundw
              case rel => exact ⟨k + 1, _, _, _, _, _, _, by omega, by go_num, rfl, rfl, by rw [← hst.out]; exact l7.since s6, by rw [hnu.out k]; exact l8, (s2.trans s3).trans s6⟩
              case measure => simp [intOf]; omega
        · obtain rfl : k = most + 1 := by omega
          go_wp2_with fail
          go_ret
          exact ⟨_, _, _, rfl, by rw [hfin.out]; exact l5, s15.trans s2⟩
    | bin s a b =>
      obtain ⟨hs, ha, hb⟩ := ht
      have hH := spec_l2Halves A m c s a b (w.alloc (.cells #[] 22)) (by simp only [Tr.size] at hlen hM; omega) (h.alloc_ _) ha hb
      have sz : Since w (w.alloc (.cells #[] 22)) := (Since.refl w).alloc _
      have hv0 : (Tr.bin s a b).steps.getD (m - 1) 0 = s := by
        simp only [Tr.size] at hlen
        simp only [Tr.steps]
        rw [show m - 1 = a.size + b.size by omega]
        simp [List.getD_eq_getElem?_getD, ← Tr.length_steps]
      have hpos := (Tr.bin s a b).size_pos
      obtain ⟨bk, off, v, rfl, hbk, hc, hv⟩ := h.at_ (k := m - 1) (by omega)
      obtain rfl : s = v := by rw [← hv.out]; exact hv0.symm
      simp only [Tr.size] at hlen hM
      have hmb : m ≤ 1001 := by omega
      have iha := Lib.hid (fun A m c w => ih a A m c w (show a.size ≤ M by omega) (by omega) ha)
      have ihb := Lib.hid (fun A m c w => ih b A m c w (show b.size ≤ M by omega) (by omega) hb)
      have ex : (m : Int) - 1 = ((m - 1 : Nat) : Int) := by omega
      generalize hmm : m - 1 = j at *
      have hjm : j + 1 = m := by omega
      subst hjm
      replace hH := Lib.hid hH
      clear hv hv0 h ih hlen hmm
      rcases hs with rfl | rfl
      · have hfin : Hid (listL most (.bin 19 a b) = fuseL (listL most a) (listL most b) most) := by simp [Hid, listL]
        have ba := short_bound hm (srt_listL most a) (list_short hm ha)
        have bb := short_bound hm (srt_listL most b) (list_short hm hb)
        go_enter Try.func69, Try.ntmps69
        go_wp2_with fail
        refine hH.out.mono ?_
        rintro e w1 ⟨A1, n1, c1, A2, n2, c2, rfl, l1, l2, -, s1⟩
        replace l1 := l1.more s1.size
        replace l2 := l2.more s1.size
        clear hH
        go_wp2_with fail
        refine (iha.out A1 n1 c1 w1 l1).mono ?_
        rintro e w2 ⟨A3, n3, c3, rfl, l3, s2⟩
        replace l2 := l2.since s2
        go_wp2_with fail
        refine (ihb.out A2 n2 c2 w2 l2).mono ?_
        rintro e w3 ⟨A4, n4, c4, rfl, l4, s3⟩
        replace l3 := l3.since s3
        have b3 := l3.len
        have b4 := l4.len
        have hfu := Lib.hid (spec_l3Fuse A3 n3 c3 _ A4 n4 c4 _ most w3 (by omega) (by omega) (by omega) ba.2 bb.2 l3 l4)
        clear ba bb b3 b4
        go_wp2_with fail
        refine hfu.out.mono ?_
        rintro e w4 ⟨A5, n5, c5, rfl, l5, s4⟩
        go_wp2_with fail
        go_ret
        exact ⟨_, _, _, rfl, by rw [hfin.out]; exact l5, (((sz.trans s1.since).trans s2).trans s3).trans s4⟩
      · have hfin : Hid (listL most (.bin 20 a b) = addsL (listL most a) (listL most b)) := by simp [Hid, listL]
        have bnd := Lib.hid (fun j => adds_bound hm (srt_listL most a) (list_short hm ha) (list_short hm hb) j)
        have bb := short_bound hm (srt_listL most b) (list_short hm hb)
        go_enter Try.func69, Try.ntmps69
        go_wp2_with fail
        refine hH.out.mono ?_
        rintro e w1 ⟨A1, n1, c1, A2, n2, c2, rfl, l1, l2, -, s1⟩
        replace l1 := l1.more s1.size
        replace l2 := l2.more s1.size
        clear hH
        go_wp2_with fail
        refine (iha.out A1 n1 c1 w1 l1).mono ?_
        rintro e w2 ⟨A3, n3, c3, rfl, l3, s2⟩
        replace l2 := l2.since s2
        go_wp2_with fail
        refine (ihb.out A2 n2 c2 w2 l2).mono ?_
        rintro e w3 ⟨A4, n4, c4, rfl, l4, s3⟩
        replace l3 := l3.since s3
        have b4 := l4.len
        have hn4 : n4 ≤ 628 := by omega
        have hsx := Lib.hid bb.2
        have s123 := ((sz.trans s1.since).trans s2).trans s3
        generalize hla : listL most a = la at *
        generalize hlb : listL most b = lb at *
        clear bb hla hlb iha ihb l1 l2
        go_wp2_with fail
        go_loopw [7, 13] (fun out i wr => ∃ (k : Nat) (A5 : Option Addr) (n5 c5 : Nat), k ≤ n4 ∧ i = .int .i64 k ∧ out = .slice A5 n5 c5 ∧ LR wr wr.heap.size A5 n5 c5 (addsL la (lb.take k)) ∧ Since w3 wr) (fun _ i _ => n4 - (intOf i).toNat)
        case atStart => exact ⟨0, _, _, _, Nat.zero_le _, rfl, rfl, l3, Since.refl _⟩
        case round =>
          clear l3
          obtain ⟨k, A5, n5, c5, hk, rfl, rfl, l5, s5⟩ := hrel
          have h5 := bnd.out k
          have hn5 : n5 ≤ 628 := by rw [← l5.len]; exact h5.1
          replace h5 := Lib.hid h5.2
          by_cases hlt : k < n4
          · have hZ : (k : Int) < n4 := by omega
            obtain ⟨b', off', Ay, ny, cy, rfl, hcy, ly⟩ := (l4.since s5).at_ hlt
            have hst := Lib.hid (adds_step (l := la) (m := lb) (j := k) (by omega))
            have had := Lib.hid (spec_l3Add A5 n5 c5 _ Ay ny cy _ wr (by omega) h5.out l5 ly)
            clear ly b4
            go_wp2_with fail
            refine had.out.mono ?_
            rintro e w4 ⟨A6, n6, c6, rfl, l6, s6⟩
            go_wp2_with fail
            go_roundw
            case rel => exact ⟨k + 1, _, _, _, by omega, by go_num, rfl, by rw [hst.out]; exact l6, s5.trans s6⟩
            case measure => simp [intOf]; omega
          · obtain rfl : n4 = k := by omega
            have hst : Hid (addsL la (lb.take n4) = addsL la lb) := by rw [← b4]; exact adds_all _ _
            clear b4
            go_wp2_with fail
            go_ret
            exact ⟨_, _, _, rfl, by rw [hfin.out, ← hst.out]; exact l5, s123.trans s5⟩
end Go.Proofs.Ytlnkkjmejmhaiaa
