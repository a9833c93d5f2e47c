/-
  Contract of the specification's l3In and TraceIn (chapter 3).
-/
import Derived.Test.YtlnkkjmejmhaiaaBack
import Derived.Test.YtlnkkjmejmhaiaaTrace
import Derived.Test.YtlnkkjmejmhaiaaPlainR
import Derived.Deep.RegionLaw
import Derived.IntWalk
namespace Go.Proofs.Ytlnkkjmejmhaiaa
open Go.RowKit
set_option linter.unusedVariables false
set_option maxHeartbeats 400000

/-- A trace of n actions, by its atoms' bounds. -/
structure TrN (tr : List Int) (n : Nat) : Prop where
  len : tr.length = 2 * n + 1
  atom : ∀ i, i ≤ n → 0 ≤ atomAt tr i ∧ atomAt tr i ≤ 3
theorem TrN.take {tr : List Int} {n i : Nat} (h : TrN tr n) (hi : i ≤ n) : TrN (tr.take (2 * i + 1)) i :=
  ⟨by rw [List.length_take, h.len]; omega, fun j hj => by
    have := h.atom j (by omega)
    have e : atomAt (tr.take (2 * i + 1)) j = atomAt tr j := by
      simp only [atomAt, List.getD_eq_getElem?_getD, List.getElem?_take]
      rw [if_pos (by omega)]
    rw [e]; exact this⟩
theorem TrN.drop {tr : List Int} {n i : Nat} (h : TrN tr n) (hi : i ≤ n) : TrN (tr.drop (2 * i)) (n - i) :=
  ⟨by rw [List.length_drop, h.len]; omega, fun j hj => by
    have := h.atom (i + j) (by omega)
    have e : atomAt (tr.drop (2 * i)) j = atomAt tr (i + j) := by
      simp only [atomAt, List.getD_eq_getElem?_getD, List.getElem?_drop]
      rw [show 2 * i + 2 * j = 2 * (i + j) by omega]
    rw [e]; exact this⟩
/-- none of the first k cuts serves -/
def noCut (P : Nat → Bool) (k : Nat) : Prop := ∀ i, i < k → P i = false
theorem any_of {P : Nat → Bool} {m k : Nat} (hk : k < m) (h : P k = true) : (List.range m).any P = true := by
  simp only [List.any_eq_true, List.mem_range]; exact ⟨k, hk, h⟩
theorem any_no {P : Nat → Bool} {m : Nat} (h : noCut P m) : (List.range m).any P = false := by
  rw [List.any_eq_false]
  intro i hi
  simp at hi
  simp [h i hi]
theorem spec_l3In : ∀ (M : Nat) (t : Tr) (n : Nat) (tr : List Int) (A : Option Addr) (m c : Nat) (A' : Option Addr) (m' c' : Nat) (w : World),
    t.size + n ≤ M → M ≤ 1000 → t.ok → TrN tr n → Ls w w.heap.size A m c t.steps → Ls w w.heap.size A' m' c' tr →
    Calls Try.prog 64 #[.slice A m c, .slice A' m' c'] w fun e w' => e = .returned (.bool (inB tr t 0 n)) ∧ Qt w w' := by
  intro M
  induction M with
  | zero => intro t n tr A m c A' m' c' w h; have := t.size_pos; omega
  | succ M ih =>
    intro t n tr A m c A' m' c' w hM hM2 ht hN h h'
    have hlen := h.len
    rw [Tr.length_steps] at hlen
    have hlen' : m' = 2 * n + 1 := by rw [← h'.len, hN.len]
    cases t with
    | leaf s =>
      obtain ⟨h0, h18⟩ := ht
      simp only [Tr.size] at hlen
      obtain rfl : 1 = m := hlen
      obtain ⟨b, off, v, rfl, hb, hc, hv⟩ := h.at_ (k := 0) (by omega)
      obtain rfl : s = v := hv.out
      simp only [Nat.add_zero] at hc
      by_cases h15 : s ≤ 15
      · have hat := hN.atom 0 (by omega)
        by_cases hn : n = 0
        · subst hn
          obtain rfl : m' = 1 := by omega
          obtain ⟨b', off', v', rfl, hb', hc', hv'⟩ := h'.at_ (k := 0) (by omega)
          have hv2 : atomAt tr 0 = v' := hv'.out
          rw [hv2] at hat
          have hfin : Hid (inB tr (.leaf s) 0 0 = (bitI s v' == 1)) := by simp [Hid, inB, h15, hv2]
          simp only [Nat.add_zero] at hc'
          clear hv hv' hv2 h h' hN hM ih hlen'
          go_enter Try.func64, Try.ntmps64
          go_wp2_with (go_at_call 80; refine (spec_l1Bit s v' h0 h15 hat.1 (by omega) _).mono ?_; rintro e w' ⟨rfl, rfl⟩)
          go_ret
          exact ⟨ret_bool hfin.out.symm, Qt.refl w⟩
        · have hfin : Hid (inB tr (.leaf s) 0 n = false) := by
            have : ¬ 0 = n := fun e => hn e.symm
            simp [Hid, inB, h15]; omega
          have hm1 : (m' : Int) ≠ 1 := by omega
          have hm2 : ((m' : Int) == 1) = false := by simpa using hm1
          clear hv h h' hN hM ih hlen' hat
          go_enter Try.func64, Try.ntmps64
          go_wp2
          go_ret
          exact ⟨ret_bool hfin.out.symm, Qt.refl w⟩
      · by_cases hn : n = 1
        · subst hn
          obtain rfl : m' = 3 := by omega
          obtain ⟨b', off', v', rfl, hb', hc', hv'⟩ := h'.at_ (k := 1) (by omega)
          have hv2 : actAt tr 0 = v' := hv'.out
          have hfin : Hid (inB tr (.leaf s) 0 1 = (v' == s)) := by simp [Hid, inB, h15, hv2]
          clear hv hv' hv2 h h' hN hM ih hlen'
          go_enter Try.func64, Try.ntmps64
          go_wp2
          go_ret
          exact ⟨ret_bool hfin.out.symm, Qt.refl w⟩
        · have hfin : Hid (inB tr (.leaf s) 0 n = false) := by
            simp [Hid, inB, h15, hn]
          have hm2 : ((m' : Int) == 3) = false := by simp; omega
          clear hv h h' hN hM ih hlen'
          go_enter Try.func64, Try.ntmps64
          go_wp2
          go_ret
          exact ⟨ret_bool hfin.out.symm, Qt.refl w⟩
    | star a =>
      have ha : a.ok := ht
      have hv0 : (Tr.star a).steps.getD (m - 1) 0 = 21 := by
        simp only [Tr.size] at hlen
        simp only [Tr.steps]
        rw [show m - 1 = a.size by omega]
        simp [List.getD_eq_getElem?_getD, ← Tr.length_steps]
      have hpos := (Tr.star a).size_pos
      obtain ⟨bk, off, v, rfl, hbk, hc, hv⟩ := h.at_ (k := m - 1) (by omega)
      obtain rfl : 21 = v := by rw [← hv.out]; exact hv0.symm
      simp only [Tr.size] at hlen hM
      have hmb : m ≤ 1001 := by omega
      have hnb : n ≤ 1000 := by omega
      have hcapm := h.cap
      have hcap' := h'.cap
      obtain ⟨bt, ot, rfl, -⟩ := h'.cells (by omega)
      have hfin : Hid (inB tr (.star a) 0 n = (0 == n || (List.range n).any fun i => inB tr a 0 (1 + i) && inB tr (.star a) (1 + i) n)) := by
        have := star_unfold tr a 0 n
        simpa [Hid] using this
      have ha1 : Ls w w.heap.size (some ⟨bk, off, none⟩) (m - 1) c a.steps := by
        have := h.take (k := m - 1) (by omega)
        simp only [Tr.steps] at this
        rw [List.take_append_of_le_length (by rw [Tr.length_steps]; omega), List.take_of_length_le (by rw [Tr.length_steps]; omega)] at this
        exact this
      have ia : Hid (∀ i A m c w, i ≤ n → Ls w w.heap.size A m c a.steps → Ls w w.heap.size (some ⟨bt, ot, none⟩) (2 * i + 1) c' (tr.take (2 * i + 1)) → Calls Try.prog 64 #[.slice A m c, .slice (some ⟨bt, ot, none⟩) (2 * i + 1) c'] w fun e w' => e = .returned (.bool (inB tr a 0 i)) ∧ Qt w w') := by
        intro i A m c w hi l l'
        have := ih a i (tr.take (2 * i + 1)) A m c _ _ c' w (show a.size + i ≤ M by omega) (by omega) ha (hN.take hi) l l'
        rw [inB_take a (Nat.zero_le _) (Nat.le_refl i)] at this
        exact this
      have ib : Hid (∀ i A m c A' m' c' w, 0 < i → i ≤ n → Ls w w.heap.size A m c (Tr.star a).steps → Ls w w.heap.size A' m' c' (tr.drop (2 * i)) → Calls Try.prog 64 #[.slice A m c, .slice A' m' c'] w fun e w' => e = .returned (.bool (inB tr (.star a) i n)) ∧ Qt w w') := by
        intro i A m c A' m' c' w h0 hi l l'
        have := ih (.star a) (n - i) (tr.drop (2 * i)) A m c A' m' c' w (show (Tr.star a).size + (n - i) ≤ M by simp only [Tr.size]; omega) (by omega) ht (hN.drop hi) l l'
        rw [inB_drop (.star a) (Nat.zero_le _), Nat.add_zero, show i + (n - i) = n by omega] at this
        exact this
      have ex : (m : Int) - 1 = ((m - 1 : Nat) : Int) := by omega
      generalize hm : m - 1 = j at *
      have hjm : j + 1 = m := by omega
      subst hjm
      subst hlen'
      clear hv hv0 hN hM ih hlen hm
      by_cases hn : n = 0
      · subst hn
        clear ia ib
        go_enter Try.func64, Try.ntmps64
        go_wp2
        go_ret
        exact ⟨ret_bool (by rw [hfin.out]; rfl), Qt.refl w⟩
      · have hn1 : ((2 * (n : Int) + 1) == 1) = false := by simp; omega
        have hz : (0 == n) = false := by simp; omega
        rw [hz, Bool.false_or] at hfin
        go_enter Try.func64, Try.ntmps64
        go_wp2_with fail
        go_loopw [12] (fun at_ wr => ∃ i q : Nat, Hid (q = 2 * (i + 1)) ∧ i ≤ n ∧ at_ = .int .i64 q ∧ Hid (noCut (fun i => inB tr a 0 (1 + i) && inB tr (.star a) (1 + i) n) i) ∧ Qt w wr) (fun at_ _ => 2 * n + 4 - (intOf at_).toNat)
        case atStart => exact ⟨0, 2, rfl, by omega, rfl, fun i hi => absurd hi (by omega), Qt.refl _⟩
        case round =>
          obtain ⟨i, q, hq, hi, rfl, hno, s2⟩ := hrel
          have hq' := hq.out
          by_cases hlt : i < n
          · have hqc : c' ≠ q := by omega
            have sq : ∀ k, Qt w (wr.drewN k) := fun k => s2.trans ⟨k, rfl⟩
            have e1 : 2 * (1 + i) + 1 = q + 1 := by omega
            have e2 : tr.drop (2 * (1 + i)) = tr.drop q := by congr 1; omega
            have ICQ : Hid (∀ k, Calls Try.prog 64 #[.slice (some ⟨bk, off, none⟩) j c, .slice (some ⟨bt, ot, none⟩) (q + 1) c'] (wr.drewN k) fun e w'' => e = .returned (.bool (inB tr a 0 (1 + i))) ∧ ∃ m, w'' = wr.drewN m) := by
              intro k
              have := ia.out (1 + i) _ j c (wr.drewN k) (by omega) (ha1.sinceQ (sq k)) ((h'.sinceQ (sq k)).take (k := 2 * (1 + i) + 1) (by omega))
              rw [e1] at this
              exact this.mono fun _ _ ⟨h1, h2⟩ => ⟨h1, Qt.trans ⟨k, rfl⟩ h2⟩
            have JCQ : Hid (∀ k, Calls Try.prog 64 #[.slice (some ⟨bk, off, none⟩) (j + 1) c, .slice (some ⟨bt, ot + q, none⟩) (2 * n + 1 - q) (c' - q)] (wr.drewN k) fun e w'' => e = .returned (.bool (inB tr (.star a) (1 + i) n)) ∧ ∃ m, w'' = wr.drewN m) := by
              intro k
              have l2 := (h'.sinceQ (sq k)).drop (k := q) (by omega)
              rw [if_neg hqc, ← e2] at l2
              have := ib.out (1 + i) _ _ _ (some ⟨bt, ot + q, none⟩) (2 * n + 1 - q) (c' - q) (wr.drewN k) (by omega) (by omega) (h.sinceQ (sq k)) (by simpa [add_at] using l2)
              exact this.mono fun _ _ ⟨h1, h2⟩ => ⟨h1, Qt.trans ⟨k, rfl⟩ h2⟩
            have hqz : (q : Int) + 1 ≤ c' := by omega
            have hqz2 : (q : Int) ≤ 2 * (n : Int) + 1 := by omega
            have hqz3 : (q : Int) < 2 * (n : Int) + 1 := by omega
            have hjc : (j : Int) ≤ c := by omega
            have hcz : 2 * (n : Int) + 1 ≤ c' := by omega
            have hqn : (0 : Int) ≤ (q : Int) := by omega
            have hqb : q ≤ 2 * n := by omega
            have hq3 : Hid (q + 2 = 2 * (i + 1 + 1)) := by show q + 2 = 2 * (i + 1 + 1); omega
            have hi1 : Hid (i + 1 ≤ n) := hlt
            have hwk : IntKind.i64.wrap ((q : Int) + 1) = (q : Int) + 1 := IntWalk.i64_in _ (by omega)
            have hk0 : (0 : Int) ≤ (q : Int) + 1 := by omega
            have hkt : ((q : Int) + 1).toNat = q + 1 := by omega
            cases hA : inB tr a 0 (1 + i)
            · have hno' : Hid (noCut (fun i => inB tr a 0 (1 + i) && inB tr (.star a) (1 + i) n) (i + 1)) := by
                intro j hj
                by_cases e : j = i
                · subst e; simp [hA]
                · exact hno.out j (by omega)
              rw [hA] at ICQ
              clear e1 e2 hA hq'
              go_wp2_with fail
              go_quiet ((go_at_call_of 64 (Value.slice (some ⟨bk, off, none⟩) j c); exact ICQ.out _))
              clear hwk hk0 hkt
              go_wp2_with fail
              go_roundw
              case rel => exact ⟨i + 1, q + 2, hq3, hi1.out, by go_num, hno', sq _⟩
              case measure => simp [intOf]; omega
            · rw [hA] at ICQ
              cases hB : inB tr (.star a) (1 + i) n
              · have hno' : Hid (noCut (fun i => inB tr a 0 (1 + i) && inB tr (.star a) (1 + i) n) (i + 1)) := by
                  intro j hj
                  by_cases e : j = i
                  · subst e; simp [hB]
                  · exact hno.out j (by omega)
                rw [hB] at JCQ
                clear e1 e2 hA hB hq'
                go_wp2_with fail
                go_quiet ((first | (go_at_call_of 64 (Value.slice (some ⟨bk, off, none⟩) j c); exact ICQ.out _) | (go_at_call 64; exact JCQ.out _)))
                clear hwk hk0 hkt
                go_wp2_with fail
                go_roundw
                case rel => exact ⟨i + 1, q + 2, hq3, hi1.out, by go_num, hno', sq _⟩
                case measure => simp [intOf]; omega
              · have hyes := Lib.hid (any_of (P := fun i => inB tr a 0 (1 + i) && inB tr (.star a) (1 + i) n) hlt (by simp [hA, hB]))
                rw [hB] at JCQ
                clear e1 e2 hA hB hq'
                go_wp2_with fail
                go_quiet ((first | (go_at_call_of 64 (Value.slice (some ⟨bk, off, none⟩) j c); exact ICQ.out _) | (go_at_call 64; exact JCQ.out _)))
                clear hwk hk0 hkt
                go_wp2_with fail
                go_ret
                exact ⟨ret_bool (by rw [hfin.out]; exact hyes.out.symm), sq _⟩
          · obtain rfl : i = n := by omega
            have hf := Lib.hid (any_no hno.out)
            have hqz : ¬ ((q : Int) < 2 * (i : Int) + 1) := by omega
            clear hq'
            go_wp2
            go_ret
            exact ⟨ret_bool (by rw [hfin.out]; exact hf.out.symm), s2⟩
    | bin s a b =>
      obtain ⟨hs, ha, hb⟩ := ht
      have hH := spec_l2Halves A m c s a b w (by simp only [Tr.size] at hlen hM; omega) h ha hb
      have hv0 : (Tr.bin s a b).steps.getD (m - 1) 0 = s := by
        simp only [Tr.size] at hlen
        simp only [Tr.steps]
        rw [show m - 1 = a.size + b.size by omega]
        simp [List.getD_eq_getElem?_getD, ← Tr.length_steps]
      have hpos := (Tr.bin s a b).size_pos
      obtain ⟨bk, off, v, rfl, hbk, hc, hv⟩ := h.at_ (k := m - 1) (by omega)
      obtain rfl : s = v := by rw [← hv.out]; exact hv0.symm
      simp only [Tr.size] at hlen hM
      have iha := fun n' tr' A m c A' m' c' w hn' => ih a n' tr' A m c A' m' c' w (show a.size + n' ≤ M by omega) (by omega) ha
      have ihb := fun n' tr' A m c A' m' c' w hn' => ih b n' tr' A m c A' m' c' w (show b.size + n' ≤ M by omega) (by omega) hb
      have hmb : m ≤ 1001 := by omega
      have ex : (m : Int) - 1 = ((m - 1 : Nat) : Int) := by omega
      rcases hs with rfl | rfl
      · have hfin : Hid (inB tr (.bin 19 a b) 0 n = (List.range (n + 1)).any fun i => inB tr a 0 i && inB tr b i n) := by
          have := then_unfold tr a b 0 n
          simpa [Hid] using this
        have ia : Hid (∀ i A m c w, i ≤ n → Ls w w.heap.size A m c a.steps → Ls w w.heap.size A' (2 * i + 1) c' (tr.take (2 * i + 1)) → Calls Try.prog 64 #[.slice A m c, .slice A' (2 * i + 1) c'] w fun e w' => e = .returned (.bool (inB tr a 0 i)) ∧ Qt w w') := by
          intro i A m c w hi l l'
          have := ih a i (tr.take (2 * i + 1)) A m c A' _ c' w (show a.size + i ≤ M by omega) (by omega) ha (hN.take hi) l l'
          rw [inB_take a (Nat.zero_le _) (Nat.le_refl i)] at this
          exact this
        have ib : Hid (∀ i A m c A' m' c' w, i ≤ n → Ls w w.heap.size A m c b.steps → Ls w w.heap.size A' m' c' (tr.drop (2 * i)) → Calls Try.prog 64 #[.slice A m c, .slice A' m' c'] w fun e w' => e = .returned (.bool (inB tr b i n)) ∧ Qt w w') := by
          intro i A m c A' m' c' w hi l l'
          have := ih b (n - i) (tr.drop (2 * i)) A m c A' m' c' w (show b.size + (n - i) ≤ M by omega) (by omega) hb (hN.drop hi) l l'
          rw [inB_drop b (Nat.zero_le _), Nat.add_zero, show i + (n - i) = n by omega] at this
          exact this
        have hnb : n ≤ 1000 := by omega
        generalize hm : m - 1 = j at *
        have hjm : j + 1 = m := by omega
        subst hjm
        have hcap' := h'.cap
        obtain ⟨bt, ot, rfl, -⟩ := h'.cells (by omega)
        subst hlen'
        clear hv hv0 h hN hM ih iha ihb hlen hm
        go_enter Try.func64, Try.ntmps64
        go_wp2_with fail
        refine hH.mono ?_
        rintro e w1 ⟨A1, n1, c1, A2, n2, c2, rfl, l1, l2, -, s1⟩
        replace l1 := l1.more s1.size
        replace l2 := l2.more s1.size
        clear hH
        go_wp2_with fail
        go_loopw [11] (fun at_ wr => ∃ i q : Nat, q = 2 * i ∧ i ≤ n + 1 ∧ at_ = .int .i64 q ∧ Hid (noCut (fun i => inB tr a 0 i && inB tr b i n) i) ∧ Qt w1 wr) (fun at_ _ => 2 * n + 2 - (intOf at_).toNat)
        case atStart => exact ⟨0, 0, rfl, by omega, rfl, fun i hi => absurd hi (by omega), Qt.refl _⟩
        case round =>
          obtain ⟨i, q, hq, hi, rfl, hno, s2⟩ := hrel
          have s12 := s1.trans s2
          by_cases hlt : i < n + 1
          · have hqc : c' ≠ q := by omega
            have l'1 := (h'.sinceQ s12).take (k := 2 * i + 1) (by omega)
            have l'2 : ∀ w', Qt wr w' → Ls w' w'.heap.size (some ⟨bt, ot + q, none⟩) (2 * n + 1 - q) (c' - q) (tr.drop (2 * i)) := by
              intro w' s
              have := ((h'.sinceQ s12).sinceQ s).drop (k := q) (by omega)
              rw [if_neg hqc, hq] at this
              rw [hq]
              simpa [add_at] using this
            replace l'2 := Lib.hid l'2
            have e1 : 2 * i + 1 = q + 1 := by omega
            have hqz : (q : Int) + 1 ≤ c' := by omega
            have hqz2 : (q : Int) ≤ 2 * (n : Int) + 1 := by omega
            have hqb : q ≤ 2 * n := by omega
            have ic := Lib.hid (ia.out i A1 n1 c1 wr (by omega) (l1.sinceQ s2) l'1)
            rw [e1] at ic
            cases hA : inB tr a 0 i
            · have hno' : Hid (noCut (fun i => inB tr a 0 i && inB tr b i n) (i + 1)) := by
                intro j hj
                by_cases e : j = i
                · subst e; simp [hA]
                · exact hno.out j (by omega)
              rw [hA] at ic
              clear e1 hA l'1
              replace hq := Lib.hid hq
              go_wp2_with fail
              refine ic.out.mono ?_
              rintro e w3 ⟨rfl, s3⟩
              go_wp2
              go_roundw
              case rel => exact ⟨i + 1, q + 2, by have := hq.out; omega, by omega, by go_num, hno', s2.trans s3⟩
              case measure => simp [intOf]; omega
            · have jc := fun w' s => ib.out i A2 n2 c2 (some ⟨bt, ot + q, none⟩) (2 * n + 1 - q) (c' - q) w' (by omega) ((l2.sinceQ s2).sinceQ s) (l'2.out w' s)
              replace jc := Lib.hid jc
              rw [hA] at ic
              replace hq := Lib.hid hq
              cases hB : inB tr b i n
              · have hno' : Hid (noCut (fun i => inB tr a 0 i && inB tr b i n) (i + 1)) := by
                  intro j hj
                  by_cases e : j = i
                  · subst e; simp [hB]
                  · exact hno.out j (by omega)
                rw [hB] at jc
                clear e1 hA l'1 hB
                go_wp2_with fail
                refine ic.out.mono ?_
                rintro e w3 ⟨rfl, s3⟩
                go_wp2_with fail
                refine (jc.out w3 s3).mono ?_
                rintro e w4 ⟨rfl, s4⟩
                go_wp2
                go_roundw
                case rel => exact ⟨i + 1, q + 2, by have := hq.out; omega, by omega, by go_num, hno', (s2.trans s3).trans s4⟩
                case measure => simp [intOf]; omega
              · have hyes := Lib.hid (any_of (P := fun i => inB tr a 0 i && inB tr b i n) hlt (by simp [hA, hB]))
                rw [hB] at jc
                clear e1 hA l'1 hB
                go_wp2_with fail
                refine ic.out.mono ?_
                rintro e w3 ⟨rfl, s3⟩
                go_wp2_with fail
                refine (jc.out w3 s3).mono ?_
                rintro e w4 ⟨rfl, s4⟩
                go_wp2
                go_ret
                exact ⟨ret_bool (by rw [hfin.out]; exact hyes.out.symm), (s12.trans s3).trans s4⟩
          · obtain rfl : i = n + 1 := by omega
            have hf := Lib.hid (any_no hno.out)
            go_wp2
            go_ret
            exact ⟨ret_bool (by rw [hfin.out]; exact hf.out.symm), s12⟩
      · have hfin : Hid (inB tr (.bin 20 a b) 0 n = (inB tr a 0 n || inB tr b 0 n)) := plus_unfold tr a b 0 n
        have ia := fun A m c w l l' => ih a n tr A m c A' m' c' w (show a.size + n ≤ M by omega) (by omega) ha hN l l'
        have ib := fun A m c w l l' => ih b n tr A m c A' m' c' w (show b.size + n ≤ M by omega) (by omega) hb hN l l'
        generalize hm : m - 1 = j at *
        have hjm : j + 1 = m := by omega
        subst hjm
        clear hv hv0 h hN hM ih iha ihb hlen'  hlen hm
        go_enter Try.func64, Try.ntmps64
        go_wp2_with fail
        refine hH.mono ?_
        rintro e w1 ⟨A1, n1, c1, A2, n2, c2, rfl, l1, l2, -, s1⟩
        clear hH
        go_wp2_with fail
        refine (ia A1 n1 c1 w1 (l1.more s1.size) (h'.sinceQ s1)).mono ?_
        rintro e w2 ⟨rfl, s2⟩
        have s12 := s1.trans s2
        cases hq : inB tr a 0 n
        · have hq := Lib.hid hq
          go_wp2_with fail
          refine (ib A2 n2 c2 w2 ((l2.more s1.size).sinceQ s2) (h'.sinceQ s12)).mono ?_
          rintro e w3 ⟨rfl, s3⟩
          go_wp2
          go_ret
          exact ⟨ret_bool (by rw [hfin.out, hq.out]; rfl), s12.trans s3⟩
        · have hq := Lib.hid hq
          go_wp2
          go_ret
          exact ⟨ret_bool (by rw [hfin.out, hq.out]; rfl), s12⟩
end Go.Proofs.Ytlnkkjmejmhaiaa
