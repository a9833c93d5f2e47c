/-
  Contracts of the specification's KatBack (chapter 2).
-/
import Derived.Test.YtlnkkjmejmhaiaaKatJ
namespace Go.Proofs.Ytlnkkjmejmhaiaa
open Go.RowKit
set_option linter.unusedVariables false
set_option maxHeartbeats 400000

theorem rowOf_len {st : List Tr} : st.length ≤ (rowOf st).length := by
  induction st with
  | nil => simp
  | cons t r ih =>
    have := t.size_pos
    rw [rowOf_cons, List.length_append, List.length_cons, Tr.length_steps]; omega
/-- A step backwards over a row of trees. -/
theorem span_step {xs p : List Int} {k : Nat} {t : Tr} {st : List Tr} (hk : k ≤ xs.length) (hx : xs.take k = p ++ rowOf (t :: st)) (hok : ∀ u ∈ t :: st, u.ok) :
    0 < k ∧ p.length < k ∧ ∃ st', xs.take (k - 1) = p ++ rowOf st' ∧ st'.length = st.length + tk (xs.getD (k - 1) 0) ∧ ∀ u ∈ st', u.ok := by
  have hl := congrArg List.length hx
  rw [List.length_take, Nat.min_eq_left hk, List.length_append, rowOf_cons, List.length_append, Tr.length_steps] at hl
  have hpos := t.size_pos
  have hlt : k - 1 < xs.length := by omega
  have hta := take_at hlt
  rw [show k - 1 + 1 = k by omega, hx] at hta
  refine ⟨by omega, by omega, ?_⟩
  have fin : ∀ (st' : List Tr) (s : Int), rowOf (t :: st) = rowOf st' ++ [s] → st'.length = st.length + tk s → (∀ u ∈ st', u.ok) → ∃ st', xs.take (k - 1) = p ++ rowOf st' ∧ st'.length = st.length + tk (xs.getD (k - 1) 0) ∧ ∀ u ∈ st', u.ok := by
    intro st' s h1 h2 h3
    rw [h1, ← List.append_assoc] at hta
    have := List.append_inj' hta rfl
    refine ⟨st', this.1.symm, ?_, h3⟩
    have h4 : s = xs.getD (k - 1) 0 := by injection this.2
    rw [← h4]; exact h2
  have hr : ∀ u ∈ st, u.ok := fun u hu => hok u (by simp [hu])
  cases t with
  | leaf s =>
    obtain ⟨h0, h1⟩ : 0 ≤ s ∧ s ≤ 18 := hok (.leaf s) (by simp)
    refine fin st s (by simp [rowOf_cons, Tr.steps]) ?_ hr
    unfold tk; rw [if_neg (by omega), if_neg (by omega)]; rfl
  | star a =>
    have h0 : a.ok := hok (.star a) (by simp)
    refine fin (a :: st) 21 (by simp [rowOf_cons, Tr.steps]) (by simp [tk]) ?_
    intro u hu
    rcases List.mem_cons.1 hu with rfl | hu
    · exact h0
    · exact hr u hu
  | bin s a b =>
    obtain ⟨hs, h1, h2⟩ : (s = 19 ∨ s = 20) ∧ a.ok ∧ b.ok := hok (.bin s a b) (by simp)
    refine fin (b :: a :: st) s (by simp [rowOf_cons, Tr.steps]) (by simp [tk, hs]) ?_
    intro u hu
    rcases List.mem_cons.1 hu with rfl | hu
    · exact h2
    · rcases List.mem_cons.1 hu with rfl | hu
      · exact h1
      · exact hr u hu

theorem spec_l2Span (A : Option Addr) (n c B : Nat) (xs p : List Int) (t : Tr) (m : Nat) (L : Int) (w : World) (hn : n ≤ 1099511627776) (h : Ls w B A n c xs) (hm : m ≤ n) (hL : L = (m : Int) - 1) (hx : xs.take m = p ++ t.steps) (ht : t.ok) :
    Calls Try.prog 88 #[.slice A n c, .int .i64 L] w fun e w' => e = .returned (.int .i64 p.length) ∧ w = w' := by
  subst hL
  have hlen := h.len
  go_enter Try.func88, Try.ntmps88
  go_wp2_with fail
  go_loop [5, 6] (fun need at_ => ∃ (k d : Nat) (st : List Tr), k ≤ n ∧ at_ = .int .i64 k ∧ need = .int .i64 d ∧ d ≤ k ∧ Hid (st.length = d) ∧ Hid (xs.take k = p ++ rowOf st) ∧ Hid (∀ u ∈ st, u.ok)) (fun _ at_ => (intOf at_).toNat)
  case atStart =>
    have := t.size_pos
    have hl := congrArg List.length hx
    rw [List.length_take, List.length_append, Tr.length_steps] at hl
    exact ⟨m, 1, [t], hm, by simp, rfl, by omega, rfl, by simpa [Hid, rowOf] using hx, by simpa [Hid] using ht⟩
  case round =>
    obtain ⟨k, d, st, hk, rfl, rfl, hdk, hd, hxk, hok⟩ := hrel
    match st, hd, hxk, hok with
    | [], hd, hxk, hok =>
      obtain rfl : 0 = d := hd.out
      have hpk : Hid ((p.length : Int) = k) := by
        have := congrArg List.length hxk.out
        rw [List.length_take] at this
        simp [rowOf] at this
        show (p.length : Int) = k
        omega
      clear hlen h
      go_wp2
      go_ret
      exact ⟨ret_int hpk.out.symm, rfl⟩
    | u :: st, hd, hxk, hok =>
      obtain rfl : st.length + 1 = d := by simpa using hd.out
      obtain ⟨h0, h1, st', h2, h3, h4⟩ := span_step (by omega) hxk.out hok.out
      obtain ⟨b, off, v, rfl, hb, hc, hv⟩ := h.at_ (k := k - 1) (by omega)
      rw [hv.out] at h3
      have htk := tk_le v
      have hst' : st'.length ≤ k - 1 := by
        have := rowOf_len (st := st')
        have hl := congrArg List.length h2
        rw [List.length_take, List.length_append] at hl
        omega
      have h2 := Lib.hid h2
      have h3 := Lib.hid h3
      have h4 := Lib.hid h4
      obtain ⟨j, rfl⟩ : ∃ j, k = j + 1 := ⟨k - 1, by omega⟩
      simp only [Nat.add_sub_cancel] at *
      have hst : st.length ≤ j := by omega
      generalize st.length = q at *
      have e1 : ((j + 1 : Nat) : Int) - 1 = (j : Int) := by simp
      clear hlen h hd hxk hok
      go_wp2_with (go_at_call 60; refine (spec_l2Takes _ _).mono ?_; rintro e w' ⟨rfl, rfl⟩)
      go_round
      case rel => exact ⟨j, st'.length, st', by omega, by simp, by rw [h3.out]; go_num, hst', rfl, h2, h4⟩
      case measure => simp [intOf]
/-- Nothing but draws. -/
def Qt (w w' : World) : Prop := ∃ m, w' = w.drewN m
theorem Qt.refl (w : World) : Qt w w := ⟨0, rfl⟩
theorem Qt.drew {w w' : World} (h : Qt w w') : Qt w w'.drew := by obtain ⟨m, rfl⟩ := h; exact ⟨m + 1, rfl⟩
theorem Qt.trans {a b c : World} (h : Qt a b) (k : Qt b c) : Qt a c := by
  obtain ⟨m, rfl⟩ := h
  obtain ⟨j, rfl⟩ := k
  exact ⟨m + j, by simp [World.drewN, Nat.add_assoc]⟩
theorem Qt.since {w w' : World} (h : Qt w w') : Since w w' := by obtain ⟨m, rfl⟩ := h; exact (Since.refl _).drewN m
theorem Qt.size {w w' : World} (h : Qt w w') : w.heap.size ≤ w'.heap.size := h.since.size
theorem Ls.sinceQ {w w' : World} {n c : Nat} {A : Option Addr} {xs : List Int} (h : Ls w w.heap.size A n c xs) (s : Qt w w') : Ls w' w'.heap.size A n c xs := h.since s.since
/-- What two halves of an expression leave. -/
def Halves (w : World) (a b : List Int) (e : Ending) (w' : World) : Prop :=
  ∃ A n c A' n' c', e = .returned (.tuple #[.slice A n c, .slice A' n' c']) ∧ Ls w' w.heap.size A n c a ∧ Ls w' w.heap.size A' n' c' b ∧ Since w w' ∧ Qt w w'
theorem spec_l2Halves (A : Option Addr) (n c : Nat) (s : Int) (a b : Tr) (w : World) (hn : n ≤ 1099511627776) (h : Ls w w.heap.size A n c (Tr.bin s a b).steps) (ha : a.ok) (hb : b.ok) :
    Calls Try.prog 75 #[.slice A n c] w (Halves w a.steps b.steps) := by
  have hlen := h.len
  rw [Tr.length_steps] at hlen
  simp only [Tr.size] at hlen
  have e1 : ((Tr.bin s a b).steps.take (n - 1)) = a.steps ++ b.steps := by
    simp only [Tr.steps]
    rw [List.take_append_of_le_length (by rw [List.length_append, Tr.length_steps, Tr.length_steps]; omega), List.take_of_length_le (by rw [List.length_append, Tr.length_steps, Tr.length_steps]; omega)]
  have hsp := fun L hL => spec_l2Span A n c _ _ a.steps b (n - 1) L w (by omega) h (by omega) hL e1 hb
  have h1 : Ls w w.heap.size A a.size c a.steps := by
    have := h.take (k := a.size) (by omega)
    simp only [Tr.steps] at this
    rw [List.append_assoc, List.take_append_of_le_length (by rw [Tr.length_steps]; omega), List.take_of_length_le (by rw [Tr.length_steps]; omega)] at this
    exact this
  have h2 := (h.take (k := n - 1) (by omega)).drop (k := a.size) (by omega)
  rw [e1, List.drop_append_of_le_length (by rw [Tr.length_steps]; omega), List.drop_eq_nil_of_le (by rw [Tr.length_steps]; omega), List.nil_append] at h2
  have hcap := h.cap
  have hpa := a.size_pos
  have hpb := b.size_pos
  rw [Tr.length_steps] at hsp
  have hcne : c ≠ a.size := by omega
  rw [if_neg hcne] at h2
  obtain ⟨g, off, rfl, -⟩ := h.cells (by omega)
  simp only [Option.map, add_at, Nat.mul_one] at h2
  obtain ⟨m, rfl⟩ : ∃ m, n = m + 1 := ⟨n - 1, by omega⟩
  simp only [Nat.add_sub_cancel] at *
  generalize a.steps = ra at *
  generalize b.steps = rb at *
  generalize a.size = p at *
  generalize b.size = q at *
  have hpm : p ≤ m := by omega
  have hpmZ : (p : Int) ≤ (m : Int) := by omega
  clear hlen e1 h
  go_enter Try.func75, Try.ntmps75
  go_wp2_with fail
  refine (hsp _ (by omega)).mono ?_
  rintro e w' ⟨rfl, rfl⟩
  clear hsp
  go_wp2_with fail
  go_region
  all_goals (go_wp2_with fail)
  all_goals go_ret2
  all_goals exact ⟨_, _, _, _, _, _, rfl, h1.keep fun _ _ => rfl, h2.keep fun _ _ => rfl, (Since.refl _).drew, (Qt.refl _).drew⟩
theorem spec_l2Back (t : Tr) : ∀ (A : Option Addr) (n c : Nat) (w : World) (hn : n ≤ 274877906944) (h : Ls w w.heap.size A n c t.steps) (ht : t.ok),
    Calls Try.prog 50 #[.slice A n c] w (Fresh w t.back.steps) := by
  induction t with
  | leaf s =>
    intro A n c w hn h ht
    obtain ⟨h0, h18⟩ := ht
    obtain rfl : n = 1 := by have := h.len; simp [Tr.steps] at this; exact this.symm
    obtain ⟨b, off, v, rfl, hb, hc, hv⟩ := h.at_ (k := 0) (by omega)
    obtain rfl : s = v := hv.out
    have e1 : (s == 21) = false := by simp; omega
    have e2 : (s == 20) = false := by simp; omega
    have e3 : (s == 19) = false := by simp; omega
    simp only [Tr.steps, Nat.add_zero] at *
    go_enter Try.func50, Try.ntmps50
    go_wp2_with (at_builtin
                 refine wpList_app rfl _ _ rfl w.heap.size _ 0 0 [] rfl (Own.zero w) _ _ 1 c [s] rfl (h.alloc (Nat.le_refl _) _) (by omega) (by simp) ?_
                 intro A1 c1 w1 o1 g1
                 have s1 : Since w w1 := ((Since.refl w).alloc _).app (Nat.le_refl _) g1
                 clear g1)
    go_ret
    exact ⟨_, _, _, rfl, o1, s1⟩
  | star a iha =>
    intro A n c w hn h ht
    have hlen := h.len
    rw [Tr.length_steps] at hlen
    simp only [Tr.size] at hlen
    have hp := a.size_pos
    have h1 := h.take (k := a.size) (by omega)
    obtain ⟨b, off, v, rfl, hb, hc, hv⟩ := h.at_ (k := a.size) (by omega)
    obtain rfl : 21 = v := by
      rw [← hv.out]; simp only [Tr.steps]
      simp [List.getD_eq_getElem?_getD, ← Tr.length_steps]
    have et : (Tr.star a).steps.take a.size = a.steps := by
      simp only [Tr.steps]
      rw [List.take_append_of_le_length (by rw [Tr.length_steps]; omega), List.take_of_length_le (by rw [Tr.length_steps]; omega)]
    rw [et] at h1
    have hcap := h.cap
    have hn' : a.size ≤ 274877906944 := by omega
    have iha := iha _ _ _ _ hn' (h1.alloc_ (.cells #[] 3)) ht
    have hbl : a.back.steps.length = a.size := by rw [Tr.length_steps, Tr.back_size]
    obtain rfl : n = a.size + 1 := by omega
    have tok1 : True := trivial
    have tok2 : True := trivial
    generalize a.size = p at *
    simp only [Tr.back, Tr.steps]
    clear hlen et hv h
    go_enter Try.func50, Try.ntmps50
    go_wp2_with fail
    refine iha.mono ?_
    rintro e w1 ⟨A1, n1, c1, rfl, o1, s1⟩
    have hn1 : n1 ≤ 549755813888 := by have := o1.len; omega
    have s1' := ((Since.refl w).alloc _).trans s1
    have oz := (Own.zero w).since s1
    clear iha
    go_wp2_with (first
      | (at_builtin
         have _t := tok1
         refine wpList_app rfl _ _ rfl w.heap.size _ 0 0 [] rfl oz _ A1 n1 c1 _ rfl o1.ls (by omega) s1'.size ?_
         intro A2 c2 w2 o2 g2
         have s2 : Since w w2 := s1'.app (Nat.le_refl _) g2
         simp only [Nat.zero_add, List.nil_append] at o2
         simp only [Nat.zero_add]
         clear g2 tok1)
      | (at_builtin
         have _t := tok2
         refine wpList_app rfl _ _ rfl w.heap.size _ n1 c2 _ rfl (o2.alloc _) _ _ 1 1 [21] rfl (Ls.one w2 21 (by decide) _) (by omega) (s2.alloc _).size ?_
         intro A3 c3 w3 o3 g3
         have s3 : Since w w3 := (s2.alloc _).app (Nat.le_refl _) g3
         clear g3 tok2))
    go_ret
    exact ⟨_, _, _, rfl, o3, s3⟩
  | bin s a b iha ihb =>
    intro A n c w hn h ht
    obtain ⟨hs, ha, hb⟩ := ht
    have hlen := h.len
    rw [Tr.length_steps] at hlen
    simp only [Tr.size] at hlen
    have hpa := a.size_pos
    have hpb := b.size_pos
    have hH := spec_l2Halves A n c s a b w (by omega) h ha hb
    have hla : a.steps.length = a.size := Tr.length_steps a
    have hlb : b.steps.length = b.size := Tr.length_steps b
    have hlA : a.back.steps.length = a.size := by rw [Tr.length_steps, Tr.back_size]
    have hlB : b.back.steps.length = b.size := by rw [Tr.length_steps, Tr.back_size]
    have hv0 : (Tr.bin s a b).steps.getD (a.size + b.size) 0 = s := by
      simp only [Tr.steps]
      simp [List.getD_eq_getElem?_getD, ← Tr.length_steps]
    obtain ⟨bk, off, v, rfl, hbk, hc, hv⟩ := h.at_ (k := a.size + b.size) (by omega)
    obtain rfl : s = v := by rw [← hv.out]; exact hv0.symm
    obtain rfl : n = a.size + b.size + 1 := by omega
    have iha := fun A n c w (hn : n ≤ 274877906944) h => iha A n c w hn h ha
    have ihb := fun A n c w (hn : n ≤ 274877906944) h => ihb A n c w hn h hb
    have ex : ((a.size + b.size + 1 : Nat) : Int) - 1 = ((a.size + b.size : Nat) : Int) := by simp
    generalize a.size = p at *
    generalize b.size = q at *
    generalize hra : a.steps = ra at *
    generalize hrb : b.steps = rb at *
    generalize hk : p + q = k at *
    rcases hs with rfl | rfl
    · have eb : (Tr.bin 19 a b).back.steps = jn b.back.steps a.back.steps 19 := by simp [Tr.back, Tr.steps, jn]
      rw [eb]
      clear eb hlen hv hv0 h hra hrb
      go_enter Try.func50, Try.ntmps50
      go_wp2_with fail
      refine hH.mono ?_
      rintro e w1 ⟨A1, n1, c1, A2, n2, c2, rfl, l1, l2, s1, -⟩
      have l1 := l1.more s1.size
      have l2 := l2.more s1.size
      have hn1 : n1 ≤ 274877906944 := by have := l1.len; omega
      have hn2 : n2 ≤ 274877906944 := by have := l2.len; omega
      clear hH
      go_wp2_with fail
      refine (ihb A2 n2 c2 w1 hn2 l2).mono ?_
      rintro e w2 ⟨A3, n3, c3, rfl, o3, s2⟩
      have hn3 : n3 ≤ 274877906944 := by have := o3.len; omega
      go_wp2_with fail
      refine (iha A1 n1 c1 w2 hn1 (l1.since s2)).mono ?_
      rintro e w3 ⟨A4, n4, c4, rfl, o4, s3⟩
      have hn4 : n4 ≤ 274877906944 := by have := o4.len; omega
      go_wp2_with fail
      refine (l2Join_any A3 n3 c3 _ A4 n4 c4 _ 19 w3 hn3 hn4 (o3.ls.since s3) o4.ls (by decide)).mono ?_
      rintro e w4 ⟨A5, n5, c5, rfl, o5, s4⟩
      go_wp2
      go_ret
      exact ⟨_, _, _, rfl, o5.lower ((s1.trans s2).trans s3).size, ((s1.trans s2).trans s3).trans s4⟩
    · have eb : (Tr.bin 20 a b).back.steps = jn a.back.steps b.back.steps 20 := by simp [Tr.back, Tr.steps, jn]
      rw [eb]
      clear eb hlen hv hv0 h hra hrb
      go_enter Try.func50, Try.ntmps50
      go_wp2_with fail
      refine hH.mono ?_
      rintro e w1 ⟨A1, n1, c1, A2, n2, c2, rfl, l1, l2, s1, -⟩
      have l1 := l1.more s1.size
      have l2 := l2.more s1.size
      have hn1 : n1 ≤ 274877906944 := by have := l1.len; omega
      have hn2 : n2 ≤ 274877906944 := by have := l2.len; omega
      clear hH
      go_wp2_with fail
      refine (iha A1 n1 c1 w1 hn1 l1).mono ?_
      rintro e w2 ⟨A3, n3, c3, rfl, o3, s2⟩
      have hn3 : n3 ≤ 274877906944 := by have := o3.len; omega
      go_wp2_with fail
      refine (ihb A2 n2 c2 w2 hn2 (l2.since s2)).mono ?_
      rintro e w3 ⟨A4, n4, c4, rfl, o4, s3⟩
      have hn4 : n4 ≤ 274877906944 := by have := o4.len; omega
      go_wp2_with fail
      refine (l2Join_any A3 n3 c3 _ A4 n4 c4 _ 20 w3 hn3 hn4 (o3.ls.since s3) o4.ls (by decide)).mono ?_
      rintro e w4 ⟨A5, n5, c5, rfl, o5, s4⟩
      go_wp2
      go_ret
      exact ⟨_, _, _, rfl, o5.lower ((s1.trans s2).trans s3).size, ((s1.trans s2).trans s3).trans s4⟩
theorem spec_KatBack (A : Option Addr) (n c : Nat) (t : Tr) (w : World) (hn : n ≤ 274877906944) (h : Ls w w.heap.size A n c t.steps) (ht : t.ok) (h40 : t.size ≤ 40) :
    Calls Try.prog 14 #[.slice A n c] w (Fresh w t.back.steps) := by
  have hV : Hid (katV t.steps = true) := Tr.katV_steps ht h40
  go_enter Try.func14, Try.ntmps14
  go_wp2_with fail
  refine (spec_KatValid _ _ _ _ _ _ (by omega) h).mono ?_
  rintro e w' ⟨rfl, rfl⟩
  rw [hV.out]
  go_wp2_with fail
  refine (spec_l2Back t _ _ _ _ hn h ht).mono ?_
  rintro e w1 ⟨A1, n1, c1, rfl, o1, s1⟩
  go_wp2
  go_ret
  exact ⟨_, _, _, rfl, o1, s1⟩
theorem spec_KatBack_no (A : Option Addr) (n c : Nat) (xs : List Int) (w : World) (hn : n ≤ 274877906944) (h : Ls w w.heap.size A n c xs) (hv : katV xs = false) :
    Calls Try.prog 14 #[.slice A n c] w (Fresh w []) := by
  have hV := Lib.hid hv
  clear hv
  go_enter Try.func14, Try.ntmps14
  go_wp2_with fail
  refine (spec_KatValid _ _ _ _ _ _ (by omega) h).mono ?_
  rintro e w' ⟨rfl, rfl⟩
  rw [hV.out]
  go_wp2
  go_ret
  exact ⟨_, _, _, rfl, Own.zero _, (Since.refl w).alloc _⟩
end Go.Proofs.Ytlnkkjmejmhaiaa
