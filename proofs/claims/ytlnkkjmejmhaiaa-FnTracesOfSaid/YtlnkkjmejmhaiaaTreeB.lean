/-
  Contracts of impl.build and of a tree's steps.
-/
import Derived.Test.YtlnkkjmejmhaiaaPtr
namespace Go.Proofs.Ytlnkkjmejmhaiaa
open Go.RowKit
set_option linter.unusedVariables false
set_option maxHeartbeats 400000

/-- what a tree in the making avoids: what was there before, and the row at A -/
def Av (n : Nat) (A : Option Addr) : Nat → Prop := fun b => b < n ∨ A = some ⟨b, 0, none⟩

theorem pst_rev {st : List Tr} {s : Int} (h : tk s ≤ st.length) (hs : tk s = 2 ∨ tk s = 1 ∨ tk s = 0) (h21 : tk s = 1 → s = 21) :
    ∃ t' : Tr, t'.last = s ∧ t'.kids = st.reverse.drop (st.length - tk s) ∧ (pst st s).reverse = st.reverse.take (st.length - tk s) ++ [t'] := by
  rcases hs with e | e | e
  · match st, h with
    | b :: a :: r, h =>
      refine ⟨.bin s a b, rfl, ?_, ?_⟩
      · simp [Tr.kids, e]
      · simp [pst, e]
    | [b], h => simp [e] at h
    | [], h => simp [e] at h
  · match st, h with
    | a :: r, h =>
      have hq := h21 e
      subst hq
      refine ⟨.star a, rfl, ?_, ?_⟩
      · simp [Tr.kids, e]
      · simp [pst, e]
    | [], h => simp [e] at h
  · refine ⟨.leaf s, rfl, ?_, ?_⟩
    · simp [Tr.kids, e]
    · simp only [pst, e]
      rw [if_neg (by decide), if_neg (by decide), Nat.sub_zero, List.take_of_length_le (by simp)]
      simp
theorem tk_cases (s : Int) : (tk s = 2 ∨ tk s = 1 ∨ tk s = 0) ∧ (tk s = 1 → s = 21) := by
  unfold tk
  split
  · simp
  · split
    · rename_i h; simp [h]
    · simp
/-- One step of the making of a tree. -/
theorem build_step {t : Tr} (ht : t.ok) {k : Nat} {s : Int} {rv : List Tr} (hk : k < t.steps.length) (hs : t.steps.getD k 0 = s) (hrv : ((t.steps.take k).foldl pst []).reverse = rv) :
    rv.length ≤ k ∧ tk s ≤ rv.length ∧ ∃ t' : Tr, t'.last = s ∧ t'.kids = rv.drop (rv.length - tk s) ∧ ((t.steps.take (k + 1)).foldl pst []).reverse = rv.take (rv.length - tk s) ++ [t'] := by
  subst hrv
  have hkd : kd 0 t.steps = some 1 := by have := Tr.kd_steps ht 0 []; simpa [kd] using this
  rw [← List.take_append_drop k t.steps, kd_append] at hkd
  match hd : kd 0 (t.steps.take k), hkd with
  | some d, hkd =>
    simp only [Option.bind_some] at hkd
    rw [drop_at hk, hs] at hkd
    simp only [kd] at hkd
    split at hkd
    · simp at hkd
    · rename_i hno
      obtain ⟨r1, r2, r3⟩ := pst_run (st := []) rfl (by simp) hd
      have hle := kd_le hd
      rw [List.length_take] at hle
      have hc := tk_cases s
      obtain ⟨t', h1, h2, h3⟩ := pst_rev (st := (t.steps.take k).foldl pst []) (s := s) (by omega) hc.1 hc.2
      refine ⟨by rw [List.length_reverse]; omega, by rw [List.length_reverse]; omega, t', h1, by rw [List.length_reverse]; exact h2, ?_⟩
      rw [take_at hk, hs, List.foldl_append, List.length_reverse]
      exact h3
  | none, hkd => simp at hkd
theorem build_end {t : Tr} (ht : t.ok) : ((t.steps.take t.steps.length).foldl pst []).reverse = [t] := by
  rw [List.take_length]
  have := pst_steps ht [] []
  simp only [List.append_nil, List.foldl_nil] at this
  rw [this]; rfl

theorem getD_drop {α : Type} (l : List α) (r j : Nat) (d : α) : (l.drop r).getD j d = l.getD (r + j) d := by simp [List.getD_eq_getElem?_getD]
theorem getD_take {α : Type} (l : List α) (r j : Nat) (d : α) (h : j < r) : (l.take r).getD j d = l.getD j d := by simp [List.getD_eq_getElem?_getD, h]
theorem getD_app_lo {α : Type} (l m : List α) (j : Nat) (d : α) (h : j < l.length) : (l ++ m).getD j d = l.getD j d := by simp [List.getD_eq_getElem?_getD, List.getElem?_append, h]
theorem getD_app_hi {α : Type} (l : List α) (x : α) (j : Nat) (d : α) (h : l.length = j) : (l ++ [x]).getD j d = x := by subst h; simp [List.getD_eq_getElem?_getD]

theorem since_nil {w w1 : World} {base : Nat} (h : ∃ row, w.grownBy w1 row ∧ ∀ g, row = some g → base ≤ g ∧ none = some (⟨g, 0, none⟩ : Addr)) : Since w w1 := by
  obtain ⟨row, h1, h2⟩ := h
  exact (Since.refl w).grown h1 fun g hg => absurd (h2 g hg).2 (by simp)
/-- What is behind a round of build. -/
theorem push {w wr w1 w3 : World} {A1 A2 A3 : Option Addr} {d r q c1 c2 c3 : Nat} {gs : List Nat} {rv : List Tr} {s : Int} {t' : Tr} {E : TypeId}
    (s0 : Since w wr) (own : POwn wr w.heap.size A1 d c1 gs) (hl : rv.length = d) (hq : d = r + q)
    (ht : ∀ j, j < d → isT wr (Av w.heap.size A1) (rv.getD j (.leaf 0)) (gs.getD j 0))
    (o1 : POwn w1 w.heap.size A2 (0 + q) c2 ([] ++ gs.drop r)) (g1 : ∃ row, wr.grownBy w1 row ∧ ∀ g, row = some g → w.heap.size ≤ g ∧ none = some (⟨g, 0, none⟩ : Addr)) (a1 : A2 = none ∨ A2 = some ⟨wr.heap.size, 0, none⟩)
    (o3 : POwn w3 w.heap.size A3 (r + 1) c3 (gs.take r ++ [w1.heap.size]))
    (g3 : ∃ row, ((w1.alloc (.cells #[.int .i64 s, .slice A2 q c2] 65)).alloc (.cells #[pv w1.heap.size] E)).grownBy w3 row ∧ ∀ g, row = some g → w.heap.size ≤ g ∧ A1 = some ⟨g, 0, none⟩)
    (a3 : A3 = A1 ∨ A3 = some ⟨w1.heap.size + 1 + 1, 0, none⟩)
    (h1 : t'.last = s) (h2 : t'.kids = rv.drop r) :
    Since w w3 ∧ ∀ j, j < r + 1 → isT w3 (Av w.heap.size A3) ((rv.take r ++ [t']).getD j (.leaf 0)) ((gs.take r ++ [w1.heap.size]).getD j 0) := by
  obtain ⟨row1, k1, k2⟩ := g1
  obtain ⟨row3, k3, k4⟩ := g3
  have hr1 : row1 = none := by
    cases row1 with
    | none => rfl
    | some g => exact absurd (k2 g rfl).2 (by simp)
  subst hr1
  have hsz1 := k1.size
  have hsz3 := k3.size
  simp at hsz3
  have hsz0 := s0.size
  have hA1 : ∀ g, A1 = some ⟨g, 0, none⟩ → g < wr.heap.size := by
    intro g hg
    rcases own.form with ⟨rfl, _⟩ | ⟨g', rfl, _, h, _⟩
    · cases hg
    · simp at hg; omega
  have keep1 : ∀ k, k < wr.heap.size → w1.heap[k]? = wr.heap[k]? := fun k hk => k1.block k hk (by simp)
  have keep3 : ∀ k, k < w1.heap.size → A1 ≠ some ⟨k, 0, none⟩ → w3.heap[k]? = w1.heap[k]? := by
    intro k hk hne
    rw [k3.block k (by simp; omega) (fun e => hne (k4 k e.symm).2), heap_alloc_old _ _ (by simp; omega), heap_alloc_old _ _ hk]
  have hA3 : ∀ k, k < w1.heap.size + 2 → A1 ≠ some ⟨k, 0, none⟩ → A3 ≠ some ⟨k, 0, none⟩ := by
    intro k hk hne
    rcases a3 with rfl | rfl
    · exact hne
    · intro e; injection e with e; injection e with e; omega
  have old : ∀ j, j < d → isT w3 (Av w.heap.size A3) (rv.getD j (.leaf 0)) (gs.getD j 0) := by
    intro j hj
    refine (ht j hj).keep fun k hk hx => ?_
    have hx1 : ¬ k < w.heap.size := fun e => hx (.inl e)
    have hx2 : A1 ≠ some ⟨k, 0, none⟩ := fun e => hx (.inr e)
    refine ⟨?_, by rw [keep3 k (by omega) hx2, keep1 k hk]⟩
    rintro (e | e)
    · exact hx1 e
    · exact hA3 k (by omega) hx2 e
  have hgl : gs.length = d := own.len
  refine ⟨?_, fun j hj => ?_⟩
  · have e1 : Since w w1 := s0.grown k1 (by simp)
    exact ((e1.alloc _).alloc _).grown k3 fun g hg => (k4 g hg).1
  · by_cases hjr : j < r
    · rw [getD_app_lo _ _ _ _ (by rw [List.length_take]; omega), getD_app_lo _ _ _ _ (by rw [List.length_take]; omega), getD_take _ _ _ _ hjr, getD_take _ _ _ _ hjr]
      exact old j (by omega)
    · obtain rfl : r = j := by omega
      rw [getD_app_hi _ _ _ _ (by rw [List.length_take]; omega), getD_app_hi _ _ _ _ (by rw [List.length_take]; omega)]
      have hdl : (gs.drop r).length = q := by rw [List.length_drop]; omega
      simp only [Nat.zero_add, List.nil_append] at o1
      refine isT_mk (gs := gs.drop r) (by rw [h2, List.length_drop, List.length_drop]; omega) ⟨A2, c2, ?_, ?_, by rw [hdl]; exact o1.cap_le.1, o1.cap_le.2, ?_⟩ ?_
      · have hne : A1 ≠ some ⟨w1.heap.size, 0, none⟩ := fun e => by have := hA1 _ e; omega
        rw [k3.block _ (by simp; omega) (fun e => hne (k4 _ e.symm).2), heap_alloc_old _ _ (by simp), heap_alloc_new, h1, hdl]
      · rintro (e | e)
        · omega
        · exact hA3 _ (by omega) (fun e => by have := hA1 _ e; omega) e
      · intro j hj
        obtain ⟨gk, C, e, hb, hg, hC⟩ := o1.block (j := j) (by omega)
        have hgk : gk = wr.heap.size := by
          rcases a1 with e1 | e1
          · rw [e1] at e; cases e
          · rw [e1] at e; simp at e; omega
        have hgl1 := lt_of_block hg
        have hne : A1 ≠ some ⟨gk, 0, none⟩ := fun e => by have := hA1 _ e; omega
        refine ⟨gk, C, e, ?_, by rw [keep3 gk hgl1 hne]; exact hg, hC⟩
        rintro (e | e)
        · omega
        · exact hA3 _ (by omega) hne e
      · intro j hj
        rw [h2, getD_drop, getD_drop]
        exact old _ (by omega)

/-- the relation at the head of build's rounds -/
def BRel (w : World) (xs : List Int) (k : Nat) (stack : Value) (wr : World) : Prop :=
  ∃ (A1 : Option Addr) (d c1 : Nat) (gs : List Nat) (rv : List Tr), stack = .slice A1 d c1 ∧ POwn wr w.heap.size A1 d c1 gs ∧ rv.length = d ∧ ((xs.take k).foldl pst []).reverse = rv ∧ Since w wr ∧
    ∀ j, j < d → isT wr (Av w.heap.size A1) (rv.getD j (.leaf 0)) (gs.getD j 0)
theorem build_any (A : Option Addr) (n c : Nat) (t : Tr) (w : World) (hn : n ≤ 274877906944) (h : Ls w w.heap.size A n c t.steps) (ht : t.ok) :
    Calls Try.prog 51 #[.slice A n c] w fun e w' => ∃ g, e = .returned (pv g) ∧ isT w' (fun b => b < w.heap.size) t g ∧ Since w w' := by
  have hlen := h.len
  have hlenh := Lib.hid h.len
  have htH := Lib.hid ht
  have hend := Lib.hid (build_end ht)
  generalize hxs : t.steps = xs at *
  have hstep : Hid (∀ k s rv, k < xs.length → xs.getD k 0 = s → ((xs.take k).foldl pst []).reverse = rv → rv.length ≤ k ∧ tk s ≤ rv.length ∧ ∃ t' : Tr, t'.last = s ∧ t'.kids = rv.drop (rv.length - tk s) ∧ ((xs.take (k + 1)).foldl pst []).reverse = rv.take (rv.length - tk s) ++ [t']) := by
    subst hxs
    exact fun k s rv => build_step ht
  clear ht hxs
  go_enter Try.func51, Try.ntmps51
  go_wp2_with fail
  go_loopw [3, 10] (fun stack i wr => ∃ k : Nat, k ≤ n ∧ i = .int .i64 k ∧ Hid (BRel w xs k stack wr)) (fun _ i _ => n - (intOf i).toNat)
  case atStart => exact ⟨0, Nat.zero_le _, rfl, none, 0, 0, [], [], rfl, POwn.nil _ _, rfl, rfl, Since.refl w, fun j hj => by omega⟩
  case round =>
    obtain ⟨k, hk, rfl, A1, d, c1, gs, rv, rfl, own, hrl, hrv, s0, htr⟩ := hrel
    by_cases hlt : k < n
    · obtain ⟨b, off, v, rfl, hb, hc, hv⟩ := (h.since s0).at_ hlt
      obtain ⟨q1, q2, t', q3, q4, q5⟩ := hstep.out k v rv (by omega) hv.out hrv
      have htk := tk_le v
      rw [hrl] at q1 q2 q4 q5
      replace q4 := Lib.hid q4
      replace q5 := Lib.hid q5
      replace hrv := Lib.hid hrv
      replace hrl := Lib.hid hrl
      replace htr := Lib.hid htr
      generalize hq : tk v = q at *
      obtain ⟨r, rfl⟩ : ∃ r, d = r + q := ⟨d - q, by omega⟩
      simp only [Nat.add_sub_cancel] at *
      have e1 : ((r + q : Nat) : Int) - (q : Int) = (r : Int) := by omega
      have hcap := own.cap_le.1
      clear hlen
      rcases own.form with ⟨rfl, hd0, rfl⟩ | ⟨g, rfl, hg1, hg2, -⟩
      · obtain rfl : r = 0 := by omega
        obtain rfl : q = 0 := by omega
        have hdr : gs.drop 0 = [] := by have := own.len; exact List.drop_eq_nil_of_le (by omega)
        have o1 : POwn wr w.heap.size none (0 + 0) 0 ([] ++ gs.drop 0) := by rw [hdr]; exact POwn.nil _ _
        have g1 : ∃ row, wr.grownBy wr row ∧ ∀ g, row = some g → w.heap.size ≤ g ∧ none = some (⟨g, 0, none⟩ : Addr) := ⟨none, grown_refl _ _, by simp⟩
        have own1 := ((own.take (k := 0) (by omega)).alloc (.cells #[.int .i64 v, .slice none 0 0] 65)).alloc (.cells #[pv wr.heap.size] 47)
        have hz0 := s0.size
        clear hdr
        go_wp2_with (first
          | (go_at_call 58; refine (impl_takes _ _).mono ?_; rintro e w' ⟨rfl, rfl⟩; rw [hq])
          | (at_builtin
             refine wpList_appP rfl _ _ rfl w.heap.size _ 0 _ (gs.take 0) rfl own1 _ _ 1 1 [wr.heap.size] rfl (PLs.one' _ _ _ _ (by simp)) (by omega) (by simp; omega) ?_
             intro A3 c3 w3 o3 g3 a3))
        go_roundw
        case rel =>
          have hp := push s0 own hrl.out rfl htr.out o1 g1 (.inl rfl) o3 g3 (by simpa using a3) q3 q4.out
          exact ⟨k + 1, by omega, by go_num, A3, 0 + 1, c3, _, _, rfl, o3, by have := hrl.out; simp <;> omega, q5.out, hp.1, hp.2⟩
        case measure => simp [intOf]; omega
      · by_cases hcr : c1 = r
        · subst hcr
          obtain rfl : q = 0 := by omega
          have hdr : gs.drop c1 = [] := by have := own.len; exact List.drop_eq_nil_of_le (by omega)
          have o1 : POwn wr w.heap.size none (0 + 0) 0 ([] ++ gs.drop c1) := by rw [hdr]; exact POwn.nil _ _
          have g1 : ∃ row, wr.grownBy wr row ∧ ∀ g, row = some g → w.heap.size ≤ g ∧ none = some (⟨g, 0, none⟩ : Addr) := ⟨none, grown_refl _ _, by simp⟩
          have own1 := ((own.take (k := c1) (by omega)).alloc (.cells #[.int .i64 v, .slice none 0 0] 65)).alloc (.cells #[pv wr.heap.size] 47)
          have hz0 := s0.size
          clear hdr
          go_wp2_with (first
            | (go_at_call 58; refine (impl_takes _ _).mono ?_; rintro e w' ⟨rfl, rfl⟩; rw [hq])
            | (at_builtin
               refine wpList_appP rfl _ _ rfl w.heap.size _ c1 _ (gs.take c1) rfl own1 _ _ 1 1 [wr.heap.size] rfl (PLs.one' _ _ _ _ (by simp)) (by omega) (by simp; omega) ?_
               intro A3 c3 w3 o3 g3 a3))
          go_roundw
          case rel =>
            have hp := push s0 own hrl.out rfl htr.out o1 g1 (.inl rfl) o3 g3 (by simpa using a3) q3 q4.out
            exact ⟨k + 1, by omega, by go_num, A3, c1 + 1, c3, _, _, rfl, o3, by have := hrl.out; simp <;> omega, q5.out, hp.1, hp.2⟩
          case measure => simp [intOf]; omega
        · have HD : PLs wr wr.heap.size (some ⟨g, r, none⟩) q (c1 - r) (gs.drop r) := by
            have := own.ls.drop (k := r) (by omega)
            rw [if_neg hcr] at this
            simpa [add_at, Nat.add_sub_cancel_left] using this
          have tok1 : True := trivial
          have tok2 : True := trivial
          
          go_wp2_with (first
            | (go_at_call 58; refine (impl_takes _ _).mono ?_; rintro e w' ⟨rfl, rfl⟩; rw [hq])
            | (at_builtin
               have _t := tok1
               refine wpList_appP rfl _ _ rfl w.heap.size _ 0 0 [] rfl (POwn.nil wr _) _ _ q _ (gs.drop r) rfl HD (by omega) s0.size ?_
               intro A2 c2 w1 o1 g1 a1
               have s1 := since_nil g1
               have s01 := s0.trans s1
               have own1 := (((own.since s1).take (k := r) (by omega)).alloc (.cells #[.int .i64 v, .slice A2 q c2] 65)).alloc (.cells #[pv w1.heap.size] 47)
               clear tok1)
            | (at_builtin
               have _t := tok2
               refine wpList_appP rfl _ _ rfl w.heap.size _ r _ (gs.take r) rfl own1 _ _ 1 1 [w1.heap.size] rfl (PLs.one' _ _ _ _ (by simp)) (by omega) (by have := s01.size; simp; omega) ?_
               intro A3 c3 w3 o3 g3 a3
               clear tok2))
          go_roundw
          case rel =>
            have hp := push s0 own hrl.out rfl htr.out o1 g1 a1 o3 g3 (by simpa using a3) q3 q4.out
            exact ⟨k + 1, by omega, by go_num, A3, r + 1, c3, _, _, rfl, o3, by have := hrl.out; simp <;> omega, q5.out, hp.1, hp.2⟩
          case measure => simp [intOf]; omega
    · obtain rfl : n = k := by omega
      have e2 : xs.length = n := hlenh.out
      have hen := hend.out
      rw [e2, hrv] at hen
      subst hen
      obtain rfl : 1 = d := hrl
      obtain ⟨g, C, rfl, hg1, hg2, hC⟩ := own.block (j := 0) (by omega)
      have hc0 : wr.cell? ⟨g, 0, none⟩ = some (pv (gs.getD 0 0)) := by rw [cell_at hg2]; exact hC
      have ht0 : isT wr (fun b => b < w.heap.size) t (gs.getD 0 0) := (htr 0 (by omega)).keep fun k hk hx => ⟨fun e => hx (.inl e), rfl⟩
      generalize gs.getD 0 0 = g0 at *
      unfold pv at hc0
      have hcap := own.cap_le.1
      clear htr hC hg2 hlen hrv e2
      go_wp2
      go_ret
      exact ⟨g0, rfl, ht0, s0⟩
end Go.Proofs.Ytlnkkjmejmhaiaa
