/-
  Contracts of the functions that join expressions (chapter 2).
-/
import Derived.Test.YtlnkkjmejmhaiaaKat
namespace Go.Proofs.Ytlnkkjmejmhaiaa
open Go.RowKit
set_option linter.unusedVariables false
set_option maxHeartbeats 400000

/-- What a fresh list and a truth leave. -/
def Fresh2 (w : World) (r : List Int × Bool) (e : Ending) (w' : World) : Prop := ∃ A n c, e = .returned (.tuple #[.slice A n c, .bool r.2]) ∧ Own w' w.heap.size A n c r.1 ∧ Since w w'
theorem Fresh2.mk {w w' : World} {r : List Int × Bool} {l : List Int} {b : Bool} {A : Option Addr} {n c : Nat} (h : r = (l, b)) (o : Own w' w.heap.size A n c l) (s : Since w w') :
    Fresh2 w r (.returned (.tuple #[.slice A n c, .bool b])) w' := by
  subst h
  exact ⟨A, n, c, rfl, o, s⟩

theorem l2Join_any (A : Option Addr) (n c : Nat) (xs : List Int) (A' : Option Addr) (n' c' : Nat) (ys : List Int) (s : Int) (w : World)
    (hn : n ≤ 274877906944) (hn' : n' ≤ 274877906944) (h : Ls w w.heap.size A n c xs) (h' : Ls w w.heap.size A' n' c' ys) (hs : (Lit.int .i64 s).wf = true) :
    Calls Try.prog 62 #[.slice A n c, .slice A' n' c', .int .i64 s] w (Fresh w (jn xs ys s)) := by
  go_enter Try.func62, Try.ntmps62
  have tok1 : True := trivial
  have tok2 : True := trivial
  have tok3 : True := trivial
  go_wp2_with (first
    | (at_builtin
       have _t := tok1
       refine wpList_app rfl _ _ rfl w.heap.size _ 0 0 [] rfl (Own.zero w) _ A n c xs rfl (h.alloc (Nat.le_refl _) _) (by omega) (by simp) ?_
       intro A1 c1 w1 o1 g1
       have s1 : Since w w1 := ((Since.refl w).alloc _).app (Nat.le_refl _) g1
       simp only [Nat.zero_add, List.nil_append] at o1
       simp only [Nat.zero_add]
       clear g1 tok1)
    | (at_builtin
       have _t := tok2
       refine wpList_app rfl _ _ rfl w.heap.size _ n c1 xs rfl o1 _ A' n' c' ys rfl (h'.since s1) (by omega) s1.size ?_
       intro A2 c2 w2 o2 g2
       have s2 : Since w w2 := s1.app (Nat.le_refl _) g2
       clear g2 tok2)
    | (at_builtin
       have _t := tok3
       refine wpList_app rfl _ _ rfl w.heap.size _ (n + n') c2 (xs ++ ys) rfl (o2.alloc _) _ _ 1 1 [s] rfl (Ls.one w2 s hs _) (by omega) (s2.alloc _).size ?_
       intro A3 c3 w3 o3 g3
       have s3 : Since w w3 := (s2.alloc _).app (Nat.le_refl _) g3
       clear g3 tok3))
  go_ret
  exact ⟨_, _, _, rfl, o3, s3⟩
theorem spec_KatThen (A : Option Addr) (n c : Nat) (xs : List Int) (A' : Option Addr) (n' c' : Nat) (ys : List Int) (w : World)
    (hn : n ≤ 274877906944) (hn' : n' ≤ 274877906944) (h : Ls w w.heap.size A n c xs) (h' : Ls w w.heap.size A' n' c' ys) :
    Calls Try.prog 30 #[.slice A n c, .slice A' n' c'] w (Fresh2 w (kJoin xs ys 19)) := by
  go_enter Try.func30, Try.ntmps30
  go_wp2_with fail
  refine (l2Join_any A n c xs A' n' c' ys 19 w hn hn' h h' (by decide)).mono ?_
  rintro e w1 ⟨A1, n1, c1, rfl, o1, s1⟩
  have hn1 : n1 ≤ 549755813889 := by have := o1.len; rw [jn_length, h.len, h'.len] at this; omega
  have hl1 := o1.ls
  have ha := h.since s1
  have hb := h'.since s1
  cases hva : katV xs
  · have hk : Hid (kJoin xs ys 19 = ([], false)) := by simp [Hid, kJoin, hva]
    go_wp2_with (go_at_call 27; refine (spec_KatValid _ _ _ _ _ _ (by omega) ha).mono ?_; rintro e w' ⟨rfl, rfl⟩)
    go_ret2
    exact Fresh2.mk hk.out ((Own.zero _).lower s1.size) (s1.alloc _)
  · cases hvb : katV ys
    · have hk : Hid (kJoin xs ys 19 = ([], false)) := by simp [Hid, kJoin, hva, hvb]
      go_wp2_with fail
      refine (spec_KatValid _ _ _ _ _ _ (by omega) ha).mono ?_
      rintro e w' ⟨rfl, rfl⟩
      go_wp2_with fail
      refine (spec_KatValid _ _ _ _ _ _ (by omega) hb).mono ?_
      rintro e w' ⟨rfl, rfl⟩
      go_wp2
      go_ret2
      exact Fresh2.mk hk.out ((Own.zero _).lower s1.size) (s1.alloc _)
    · cases hvc : katV (jn xs ys 19)
      · have hk : Hid (kJoin xs ys 19 = ([], false)) := by simp [Hid, kJoin, hva, hvb, hvc]
        go_wp2_with fail
        refine (spec_KatValid _ _ _ _ _ _ (by omega) ha).mono ?_
        rintro e w' ⟨rfl, rfl⟩
        go_wp2_with fail
        refine (spec_KatValid _ _ _ _ _ _ (by omega) hb).mono ?_
        rintro e w' ⟨rfl, rfl⟩
        go_wp2_with fail
        refine (spec_KatValid _ _ _ _ _ _ (by omega) hl1).mono ?_
        rintro e w' ⟨rfl, rfl⟩
        go_wp2
        go_ret2
        exact Fresh2.mk hk.out ((Own.zero _).lower s1.size) (s1.alloc _)
      · have hk : Hid (kJoin xs ys 19 = (jn xs ys 19, true)) := by simp [Hid, kJoin, hva, hvb, hvc]
        go_wp2_with fail
        refine (spec_KatValid _ _ _ _ _ _ (by omega) ha).mono ?_
        rintro e w' ⟨rfl, rfl⟩
        go_wp2_with fail
        refine (spec_KatValid _ _ _ _ _ _ (by omega) hb).mono ?_
        rintro e w' ⟨rfl, rfl⟩
        go_wp2_with fail
        refine (spec_KatValid _ _ _ _ _ _ (by omega) hl1).mono ?_
        rintro e w' ⟨rfl, rfl⟩
        go_wp2
        go_ret2
        exact Fresh2.mk hk.out o1 s1
/-- joined, at the head of a round, two parts. -/
def JRel (w : World) (n : Nat) (xs : List Int) (n' : Nat) (ys : List Int) (out i : Value) (wr : World) : Prop :=
  ∃ (A1 : Option Addr) (n1 c1 : Nat) (l : List Int), out = .slice A1 n1 c1 ∧ Own wr w.heap.size A1 n1 c1 l ∧ Since w wr ∧
    ((i = .int .i64 0 ∧ [] = l ∧ 0 = n1) ∨ (i = .int .i64 1 ∧ xs = l ∧ n = n1 ∧ katV xs = true) ∨ (i = .int .i64 2 ∧ xs ++ ys = l ∧ n + n' = n1 ∧ katV xs = true ∧ katV ys = true))
theorem joined2_any (s : Int) (hs : s = 19 ∨ s = 20) (g : Nat) (A : Option Addr) (n c : Nat) (xs : List Int) (A' : Option Addr) (n' c' : Nat) (ys : List Int) (w : World)
    (hn : n ≤ 274877906944) (hn' : n' ≤ 274877906944) (h : Ls w w.heap.size A n c xs) (h' : Ls w w.heap.size A' n' c' ys)
    (hg : w.heap[g]? = some (.cells #[.slice A n c, .slice A' n' c'] 22 (0, 0))) :
    Calls Try.prog 61 #[.int .i64 s, .slice (some ⟨g, 0, none⟩) 2 2] w (Fresh2 w (kJoin xs ys s)) := by
  have hglt := lt_of_block hg
  have hws : (Lit.int .i64 s).wf = true := by rcases hs with rfl | rfl <;> decide
  have hS := Lib.hid hs
  clear hs
  go_enter Try.func61, Try.ntmps61
  go_wp2_with fail
  go_loopw [6, 11] (fun out i wr => JRel w n xs n' ys out i wr) (fun _ i _ => 2 - (intOf i).toNat)
  case atStart => exact ⟨none, 0, 0, [], rfl, Own.nil _ _, Since.refl w, .inl ⟨rfl, rfl, rfl⟩⟩
  case round =>
    obtain ⟨A1, n1, c1, l, rfl, o1, s1, hcase⟩ := hrel
    have ha := h.since s1
    have hb := h'.since s1
    have hgw : wr.heap[g]? = some (.cells #[.slice A n c, .slice A' n' c'] 22 (0, 0)) := by rw [s1.below.block g hglt]; exact hg
    have c0 : wr.cell? ⟨g, 0, none⟩ = some (.slice A n c) := by rw [cell_at hgw]; rfl
    have c2 : wr.cell? ⟨g, 1, none⟩ = some (.slice A' n' c') := by rw [cell_at hgw]; rfl
    clear hg hgw
    rcases hcase with ⟨rfl, rfl, rfl⟩ | ⟨rfl, rfl, rfl, hva⟩ | ⟨rfl, rfl, rfl, hva, hvb⟩
    · cases hva : katV xs
      · have hk : Hid (kJoin xs ys s = ([], false)) := by simp [Hid, kJoin, hva]
        go_wp2_with (go_at_call 23; refine (impl_KatValid _ _ _ _ _ _ ha).mono ?_; rintro e w' ⟨rfl, rfl⟩)
        go_ret2
        exact Fresh2.mk hk.out (Own.nil _ _) s1
      · have hva := Lib.hid hva
        go_wp2_with fail
        refine (impl_KatValid _ _ _ _ _ _ ha).mono ?_
        rintro e w' ⟨rfl, rfl⟩
        rw [hva.out]
        go_wp2_with (at_builtin
                     refine wpList_app rfl _ _ rfl w.heap.size A1 0 c1 [] rfl o1 _ A n c xs rfl ha (by omega) s1.size ?_
                     intro A2 c2 w2 o2 g2
                     have s2 : Since w w2 := s1.app (Nat.le_refl _) g2
                     clear g2)
        go_roundw
        case rel => exact ⟨A2, n, c2, xs, by simp, by simpa using o2, s2, .inr (.inl ⟨rfl, rfl, rfl, hva.out⟩)⟩
        case measure => simp [intOf]
    · cases hvb : katV ys
      · have hk : Hid (kJoin xs ys s = ([], false)) := by simp [Hid, kJoin, hva, hvb]
        clear hva
        go_wp2_with (go_at_call 23; refine (impl_KatValid _ _ _ _ _ _ hb).mono ?_; rintro e w' ⟨rfl, rfl⟩)
        go_ret2
        exact Fresh2.mk hk.out (Own.nil _ _) s1
      · have hva := Lib.hid hva
        have hvb := Lib.hid hvb
        go_wp2_with fail
        refine (impl_KatValid _ _ _ _ _ _ hb).mono ?_
        rintro e w' ⟨rfl, rfl⟩
        rw [hvb.out]
        go_wp2_with (at_builtin
                     refine wpList_app rfl _ _ rfl w.heap.size A1 n c1 xs rfl o1 _ A' n' c' ys rfl hb (by omega) s1.size ?_
                     intro A2 c2 w2 o2 g2
                     have s2 : Since w w2 := s1.app (Nat.le_refl _) g2
                     clear g2)
        go_roundw
        case rel => exact ⟨A2, n + n', c2, xs ++ ys, rfl, o2, s2, .inr (.inr ⟨rfl, rfl, rfl, hva.out, hvb.out⟩)⟩
        case measure => simp [intOf]
    · have hk := kJoin_eq xs ys hS.out
      rw [hva, hvb, h.len, h'.len] at hk
      simp only [Bool.and_self, Bool.true_and] at hk
      by_cases hl : 40 < n + n' + 1
      · have hk : Hid (kJoin xs ys s = ([], false)) := by
          rw [if_neg (by simp; omega)] at hk; exact hk
        clear hva hvb
        go_wp2_with (at_builtin
                     refine wpList_app rfl _ _ rfl w.heap.size A1 (n + n') c1 (xs ++ ys) rfl (o1.alloc _) _ _ 1 1 [s] rfl (Ls.one wr s hws _) (by omega) (s1.alloc _).size ?_
                     intro A2 c2 w2 o2 g2
                     have s2 : Since w w2 := (s1.alloc _).app (Nat.le_refl _) g2
                     clear g2)
        go_ret2
        exact Fresh2.mk hk.out (Own.nil _ _) s2
      · have hk : Hid (kJoin xs ys s = (jn xs ys s, true)) := by
          rw [if_pos (by simp; omega)] at hk; exact hk
        clear hva hvb
        go_wp2_with (at_builtin
                     refine wpList_app rfl _ _ rfl w.heap.size A1 (n + n') c1 (xs ++ ys) rfl (o1.alloc _) _ _ 1 1 [s] rfl (Ls.one wr s hws _) (by omega) (s1.alloc _).size ?_
                     intro A2 c2 w2 o2 g2
                     have s2 : Since w w2 := (s1.alloc _).app (Nat.le_refl _) g2
                     clear g2)
        go_ret2
        exact Fresh2.mk hk.out o2 s2
theorem impl_KatThen (A : Option Addr) (n c : Nat) (xs : List Int) (A' : Option Addr) (n' c' : Nat) (ys : List Int) (w : World)
    (hn : n ≤ 274877906944) (hn' : n' ≤ 274877906944) (h : Ls w w.heap.size A n c xs) (h' : Ls w w.heap.size A' n' c' ys) :
    Calls Try.prog 29 #[.slice A n c, .slice A' n' c'] w (Fresh2 w (kJoin xs ys 19)) := by
  go_enter Try.func29, Try.ntmps29
  go_wp2_with fail
  refine (joined2_any 19 (Or.inl rfl) _ A n c xs A' n' c' ys _ hn hn' (h.alloc_ _) (h'.alloc_ _) (heap_alloc_new w _)).mono ?_
  rintro e w1 ⟨A1, n1, c1, rfl, o1, s1⟩
  go_wp2
  go_ret2
  exact Fresh2.mk rfl (o1.lower (by simp)) (((Since.refl w).alloc _).trans s1)
/-- joined, at the head of a round, one part. -/
def JRel1 (w : World) (n : Nat) (xs : List Int) (out i : Value) (wr : World) : Prop :=
  ∃ (A1 : Option Addr) (n1 c1 : Nat) (l : List Int), out = .slice A1 n1 c1 ∧ Own wr w.heap.size A1 n1 c1 l ∧ Since w wr ∧
    ((i = .int .i64 0 ∧ [] = l ∧ 0 = n1) ∨ (i = .int .i64 1 ∧ xs = l ∧ n = n1 ∧ katV xs = true))
theorem joined1_any (g : Nat) (A : Option Addr) (n c : Nat) (xs : List Int) (w : World)
    (hn : n ≤ 274877906944) (h : Ls w w.heap.size A n c xs)
    (hg : w.heap[g]? = some (.cells #[.slice A n c] 22 (0, 0))) :
    Calls Try.prog 61 #[.int .i64 21, .slice (some ⟨g, 0, none⟩) 1 1] w (Fresh2 w (kStar xs)) := by
  have hglt := lt_of_block hg
  have hws : (Lit.int .i64 21).wf = true := by decide
  go_enter Try.func61, Try.ntmps61
  go_wp2_with fail
  go_loopw [6, 11] (fun out i wr => JRel1 w n xs out i wr) (fun _ i _ => 1 - (intOf i).toNat)
  case atStart => exact ⟨none, 0, 0, [], rfl, Own.nil _ _, Since.refl w, .inl ⟨rfl, rfl, rfl⟩⟩
  case round =>
    obtain ⟨A1, n1, c1, l, rfl, o1, s1, hcase⟩ := hrel
    have ha := h.since s1
    have hgw : wr.heap[g]? = some (.cells #[.slice A n c] 22 (0, 0)) := by rw [s1.below.block g hglt]; exact hg
    have c0 : wr.cell? ⟨g, 0, none⟩ = some (.slice A n c) := by rw [cell_at hgw]; rfl
    clear hg hgw
    rcases hcase with ⟨rfl, rfl, rfl⟩ | ⟨rfl, rfl, rfl, hva⟩
    · cases hva : katV xs
      · have hk : Hid (kStar xs = ([], false)) := by simp [Hid, kStar, hva]
        go_wp2_with (go_at_call 23; refine (impl_KatValid _ _ _ _ _ _ ha).mono ?_; rintro e w' ⟨rfl, rfl⟩)
        go_ret2
        exact Fresh2.mk hk.out (Own.nil _ _) s1
      · have hva := Lib.hid hva
        go_wp2_with fail
        refine (impl_KatValid _ _ _ _ _ _ ha).mono ?_
        rintro e w' ⟨rfl, rfl⟩
        rw [hva.out]
        go_wp2_with (at_builtin
                     refine wpList_app rfl _ _ rfl w.heap.size A1 0 c1 [] rfl o1 _ A n c xs rfl ha (by omega) s1.size ?_
                     intro A2 c2 w2 o2 g2
                     have s2 : Since w w2 := s1.app (Nat.le_refl _) g2
                     clear g2)
        go_roundw
        case rel => exact ⟨A2, n, c2, xs, by simp, by simpa using o2, s2, .inr ⟨rfl, rfl, rfl, hva.out⟩⟩
        case measure => simp [intOf]
    · have hk := kStar_eq xs
      rw [hva, h.len] at hk
      simp only [Bool.true_and] at hk
      by_cases hl : 40 < n + 1
      · have hk : Hid (kStar xs = ([], false)) := by
          rw [if_neg (by simp; omega)] at hk; exact hk
        clear hva
        go_wp2_with (at_builtin
                     refine wpList_app rfl _ _ rfl w.heap.size A1 n c1 xs rfl (o1.alloc _) _ _ 1 1 [21] rfl (Ls.one wr 21 hws _) (by omega) (s1.alloc _).size ?_
                     intro A2 c2 w2 o2 g2
                     have s2 : Since w w2 := (s1.alloc _).app (Nat.le_refl _) g2
                     clear g2)
        go_ret2
        exact Fresh2.mk hk.out (Own.nil _ _) s2
      · have hk : Hid (kStar xs = (xs ++ [21], true)) := by
          rw [if_pos (by simp; omega)] at hk; exact hk
        clear hva
        go_wp2_with (at_builtin
                     refine wpList_app rfl _ _ rfl w.heap.size A1 n c1 xs rfl (o1.alloc _) _ _ 1 1 [21] rfl (Ls.one wr 21 hws _) (by omega) (s1.alloc _).size ?_
                     intro A2 c2 w2 o2 g2
                     have s2 : Since w w2 := (s1.alloc _).app (Nat.le_refl _) g2
                     clear g2)
        go_ret2
        exact Fresh2.mk hk.out o2 s2
theorem impl_KatStar (A : Option Addr) (n c : Nat) (xs : List Int) (w : World) (hn : n ≤ 274877906944) (h : Ls w w.heap.size A n c xs) :
    Calls Try.prog 34 #[.slice A n c] w (Fresh2 w (kStar xs)) := by
  go_enter Try.func34, Try.ntmps34
  go_wp2_with fail
  refine (joined1_any _ A n c xs _ hn (h.alloc_ _) (heap_alloc_new w _)).mono ?_
  rintro e w1 ⟨A1, n1, c1, rfl, o1, s1⟩
  go_wp2
  go_ret2
  exact Fresh2.mk rfl (o1.lower (by simp)) (((Since.refl w).alloc _).trans s1)
end Go.Proofs.Ytlnkkjmejmhaiaa
