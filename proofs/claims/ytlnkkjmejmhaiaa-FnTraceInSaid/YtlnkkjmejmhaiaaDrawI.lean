/-
  Contracts of the draws of an expression and a trace that is often one of it.
-/
import Derived.Test.YtlnkkjmejmhaiaaDrawK
import Derived.Test.YtlnkkjmejmhaiaaDrawT
import Derived.Test.YtlnkkjmejmhaiaaBack
import Derived.Deep.RegionLaw
import Derived.Deep.RegionHeld3
namespace Go.Proofs.Ytlnkkjmejmhaiaa
open Go.RowKit
set_option linter.unusedVariables false
set_option maxHeartbeats 400000

theorem Ls.grownB {w w' : World} {g off B n c : Nat} {xs : List Int} (h : Ls w w.heap.size (some ⟨g, off, none⟩) n c xs) (hg : w.grownBy w' (some B)) (hne : g ≠ B) : Ls w' w'.heap.size (some ⟨g, off, none⟩) n c xs := by
  refine ⟨h.len, h.cap, h.big, fun hn => ?_, h.fit⟩
  obtain ⟨b, off', e, hb, hc⟩ := h.cells hn
  injection e with e
  injection e with e1 e2
  subst e1 e2
  refine ⟨_, _, rfl, Nat.lt_of_lt_of_le hb hg.size, fun i hi => ?_⟩
  rw [← hc i hi]
  have := hg.block g hb (by simpa using hne)
  simp only [World.cell?, this]
theorem Own.takeO {w : World} {base n c : Nat} {A : Option Addr} {xs : List Int} (h : Own w base A n c xs) {k : Nat} (hk : k ≤ n) : Own w base A k c (xs.take k) := by
  refine ⟨by rw [List.length_take, h.len]; omega, ⟨by simp [h.len]; omega, ?_⟩, fun x hx => h.fit x (List.mem_of_mem_take hx)⟩
  rcases h.own.2 with ⟨h1, h2⟩ | ⟨g, cap, cur, h1, h2, h3, h4, h5, h6, h7⟩
  · injection h1 with h1 h8 h9
    subst h1 h8 h9
    obtain rfl : k = 0 := by omega
    exact .inl ⟨rfl, rfl⟩
  · injection h1 with h1 h8 h9
    subst h9
    refine .inr ⟨g, c, cur, by rw [h1], h2, h3, by omega, h5, h6, ?_⟩
    rw [List.map_take, ← h7, List.take_take]
    congr 1; omega
theorem InR.take {xs : List Int} (h : InR xs) (k : Nat) : InR (xs.take k) := fun x hx => h x (List.mem_of_mem_take hx)
theorem own_three (w : World) (x y z : Int) (hx : (Lit.int .i64 x).wf = true) (hy : (Lit.int .i64 y).wf = true) (hz : (Lit.int .i64 z).wf = true) : Own (w.alloc (.cells #[.int .i64 x, .int .i64 y, .int .i64 z] 3)) w.heap.size (some ⟨w.heap.size, 0, none⟩) 3 3 [x, y, z] := by
  refine Arr.own (xs := [x, y, z]) (heap_alloc_new w _) (Nat.le_refl _) rfl rfl (by decide) ?_
  intro v hv
  simp at hv
  rcases hv with rfl | rfl | rfl
  · exact hx
  · exact hy
  · exact hz
theorem InR.cons {x : Int} {xs : List Int} (h0 : -1 ≤ x) (h1 : x ≤ 22) (h : InR xs) : InR (x :: xs) := by
  intro y hy
  rcases List.mem_cons.1 hy with rfl | hy
  · exact ⟨h0, h1⟩
  · exact h y hy
/-- the halves, by their addresses -/
theorem spec_l2HalvesX (g off n c : Nat) (s : Int) (a b : Tr) (w : World) (hn : n ≤ 1099511627776) (h : Ls w w.heap.size (some ⟨g, off, none⟩) n c (Tr.bin s a b).steps) (ha : a.ok) (hb : b.ok) :
    Calls Try.prog 75 #[.slice (some ⟨g, off, none⟩) n c] w fun e w' => e = .returned (.tuple #[.slice (some ⟨g, off, none⟩) a.size c, .slice (some ⟨g, off + a.size, none⟩) b.size (c - a.size)]) ∧ Qt w w' := by
  have hlen := h.len
  rw [Tr.length_steps] at hlen
  simp only [Tr.size] at hlen
  have e1 : ((Tr.bin s a b).steps.take (n - 1)) = a.steps ++ b.steps := by
    simp only [Tr.steps]
    rw [List.take_append_of_le_length (by rw [List.length_append, Tr.length_steps, Tr.length_steps]; omega), List.take_of_length_le (by rw [List.length_append, Tr.length_steps, Tr.length_steps]; omega)]
  have hsp := fun L hL => spec_l2Span (some ⟨g, off, none⟩) n c _ _ a.steps b (n - 1) L w (by omega) h (by omega) hL e1 hb
  have hcap := h.cap
  have hpa := a.size_pos
  have hpb := b.size_pos
  rw [Tr.length_steps] at hsp
  have hcne : c ≠ a.size := by omega
  obtain ⟨m, rfl⟩ : ∃ m, n = m + 1 := ⟨n - 1, by omega⟩
  simp only [Nat.add_sub_cancel] at *
  have hq : m - a.size = b.size := by omega
  generalize a.steps = ra at *
  generalize b.steps = rb at *
  generalize a.size = p at *
  rw [← hq]
  clear hq
  generalize b.size = q at *
  have hpm : p ≤ m := by omega
  have hpmZ : (p : Int) ≤ (m : Int) := by omega
  clear hlen e1 h
  go_enter Try.func75, Try.ntmps75
  go_wp2_with fail
  refine (hsp _ (by omega)).mono ?_
  rintro e w' ⟨rfl, rfl⟩
  clear hsp
  go_wp2_with fail
  go_region
  all_goals (go_wp2_with fail)
  all_goals go_ret2
  all_goals exact ⟨rfl, (Qt.refl _).drew⟩
theorem half_one {w : World} {g off n c : Nat} {s : Int} {a b : Tr} (h : Ls w w.heap.size (some ⟨g, off, none⟩) n c (Tr.bin s a b).steps) : Ls w w.heap.size (some ⟨g, off, none⟩) a.size c a.steps := by
  have hlen := h.len
  rw [Tr.length_steps] at hlen
  simp only [Tr.size] at hlen
  have := h.take (k := a.size) (by omega)
  simp only [Tr.steps] at this
  rw [List.append_assoc, List.take_append_of_le_length (by rw [Tr.length_steps]; omega), List.take_of_length_le (by rw [Tr.length_steps]; omega)] at this
  exact this
theorem half_two {w : World} {g off n c : Nat} {s : Int} {a b : Tr} (h : Ls w w.heap.size (some ⟨g, off, none⟩) n c (Tr.bin s a b).steps) : Ls w w.heap.size (some ⟨g, off + a.size, none⟩) b.size (c - a.size) b.steps := by
  have hlen := h.len
  rw [Tr.length_steps] at hlen
  simp only [Tr.size] at hlen
  have hpb := b.size_pos
  have hcap := h.cap
  have h2 := (h.take (k := n - 1) (by omega)).drop (k := a.size) (by omega)
  have e1 : ((Tr.bin s a b).steps.take (n - 1)) = a.steps ++ b.steps := by
    simp only [Tr.steps]
    rw [List.take_append_of_le_length (by rw [List.length_append, Tr.length_steps, Tr.length_steps]; omega), List.take_of_length_le (by rw [List.length_append, Tr.length_steps, Tr.length_steps]; omega)]
  rw [e1, List.drop_append_of_le_length (by rw [Tr.length_steps]; omega), List.drop_eq_nil_of_le (by rw [Tr.length_steps]; omega), List.nil_append, if_neg (by omega)] at h2
  simp only [Option.map, add_at, Nat.mul_one] at h2
  rw [show n - 1 - a.size = b.size by omega] at h2
  exact h2
def Glued (w0 w : World) (B p base n n' : Nat) (e : Ending) (w' : World) : Prop :=
  ∃ A1 n1 c1 zs p', e = .returned (.slice A1 n1 c1) ∧ Own w' base A1 n1 c1 zs ∧ (n1 = n ∨ n1 + 1 = n + n') ∧ InR zs ∧ p' ≤ p + 1 ∧ Rs 69 w0 w' B p' ∧ w.grownBy w' (some B)
theorem glue_any (w0 w : World) (B p base : Nat) (A : Option Addr) (n c : Nat) (xs : List Int) (A' : Option Addr) (n' c' : Nat) (ys : List Int) (hp : p ≤ 1000000) (hr : Rs 69 w0 w B p) (hb : base ≤ w.heap.size) (hB : B < base)
    (oa : Own w base A n c xs) (ob : Own w base A' n' c' ys) (hn : 1 ≤ n) (hn1 : n ≤ 1000000) (hn2 : n' ≤ 1000000) (hi : InR xs) (hi' : InR ys) :
    Calls Try.prog 91 #[.pointer (some ⟨B, 0, none⟩), .slice A n c, .slice A' n' c'] w (Glued w0 w B p base n n') := by
  obtain ⟨k, rfl⟩ : ∃ k, n = k + 1 := ⟨n - 1, by omega⟩
  have hk : xs.take k = xs.take k := rfl
  have lk : Ls w w.heap.size A k c (xs.take k) := oa.ls.take (by omega)
  have hcap := oa.ls.cap
  have hkc : (k : Int) ≤ c := by omega
  have hBw : B < w.heap.size := by omega
  by_cases h1 : n' = 1
  · subst h1
    go_enter Try.func91, Try.ntmps91
    go_wp2_with (at_builtin
                 refine wpList_app rfl _ _ rfl w.heap.size _ 0 0 [] rfl (Own.zero w) _ A k c (xs.take k) rfl (lk.alloc_ _) (by omega) (by simp) ?_
                 intro A1 c1 w1 o1 g1
                 have s1 : Since w w1 := ((Since.refl w).alloc _).app (Nat.le_refl _) g1
                 simp only [Nat.zero_add, List.nil_append] at o1
                 simp only [Nat.zero_add]
                 have hr1 := hr.since s1
                 have hg1 := grown_some (since_grown s1) (some B)
                 have oa1 := oa.since s1
                 have ob1 := ob.since s1
                 clear g1 hr oa ob lk s1)
    refine (pick_any 3 w0 w1 B p hp hr1).mono ?_
    rintro e w2 ⟨m, rfl, m0, _, m1, hr2, hg2⟩
    have oa2 := oa1.over hg2 hB
    have ob2 := ob1.over hg2 hB
    have o2 := o1.over hg2 hBw
    have hG := grown_trans hg1 hg2
    have hsz : w.heap.size ≤ w2.heap.size := hG.size
    clear hr1 hg1 hg2 oa1 ob1 o1 m1
    by_cases hm : m = 0
    · subst hm
      go_wp2_with fail
      go_ret
      exact ⟨_, _, _, _, _, rfl, oa2, .inl rfl, hi, Nat.le_refl _, hr2, hG⟩
    · have q0 : (m == 0) = false := by simp [hm]
      go_wp2_with (at_builtin
                   refine wpList_app rfl _ _ rfl w.heap.size A1 k c1 (xs.take k) rfl o2 _ A' 1 c' ys rfl ob2.ls (by omega) hsz ?_
                   intro A3 c3 w3 o3 g3
                   have hr3 := hr2.app hBw g3
                   have hG3 := grown_app hG (Nat.le_refl _) g3
                   clear g3)
      go_ret
      exact ⟨_, _, _, _, _, rfl, o3.lower hb, .inr (by omega), (hi.take k).app hi', Nat.le_refl _, hr3, hG3⟩
  · have q1 : ((n' : Int) == 1) = false := by simp; omega
    go_enter Try.func91, Try.ntmps91
    go_wp2_with (first
              | (at_builtin
                 refine wpList_app rfl _ _ rfl w.heap.size _ 0 0 [] rfl (Own.zero w) _ A k c (xs.take k) rfl (lk.alloc_ _) (by omega) (by simp) ?_
                 intro A1 c1 w1 o1 g1
                 have s1 : Since w w1 := ((Since.refl w).alloc _).app (Nat.le_refl _) g1
                 simp only [Nat.zero_add, List.nil_append] at o1
                 simp only [Nat.zero_add]
                 have hr1 := hr.since s1
                 have hg1 := grown_some (since_grown s1) (some B)
                 have ob1 := ob.since s1
                 have hsz : w.heap.size ≤ w1.heap.size := hg1.size
                 clear g1 hr oa ob lk s1)
              | (at_builtin
                 refine wpList_app rfl _ _ rfl w.heap.size A1 k c1 (xs.take k) rfl o1 _ A' n' c' ys rfl ob1.ls (by omega) hsz ?_
                 intro A3 c3 w3 o3 g3
                 have hr3 := hr1.app hBw g3
                 have hG3 := grown_app hg1 (Nat.le_refl _) g3
                 clear g3))
    go_ret
    exact ⟨_, _, _, _, _, rfl, o3.lower hb, .inr (by omega), (hi.take k).app hi', by omega, hr3, hG3⟩
end Go.Proofs.Ytlnkkjmejmhaiaa
