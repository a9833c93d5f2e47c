/-
  Slices of pointers to trees, append on them, and trees in memory.
-/
import Derived.Test.YtlnkkjmejmhaiaaKatJ
namespace Go.Proofs.Ytlnkkjmejmhaiaa
open Go.RowKit
set_option linter.unusedVariables false
set_option maxHeartbeats 400000

/-- the pointer to block g -/
def pv (g : Nat) : Value := .pointer (some ⟨g, 0, none⟩)
theorem ptr_info : (Try.prog.info? 47).map (fun i => (i.zero, i.size, i.bytes)) = some (some (.pointer none), 1, 8) := by kernel_rfl

/-- The slice reads as the pointers gs and lies below block B. -/
structure PLs (w : World) (B : Nat) (A : Option Addr) (n c : Nat) (gs : List Nat) : Prop where
  len : gs.length = n
  cap : n ≤ c
  big : c ≤ maxLen
  cells : 0 < n → ∃ b off, A = some ⟨b, off, none⟩ ∧ b < B ∧ ∀ i, i < n → w.cell? ⟨b, off + i, none⟩ = some (pv (gs.getD i 0))
/-- The slice is nil or the head of a row of the call's own. -/
structure POwn (w : World) (base : Nat) (A : Option Addr) (n c : Nat) (gs : List Nat) : Prop where
  len : gs.length = n
  own : w.ownsRow base 47 1 (.slice A n c) n (gs.map pv)
section
variable {w w' : World} {B B' base n c : Nat} {A : Option Addr} {gs : List Nat}
theorem PLs.keep (h : PLs w B A n c gs) (hk : ∀ p : Addr, p.block < B → w'.cell? p = w.cell? p) : PLs w' B A n c gs :=
  ⟨h.len, h.cap, h.big, fun hn => by
    obtain ⟨b, off, e, hb, hc⟩ := h.cells hn
    exact ⟨b, off, e, hb, fun i hi => (hk _ hb).trans (hc i hi)⟩⟩
theorem PLs.more (h : PLs w B A n c gs) (hB : B ≤ B') : PLs w B' A n c gs :=
  ⟨h.len, h.cap, h.big, fun hn => by
    obtain ⟨b, off, e, hb, hc⟩ := h.cells hn
    exact ⟨b, off, e, by omega, hc⟩⟩
theorem PLs.drop (h : PLs w B A n c gs) {k : Nat} (hk : k ≤ n) : PLs w B (if c = k then A else A.map (·.add (k * 1))) (n - k) (c - k) (gs.drop k) :=
  ⟨by rw [List.length_drop, h.len], by have := h.cap; omega, by have := h.big; omega, fun hn => by
    obtain ⟨b, off, rfl, hb, hc⟩ := h.cells (by omega)
    have := h.cap
    rw [if_neg (by omega)]
    refine ⟨b, off + k, by simp [add_at], hb, fun i hi => ?_⟩
    rw [Nat.add_assoc, hc (k + i) (by omega)]
    simp [List.getD_eq_getElem?_getD]⟩
theorem POwn.nil (w : World) (base : Nat) : POwn w base none 0 0 [] := ⟨rfl, World.ownsRow_nil _ _ _ _⟩
theorem POwn.form (h : POwn w base A n c gs) : (A = none ∧ n = 0 ∧ c = 0) ∨ ∃ g, A = some ⟨g, 0, none⟩ ∧ base ≤ g ∧ g < w.heap.size ∧ n ≤ c := by
  rcases h.own.2 with ⟨h1, h2⟩ | ⟨g, cap, cur, h1, h2, h3, h4, _⟩
  · injection h1 with h1 h5 h6; exact .inl ⟨h1, h5, h6⟩
  · injection h1 with h1 h5 h6; subst h6; exact .inr ⟨g, h1, h2, lt_of_block h3, h4⟩
theorem POwn.cap_le (h : POwn w base A n c gs) : n ≤ c ∧ c ≤ maxLen := by
  rcases h.own.2 with ⟨h1, h2⟩ | ⟨g, cap, cur, h1, h2, h3, h4, h5, _⟩
  · injection h1 with h1 h5 h6; subst h5 h6; exact ⟨Nat.le_refl _, Nat.zero_le _⟩
  · injection h1 with h1 h6 h7; subst h7; exact ⟨h4, h5⟩
/-- its block -/
theorem POwn.block (h : POwn w base A n c gs) {j : Nat} (hj : j < n) : ∃ g C, A = some ⟨g, 0, none⟩ ∧ base ≤ g ∧ w.heap[g]? = some (.cells C 47 (0, 0)) ∧ C[j]? = some (pv (gs.getD j 0)) := by
  rcases h.own.2 with ⟨h1, h2⟩ | ⟨g, cap, cur, h1, h2, h3, h4, h5, h6, h7⟩
  · omega
  · injection h1 with h1 h8 h9
    refine ⟨g, cur, h1, h2, h3, ?_⟩
    have h10 := congrArg (fun l => l[j]?) h7
    simp only [Nat.mul_one] at h10
    rw [List.getElem?_take, if_pos hj, List.getElem?_map] at h10
    rw [← Array.getElem?_toList, h10]
    simp [List.getD_eq_getElem?_getD, List.getElem?_eq_getElem (show j < gs.length by rw [h.len]; exact hj)]
theorem POwn.ls (h : POwn w base A n c gs) : PLs w w.heap.size A n c gs :=
  ⟨h.len, h.cap_le.1, h.cap_le.2, fun hn => by
    obtain ⟨g, C, rfl, hb, hg, hc⟩ := h.block (j := 0) hn
    refine ⟨g, 0, rfl, lt_of_block hg, fun i hi => ?_⟩
    obtain ⟨g', C', e, _, hg', hc'⟩ := h.block (j := i) hi
    injection e with e; injection e with e; subst e
    rw [cell_at hg', Nat.zero_add]; exact hc'⟩
theorem POwn.keep {row : Option Nat} (h : POwn w base A n c gs) (hg : w.grownBy w' row) (hne : ∀ g, A = some ⟨g, 0, none⟩ → row ≠ some g) : POwn w' base A n c gs :=
  ⟨h.len, h.own.kept hg (by
    rcases h.form with ⟨rfl, _, _⟩ | ⟨g, rfl, _, _, _⟩
    · exact .inl rfl
    · right
      have := hne g rfl
      intro e
      exact this (by rw [← e]; rfl))⟩
theorem POwn.since (h : POwn w base A n c gs) (hb : Since w w') : POwn w' base A n c gs :=
  h.keep (row := none) ⟨hb.below.os, hb.below.tape, hb.below.output, hb.size, fun k hk _ => hb.below.block k hk⟩ (by simp)
theorem POwn.alloc (h : POwn w base A n c gs) (o : Obj) : POwn (w.alloc o) base A n c gs := ⟨h.len, h.own.alloc o⟩
theorem POwn.drew (h : POwn w base A n c gs) : POwn w.drew base A n c gs := ⟨h.len, h.own⟩
theorem POwn.lower {base' : Nat} (h : POwn w base A n c gs) (hb : base' ≤ base) : POwn w base' A n c gs := by
  refine ⟨h.len, ⟨h.own.1, ?_⟩⟩
  rcases h.own.2 with h1 | ⟨g, cap, cur, h1, h2, h3⟩
  · exact .inl h1
  · exact .inr ⟨g, cap, cur, h1, by omega, h3⟩
theorem POwn.take (h : POwn w base A n c gs) {k : Nat} (hk : k ≤ n) : POwn w base A k c (gs.take k) := by
  refine ⟨by rw [List.length_take, h.len]; omega, ⟨by simp [h.len]; omega, ?_⟩⟩
  rcases h.own.2 with ⟨h1, h2⟩ | ⟨g, cap, cur, h1, h2, h3, h4, h5, h6, h7⟩
  · injection h1 with h1 h8 h9
    subst h1 h8 h9
    obtain rfl : k = 0 := by omega
    exact .inl ⟨rfl, rfl⟩
  · injection h1 with h1 h8 h9
    subst h9
    refine .inr ⟨g, c, cur, by rw [h1], h2, h3, by omega, h5, h6, ?_⟩
    rw [List.map_take, ← h7, List.take_take]
    congr 1; omega
end
theorem PLs.one (w : World) (g : Nat) (E : TypeId) : PLs (w.alloc (.cells #[pv g] E)) (w.heap.size + 1) (some ⟨w.heap.size, 0, none⟩) 1 1 [g] :=
  ⟨rfl, Nat.le_refl _, by decide, fun _ => ⟨w.heap.size, 0, rfl, by omega, fun i hi => by
    obtain rfl : i = 0 := by omega
    rw [cell_at (heap_alloc_new w _)]; rfl⟩⟩

theorem PLs.one' (w : World) (g m : Nat) (E : TypeId) (hm : w.heap.size = m) : PLs (w.alloc (.cells #[.pointer (some ⟨g, 0, none⟩)] E)) (m + 1) (some ⟨m, 0, none⟩) 1 1 [g] := by
  subst hm; exact PLs.one w g E
/-- append of pointers to a slice of the call's own. -/
theorem wp_appP {w : World} {o : Oper} {a : Act} {K : Act → World → Prop} {Q : Exit → Act → World → Prop} (s x : Operand)
    (ho : o.op = .call { callee := .builtin .append, args := #[s, x], argTypes := #[63, 63] })
    (base : Nat) (A : Option Addr) (n c : Nat) (xs : List Nat) (hs : a.eval s = .slice A n c) (hown : POwn w base A n c xs)
    (B : Nat) (A' : Option Addr) (m c' : Nat) (ys : List Nat) (hx : a.eval x = .slice A' m c') (hr : PLs w B A' m c' ys)
    (hlen : n + m ≤ 1099511627776) (hbase : base ≤ w.heap.size)
    (h : ∀ A1 c1 w', POwn w' base A1 (n + m) c1 (xs ++ ys) → (∃ row, w.grownBy w' row ∧ ∀ g, row = some g → base ≤ g ∧ A = some ⟨g, 0, none⟩) → (A1 = A ∨ A1 = some ⟨w.heap.size, 0, none⟩) → K (a.put o.dst (.slice A1 (n + m) c1)) w') :
    o.wp Try.prog a w K Q := by
  obtain ⟨i0, hi, hz0, hz1, hz2⟩ := info_parts ptr_info
  cases A' with
  | none =>
    have hm : m = 0 := by
      rcases Nat.eq_zero_or_pos m with h0 | h0
      · exact h0
      · obtain ⟨b, off, e, _⟩ := hr.cells h0
        cases e
    subst hm
    obtain rfl : ys = [] := List.eq_nil_of_length_eq_zero hr.len
    have hrun : (Builtin.append_ #[63, 63] o.type #[.slice A n c, .slice none 0 c']).run Try.prog w = .ok (.slice A n c) w := by
      rcases hown.own.2 with ⟨h1, h2⟩ | ⟨g, cap, cur, h1, _, _, hnc, _⟩
      · injection h1 with h1 h5 h6; subst h1 h5 h6
        simp [Builtin.append_, run_underlying Try.underlying63, sizeOf, typeInfo, hi, Builtin.lenOf, Builtin.firstCells]
      · injection h1 with h1 h5 h6; subst h1 h6
        simp [Builtin.append_, run_underlying Try.underlying63, sizeOf, typeInfo, hi, Builtin.lenOf, Builtin.firstCells, hnc, storeCells]
    have hh := h A c w (by simpa using hown) ⟨none, grown_refl _ _, by simp⟩ (.inl rfl)
    unfold Oper.wp
    simp only [execOp, ho, resolve, invoke, builtin, Sem.run_bind, Sem.run_pure, Result.andThen_ok, List.map_toArray, List.map_cons, List.map_nil, hs, hx, hrun]
    exact hh
  | some ad =>
    obtain ⟨v', w', hrun, h2, h3, h4, h5⟩ := run_append_own_at (P := Try.prog) w base 63 o.type 47 i0 (.pointer none) 1 8 Try.underlying63 hi hz0 hz1 hz2 rfl (by decide) (.slice A n c) n (xs.map pv) hown.own
      ad m c' (ys.map pv) (by simp [hr.len]) (by
        intro j u hu
        have hj : j < ys.length := by
          have := (List.getElem?_eq_some_iff.1 hu).1
          simpa using this
        obtain ⟨b, off, e, hb, hc⟩ := hr.cells (by have := hr.len; omega)
        injection e with e
        subst e
        rw [add_at, hc j (by rw [← hr.len]; exact hj)]
        rw [List.getElem?_map, List.getElem?_eq_getElem hj] at hu
        simp at hu
        rw [← hu]
        simp [List.getD_eq_getElem?_getD, List.getElem?_eq_getElem hj]) (by simp [pv, Value.oneCell']) (by unfold maxLen; omega) (by omega) hbase
    have hlen' : (xs ++ ys).length = n + m := by rw [List.length_append, hown.len, hr.len]
    have hex : ∃ A1 c1, v' = .slice A1 (n + m) c1 := by
      rcases h2.2 with ⟨h6, h7⟩ | ⟨g, cap, cur, h6, _⟩
      · exact ⟨none, 0, by rw [h6, h7]⟩
      · exact ⟨_, _, h6⟩
    obtain ⟨A1, c1, rfl⟩ := hex
    have ho1 : POwn w' base A1 (n + m) c1 (xs ++ ys) := ⟨hlen', by simpa using h2⟩
    have hAA : A1 = A ∨ A1 = some ⟨w.heap.size, 0, none⟩ := by
      rcases h5 with h5 | h5
      · left
        rcases ho1.form with ⟨rfl, _⟩ | ⟨g, rfl, _⟩ <;> rcases hown.form with ⟨rfl, _⟩ | ⟨g', rfl, _⟩ <;> simp [Value.ownBlock] at h5 ⊢
        exact h5
      · right
        rcases ho1.form with ⟨rfl, _⟩ | ⟨g, rfl, _⟩ <;> simp [Value.ownBlock] at h5 ⊢
        exact h5
    have hh := h A1 c1 w' ho1 ⟨_, h3, by
      intro g hg
      rcases hown.form with ⟨rfl, _, _⟩ | ⟨g', rfl, hb', _, _⟩
      · simp [Value.ownBlock] at hg
      · simp [Value.ownBlock] at hg; subst hg; exact ⟨hb', rfl⟩⟩ hAA
    unfold Oper.wp
    simp only [execOp, ho, resolve, invoke, builtin, Sem.run_bind, Sem.run_pure, Result.andThen_ok, List.map_toArray, List.map_cons, List.map_nil, hs, hx, hrun]
    exact hh
theorem wpList_appP {w : World} {ops : Array Oper} {rest : List Oper} {o : Oper} {a : Act} {Q : Exit → Act → World → Prop} (hgd : Region.wanted o (yielded ops a.tmps) = true) (s x : Operand)
    (ho : o.op = .call { callee := .builtin .append, args := #[s, x], argTypes := #[63, 63] })
    (base : Nat) (A : Option Addr) (n c : Nat) (xs : List Nat) (hs : a.eval s = .slice A n c) (hown : POwn w base A n c xs)
    (B : Nat) (A' : Option Addr) (m c' : Nat) (ys : List Nat) (hx : a.eval x = .slice A' m c') (hr : PLs w B A' m c' ys)
    (hlen : n + m ≤ 1099511627776) (hbase : base ≤ w.heap.size)
    (h : ∀ A1 c1 w', POwn w' base A1 (n + m) c1 (xs ++ ys) → (∃ row, w.grownBy w' row ∧ ∀ g, row = some g → base ≤ g ∧ A = some ⟨g, 0, none⟩) → (A1 = A ∨ A1 = some ⟨w.heap.size, 0, none⟩) → wpList Try.prog ops Q rest (a.put o.dst (.slice A1 (n + m) c1)) w') :
    wpList Try.prog ops Q (o :: rest) a w :=
  BigFrame.wpList_want hgd fun _ hK => wp_appP s x ho base A n c xs hs hown B A' m c' ys hx hr hlen hbase fun A1 c1 w' h1 h2 h3 => hK _ _ (h A1 c1 w' h1 h2 h3)
theorem step_appP {w : World} {ops : Array Oper} {o : Oper} {a : Act} {K : Act → World → Prop} {Q : Exit → Act → World → Prop} {E : Prop} (hgd : o.guard = none) (s x : Operand)
    (ho : o.op = .call { callee := .builtin .append, args := #[s, x], argTypes := #[63, 63] })
    (base : Nat) (A : Option Addr) (n c : Nat) (xs : List Nat) (hs : a.eval s = .slice A n c) (hown : POwn w base A n c xs)
    (B : Nat) (A' : Option Addr) (m c' : Nat) (ys : List Nat) (hx : a.eval x = .slice A' m c') (hr : PLs w B A' m c' ys)
    (hlen : n + m ≤ 1099511627776) (hbase : base ≤ w.heap.size)
    (h : ∀ A1 c1 w', POwn w' base A1 (n + m) c1 (xs ++ ys) → (∃ row, w.grownBy w' row ∧ ∀ g, row = some g → base ≤ g ∧ A = some ⟨g, 0, none⟩) → (A1 = A ∨ A1 = some ⟨w.heap.size, 0, none⟩) → K (a.put o.dst (.slice A1 (n + m) c1)) w') :
    if Region.wanted o (yielded ops a.tmps) = true then Oper.wp Try.prog o a w K Q else E := by
  have hw : Region.wanted o (yielded ops a.tmps) = true := by simp [Region.wanted, hgd]
  rw [if_pos hw]
  exact wp_appP s x ho base A n c xs hs hown B A' m c' ys hx hr hlen hbase h

/-! Trees in memory -/
def Tr.kids : Tr → List Tr
  | .leaf _ => []
  | .star a => [a]
  | .bin _ a b => [a, b]
theorem Tr.steps_kids (t : Tr) : t.steps = t.kids.flatMap Tr.steps ++ [t.last] := by cases t <;> simp [Tr.steps, Tr.kids, Tr.last]
theorem Tr.kid_ok {t : Tr} (h : t.ok) {j : Nat} (hj : j < t.kids.length) : (t.kids.getD j (.leaf 0)).ok := by
  cases t with
  | leaf s => simp [Tr.kids] at hj
  | star a => simp [Tr.kids] at hj; subst hj; exact h
  | bin s a b =>
    simp [Tr.kids] at hj
    have : j = 0 ∨ j = 1 := by omega
    rcases this with rfl | rfl
    · exact h.2.1
    · exact h.2.2
theorem Tr.kid_size {t : Tr} {j : Nat} (hj : j < t.kids.length) : (t.kids.getD j (.leaf 0)).size < t.size := by
  cases t with
  | leaf s => simp [Tr.kids] at hj
  | star a => simp [Tr.kids] at hj; subst hj; simp [Tr.kids, Tr.size]
  | bin s a b =>
    simp [Tr.kids] at hj
    have : j = 0 ∨ j = 1 := by omega
    rcases this with rfl | rfl <;> simp [Tr.kids, Tr.size] <;> omega
theorem Tr.kids_le (t : Tr) : t.kids.length ≤ 2 := by cases t <;> simp [Tr.kids]
theorem Tr.last_wf {t : Tr} (h : t.ok) : 0 ≤ t.last ∧ t.last ≤ 21 := by
  cases t with
  | leaf s => obtain ⟨h0, h1⟩ := h; simp [Tr.last]; omega
  | star a => simp [Tr.last]
  | bin s a b => obtain ⟨h0, _⟩ := h; simp [Tr.last]; omega

/-- A tree's node at block g: its step and its kids; no block of it is in X. -/
def nodeAt (w : World) (X : Nat → Prop) (g : Nat) (s : Int) (gs : List Nat) : Prop :=
  ∃ A c, w.heap[g]? = some (.cells #[.int .i64 s, .slice A gs.length c] 65 (0, 0)) ∧ ¬ X g ∧ gs.length ≤ c ∧ c ≤ maxLen ∧
    ∀ j, j < gs.length → ∃ gk C, A = some ⟨gk, 0, none⟩ ∧ ¬ X gk ∧ w.heap[gk]? = some (.cells C 47 (0, 0)) ∧ C[j]? = some (pv (gs.getD j 0))
def isT (w : World) (X : Nat → Prop) : Tr → Nat → Prop
  | .leaf s, g => nodeAt w X g s []
  | .star a, g => ∃ ga, nodeAt w X g 21 [ga] ∧ isT w X a ga
  | .bin s a b, g => ∃ ga gb, nodeAt w X g s [ga, gb] ∧ isT w X a ga ∧ isT w X b gb
theorem nodeAt.keep {w w' : World} {X Y : Nat → Prop} {g : Nat} {s : Int} {gs : List Nat} (h : nodeAt w X g s gs) (hY : ∀ k, k < w.heap.size → ¬ X k → ¬ Y k ∧ w'.heap[k]? = w.heap[k]?) : nodeAt w' Y g s gs := by
  obtain ⟨A, c, h1, h2, h3, h4, h5⟩ := h
  obtain ⟨k1, k2⟩ := hY g (lt_of_block h1) h2
  refine ⟨A, c, by rw [k2]; exact h1, k1, h3, h4, fun j hj => ?_⟩
  obtain ⟨gk, C, e, hx, hg, hC⟩ := h5 j hj
  obtain ⟨k3, k4⟩ := hY gk (lt_of_block hg) hx
  exact ⟨gk, C, e, k3, by rw [k4]; exact hg, hC⟩
theorem isT.keep {w w' : World} {X Y : Nat → Prop} {t : Tr} {g : Nat} (h : isT w X t g) (hY : ∀ k, k < w.heap.size → ¬ X k → ¬ Y k ∧ w'.heap[k]? = w.heap[k]?) : isT w' Y t g := by
  induction t generalizing g with
  | leaf s => exact nodeAt.keep h hY
  | star a ih => obtain ⟨ga, h1, h2⟩ := h; exact ⟨ga, h1.keep hY, ih h2⟩
  | bin s a b iha ihb => obtain ⟨ga, gb, h1, h2, h3⟩ := h; exact ⟨ga, gb, h1.keep hY, iha h2, ihb h3⟩
theorem isT.since {w w' : World} {X : Nat → Prop} {t : Tr} {g : Nat} (h : isT w X t g) (s : Since w w') : isT w' X t g := h.keep fun k hk hx => ⟨hx, s.below.block k hk⟩
theorem isT.node {w : World} {X : Nat → Prop} {t : Tr} {g : Nat} (h : isT w X t g) : ∃ gs, gs.length = t.kids.length ∧ nodeAt w X g t.last gs ∧ ∀ j, j < gs.length → isT w X (t.kids.getD j (.leaf 0)) (gs.getD j 0) := by
  cases t with
  | leaf s => exact ⟨[], rfl, h, fun j hj => by simp at hj⟩
  | star a =>
    obtain ⟨ga, h1, h2⟩ := h
    exact ⟨[ga], rfl, h1, fun j hj => by simp at hj; subst hj; exact h2⟩
  | bin s a b =>
    obtain ⟨ga, gb, h1, h2, h3⟩ := h
    refine ⟨[ga, gb], rfl, h1, fun j hj => ?_⟩
    simp at hj
    have : j = 0 ∨ j = 1 := by omega
    rcases this with rfl | rfl
    · exact h2
    · exact h3
theorem isT_mk {w : World} {X : Nat → Prop} {t : Tr} {g : Nat} {gs : List Nat} (hl : gs.length = t.kids.length) (h : nodeAt w X g t.last gs) (hk : ∀ j, j < gs.length → isT w X (t.kids.getD j (.leaf 0)) (gs.getD j 0)) : isT w X t g := by
  cases t with
  | leaf s =>
    obtain rfl : gs = [] := List.eq_nil_of_length_eq_zero hl
    exact h
  | star a =>
    match gs, hl with
    | [ga], _ => exact ⟨ga, h, hk 0 (by simp)⟩
  | bin s a b =>
    match gs, hl with
    | [ga, gb], _ => exact ⟨ga, gb, h, hk 0 (by simp), hk 1 (by simp)⟩
end Go.Proofs.Ytlnkkjmejmhaiaa
