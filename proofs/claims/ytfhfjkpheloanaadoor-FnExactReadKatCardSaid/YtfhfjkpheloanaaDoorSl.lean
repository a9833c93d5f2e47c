/-
  Slices of integers: what the walks say of them; append; over the seat's numbers.
-/
import Derived.Test.YtfhfjkpheloanaaDoorRows
import Derived.Test.YtfhfjkpheloanaaDoorBase
import Derived.Maps.AppendAt
import Derived.Laws.AppendOwnNone
import Derived.OwnWalk
namespace Go.Proofs.YtfhfjkpheloanaaDoor
open Go.RowKit
set_option linter.unusedVariables false

/-- The slice '.slice A n c' reads as the integers xs and lies below block B. -/
structure Ls (w : World) (B : Nat) (A : Option Addr) (n c : Nat) (xs : List Int) : Prop where
  len : xs.length = n
  cap : n ≤ c
  big : c ≤ maxLen
  cells : 0 < n → ∃ b off, A = some ⟨b, off, none⟩ ∧ b < B ∧ ∀ i, i < n → w.cell? ⟨b, off + i, none⟩ = some (.int .i64 (xs.getD i 0))
  fit : ∀ x ∈ xs, (Lit.int .i64 x).wf = true

/-- Behind w nothing that was there has turned. -/
def Since (w w' : World) : Prop := Below w.heap.size w w'
theorem Since.below {w w' : World} (h : Since w w') : Below w.heap.size w w' := h
theorem Since.refl (w : World) : Since w w := Below.refl _ _
theorem Since.trans {a b c : World} (h : Since a b) (k : Since b c) : Since a c := Below.trans h (Below.mono k h.below.size)
theorem Since.alloc {a b : World} (h : Since a b) (o : Obj) : Since a (b.alloc o) := Below.alloc h h.below.size o
theorem Since.drewN {a b : World} (h : Since a b) (n : Nat) : Since a (b.drewN n) := ⟨h.below.os, h.below.tape, h.below.output, h.below.size, h.below.block⟩
theorem Since.drew {a b : World} (h : Since a b) : Since a b.drew := Below.drew h
theorem Since.setCell {a b : World} (h : Since a b) {p : Addr} (hp : a.heap.size ≤ p.block) (u : Value) : Since a (b.setCell p u) := Below.setCell h hp u
theorem Since.grown {a b c : World} (h : Since a b) {row : Option Nat} (hg : b.grownBy c row) (hr : ∀ k, row = some k → a.heap.size ≤ k) : Since a c := Below.grown h hg h.below.size hr
theorem Since.size {w w' : World} (h : Since w w') : w.heap.size ≤ w'.heap.size := h.below.size
theorem Since.of {w w' : World} {B : Nat} (h : Below B w w') (hB : w.heap.size ≤ B) : Since w w' := Below.mono h hB

section
variable {w w' : World} {B B' n c : Nat} {A : Option Addr} {xs : List Int}
theorem Ls.nil (w : World) (B : Nat) : Ls w B none 0 0 [] := ⟨rfl, Nat.le_refl _, Nat.zero_le _, fun h => absurd h (by omega), by simp⟩
theorem Ls.keep (h : Ls w B A n c xs) (hk : ∀ p : Addr, p.block < B → w'.cell? p = w.cell? p) : Ls w' B A n c xs :=
  ⟨h.len, h.cap, h.big, fun hn => by
    obtain ⟨b, off, e, hb, hc⟩ := h.cells hn
    exact ⟨b, off, e, hb, fun i hi => (hk _ hb).trans (hc i hi)⟩, h.fit⟩
theorem Ls.more (h : Ls w B A n c xs) (hB : B ≤ B') : Ls w B' A n c xs :=
  ⟨h.len, h.cap, h.big, fun hn => by
    obtain ⟨b, off, e, hb, hc⟩ := h.cells hn
    exact ⟨b, off, e, by omega, hc⟩, h.fit⟩
theorem Ls.below (h : Ls w B A n c xs) (hb : Below B w w') : Ls w' B A n c xs := h.keep fun _ hp => hb.cell hp
theorem Ls.since (h : Ls w w.heap.size A n c xs) (hb : Since w w') : Ls w' w'.heap.size A n c xs := (h.below hb).more hb.size
theorem Ls.alloc (h : Ls w B A n c xs) (hB : B ≤ w.heap.size) (o : Obj) : Ls (w.alloc o) B A n c xs := h.keep fun p hp => World.cell?_alloc_lt w o p (by omega)
theorem Ls.setCell (h : Ls w B A n c xs) {p : Addr} (hB : B ≤ p.block) (u : Value) : Ls (w.setCell p u) B A n c xs :=
  h.keep fun q hq => World.cell?_setCell_other w p q u (fun e => by subst e; omega)
theorem Ls.drewN (h : Ls w B A n c xs) (k : Nat) : Ls (w.drewN k) B A n c xs := h.keep fun _ _ => rfl
theorem Ls.at_ (h : Ls w B A n c xs) {k : Nat} (hk : k < n) : ∃ b off v, A = some ⟨b, off, none⟩ ∧ b < B ∧ w.cell? ⟨b, off + k, none⟩ = some (.int .i64 v) ∧ Hid (xs.getD k 0 = v) := by
  obtain ⟨b, off, e, hb, hc⟩ := h.cells (by omega)
  exact ⟨b, off, _, e, hb, hc k hk, rfl⟩
theorem Ls.bd (h : Ls w B A n c xs) (k : Nat) : -9223372036854775808 ≤ xs.getD k 0 ∧ xs.getD k 0 ≤ 9223372036854775807 := by
  by_cases hk : k < xs.length
  · have := h.fit (xs.getD k 0) (by rw [List.getD_eq_getElem?_getD, List.getElem?_eq_getElem hk]; simp)
    exact bounds_i64 this
  · rw [List.getD_eq_getElem?_getD, List.getElem?_eq_none (by omega)]; simp
/-- The slice from its beginning on. -/
theorem Ls.take (h : Ls w B A n c xs) {k : Nat} (hk : k ≤ n) : Ls w B A k c (xs.take k) :=
  ⟨by rw [List.length_take, h.len]; omega, by have := h.cap; omega, h.big, fun hn => by
    obtain ⟨b, off, e, hb, hc⟩ := h.cells (by omega)
    refine ⟨b, off, e, hb, fun i hi => ?_⟩
    rw [hc i (by omega)]
    simp [List.getD_eq_getElem?_getD, hi], fun x hx => h.fit x (List.mem_of_mem_take hx)⟩
/-- The slice from a place on. -/
theorem Ls.drop (h : Ls w B A n c xs) {k : Nat} (hk : k ≤ n) : Ls w B (if c = k then A else A.map (·.add (k * 1))) (n - k) (c - k) (xs.drop k) :=
  ⟨by rw [List.length_drop, h.len], by have := h.cap; omega, by have := h.big; omega, fun hn => by
    obtain ⟨b, off, rfl, hb, hc⟩ := h.cells (by omega)
    have := h.cap
    rw [if_neg (by omega)]
    refine ⟨b, off + k, by simp [add_at], hb, fun i hi => ?_⟩
    rw [Nat.add_assoc, hc (k + i) (by omega)]
    simp [List.getD_eq_getElem?_getD], fun x hx => h.fit x (List.mem_of_mem_drop hx)⟩
end

theorem Ls.of_row {w : World} {a : Option Addr} {len cap : Nat} {zs : List Int} (h : RowIn .i64 w a len cap zs) : Ls w w.heap.size a len cap (zs.take len) := by
  rcases h with ⟨rfl, rfl, rfl, rfl⟩ | ⟨x, rfl, hl, hm, hz, hc, hwz⟩
  · exact Ls.nil _ _
  · refine ⟨by rw [List.length_take]; omega, hl, hm, fun hn => ?_, fun x hx => hwz x (List.mem_of_mem_take hx)⟩
    obtain ⟨b, off, spot⟩ := x
    have hc0 := hc 0 (by omega)
    have hspot : spot = none := by simpa [Addr.add] using World.cell?_spot hc0
    subst hspot
    refine ⟨b, off, rfl, World.block_lt_of_cell? w _ hc0, fun i hi => ?_⟩
    rw [← add_at, hc i (by omega)]
    simp [List.getD_eq_getElem?_getD, hi]

/-- The slice '.slice A n c' is nil or the head of a row of the call's own, from block base on; it reads as xs. -/
structure Own (w : World) (base : Nat) (A : Option Addr) (n c : Nat) (xs : List Int) : Prop where
  len : xs.length = n
  own : w.ownsRow base 3 1 (.slice A n c) n (xs.map (Value.int .i64))
  fit : ∀ x ∈ xs, (Lit.int .i64 x).wf = true

section
variable {w w' : World} {base n c : Nat} {A : Option Addr} {xs : List Int}
theorem Own.nil (w : World) (base : Nat) : Own w base none 0 0 [] := ⟨rfl, World.ownsRow_nil _ _ _ _, by simp⟩
theorem Own.form (h : Own w base A n c xs) : (A = none ∧ n = 0 ∧ c = 0) ∨ ∃ g, A = some ⟨g, 0, none⟩ ∧ base ≤ g ∧ g < w.heap.size ∧ n ≤ c := by
  rcases h.own.2 with ⟨h1, h2⟩ | ⟨g, cap, cur, h1, h2, h3, h4, _⟩
  · injection h1 with h1 h5 h6; exact .inl ⟨h1, h5, h6⟩
  · injection h1 with h1 h5 h6; subst h6; exact .inr ⟨g, h1, h2, lt_of_block h3, h4⟩
theorem Own.ls (h : Own w base A n c xs) : Ls w w.heap.size A n c xs := by
  rcases h.own.2 with ⟨h1, h2⟩ | ⟨g, cap, cur, h1, h2, h3, h4, h5, h6, h7⟩
  · injection h1 with h1 h5 h6; subst h1 h5 h6
    have := h.len
    obtain rfl : xs = [] := List.eq_nil_of_length_eq_zero this
    exact Ls.nil _ _
  · injection h1 with h1 h8 h9; subst h9
    refine ⟨h.len, h4, h5, fun hn => ⟨g, 0, h1, lt_of_block h3, fun i hi => ?_⟩, h.fit⟩
    have h10 := h.own.cells (g := g) (by rw [h1]; rfl) i (.int .i64 (xs.getD i 0)) (by
      rw [List.getElem?_map, List.getElem?_eq_getElem (by rw [h.len]; exact hi)]
      simp [List.getD_eq_getElem?_getD, List.getElem?_eq_getElem (show i < xs.length by rw [h.len]; exact hi)])
    rw [add_at] at h10
    exact h10
theorem Own.keep {row : Option Nat} (h : Own w base A n c xs) (hg : w.grownBy w' row) (hne : ∀ g, A = some ⟨g, 0, none⟩ → row ≠ some g) : Own w' base A n c xs :=
  ⟨h.len, h.own.kept hg (by
    rcases h.form with ⟨rfl, _, _⟩ | ⟨g, rfl, _, _, _⟩
    · exact .inl rfl
    · right
      have := hne g rfl
      intro e
      exact this (by rw [← e]; rfl)), h.fit⟩
theorem Own.since (h : Own w base A n c xs) (hb : Since w w') : Own w' base A n c xs :=
  h.keep (row := none) ⟨hb.below.os, hb.below.tape, hb.below.output, hb.size, fun k hk _ => hb.below.block k hk⟩ (by simp)
theorem Own.free {g : Nat} (h : Own w base (some ⟨g, 0, none⟩) n c xs) (i : Nat) : w.frozen? ⟨g, i, none⟩ = false := by
  rcases h.own.2 with ⟨h1, h2⟩ | ⟨g', cap, cur, h1, h2, h3, h4⟩
  · cases h1
  · injection h1 with h1 h5 h6; injection h1 with h1; injection h1 with h1; subst h1; exact free_at h3
theorem Own.set_ {g : Nat} (h : Own w base (some ⟨g, 0, none⟩) n c xs) {i : Nat} (hi : i < n) {v : Int} (hv : (Lit.int .i64 v).wf = true) : Own (w.setCell ⟨g, i, none⟩ (.int .i64 v)) base (some ⟨g, 0, none⟩) n c (xs.set i v) := by
  refine ⟨by simp [h.len], ⟨by simp [h.len], ?_⟩, ?_⟩
  · rcases h.own.2 with ⟨h1, h2⟩ | ⟨g', cap, cur, h1, h2, h3, h4, h5, h6, h7⟩
    · cases h1
    · injection h1 with h1 h8 h9; injection h1 with h1; injection h1 with h1; subst h1; subst h9
      refine .inr ⟨g, c, _, rfl, h2, block_setCell h3, h4, h5, by simp [h6], ?_⟩
      rw [Array.toList_setIfInBounds, List.take_set, h7, List.map_set]
  · intro x hx
    rcases List.mem_or_eq_of_mem_set hx with hx | rfl
    · exact h.fit x hx
    · exact hv
theorem Own.at_ {g : Nat} (h : Own w base (some ⟨g, 0, none⟩) n c xs) {k : Nat} (hk : k < n) : ∃ v, w.cell? ⟨g, k, none⟩ = some (.int .i64 v) ∧ Hid (xs.getD k 0 = v) := by
  obtain ⟨b, off, v, e, _, hc, hv⟩ := h.ls.at_ hk
  injection e with e
  injection e with e1 e2
  subst e1 e2
  rw [Nat.zero_add] at hc
  exact ⟨v, hc, hv⟩
theorem Own.alloc (h : Own w base A n c xs) (o : Obj) : Own (w.alloc o) base A n c xs := ⟨h.len, h.own.alloc o, h.fit⟩
theorem Own.drew (h : Own w base A n c xs) : Own w.drew base A n c xs := ⟨h.len, h.own, h.fit⟩
theorem Own.drewN (h : Own w base A n c xs) (k : Nat) : Own (w.drewN k) base A n c xs := ⟨h.len, h.own, h.fit⟩
theorem Own.lower {base' : Nat} (h : Own w base A n c xs) (hb : base' ≤ base) : Own w base' A n c xs := by
  refine ⟨h.len, ⟨h.own.1, ?_⟩, h.fit⟩
  rcases h.own.2 with h1 | ⟨g, cap, cur, h1, h2, h3⟩
  · exact .inl h1
  · exact .inr ⟨g, cap, cur, h1, by omega, h3⟩
end

theorem int_info : (Tryd.prog.info? 3).map (fun i => (i.zero, i.size, i.bytes)) = some (some (.int .i64 0), 1, 8) := by kernel_rfl

theorem Ls.one (w : World) (x : Int) (hx : (Lit.int .i64 x).wf = true) (E : TypeId) : Ls (w.alloc (.cells #[.int .i64 x] E)) (w.heap.size + 1) (some ⟨w.heap.size, 0, none⟩) 1 1 [x] :=
  ⟨rfl, Nat.le_refl _, by decide, fun _ => ⟨w.heap.size, 0, rfl, by omega, fun i hi => by
    obtain rfl : i = 0 := by omega
    rw [cell_at (heap_alloc_new w _)]; rfl⟩, by simpa using hx⟩
theorem Ls.two (w : World) (x y : Int) (hx : (Lit.int .i64 x).wf = true) (hy : (Lit.int .i64 y).wf = true) (E : TypeId) : Ls (w.alloc (.cells #[.int .i64 x, .int .i64 y] E)) (w.heap.size + 1) (some ⟨w.heap.size, 0, none⟩) 2 2 [x, y] :=
  ⟨rfl, Nat.le_refl _, by decide, fun _ => ⟨w.heap.size, 0, rfl, by omega, fun i hi => by
    have : i = 0 ∨ i = 1 := by omega
    rcases this with rfl | rfl <;> (rw [cell_at (heap_alloc_new w _)]; rfl)⟩, by
    intro z hz
    simp at hz
    rcases hz with rfl | rfl
    · exact hx
    · exact hy⟩
theorem Ls.lit (w : World) (x : Int) (hx : (Lit.int .i64 x).wf = true) (E : TypeId) : Ls (w.alloc (.cells #[.int .i64 x] E)) (w.alloc (.cells #[.int .i64 x] E)).heap.size (some ⟨w.heap.size, 0, none⟩) 1 1 [x] := (Ls.one w x hx E).more (by simp)
theorem Ls.alloc_ {w : World} {A : Option Addr} {n c : Nat} {xs : List Int} (h : Ls w w.heap.size A n c xs) (o : Obj) : Ls (w.alloc o) (w.alloc o).heap.size A n c xs := (h.alloc (Nat.le_refl _) o).more (by simp)
theorem Own.zero (w : World) : Own (w.alloc (.cells #[] 3)) w.heap.size (some ⟨w.heap.size, 0, none⟩) 0 0 [] :=
  ⟨rfl, ⟨rfl, .inr ⟨w.heap.size, 0, #[], rfl, Nat.le_refl _, heap_alloc_new w _, Nat.le_refl _, Nat.zero_le _, rfl, rfl⟩⟩, by simp⟩
/-- What an append leaves of what was there before a base. -/
theorem Since.app {w0 w w' : World} {base : Nat} {A : Option Addr} (h : Since w0 w) (hb : w0.heap.size ≤ base) (hg : ∃ row, w.grownBy w' row ∧ ∀ g, row = some g → base ≤ g ∧ A = some ⟨g, 0, none⟩) : Since w0 w' := by
  obtain ⟨row, hg, hr⟩ := hg
  exact h.grown hg fun k hk => Nat.le_trans hb (hr k hk).1

/-- append of integers to a slice of the call's own. -/
theorem wp_app {w : World} {o : Oper} {a : Act} {K : Act → World → Prop} {Q : Exit → Act → World → Prop} (s x : Operand)
    (ho : o.op = .call { callee := .builtin .append, args := #[s, x], argTypes := #[22, 22] })
    (base : Nat) (A : Option Addr) (n c : Nat) (xs : List Int) (hs : a.eval s = .slice A n c) (hown : Own w base A n c xs)
    (B : Nat) (A' : Option Addr) (m c' : Nat) (ys : List Int) (hx : a.eval x = .slice A' m c') (hr : Ls w B A' m c' ys)
    (hlen : n + m ≤ 1099511627776) (hbase : base ≤ w.heap.size)
    (h : ∀ A1 c1 w', Own w' base A1 (n + m) c1 (xs ++ ys) → (∃ row, w.grownBy w' row ∧ ∀ g, row = some g → base ≤ g ∧ A = some ⟨g, 0, none⟩) → K (a.put o.dst (.slice A1 (n + m) c1)) w') :
    o.wp Tryd.prog a w K Q := by
  obtain ⟨i0, hi, hz0, hz1, hz2⟩ := info_parts int_info
  have hfit : ∀ z ∈ xs ++ ys, (Lit.int .i64 z).wf = true := by
    intro z hz
    rcases List.mem_append.1 hz with hz | hz
    · exact hown.fit z hz
    · exact hr.fit z hz
  cases A' with
  | none =>
    have hm : m = 0 := by
      rcases Nat.eq_zero_or_pos m with h0 | h0
      · exact h0
      · obtain ⟨b, off, e, _⟩ := hr.cells h0
        cases e
    subst hm
    obtain rfl : ys = [] := List.eq_nil_of_length_eq_zero hr.len
    have hrun : (Builtin.append_ #[22, 22] o.type #[.slice A n c, .slice none 0 c']).run Tryd.prog w = .ok (.slice A n c) w := by
      rcases hown.own.2 with ⟨h1, h2⟩ | ⟨g, cap, cur, h1, _, _, hnc, _⟩
      · injection h1 with h1 h5 h6; subst h1 h5 h6
        simp [Builtin.append_, run_underlying Tryd.underlying22, sizeOf, typeInfo, hi, Builtin.lenOf, Builtin.firstCells]
      · injection h1 with h1 h5 h6; subst h1 h6
        simp [Builtin.append_, run_underlying Tryd.underlying22, sizeOf, typeInfo, hi, Builtin.lenOf, Builtin.firstCells, hnc, storeCells]
    have hh := h A c w (by simpa using hown) ⟨none, grown_refl _ _, by simp⟩
    unfold Oper.wp
    simp only [execOp, ho, resolve, invoke, builtin, Sem.run_bind, Sem.run_pure, Result.andThen_ok, List.map_toArray, List.map_cons, List.map_nil, hs, hx, hrun]
    exact hh
  | some ad =>
    obtain ⟨v', w', hrun, h2, h3, h4, h5⟩ := run_append_own_at (P := Tryd.prog) w base 22 o.type 3 i0 (.int .i64 0) 1 8 Tryd.underlying22 hi hz0 hz1 hz2 rfl (by decide) (.slice A n c) n (xs.map (Value.int .i64)) hown.own
      ad m c' (ys.map (Value.int .i64)) (by simp [hr.len]) (by
        intro j u hu
        have hj : j < ys.length := by
          have := (List.getElem?_eq_some_iff.1 hu).1
          simpa using this
        obtain ⟨b, off, e, hb, hc⟩ := hr.cells (by have := hr.len; omega)
        injection e with e
        subst e
        rw [add_at, hc j (by rw [← hr.len]; exact hj)]
        rw [List.getElem?_map, List.getElem?_eq_getElem hj] at hu
        simp at hu
        rw [← hu]
        simp [List.getD_eq_getElem?_getD, List.getElem?_eq_getElem hj]) (by simp [Value.oneCell']) (by unfold maxLen; omega) (by omega) hbase
    have hlen' : (xs ++ ys).length = n + m := by rw [List.length_append, hown.len, hr.len]
    have hex : ∃ A1 c1, v' = .slice A1 (n + m) c1 := by
      rcases h2.2 with ⟨h6, h7⟩ | ⟨g, cap, cur, h6, _⟩
      · exact ⟨none, 0, by rw [h6, h7]⟩
      · exact ⟨_, _, h6⟩
    obtain ⟨A1, c1, rfl⟩ := hex
    have hh := h A1 c1 w' ⟨hlen', by simpa using h2, hfit⟩ ⟨_, h3, by
      intro g hg
      rcases hown.form with ⟨rfl, _, _⟩ | ⟨g', rfl, hb', _, _⟩
      · simp [Value.ownBlock] at hg
      · simp [Value.ownBlock] at hg; subst hg; exact ⟨hb', rfl⟩⟩
    unfold Oper.wp
    simp only [execOp, ho, resolve, invoke, builtin, Sem.run_bind, Sem.run_pure, Result.andThen_ok, List.map_toArray, List.map_cons, List.map_nil, hs, hx, hrun]
    exact hh
/-- .. as the next operation of a list. -/
theorem wpList_app {w : World} {ops : Array Oper} {rest : List Oper} {o : Oper} {a : Act} {Q : Exit → Act → World → Prop} (hgd : Region.wanted o (yielded ops a.tmps) = true) (s x : Operand)
    (ho : o.op = .call { callee := .builtin .append, args := #[s, x], argTypes := #[22, 22] })
    (base : Nat) (A : Option Addr) (n c : Nat) (xs : List Int) (hs : a.eval s = .slice A n c) (hown : Own w base A n c xs)
    (B : Nat) (A' : Option Addr) (m c' : Nat) (ys : List Int) (hx : a.eval x = .slice A' m c') (hr : Ls w B A' m c' ys)
    (hlen : n + m ≤ 1099511627776) (hbase : base ≤ w.heap.size)
    (h : ∀ A1 c1 w', Own w' base A1 (n + m) c1 (xs ++ ys) → (∃ row, w.grownBy w' row ∧ ∀ g, row = some g → base ≤ g ∧ A = some ⟨g, 0, none⟩) → wpList Tryd.prog ops Q rest (a.put o.dst (.slice A1 (n + m) c1)) w') :
    wpList Tryd.prog ops Q (o :: rest) a w :=
  BigFrame.wpList_want hgd fun _ hK => wp_app s x ho base A n c xs hs hown B A' m c' ys hx hr hlen hbase fun A1 c1 w' h1 h2 => hK _ _ (h A1 c1 w' h1 h2)
/-- .. in a region that draws its order. -/
theorem step_app {w : World} {ops : Array Oper} {o : Oper} {a : Act} {K : Act → World → Prop} {Q : Exit → Act → World → Prop} {E : Prop} (hgd : o.guard = none) (s x : Operand)
    (ho : o.op = .call { callee := .builtin .append, args := #[s, x], argTypes := #[22, 22] })
    (base : Nat) (A : Option Addr) (n c : Nat) (xs : List Int) (hs : a.eval s = .slice A n c) (hown : Own w base A n c xs)
    (B : Nat) (A' : Option Addr) (m c' : Nat) (ys : List Int) (hx : a.eval x = .slice A' m c') (hr : Ls w B A' m c' ys)
    (hlen : n + m ≤ 1099511627776) (hbase : base ≤ w.heap.size)
    (h : ∀ A1 c1 w', Own w' base A1 (n + m) c1 (xs ++ ys) → (∃ row, w.grownBy w' row ∧ ∀ g, row = some g → base ≤ g ∧ A = some ⟨g, 0, none⟩) → K (a.put o.dst (.slice A1 (n + m) c1)) w') :
    if Region.wanted o (yielded ops a.tmps) = true then Oper.wp Tryd.prog o a w K Q else E := by
  have hw : Region.wanted o (yielded ops a.tmps) = true := by simp [Region.wanted, hgd]
  rw [if_pos hw]
  exact wp_app s x ho base A n c xs hs hown B A' m c' ys hx hr hlen hbase h
end Go.Proofs.YtfhfjkpheloanaaDoor
