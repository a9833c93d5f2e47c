/-
  Lists of lists of integers in memory: read, owned, appended to.
-/
import Derived.Test.YtlnkkjmejmhaiaaSlices
import Derived.Test.YtlnkkjmejmhaiaaBack
namespace Go.Proofs.Ytlnkkjmejmhaiaa
open Go.RowKit
set_option linter.unusedVariables false
set_option maxHeartbeats 400000

theorem sl_info : (Try.prog.info? 22).map (fun i => (i.zero, i.size, i.bytes)) = some (some (.slice none 0 0), 1, 24) := by kernel_rfl
/-- a slice -/
def isSl (v : Value) : Prop := ∃ A n c, v = .slice A n c
theorem isSl.oneCell {v : Value} (h : isSl v) : v.oneCell' = true := by obtain ⟨A, n, c, rfl⟩ := h; simp [Value.oneCell']
def nilS : Value := .slice none 0 0

/-- The slice reads as the slices vs and lies below block B. -/
structure SLs (w : World) (B : Nat) (A : Option Addr) (n c : Nat) (vs : List Value) : Prop where
  len : vs.length = n
  cap : n ≤ c
  big : c ≤ maxLen
  one : ∀ v ∈ vs, isSl v
  cells : 0 < n → ∃ b off, A = some ⟨b, off, none⟩ ∧ b < B ∧ ∀ i, i < n → w.cell? ⟨b, off + i, none⟩ = some (vs.getD i nilS)
/-- The slice is nil or the head of a row of the call's own. -/
structure SOwn (w : World) (base : Nat) (A : Option Addr) (n c : Nat) (vs : List Value) : Prop where
  len : vs.length = n
  one : ∀ v ∈ vs, isSl v
  own : w.ownsRow base 22 1 (.slice A n c) n vs
theorem getD_mem {α : Type} {l : List α} {i : Nat} {d : α} (h : i < l.length) : l.getD i d ∈ l := by
  rw [List.getD_eq_getElem?_getD, List.getElem?_eq_getElem h]; simp
theorem getD_app {α : Type} (l m : List α) (i : Nat) (d : α) : (l ++ m).getD i d = if i < l.length then l.getD i d else m.getD (i - l.length) d := by
  simp only [List.getD_eq_getElem?_getD, List.getElem?_append]
  split <;> rfl
theorem getD_take_ {α : Type} (l : List α) (k i : Nat) (d : α) (h : i < k) : (l.take k).getD i d = l.getD i d := by
  simp [List.getD_eq_getElem?_getD, h]
theorem getD_drop_ {α : Type} (l : List α) (k i : Nat) (d : α) : (l.drop k).getD i d = l.getD (k + i) d := by
  simp [List.getD_eq_getElem?_getD]
section
variable {w w' : World} {B B' base n c : Nat} {A : Option Addr} {vs : List Value}
theorem SLs.nil (w : World) (B : Nat) : SLs w B none 0 0 [] := ⟨rfl, Nat.le_refl _, by decide, by simp, fun h => by omega⟩
theorem SLs.keep (h : SLs w B A n c vs) (hk : ∀ p : Addr, p.block < B → w'.cell? p = w.cell? p) : SLs w' B A n c vs :=
  ⟨h.len, h.cap, h.big, h.one, fun hn => by
    obtain ⟨b, off, e, hb, hc⟩ := h.cells hn
    exact ⟨b, off, e, hb, fun i hi => (hk _ hb).trans (hc i hi)⟩⟩
theorem SLs.below (h : SLs w B A n c vs) (hb : Below B w w') : SLs w' B A n c vs := h.keep fun p hp => hb.cell hp
theorem SLs.more (h : SLs w B A n c vs) (hB : B ≤ B') : SLs w B' A n c vs :=
  ⟨h.len, h.cap, h.big, h.one, fun hn => by
    obtain ⟨b, off, e, hb, hc⟩ := h.cells hn
    exact ⟨b, off, e, by omega, hc⟩⟩
theorem SLs.take (h : SLs w B A n c vs) {k : Nat} (hk : k ≤ n) : SLs w B A k c (vs.take k) :=
  ⟨by rw [List.length_take, h.len]; omega, by have := h.cap; omega, h.big, fun v hv => h.one v (List.mem_of_mem_take hv), fun hn => by
    obtain ⟨b, off, e, hb, hc⟩ := h.cells (by omega)
    exact ⟨b, off, e, hb, fun i hi => by rw [hc i (by omega), getD_take_ _ _ _ _ hi]⟩⟩
theorem SLs.drop (h : SLs w B A n c vs) {k : Nat} (hk : k ≤ n) : SLs w B (if c = k then A else A.map (·.add (k * 1))) (n - k) (c - k) (vs.drop k) :=
  ⟨by rw [List.length_drop, h.len], by have := h.cap; omega, by have := h.big; omega, fun v hv => h.one v (List.mem_of_mem_drop hv), fun hn => by
    obtain ⟨b, off, rfl, hb, hc⟩ := h.cells (by omega)
    have := h.cap
    rw [if_neg (by omega)]
    refine ⟨b, off + k, by simp [add_at], hb, fun i hi => ?_⟩
    rw [Nat.add_assoc, hc (k + i) (by omega), getD_drop_]⟩
theorem SOwn.nil (w : World) (base : Nat) : SOwn w base none 0 0 [] := ⟨rfl, by simp, World.ownsRow_nil _ _ _ _⟩
theorem SOwn.zero (w : World) : SOwn (w.alloc (.cells #[] 22)) w.heap.size (some ⟨w.heap.size, 0, none⟩) 0 0 [] :=
  ⟨rfl, by simp, ⟨rfl, .inr ⟨w.heap.size, 0, #[], rfl, Nat.le_refl _, heap_alloc_new w _, Nat.le_refl _, Nat.zero_le _, rfl, rfl⟩⟩⟩
theorem SOwn.form (h : SOwn w base A n c vs) : (A = none ∧ n = 0 ∧ c = 0) ∨ ∃ g, A = some ⟨g, 0, none⟩ ∧ base ≤ g ∧ g < w.heap.size ∧ n ≤ c := by
  rcases h.own.2 with ⟨h1, h2⟩ | ⟨g, cap, cur, h1, h2, h3, h4, _⟩
  · injection h1 with h1 h5 h6; exact .inl ⟨h1, h5, h6⟩
  · injection h1 with h1 h5 h6; subst h6; exact .inr ⟨g, h1, h2, lt_of_block h3, h4⟩
theorem SOwn.cap_le (h : SOwn w base A n c vs) : n ≤ c ∧ c ≤ maxLen := by
  rcases h.own.2 with ⟨h1, h2⟩ | ⟨g, cap, cur, h1, h2, h3, h4, h5, _⟩
  · injection h1 with h1 h5 h6; subst h5 h6; exact ⟨Nat.le_refl _, Nat.zero_le _⟩
  · injection h1 with h1 h6 h7; subst h7; exact ⟨h4, h5⟩
/-- its block, whose cells are slices -/
theorem SOwn.block (h : SOwn w base A n c vs) {g : Nat} (hA : A = some ⟨g, 0, none⟩) : base ≤ g ∧ ∃ C, w.heap[g]? = some (.cells C 22 (0, 0)) ∧ C.size = c ∧ C.toList.take n = vs := by
  rcases h.own.2 with ⟨h1, h2⟩ | ⟨g', cap, cur, h1, h2, h3, h4, h5, h6, h7⟩
  · injection h1 with h1 h5 h6; subst h1; cases hA
  · injection h1 with h1 h8 h9
    subst h1
    injection hA with hA; injection hA with hA
    subst hA h9
    exact ⟨h2, cur, h3, by simpa using h6, by simpa using h7⟩
theorem SOwn.ls (h : SOwn w base A n c vs) : SLs w w.heap.size A n c vs :=
  ⟨h.len, h.cap_le.1, h.cap_le.2, h.one, fun hn => by
    rcases h.form with ⟨_, h0, _⟩ | ⟨g, rfl, hg, hlt, _⟩
    · omega
    · obtain ⟨_, C, hC, hs, ht⟩ := h.block rfl
      refine ⟨g, 0, rfl, hlt, fun i hi => ?_⟩
      rw [cell_at hC, Nat.zero_add, ← ht]
      have : i < C.toList.length := by have := h.cap_le.1; simp; omega
      rw [← Array.getElem?_toList, getD_take_ _ _ _ _ hi, List.getD_eq_getElem?_getD, List.getElem?_eq_getElem this]; rfl⟩
theorem SOwn.keep {row : Option Nat} (h : SOwn w base A n c vs) (hg : w.grownBy w' row) (hne : ∀ g, A = some ⟨g, 0, none⟩ → row ≠ some g) : SOwn w' base A n c vs :=
  ⟨h.len, h.one, h.own.kept hg (by
    rcases h.form with ⟨rfl, _, _⟩ | ⟨g, rfl, _, _, _⟩
    · exact .inl rfl
    · right
      have := hne g rfl
      intro e
      exact this (by rw [← e]; rfl))⟩
theorem SOwn.since (h : SOwn w base A n c vs) (hb : Since w w') : SOwn w' base A n c vs :=
  h.keep (row := none) ⟨hb.below.os, hb.below.tape, hb.below.output, hb.size, fun k hk _ => hb.below.block k hk⟩ (by simp)
theorem SOwn.alloc (h : SOwn w base A n c vs) (o : Obj) : SOwn (w.alloc o) base A n c vs := ⟨h.len, h.one, h.own.alloc o⟩
theorem SOwn.drew (h : SOwn w base A n c vs) : SOwn w.drew base A n c vs := ⟨h.len, h.one, h.own⟩
theorem SOwn.lower {base' : Nat} (h : SOwn w base A n c vs) (hb : base' ≤ base) : SOwn w base' A n c vs := by
  refine ⟨h.len, h.one, ⟨h.own.1, ?_⟩⟩
  rcases h.own.2 with h1 | ⟨g, cap, cur, h1, h2, h3⟩
  · exact .inl h1
  · exact .inr ⟨g, cap, cur, h1, by omega, h3⟩
theorem SOwn.take (h : SOwn w base A n c vs) {k : Nat} (hk : k ≤ n) : SOwn w base A k c (vs.take k) := by
  refine ⟨by rw [List.length_take, h.len]; omega, fun v hv => h.one v (List.mem_of_mem_take hv), ⟨by simp [h.len]; omega, ?_⟩⟩
  rcases h.own.2 with ⟨h1, h2⟩ | ⟨g, cap, cur, h1, h2, h3, h4, h5, h6, h7⟩
  · injection h1 with h1 h8 h9
    subst h1 h8 h9
    obtain rfl : k = 0 := by omega
    exact .inl ⟨rfl, by simp at h2 ⊢⟩
  · injection h1 with h1 h8 h9
    subst h9
    refine .inr ⟨g, c, cur, by rw [h1], h2, h3, by omega, h5, h6, ?_⟩
    rw [← h7, List.take_take]
    congr 1; omega
theorem SOwn.free {g : Nat} (h : SOwn w base (some ⟨g, 0, none⟩) n c vs) (i : Nat) : w.frozen? ⟨g, i, none⟩ = false := by
  obtain ⟨_, C, hC, _⟩ := h.block rfl
  exact free_at hC
theorem SOwn.set_ {g : Nat} (h : SOwn w base (some ⟨g, 0, none⟩) n c vs) {i : Nat} (hi : i < n) {v : Value} (hv : isSl v) : SOwn (w.setCell ⟨g, i, none⟩ v) base (some ⟨g, 0, none⟩) n c (vs.set i v) := by
  refine ⟨by simp [h.len], ?_, ⟨by simp [h.len], ?_⟩⟩
  · intro x hx
    rcases List.mem_or_eq_of_mem_set hx with hx | rfl
    · exact h.one x hx
    · exact hv
  · rcases h.own.2 with ⟨h1, h2⟩ | ⟨g', cap, cur, h1, h2, h3, h4, h5, h6, h7⟩
    · cases h1
    · injection h1 with h1 h8 h9; injection h1 with h1; injection h1 with h1; subst h1; subst h9
      refine .inr ⟨g, c, _, rfl, h2, block_setCell h3, h4, h5, by simp [h6], ?_⟩
      rw [Array.toList_setIfInBounds, List.take_set, h7]
end
theorem SLs.one_ (w : World) (v : Value) (hv : isSl v) (m : Nat) (E : TypeId) (hm : w.heap.size = m) : SLs (w.alloc (.cells #[v] E)) (m + 1) (some ⟨m, 0, none⟩) 1 1 [v] := by
  subst hm
  exact ⟨rfl, Nat.le_refl _, by decide, by simpa using hv, fun _ => ⟨w.heap.size, 0, rfl, by omega, fun i hi => by
    obtain rfl : i = 0 := by omega
    rw [cell_at (heap_alloc_new w _)]; rfl⟩⟩

theorem SLs.row {w w' : World} {B m n c off : Nat} {vs : List Value} (h : SLs w B (some ⟨m, off, none⟩) n c vs) {A : Option Addr} {base : Nat} (hB : B ≤ w.heap.size) (hg : ∃ row, w.grownBy w' row ∧ ∀ g, row = some g → base ≤ g ∧ A = some ⟨g, 0, none⟩) (hne : A ≠ some ⟨m, 0, none⟩) : SLs w' w'.heap.size (some ⟨m, off, none⟩) n c vs := by
  obtain ⟨row, hg, hr⟩ := hg
  refine ⟨h.len, h.cap, h.big, h.one, fun hn => ?_⟩
  obtain ⟨b, off', e, hb, hc⟩ := h.cells hn
  injection e with e
  injection e with e1 e2
  subst e1 e2
  refine ⟨_, _, rfl, Nat.lt_of_lt_of_le (Nat.lt_of_lt_of_le hb hB) hg.size, fun i hi => ?_⟩
  rw [← hc i hi]
  have := hg.block m (Nat.lt_of_lt_of_le hb hB) (fun e => hne (hr m e.symm).2)
  simp only [World.cell?, this]
/-- append of slices to a slice of the call's own. -/
theorem wp_appS {w : World} {o : Oper} {a : Act} {K : Act → World → Prop} {Q : Exit → Act → World → Prop} (s x : Operand)
    (ho : o.op = .call { callee := .builtin .append, args := #[s, x], argTypes := #[37, 37] })
    (base : Nat) (A : Option Addr) (n c : Nat) (xs : List Value) (hs : a.eval s = .slice A n c) (hown : SOwn w base A n c xs)
    (B : Nat) (A' : Option Addr) (m c' : Nat) (ys : List Value) (hx : a.eval x = .slice A' m c') (hr : SLs w B A' m c' ys)
    (hlen : n + m ≤ 1099511627776) (hbase : base ≤ w.heap.size)
    (h : ∀ A1 c1 w', SOwn w' base A1 (n + m) c1 (xs ++ ys) → (∃ row, w.grownBy w' row ∧ ∀ g, row = some g → base ≤ g ∧ A = some ⟨g, 0, none⟩) → K (a.put o.dst (.slice A1 (n + m) c1)) w') :
    o.wp Try.prog a w K Q := by
  obtain ⟨i0, hi, hz0, hz1, hz2⟩ := info_parts sl_info
  cases A' with
  | none =>
    have hm : m = 0 := by
      rcases Nat.eq_zero_or_pos m with h0 | h0
      · exact h0
      · obtain ⟨b, off, e, _⟩ := hr.cells h0
        cases e
    subst hm
    obtain rfl : ys = [] := List.eq_nil_of_length_eq_zero hr.len
    have hrun : (Builtin.append_ #[37, 37] o.type #[.slice A n c, .slice none 0 c']).run Try.prog w = .ok (.slice A n c) w := by
      rcases hown.own.2 with ⟨h1, h2⟩ | ⟨g, cap, cur, h1, _, _, hnc, _⟩
      · injection h1 with h1 h5 h6; subst h1 h5 h6
        simp [Builtin.append_, run_underlying Try.underlying37, sizeOf, typeInfo, hi, Builtin.lenOf, Builtin.firstCells]
      · injection h1 with h1 h5 h6; subst h1 h6
        simp [Builtin.append_, run_underlying Try.underlying37, sizeOf, typeInfo, hi, Builtin.lenOf, Builtin.firstCells, hnc, storeCells]
    have hh := h A c w (by simpa using hown) ⟨none, grown_refl _ _, by simp⟩
    unfold Oper.wp
    simp only [execOp, ho, resolve, invoke, builtin, Sem.run_bind, Sem.run_pure, Result.andThen_ok, List.map_toArray, List.map_cons, List.map_nil, hs, hx, hrun]
    exact hh
  | some ad =>
    obtain ⟨v', w', hrun, h2, h3, h4, h5⟩ := run_append_own_at (P := Try.prog) w base 37 o.type 22 i0 (.slice none 0 0) 1 24 Try.underlying37 hi hz0 hz1 hz2 rfl (by decide) (.slice A n c) n xs hown.own
      ad m c' ys (by simp [hr.len]) (by
        intro j u hu
        have hj : j < ys.length := (List.getElem?_eq_some_iff.1 hu).1
        obtain ⟨b, off, e, hb, hc⟩ := hr.cells (by have := hr.len; omega)
        injection e with e
        subst e
        rw [add_at, hc j (by rw [← hr.len]; exact hj)]
        rw [List.getD_eq_getElem?_getD, hu]; rfl) (fun u hu => (hr.one u hu).oneCell) (by unfold maxLen; omega) (by omega) hbase
    have hlen' : (xs ++ ys).length = n + m := by rw [List.length_append, hown.len, hr.len]
    have hex : ∃ A1 c1, v' = .slice A1 (n + m) c1 := by
      rcases h2.2 with ⟨h6, h7⟩ | ⟨g, cap, cur, h6, _⟩
      · exact ⟨none, 0, by rw [h6, h7]⟩
      · exact ⟨_, _, h6⟩
    obtain ⟨A1, c1, rfl⟩ := hex
    have hh := h A1 c1 w' ⟨hlen', fun v hv => by rcases List.mem_append.1 hv with hv | hv; exact hown.one v hv; exact hr.one v hv, h2⟩ ⟨_, h3, by
      intro g hg
      rcases hown.form with ⟨rfl, _, _⟩ | ⟨g', rfl, hb', _, _⟩
      · simp [Value.ownBlock] at hg
      · simp [Value.ownBlock] at hg; subst hg; exact ⟨hb', rfl⟩⟩
    unfold Oper.wp
    simp only [execOp, ho, resolve, invoke, builtin, Sem.run_bind, Sem.run_pure, Result.andThen_ok, List.map_toArray, List.map_cons, List.map_nil, hs, hx, hrun]
    exact hh
theorem wpList_appS {w : World} {ops : Array Oper} {rest : List Oper} {o : Oper} {a : Act} {Q : Exit → Act → World → Prop} (hgd : Region.wanted o (yielded ops a.tmps) = true) (s x : Operand)
    (ho : o.op = .call { callee := .builtin .append, args := #[s, x], argTypes := #[37, 37] })
    (base : Nat) (A : Option Addr) (n c : Nat) (xs : List Value) (hs : a.eval s = .slice A n c) (hown : SOwn w base A n c xs)
    (B : Nat) (A' : Option Addr) (m c' : Nat) (ys : List Value) (hx : a.eval x = .slice A' m c') (hr : SLs w B A' m c' ys)
    (hlen : n + m ≤ 1099511627776) (hbase : base ≤ w.heap.size)
    (h : ∀ A1 c1 w', SOwn w' base A1 (n + m) c1 (xs ++ ys) → (∃ row, w.grownBy w' row ∧ ∀ g, row = some g → base ≤ g ∧ A = some ⟨g, 0, none⟩) → wpList Try.prog ops Q rest (a.put o.dst (.slice A1 (n + m) c1)) w') :
    wpList Try.prog ops Q (o :: rest) a w :=
  BigFrame.wpList_want hgd fun _ hK => wp_appS s x ho base A n c xs hs hown B A' m c' ys hx hr hlen hbase fun A1 c1 w' h1 h2 => hK _ _ (h A1 c1 w' h1 h2)
theorem step_appS {w : World} {ops : Array Oper} {o : Oper} {a : Act} {K : Act → World → Prop} {Q : Exit → Act → World → Prop} {E : Prop} (hgd : o.guard = none) (s x : Operand)
    (ho : o.op = .call { callee := .builtin .append, args := #[s, x], argTypes := #[37, 37] })
    (base : Nat) (A : Option Addr) (n c : Nat) (xs : List Value) (hs : a.eval s = .slice A n c) (hown : SOwn w base A n c xs)
    (B : Nat) (A' : Option Addr) (m c' : Nat) (ys : List Value) (hx : a.eval x = .slice A' m c') (hr : SLs w B A' m c' ys)
    (hlen : n + m ≤ 1099511627776) (hbase : base ≤ w.heap.size)
    (h : ∀ A1 c1 w', SOwn w' base A1 (n + m) c1 (xs ++ ys) → (∃ row, w.grownBy w' row ∧ ∀ g, row = some g → base ≤ g ∧ A = some ⟨g, 0, none⟩) → K (a.put o.dst (.slice A1 (n + m) c1)) w') :
    if Region.wanted o (yielded ops a.tmps) = true then Oper.wp Try.prog o a w K Q else E := by
  have hw : Region.wanted o (yielded ops a.tmps) = true := by simp [Region.wanted, hgd]
  rw [if_pos hw]
  exact wp_appS s x ho base A n c xs hs hown B A' m c' ys hx hr hlen hbase h

/-! what the slices read as -/
def Rd (w : World) (B : Nat) (v : Value) (xs : List Int) : Prop := ∃ A n c, v = .slice A n c ∧ Ls w B A n c xs
structure Rds (w : World) (B : Nat) (vs : List Value) (xss : List (List Int)) : Prop where
  len : vs.length = xss.length
  at_ : ∀ i, i < vs.length → Rd w B (vs.getD i nilS) (xss.getD i [])
theorem Rds.mono {w w' : World} {B B' : Nat} {vs : List Value} {xss : List (List Int)} (h : Rds w B vs xss) (hk : ∀ A n c xs, Ls w B A n c xs → Ls w' B' A n c xs) : Rds w' B' vs xss :=
  ⟨h.len, fun i hi => by obtain ⟨A, n, c, e, l⟩ := h.at_ i hi; exact ⟨A, n, c, e, hk _ _ _ _ l⟩⟩
theorem Rds.nil (w : World) (B : Nat) : Rds w B [] [] := ⟨rfl, fun i hi => by simp at hi⟩
theorem Rds.app {w : World} {B : Nat} {vs us : List Value} {xss yss : List (List Int)} (h : Rds w B vs xss) (k : Rds w B us yss) : Rds w B (vs ++ us) (xss ++ yss) :=
  ⟨by simp [h.len, k.len], fun i hi => by
    rw [getD_app, getD_app, h.len]
    rw [List.length_append] at hi
    split
    · rename_i hlt; exact h.at_ i (by rw [h.len]; exact hlt)
    · exact k.at_ _ (by have := h.len; omega)⟩
theorem Rds.one {w : World} {B : Nat} {v : Value} {xs : List Int} (h : Rd w B v xs) : Rds w B [v] [xs] :=
  ⟨rfl, fun i hi => by obtain rfl : i = 0 := by simp at hi; omega
                       exact h⟩
theorem Rds.take {w : World} {B : Nat} {vs : List Value} {xss : List (List Int)} (h : Rds w B vs xss) (k : Nat) : Rds w B (vs.take k) (xss.take k) :=
  ⟨by simp [h.len], fun i hi => by
    rw [List.length_take] at hi
    rw [getD_take_ _ _ _ _ (by omega), getD_take_ _ _ _ _ (by omega)]
    exact h.at_ i (by omega)⟩
theorem Rds.drop {w : World} {B : Nat} {vs : List Value} {xss : List (List Int)} (h : Rds w B vs xss) (k : Nat) : Rds w B (vs.drop k) (xss.drop k) :=
  ⟨by simp [h.len], fun i hi => by
    rw [List.length_drop] at hi
    rw [getD_drop_, getD_drop_]
    exact h.at_ _ (by omega)⟩

/-- The slice reads as the list of lists xss; all of it lies below block B. -/
def LR (w : World) (B : Nat) (A : Option Addr) (n c : Nat) (xss : List (List Int)) : Prop := ∃ vs, SLs w B A n c vs ∧ Rds w B vs xss
section
variable {w w' : World} {B B' n c : Nat} {A : Option Addr} {xss : List (List Int)}
theorem LR.len (h : LR w B A n c xss) : xss.length = n := by obtain ⟨vs, h1, h2⟩ := h; rw [← h2.len, h1.len]
theorem LR.cap (h : LR w B A n c xss) : n ≤ c := by obtain ⟨vs, h1, h2⟩ := h; exact h1.cap
theorem LR.nil (w : World) (B : Nat) : LR w B none 0 0 [] := ⟨[], SLs.nil _ _, Rds.nil _ _⟩
theorem LR.below (h : LR w B A n c xss) (hb : Below B w w') : LR w' B A n c xss := by
  obtain ⟨vs, h1, h2⟩ := h; exact ⟨vs, h1.below hb, h2.mono fun _ _ _ _ l => l.below hb⟩
theorem LR.more (h : LR w B A n c xss) (hB : B ≤ B') : LR w B' A n c xss := by
  obtain ⟨vs, h1, h2⟩ := h; exact ⟨vs, h1.more hB, h2.mono fun _ _ _ _ l => l.more hB⟩
theorem LR.since (h : LR w w.heap.size A n c xss) (hb : Since w w') : LR w' w'.heap.size A n c xss := (h.below hb).more hb.size
theorem LR.drewN (h : LR w B A n c xss) (k : Nat) : LR (w.drewN k) B A n c xss := by
  obtain ⟨vs, h1, h2⟩ := h; exact ⟨vs, h1.keep fun _ _ => rfl, h2.mono fun _ _ _ _ l => l.drewN k⟩
theorem LR.at_ (h : LR w B A n c xss) {k : Nat} (hk : k < n) : ∃ b off A' n' c', A = some ⟨b, off, none⟩ ∧ w.cell? ⟨b, off + k, none⟩ = some (.slice A' n' c') ∧ Ls w B A' n' c' (xss.getD k []) := by
  obtain ⟨vs, h1, h2⟩ := h
  obtain ⟨b, off, e, hb, hc⟩ := h1.cells (by omega)
  obtain ⟨A', n', c', e', l⟩ := h2.at_ k (by rw [h1.len]; exact hk)
  exact ⟨b, off, A', n', c', e, by rw [hc k hk, e'], l⟩
end
/-- a fresh or shared list of lists: all of it can be read -/
def FreshLR (w : World) (xss : List (List Int)) (e : Ending) (w' : World) : Prop := ∃ A n c, e = .returned (.slice A n c) ∧ LR w' w'.heap.size A n c xss ∧ Since w w'

/-! lists of lists of the call's own -/
def Ow (w : World) (base : Nat) (v : Value) (xs : List Int) : Prop := ∃ A n c, v = .slice A n c ∧ Own w base A n c xs
def vApart (v u : Value) : Prop := ∀ A n c A' n' c', v = .slice A n c → u = .slice A' n' c' → Apart A A'
structure Ows (w : World) (base : Nat) (vs : List Value) (xss : List (List Int)) : Prop where
  len : vs.length = xss.length
  at_ : ∀ i, i < vs.length → Ow w base (vs.getD i nilS) (xss.getD i [])
  apart : ∀ i j, i < vs.length → j < vs.length → i ≠ j → vApart (vs.getD i nilS) (vs.getD j nilS)
theorem vApart.symm {v u : Value} (h : vApart v u) : vApart u v := fun A n c A' n' c' e1 e2 => (h A' n' c' A n c e2 e1).symm
theorem Ows.rds {w : World} {base : Nat} {vs : List Value} {xss : List (List Int)} (h : Ows w base vs xss) : Rds w w.heap.size vs xss :=
  ⟨h.len, fun i hi => by obtain ⟨A, n, c, e, o⟩ := h.at_ i hi; exact ⟨A, n, c, e, o.ls⟩⟩
theorem Ows.nil (w : World) (base : Nat) : Ows w base [] [] := ⟨rfl, fun i hi => by simp at hi, fun i j hi => by simp at hi⟩
theorem Ows.mono {w w' : World} {base base' : Nat} {vs : List Value} {xss : List (List Int)} (h : Ows w base vs xss) (hk : ∀ A n c xs, Own w base A n c xs → Own w' base' A n c xs) : Ows w' base' vs xss :=
  ⟨h.len, fun i hi => by obtain ⟨A, n, c, e, o⟩ := h.at_ i hi; exact ⟨A, n, c, e, hk _ _ _ _ o⟩, h.apart⟩
theorem Ows.app {w w1 : World} {base : Nat} {vs us : List Value} {xss yss : List (List Int)} (h1 : Ows w1 base vs xss) (hb : base ≤ w1.heap.size) (s : Since w1 w) (k : Ows w w1.heap.size us yss) : Ows w base (vs ++ us) (xss ++ yss) := by
  have h : Ows w base vs xss := h1.mono fun _ _ _ _ o => o.since s
  have hap : ∀ i j, i < vs.length → j < us.length → vApart (vs.getD i nilS) (us.getD j nilS) := by
    intro i j hi hj A n c A' n' c' e1 e2
    obtain ⟨A1, n1, c1, e3, o1⟩ := h1.at_ i hi
    obtain ⟨A2, n2, c2, e4, o2⟩ := k.at_ j hj
    rw [e1] at e3; injection e3 with e3 e5 e6; subst e3 e5 e6
    rw [e2] at e4; injection e4 with e4 e5 e6; subst e4 e5 e6
    exact o1.apart o2
  refine ⟨by simp [h.len, k.len], fun i hi => ?_, fun i j hi hj hij => ?_⟩
  · rw [getD_app, getD_app, h.len]
    rw [List.length_append] at hi
    split
    · rename_i hlt; exact h.at_ i (by rw [h.len]; exact hlt)
    · obtain ⟨A, n, c, e, o⟩ := k.at_ (i - xss.length) (by have := h.len; omega)
      exact ⟨A, n, c, e, o.lower hb⟩
  · rw [List.length_append] at hi hj
    rw [getD_app, getD_app]
    split <;> split
    · rename_i a b; exact h.apart i j a b hij
    · rename_i a b; exact hap _ _ a (by omega)
    · rename_i a b; exact (hap _ _ b (by omega)).symm
    · exact k.apart _ _ (by omega) (by omega) (by omega)
theorem Ows.one {w : World} {base : Nat} {v : Value} {xs : List Int} (h : Ow w base v xs) : Ows w base [v] [xs] :=
  ⟨rfl, fun i hi => by obtain rfl : i = 0 := by simp at hi; omega
                       exact h, fun i j hi hj hij => by simp at hi hj; omega⟩
theorem getD_set_g {α : Type} (l : List α) (k i : Nat) (v d : α) (hk : k < l.length) : (l.set k v).getD i d = if k = i then v else l.getD i d := by
  simp only [List.getD_eq_getElem?_getD, List.getElem?_set]
  by_cases h : k = i
  · subst h; simp [hk]
  · simp [h]
/-- A marking of one of the lists. -/
theorem Ows.marked {w w' : World} {base : Nat} {vs : List Value} {xss : List (List Int)} (h : Ows w base vs xss) {j : Nat} (hj : j < vs.length) {A : Option Addr} {n c : Nat} (e : vs.getD j nilS = .slice A n c) {ys : List Int}
    (o : Own w' base A n c ys) (hm : Marked A w w') : Ows w' base vs (xss.set j ys) := by
  have hl := h.len
  refine ⟨by simp [h.len], fun i hi => ?_, h.apart⟩
  rw [getD_set_g _ _ _ _ _ (by omega)]
  split
  · rename_i e1; subst e1; exact ⟨A, n, c, e, o⟩
  · rename_i e1
    obtain ⟨A1, n1, c1, e2, o1⟩ := h.at_ i hi
    exact ⟨A1, n1, c1, e2, o1.marked hm (h.apart j i hj hi e1 _ _ _ _ _ _ e e2)⟩
theorem Ows.drop_at {w : World} {base : Nat} {vs : List Value} {xss : List (List Int)} (h : Ows w base vs xss) (f : List Nat) (hf : f.Pairwise (· < ·)) (hb : ∀ i ∈ f, i < vs.length) :
    Ows w base (f.map fun i => vs.getD i nilS) (f.map fun i => xss.getD i []) := by
  have ne : ∀ i j, i < f.length → j < f.length → i ≠ j → f.getD i 0 ≠ f.getD j 0 := by
    intro i j hi hj hij
    simp only [List.getD_eq_getElem?_getD, List.getElem?_eq_getElem hi, List.getElem?_eq_getElem hj, Option.getD_some]
    rcases Nat.lt_or_gt_of_ne hij with h1 | h1
    · have := List.pairwise_iff_getElem.1 hf i j hi hj h1; omega
    · have := List.pairwise_iff_getElem.1 hf j i hj hi h1; omega
  have gm : ∀ {α : Type} (g : Nat → α) (d : α) (i : Nat), i < f.length → (f.map g).getD i d = g (f.getD i 0) := by
    intro α g d i hi
    simp only [List.getD_eq_getElem?_getD, List.getElem?_map, List.getElem?_eq_getElem hi]; rfl
  refine ⟨by simp, fun i hi => ?_, fun i j hi hj hij => ?_⟩
  · rw [List.length_map] at hi
    rw [gm _ _ _ hi, gm _ _ _ hi]
    exact h.at_ _ (hb _ (getD_mem hi))
  · rw [List.length_map] at hi hj
    rw [gm _ _ _ hi, gm _ _ _ hj]
    exact h.apart _ _ (hb _ (getD_mem hi)) (hb _ (getD_mem hj)) (ne i j hi hj hij)
/-- The slice is the head of a row of the call's own, of slices of the call's own, all apart. -/
def OO (w : World) (base : Nat) (A : Option Addr) (n c : Nat) (xss : List (List Int)) : Prop := ∃ vs, SOwn w base A n c vs ∧ Ows w base vs xss
section
variable {w w' : World} {base base' n c : Nat} {A : Option Addr} {xss : List (List Int)}
theorem OO.nil (w : World) (base : Nat) : OO w base none 0 0 [] := ⟨[], SOwn.nil _ _, Ows.nil _ _⟩
theorem OO.len (h : OO w base A n c xss) : xss.length = n := by obtain ⟨vs, h1, h2⟩ := h; rw [← h2.len, h1.len]
theorem OO.lr (h : OO w base A n c xss) : LR w w.heap.size A n c xss := by obtain ⟨vs, h1, h2⟩ := h; exact ⟨vs, h1.ls, h2.rds⟩
theorem OO.since (h : OO w base A n c xss) (s : Since w w') : OO w' base A n c xss := by
  obtain ⟨vs, h1, h2⟩ := h; exact ⟨vs, h1.since s, h2.mono fun _ _ _ _ o => o.since s⟩
theorem OO.lower (h : OO w base A n c xss) (hb : base' ≤ base) : OO w base' A n c xss := by
  obtain ⟨vs, h1, h2⟩ := h; exact ⟨vs, h1.lower hb, h2.mono fun _ _ _ _ o => o.lower hb⟩
theorem OO.keep {row : Option Nat} (h : OO w base A n c xss) (hg : w.grownBy w' row) (hr : ∀ g, row = some g → g < base) : OO w' base A n c xss := by
  obtain ⟨vs, h1, h2⟩ := h
  refine ⟨vs, h1.keep hg fun g hA e => ?_, h2.mono fun A' n' c' xs o => o.keep hg fun g hA e => ?_⟩
  · rcases h1.form with ⟨rfl, _⟩ | ⟨g', rfl, hb, _⟩
    · cases hA
    · injection hA with hA; injection hA with hA; have := hr g e; omega
  · rcases o.form with ⟨rfl, _⟩ | ⟨g', rfl, hb, _⟩
    · cases hA
    · injection hA with hA; injection hA with hA; have := hr g e; omega
end
theorem Ows.grow {w w' : World} {base n c : Nat} {A : Option Addr} {vs0 vs : List Value} {xss : List (List Int)} (h : Ows w base vs xss) (own : SOwn w base A n c vs0) (hg : ∃ row, w.grownBy w' row ∧ ∀ g, row = some g → base ≤ g ∧ A = some ⟨g, 0, none⟩) : Ows w' base vs xss := by
  obtain ⟨row, hg, hr⟩ := hg
  refine h.mono fun A' n' c' xs o => o.keep hg fun g hA e => ?_
  obtain ⟨_, hA0⟩ := hr g e
  obtain ⟨_, C, hC, _⟩ := own.block hA0
  subst hA
  rcases o.own.2 with ⟨h2, h3⟩ | ⟨g', cap, cur, h2, _, h3, _⟩
  · injection h2 with h2; cases h2
  · injection h2 with h2; injection h2 with h2; injection h2 with h2; subst h2
    rw [hC] at h3
    simp at h3
/-- Lists of the call's own, put behind others. -/
theorem OO.app {w wa w' : World} {base n c m c1 : Nat} {A A1 : Option Addr} {vs us : List Value} {xss yss : List (List Int)} (own : SOwn w base A n c vs) (ows : Ows w base vs xss) (hb : base ≤ w.heap.size) (s : Since w wa) (k : Ows wa w.heap.size us yss)
    (own' : SOwn w' base A1 (n + m) c1 (vs ++ us)) (hg : ∃ row, wa.grownBy w' row ∧ ∀ g, row = some g → base ≤ g ∧ A = some ⟨g, 0, none⟩) : OO w' base A1 (n + m) c1 (xss ++ yss) :=
  ⟨_, own', (ows.app hb s k).grow (own.since s) hg⟩
theorem Own.litM (w : World) (x : Int) (hx : (Lit.int .i64 x).wf = true) (m : Nat) (hm : w.heap.size = m) : Own (w.alloc (.cells #[.int .i64 x] 3)) w.heap.size (some ⟨m, 0, none⟩) 1 1 [x] := by
  subst hm
  exact Arr.own (xs := [x]) (heap_alloc_new w _) (Nat.le_refl _) rfl rfl (by decide) (by simpa using hx)
theorem Own.litM3 (w : World) (x y z : Int) (hx : (Lit.int .i64 x).wf = true) (hy : (Lit.int .i64 y).wf = true) (hz : (Lit.int .i64 z).wf = true) (m : Nat) (hm : w.heap.size = m) : Own (w.alloc (.cells #[.int .i64 x, .int .i64 y, .int .i64 z] 3)) w.heap.size (some ⟨m, 0, none⟩) 3 3 [x, y, z] := by
  subst hm
  refine Arr.own (xs := [x, y, z]) (heap_alloc_new w _) (Nat.le_refl _) rfl rfl (by decide) ?_
  intro v hv
  simp at hv
  rcases hv with rfl | rfl | rfl
  · exact hx
  · exact hy
  · exact hz
theorem since_row {w wa w' : World} {base : Nat} {A : Option Addr} (s : Since w wa) (hb : w.heap.size ≤ base) (hg : ∃ row, wa.grownBy w' row ∧ ∀ g, row = some g → base ≤ g ∧ A = some ⟨g, 0, none⟩) : Since w w' := s.app hb hg
def FreshOO (w : World) (xss : List (List Int)) (e : Ending) (w' : World) : Prop := ∃ A n c, e = .returned (.slice A n c) ∧ OO w' w.heap.size A n c xss ∧ Since w w'
end Go.Proofs.Ytlnkkjmejmhaiaa
