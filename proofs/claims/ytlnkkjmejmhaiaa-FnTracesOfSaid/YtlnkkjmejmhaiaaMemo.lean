/-
  A map made by the call whose keys are cuts {pointer, int, int}: look-ups and stores. Trees in memory are told by their blocks.
-/
import Derived.Test.YtlnkkjmejmhaiaaTreeB
import Derived.Test.YtlnkkjmejmhaiaaPlainR
import Derived.LaidEql
import Derived.Laws.StructEq
import Derived.MapKept
namespace Go.Proofs.Ytlnkkjmejmhaiaa
open Go.RowKit
set_option linter.unusedVariables false
set_option maxHeartbeats 400000

/-- the key: the part of the trace from an atom to an atom, of the tree at block g -/
def kv (g f t : Nat) : Value := .agg #[.pointer (some ⟨g, 0, none⟩), .int .i64 f, .int .i64 t]
theorem kv_inj {g f t g' f' t' : Nat} (h : kv g f t = kv g' f' t') : g = g' ∧ f = f' ∧ t = t' := by
  simp [kv] at h; omega
theorem tree_size : (Try.prog.info? 65).map (·.size) = some 2 := by kernel_rfl
/-- Block g holds a tree's node. -/
def isNode (w : World) (g : Nat) : Prop := ∃ C T, w.heap[g]? = some (.cells C T (0, 0))

theorem part_ptr (w : World) {xs : Array Value} {off : Nat} {v : Value} (hx : xs[off]? = some v) : (part 47 xs off).run Try.prog w = .ok v w := by
  simp [part, isAgg, run_underlying Try.underlying47, hx]
theorem part_int (w : World) {xs : Array Value} {off : Nat} {v : Value} (hx : xs[off]? = some v) : (part 3 xs off).run Try.prog w = .ok v w := by
  simp [part, isAgg, run_underlying Try.underlying3, hx]

theorem run_cutCheck (w : World) (em : Bool) (g f t : Nat) : (Instr.checkKey em 10000 82 (kv g f t)).run Try.prog w = .ok () w := by
  have hp : ∀ d v, (Instr.checkKey em (d + 1) 47 (.pointer v)).run Try.prog w = .ok () w := by
    intro d v; simp [Instr.checkKey, run_underlying Try.underlying47]
  have hi : ∀ d (v : Int), (Instr.checkKey em (d + 1) 3 (.int .i64 v)).run Try.prog w = .ok () w := by
    intro d v; simp [Instr.checkKey, run_underlying Try.underlying3]
  show (Instr.checkKey em (9998 + 1 + 1) 82 (kv g f t)).run Try.prog w = .ok () w
  unfold kv Instr.checkKey
  simp [run_underlying Try.underlying82, part_ptr, part_int, hp 9998, hi 9998]

theorem run_cutEqual (w : World) {g f t g' f' t' : Nat} (hg : isNode w g) (hg' : isNode w g') :
    (Op.equal 82 (kv g f t) (kv g' f' t')).run Try.prog w = .ok (decide (g = g' ∧ f = f' ∧ t = t')) w := by
  obtain ⟨i0, hi0, hs⟩ : ∃ i0, Try.prog.info? 65 = some i0 ∧ i0.size = 2 := by
    have := tree_size
    cases h : Try.prog.info? 65 with
    | none => rw [h] at this; cases this
    | some i => rw [h] at this; exact ⟨i, rfl, by simpa using this⟩
  have hp : ∀ d, (Op.equalIn (d + 1) 47 (.pointer (some ⟨g, 0, none⟩)) (.pointer (some ⟨g', 0, none⟩))).run Try.prog w = .ok (decide (g = g')) w := by
    intro d
    by_cases e : g = g'
    · subst e
      simp [Op.equalIn, run_underlying Try.underlying47, sizeOf, typeInfo, hi0, run_sameAddr_same]
    · obtain ⟨C, T, hC⟩ := hg
      obtain ⟨C', T', hC'⟩ := hg'
      have hne : (⟨g, 0, none⟩ : Addr) ≠ ⟨g', 0, none⟩ := by intro h; injection h with h; exact e h
      simp [Op.equalIn, run_underlying Try.underlying47, sizeOf, typeInfo, hi0, hs, run_sameAddr_other w hne hC hC', e]
  have hi : ∀ d (a b : Int), (Op.equalIn (d + 1) 3 (.int .i64 a) (.int .i64 b)).run Try.prog w = .ok (a == b) w := by
    intro d a b; simp [Op.equalIn, run_underlying Try.underlying3]
  have hst : Try.prog.stoodInHeld 82 = false := by kernel_rfl
  show (Op.equalIn (9998 + 1 + 1) 82 (kv g f t) (kv g' f' t')).run Try.prog w = _
  unfold kv
  rw [run_equalIn_struct w (9998 + 1) 82 _ _ (by simp [Program.fieldsOf, Try.underlying82]) hst]
  simp [Program.fieldsOf, Try.underlying82, Op.eqFields, part_ptr, part_int, hp 9998, hi 9998]
  by_cases e : g = g'
  · by_cases e2 : f = f'
    · by_cases e3 : t = t'
      · simp [e, e2, e3]
      · simp [e, e2, e3]; omega
    · simp [e, e2]; omega
  · simp [e]

/-- Every key of the map is a cut at a node. -/
def cutKeys (w : World) (es : List MapEntry) : Prop := ∀ e ∈ es, ∃ g f t, e.key = kv g f t ∧ isNode w g
theorem isNode.heap {w w' : World} {g : Nat} (h : isNode w g) (e : w'.heap = w.heap) : isNode w' g := by unfold isNode at *; rw [e]; exact h
theorem run_cutAsking (w : World) {g f t : Nat} (hg : isNode w g) : ∀ (es : List MapEntry) (i : Nat), cutKeys w es →
    ((∀ w' : World, w'.heap = w.heap → (Instr.findAsking 82 (kv g f t) es i).run Try.prog w' = .ok none w') ∧ ∀ e ∈ es, e.key ≠ kv g f t) ∨
    ∃ j e, (∀ w' : World, w'.heap = w.heap → (Instr.findAsking 82 (kv g f t) es i).run Try.prog w' = .ok (some (i + j, e.val)) w') ∧ es[j]? = some e ∧ e.key = kv g f t := by
  intro es
  induction es with
  | nil => intro i _; exact .inl ⟨fun _ _ => rfl, by simp⟩
  | cons e r ih =>
    intro i h
    obtain ⟨g', f', t', hk, hn⟩ := h e (by simp)
    have hq := fun (w' : World) (hw : w'.heap = w.heap) => run_cutEqual w' (f := f) (t := t) (f' := f') (t' := t') (hg.heap hw) (hn.heap hw)
    rw [← hk] at hq
    by_cases e1 : g = g' ∧ f = f' ∧ t = t'
    · obtain ⟨rfl, rfl, rfl⟩ := e1
      exact .inr ⟨0, e, fun w' hw => by simp [Instr.findAsking, hq w' hw], rfl, hk⟩
    · rw [decide_eq_false e1] at hq
      rcases ih (i + 1) (fun x hx => h x (by simp [hx])) with ⟨h1, h2⟩ | ⟨j, x, h1, h2, h3⟩
      · refine .inl ⟨fun w' hw => by simp [Instr.findAsking, hq w' hw, h1 w' hw], fun x hx => ?_⟩
        rcases List.mem_cons.1 hx with rfl | hx
        · rw [hk]; intro e2; have := kv_inj e2; exact e1 ⟨this.1.symm, this.2.1.symm, this.2.2.symm⟩
        · exact h2 x hx
      · exact .inr ⟨j + 1, x, fun w' hw => by simp [Instr.findAsking, hq w' hw, h1 w' hw, Nat.add_assoc, Nat.add_comm 1 j], by simpa using h2, h3⟩
theorem run_cutFind (w : World) {g f t : Nat} (hg : isNode w g) (es : List MapEntry) (h : cutKeys w es) :
    ((∀ w' : World, w'.heap = w.heap → (Instr.findKey 82 (kv g f t) es).run Try.prog w' = .ok none w') ∧ ∀ e ∈ es, e.key ≠ kv g f t) ∨
    ∃ j e, (∀ w' : World, w'.heap = w.heap → (Instr.findKey 82 (kv g f t) es).run Try.prog w' = .ok (some (j, e.val)) w') ∧ es[j]? = some e ∧ e.key = kv g f t := by
  cases es with
  | nil => exact .inl ⟨fun w' _ => by simp [Instr.findKey, run_underlying Try.underlying82, Instr.findNow], by simp⟩
  | cons e r =>
    obtain ⟨g', f', t', hk, hn⟩ := h e (by simp)
    have hnow : ∀ d, Instr.findNow (.struct d) (kv g f t) (e :: r) 0 = none := by
      intro d; simp [Instr.findNow, Instr.sameNow]
    rcases run_cutAsking w (f := f) (t := t) hg (e :: r) 0 h with ⟨h1, h2⟩ | ⟨j, x, h1, h2, h3⟩
    · exact .inl ⟨fun w' hw => by simp [Instr.findKey, run_underlying Try.underlying82, hnow, h1 w' hw], h2⟩
    · exact .inr ⟨j, x, fun w' hw => by simp [Instr.findKey, run_underlying Try.underlying82, hnow, h1 w' hw], h2, h3⟩

/-- Block mb is a map of cuts whose elements are truths of which S holds. -/
def Memo (w : World) (mb : Nat) (S : Nat → Nat → Nat → Bool → Prop) : Prop :=
  ∃ es clock, w.heap[mb]? = some (.map es clock) ∧ ∀ e ∈ es.toList, ∃ g f t b, e.key = kv g f t ∧ e.val = .bool b ∧ S g f t b
section
variable {w w' : World} {mb : Nat} {S : Nat → Nat → Nat → Bool → Prop}
theorem Memo.lt (h : Memo w mb S) : mb < w.heap.size := by obtain ⟨es, c, h1, _⟩ := h; exact lt_of_block h1
theorem Memo.keep (h : Memo w mb S) (hk : w'.heap[mb]? = w.heap[mb]?) : Memo w' mb S := by
  obtain ⟨es, c, h1, h2⟩ := h; exact ⟨es, c, by rw [hk]; exact h1, h2⟩
theorem Memo.made (w : World) (S : Nat → Nat → Nat → Bool → Prop) : Memo (w.alloc (.map #[] 0)) w.heap.size S := ⟨#[], 0, heap_alloc_new w _, by simp⟩
/-- 'v, ok := m[k]' -/
theorem Memo.look (h : Memo w mb S) (hS : ∀ g f t b, S g f t b → isNode w g) {g f t : Nat} (hg : isNode w g) :
    (∀ w' : World, w'.heap = w.heap → (Instr.lookup 72 (.map (some mb)) (kv g f t) true).run Try.prog w' = .ok (.tuple #[.bool false, .bool false]) w') ∨
    ∃ b, S g f t b ∧ ∀ w' : World, w'.heap = w.heap → (Instr.lookup 72 (.map (some mb)) (kv g f t) true).run Try.prog w' = .ok (.tuple #[.bool b, .bool true]) w' := by
  obtain ⟨es, c, h1, h2⟩ := h
  have hz : ∀ w', (zeroValue 4).run Try.prog w' = .ok (.bool false) w' := by
    intro w'
    have hi : (Try.prog.info? 4).map (·.zero) = some (some (.bool false)) := by kernel_rfl
    cases hh : Try.prog.info? 4 with
    | none => rw [hh] at hi; cases hi
    | some i =>
      rw [hh] at hi
      have hi' : i.zero = some (.bool false) := by simpa using hi
      simp [zeroValue, typeInfo, hh, hi']
  rcases run_cutFind w (f := f) (t := t) hg es.toList (fun e he => by obtain ⟨g, f, t, b, k1, k2, k3⟩ := h2 e he; exact ⟨g, f, t, k1, hS _ _ _ _ k3⟩) with ⟨k1, k2⟩ | ⟨j, e, k1, k2, k3⟩
  · exact .inl fun w' hw => by
      have h1' : w'.heap[mb]? = some (.map es c) := by rw [hw]; exact h1
      simp [Instr.lookup, run_underlying Try.underlying72, MapKept.run_getObj_map h1', run_cutCheck, k1 w' hw, hz, Result.andThen]
  · obtain ⟨g', f', t', b, k4, k5, k6⟩ := h2 e (List.mem_of_getElem? k2)
    rw [k3] at k4
    obtain ⟨rfl, rfl, rfl⟩ := kv_inj k4
    exact .inr ⟨b, k6, fun w' hw => by
      have h1' : w'.heap[mb]? = some (.map es c) := by rw [hw]; exact h1
      simp [Instr.lookup, run_underlying Try.underlying72, MapKept.run_getObj_map h1', run_cutCheck, k1 w' hw, k5, Result.andThen]⟩
/-- 'm[k] = v' -/
theorem Memo.store (h : Memo w mb S) (hS : ∀ g f t b, S g f t b → isNode w g) {g f t : Nat} (hg : isNode w g) {b : Bool} (hb : S g f t b) :
    ∃ w', (Instr.mapUpdate 72 (.map (some mb)) (kv g f t) (.bool b)).run Try.prog w = .ok () w' ∧ Memo w' mb S ∧ w.grownBy w' (some mb) := by
  obtain ⟨es, c, h1, h2⟩ := h
  have hgr : ∀ o, w.grownBy { w with heap := w.heap.setIfInBounds mb o } (some mb) := fun o =>
    ⟨rfl, rfl, rfl, by simp, fun i _ hi => by
      show (w.heap.setIfInBounds mb o)[i]? = _
      rw [Array.getElem?_setIfInBounds, if_neg (fun e => hi (by rw [e]))]⟩
  have hnew : ∀ o, ({ w with heap := w.heap.setIfInBounds mb o } : World).heap[mb]? = some o := fun o => by
    show (w.heap.setIfInBounds mb o)[mb]? = _
    rw [Array.getElem?_setIfInBounds, if_pos rfl, if_pos (lt_of_block h1)]
  have hstay : (Instr.keyThatStays (kv g f t) (kv g f t)).run Try.prog w = .ok (kv g f t) w := by
    have : Instr.sameBits 10000 (kv g f t) (kv g f t) = true := by
      unfold kv; simp [Instr.sameBits]
    simp [Instr.keyThatStays, this]
  rcases run_cutFind w (f := f) (t := t) hg es.toList (fun e he => by obtain ⟨g, f, t, b, k1, k2, k3⟩ := h2 e he; exact ⟨g, f, t, k1, hS _ _ _ _ k3⟩) with ⟨k1, k2⟩ | ⟨j, e, k1, k2, k3⟩
  · refine ⟨{ w with heap := w.heap.setIfInBounds mb (.map (es.push ⟨kv g f t, .bool b, c⟩) (c + 1)) }, by simp [Instr.mapUpdate, run_underlying Try.underlying72, MapKept.run_getObj_map h1, run_cutCheck, k1 w rfl, MapKept.run_setObj_map _ h1, Result.andThen], ⟨_, _, hnew _, ?_⟩, hgr _⟩
    intro x hx
    simp only [Array.toList_push, List.mem_append, List.mem_singleton] at hx
    rcases hx with hx | rfl
    · exact h2 x hx
    · exact ⟨g, f, t, b, rfl, rfl, hb⟩
  · have hj : es[j]? = some e := by simpa using k2
    refine ⟨{ w with heap := w.heap.setIfInBounds mb (.map (es.modify j fun e => { e with key := kv g f t, val := .bool b }) c) }, by simp [Instr.mapUpdate, run_underlying Try.underlying72, MapKept.run_getObj_map h1, run_cutCheck, k1 w rfl, hj, k3, hstay, MapKept.run_setObj_map _ h1, Result.andThen], ⟨_, _, hnew _, ?_⟩, hgr _⟩
    intro x hx
    have hx' : x ∈ es.toList ∨ x = { e with key := kv g f t, val := .bool b } := by
      rw [Array.toList_modify] at hx
      obtain ⟨i, hi, ex⟩ := List.getElem_of_mem hx
      rw [List.getElem_modify] at ex
      split at ex
      · rename_i hij
        subst hij
        right
        rw [← ex]
        have hi' : j < es.toList.length := by simpa using hi
        rw [List.getElem?_eq_getElem hi'] at k2
        injection k2 with k2
        rw [k2]
      · left; rw [← ex]; exact List.getElem_mem _
    rcases hx' with hx | rfl
    · exact h2 x hx
    · exact ⟨g, f, t, b, rfl, rfl, hb⟩
end

/-! Trees are told by their blocks. -/
theorem nodeAt_same {w : World} {X Y : Nat → Prop} {g : Nat} {s s' : Int} {gs gs' : List Nat} (h : nodeAt w X g s gs) (h' : nodeAt w Y g s' gs') : s = s' ∧ gs = gs' := by
  obtain ⟨A, c, h1, h2, h3, h4, h5⟩ := h
  obtain ⟨A', c', k1, k2, k3, k4, k5⟩ := h'
  rw [h1] at k1
  simp at k1
  obtain ⟨rfl, rfl, hl, rfl⟩ := k1
  refine ⟨rfl, ?_⟩
  apply List.ext_getElem hl
  intro j hj hj'
  obtain ⟨gk, C, e, hx, hg, hC⟩ := h5 j hj
  obtain ⟨gk', C', e', hx', hg', hC'⟩ := k5 j hj'
  rw [e] at e'
  injection e' with e'
  injection e' with e'
  subst e'
  rw [hg] at hg'
  simp at hg'
  subst hg'
  rw [hC] at hC'
  simp [pv, List.getD_eq_getElem?_getD, List.getElem?_eq_getElem hj, List.getElem?_eq_getElem hj'] at hC'
  exact hC'
theorem isT_same {w : World} {X Y : Nat → Prop} : ∀ {t u : Tr} {g : Nat}, isT w X t g → isT w Y u g → t = u := by
  intro t
  induction t with
  | leaf s =>
    intro u g h h'
    cases u with
    | leaf s' => rw [(nodeAt_same h h').1]
    | star a' => obtain ⟨ga', h1, h2⟩ := h'; have := (nodeAt_same h h1).2; cases this
    | bin s' a' b' => obtain ⟨ga', gb', h1, h2, h3⟩ := h'; have := (nodeAt_same h h1).2; cases this
  | star a ih =>
    intro u g h h'
    obtain ⟨ga, h1, h2⟩ := h
    cases u with
    | leaf s' => have := (nodeAt_same h1 h').2; cases this
    | star a' =>
      obtain ⟨ga', h3, h4⟩ := h'
      have := (nodeAt_same h1 h3).2
      injection this with e
      subst e
      rw [ih h2 h4]
    | bin s' a' b' => obtain ⟨ga', gb', h3, h4, h5⟩ := h'; have := (nodeAt_same h1 h3).2; cases this
  | bin s a b iha ihb =>
    intro u g h h'
    obtain ⟨ga, gb, h1, h2, h3⟩ := h
    cases u with
    | leaf s' => have := (nodeAt_same h1 h').2; cases this
    | star a' => obtain ⟨ga', h4, h5⟩ := h'; have := (nodeAt_same h1 h4).2; cases this
    | bin s' a' b' =>
      obtain ⟨ga', gb', h4, h5, h6⟩ := h'
      obtain ⟨e1, e2⟩ := nodeAt_same h1 h4
      injection e2 with e2 e3
      injection e3 with e3 e4
      subst e1 e2 e3
      rw [iha h2 h5, ihb h3 h6]
theorem isT.isNode {w : World} {X : Nat → Prop} {t : Tr} {g : Nat} (h : isT w X t g) : isNode w g := by
  obtain ⟨gs, _, ⟨A, c, h1, _⟩, _⟩ := h.node
  exact ⟨_, _, h1⟩
end Go.Proofs.Ytlnkkjmejmhaiaa
