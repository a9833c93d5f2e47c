/-
  Words and small facts for worlds: no program in sight.
-/
import Derived.WalkKit
import Derived.WalkSpells
import Derived.WalkLawsBesides
import Derived.OneCell
import Derived.Lib.Hide
import Derived.Deep.QuietTactic
import Derived.BigQuiet
import Derived.OpenShut
namespace Go.Proofs.YtfhfjkpheloanaaDoor
open Go.RowKit
set_option linter.unusedVariables false

theorem add_at (b off i : Nat) : (⟨b, off, none⟩ : Addr).add i = ⟨b, off + i, none⟩ := by
  by_cases h : i = 0
  · subst h; simp [Addr.add]
  · simp [Addr.add, h]

/-- A slice of integers that came in: nil, or a row of 'cap' cells, the numbers 'zs'. -/
def RowIn (k : IntKind) (w : World) (a : Option Addr) (len cap : Nat) (zs : List Int) : Prop :=
  (a = none ∧ len = 0 ∧ cap = 0 ∧ zs = []) ∨
  ∃ x, a = some x ∧ len ≤ cap ∧ cap ≤ maxLen ∧ zs.length = cap ∧ (∀ i, i < zs.length → w.cell? (x.add i) = some (.int k (zs.getD i 0))) ∧ ∀ n ∈ zs, (Lit.int k n).wf = true

/-- A few bytes in memory below block B. -/
def Bytes (w : World) (B : Nat) (a : Option Addr) (n : Nat) : Prop :=
  n = 0 ∨ ∃ b off, a = some ⟨b, off, none⟩ ∧ b < B ∧ ∀ i, i < n → ∃ z : Int, 0 ≤ z ∧ z ≤ 255 ∧ w.cell? ⟨b, off + i, none⟩ = some (.int .u8 z)

theorem Bytes.keep {w w' : World} {B : Nat} {a : Option Addr} {n : Nat} (h : Bytes w B a n) (hb : Below B w w') : Bytes w' B a n := by
  rcases h with h | ⟨b, off, ha, hlt, hc⟩
  · exact .inl h
  · exact .inr ⟨b, off, ha, hlt, fun i hi => by obtain ⟨z, h0, h1, h2⟩ := hc i hi; exact ⟨z, h0, h1, by rw [hb.cell (p := ⟨b, off + i, none⟩) hlt]; exact h2⟩⟩

theorem Bytes.less {w : World} {B : Nat} {a : Option Addr} {n m : Nat} (h : Bytes w B a n) (hm : m ≤ n) : Bytes w B a m := by
  rcases h with h | ⟨b, off, ha, hlt, hc⟩
  · exact .inl (by omega)
  · exact .inr ⟨b, off, ha, hlt, fun i hi => hc i (by omega)⟩

theorem Bytes.of_row {w : World} {a : Option Addr} {len cap : Nat} {zs : List Int} (h : RowIn .u8 w a len cap zs) : Bytes w w.heap.size a len := by
  rcases h with ⟨_, h, _, _⟩ | ⟨x, ha, hl, hm, hz, hc, hwz⟩
  · exact .inl h
  · by_cases h0 : len = 0
    · exact .inl h0
    · obtain ⟨b, off, spot⟩ := x
      have hc0 := hc 0 (by omega)
      have hspot : spot = none := by simpa [Addr.add] using World.cell?_spot hc0
      subst hspot
      refine .inr ⟨b, off, ha, World.block_lt_of_cell? w _ hc0, fun i hi => ⟨zs.getD i 0, ?_, ?_, by rw [← add_at]; exact hc i (by omega)⟩⟩
      all_goals
        have hin : zs.getD i 0 ∈ zs := by
          rw [List.getD_eq_getElem?_getD, List.getElem?_eq_getElem (by omega)]; simp
        have := hwz _ hin
        have hb := bounds_u8 this
        omega

theorem cell_at {w : World} {B : Nat} {c : Array Value} {t : TypeId} {i : Nat} (h : w.heap[B]? = some (.cells c t (0, 0))) : w.cell? ⟨B, i, none⟩ = c[i]? := by simp [World.cell?, h]
theorem free_at {w : World} {B : Nat} {c : Array Value} {t : TypeId} {i : Nat} (h : w.heap[B]? = some (.cells c t (0, 0))) : w.frozen? ⟨B, i, none⟩ = false := by simp [World.frozen?, h]
theorem block_setCell {w : World} {B i : Nat} {c : Array Value} {t : TypeId} {v : Value} (h : w.heap[B]? = some (.cells c t (0, 0))) : (w.setCell ⟨B, i, none⟩ v).heap[B]? = some (.cells (c.setIfInBounds i v) t (0, 0)) := by
  have hlt := lt_of_block h
  have h' : w.heap[B] = .cells c t (0, 0) := by simpa [Array.getElem?_eq_getElem hlt] using h
  show (w.heap.modify B _)[B]? = _
  rw [Array.getElem?_eq_getElem (by simpa using hlt), Array.getElem_modify_self, h']
  rfl

theorem grown_setCell (w : World) (B i : Nat) (v : Value) : w.grownBy (w.setCell ⟨B, i, none⟩ v) (some B) :=
  ⟨rfl, rfl, rfl, by simp [World.setCell], fun k _ hk => Below.heap_setCell _ _ _ _ (by intro h; exact hk (by rw [h]))⟩
theorem grown_drew {w w' : World} {r : Option Nat} (h : w.grownBy w' r) : w.grownBy w'.drew r := ⟨h.os, h.tape, h.output, h.size, h.block⟩
theorem grown_drewN {w w' : World} {r : Option Nat} (h : w.grownBy w' r) (n : Nat) : w.grownBy (w'.drewN n) r := ⟨h.os, h.tape, h.output, h.size, h.block⟩
theorem grown_refl (w : World) (r : Option Nat) : w.grownBy w r := ⟨rfl, rfl, rfl, Nat.le_refl _, fun _ _ _ => rfl⟩

theorem grown_alloc {w w' : World} {r : Option Nat} (h : w.grownBy w' r) (o : Obj) : w.grownBy (w'.alloc o) r :=
  ⟨h.os, h.tape, h.output, Nat.le_trans h.size (by simp), fun k hk hne => (Below.heap_alloc _ _ _ (Nat.lt_of_lt_of_le hk h.size)).trans (h.block k hk hne)⟩
theorem grown_trans {w w1 w2 : World} {r : Option Nat} (h : w.grownBy w1 r) (k : w1.grownBy w2 r) : w.grownBy w2 r :=
  ⟨k.os.trans h.os, k.tape.trans h.tape, k.output.trans h.output, Nat.le_trans h.size k.size, fun i hi hne => (k.block i (Nat.lt_of_lt_of_le hi h.size) hne).trans (h.block i hi hne)⟩
theorem grown_some {w w' : World} (h : w.grownBy w' none) (r : Option Nat) : w.grownBy w' r := ⟨h.os, h.tape, h.output, h.size, fun k hk _ => h.block k hk (by simp)⟩
theorem grown_below {w w' : World} {B : Nat} (h : w.grownBy w' (some B)) (hB : B < w.heap.size) : Below B w w' := ⟨h.os, h.tape, h.output, h.size, fun k hk => h.block k (by omega) (by simp; omega)⟩
theorem grown_keep {w w' : World} {B k : Nat} {o : Obj} (h : w.grownBy w' (some B)) (hk : w.heap[k]? = some o) (hne : k ≠ B) : w'.heap[k]? = some o := by
  rw [h.block k (lt_of_block hk) (by simpa using hne)]; exact hk

/-- THE READER OF A CODE, made by a draw that began in the world w0: it lies in block B, the first one of the draw's own; p bytes have been asked for; the code is as it came in. T: the reader's type. -/
structure Rs (T : TypeId) (w0 w : World) (B p : Nat) : Prop where
  below : Below B w0 w
  base : B = w0.heap.size
  head : ∃ a n c, w.heap[B]? = some (.cells #[.slice a n c, .int .i64 p] T (0, 0)) ∧ Bytes w0 B a n ∧ n ≤ 2000

theorem Rs.grown {T : TypeId} {w0 w w' : World} {B p : Nat} (h : Rs T w0 w B p) (hg : w.grownBy w' none) : Rs T w0 w' B p := by
  obtain ⟨hb, hB, a, n, c, hh, hy, hn⟩ := h
  have hlt := lt_of_block hh
  exact ⟨hb.trans ⟨hg.os, hg.tape, hg.output, hg.size, fun k hk => hg.block k (by omega) (by simp)⟩, hB, a, n, c, by rw [hg.block B hlt (by simp)]; exact hh, hy, hn⟩
/-- A callee that leaves the world alone, in a region that draws its order. -/
theorem quiet_mine {P : Program} {f : FuncId} {args : Array Value} {w : World} {n : Nat} {v : Value}
    (h : Calls P f args (w.drewN n) fun e w' => e = .returned v ∧ w.drewN n = w') : Calls P f args (w.drewN n) fun e w'' => e = .returned v ∧ ∃ m, w'' = w.drewN m :=
  h.mono fun _ _ ⟨he, hm⟩ => ⟨he, n, hm.symm⟩
end Go.Proofs.YtfhfjkpheloanaaDoor
