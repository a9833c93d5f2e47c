/-
  Contracts of the program's reader of expressions: take (chapter 2).
-/
import Derived.Test.YtfhfjkpheloanaaDoorReadP
import Derived.Test.YtfhfjkpheloanaaDoorKatJ
import Derived.Test.YtfhfjkpheloanaaDoorLib
namespace Go.Proofs.YtfhfjkpheloanaaDoor
open Go.RowKit
set_option linter.unusedVariables false
set_option maxHeartbeats 400000

/-- The reader of a text lies in block g and is at byte i. -/
def At (w : World) (g : Nat) (l : List UInt8) (i : Nat) : Prop := w.heap[g]? = some (.cells #[.string (bs l), .int .i64 i] 35 (0, 0))
section
variable {w w' : World} {g i : Nat} {l : List UInt8}
theorem At.lt (h : At w g l i) : g < w.heap.size := lt_of_block h
theorem At.c0 (h : At w g l i) : w.cell? ⟨g, 0, none⟩ = some (.string (bs l)) := by rw [cell_at h]; rfl
theorem At.c1 (h : At w g l i) : w.cell? ⟨g, 1, none⟩ = some (.int .i64 i) := by rw [cell_at h]; rfl
theorem At.free (h : At w g l i) : w.frozen? ⟨g, 1, none⟩ = false := free_at h
theorem At.set_ (h : At w g l i) (v : Nat) : At (w.setCell ⟨g, 1, none⟩ (.int .i64 v)) g l v := by
  have := block_setCell (i := 1) (v := .int .i64 v) h
  exact this
theorem At.step (h : At w g l i) (v : Int) (m : Nat) (hv : v = m) : At (w.setCell ⟨g, 1, none⟩ (.int .i64 v)) g l m := by
  subst hv
  exact h.set_ m
theorem At.drewN (h : At w g l i) (n : Nat) : At (w.drewN n) g l i := h
theorem At.drew (h : At w g l i) : At w.drew g l i := h
theorem At.alloc (h : At w g l i) (o : Obj) : At (w.alloc o) g l i := (Below.heap_alloc _ _ _ h.lt).trans h
theorem At.grown {row : Option Nat} (h : At w g l i) (hg : w.grownBy w' row) (hr : row ≠ some g) : At w' g l i := (hg.block g h.lt (Ne.symm hr)).trans h
end
theorem bs_at' (l : List UInt8) (i : Nat) (h : i < (bs l).size) : (bs l)[i] = l.getD i 0 := by
  have h' : i < l.length := h
  show (bs l).data[i] = _
  simp [bs, List.getD_eq_getElem?_getD, List.getElem?_eq_getElem h']
/-- what take leaves -/
def Took (l : List UInt8) (g i : Nat) (c : UInt8) (w : World) (e : Ending) (w' : World) : Prop := e = .returned (.bool (atB l i c)) ∧ w.grownBy w' (some g) ∧ At w' g l (if atB l i c then i + 1 else i)
theorem impl_take (l : List UInt8) (hl : l.length ≤ 199) (g i : Nat) (c : UInt8) (w : World) (h : At w g l i) (hi : i ≤ l.length) :
    Calls Tryd.prog 19 #[.pointer (some ⟨g, 0, none⟩), .int .u8 c.toNat] w (Took l g i c w) := by
  have hz : (bs l).size = l.length := rfl
  have c0 := h.c0
  have c1 := h.c1
  have fr := h.free
  by_cases hlt : i < l.length
  · have hiz : (i : Int) < l.length := by omega
    have hlt' : i < (bs l).size := hlt
    have hx := bs_at' l i hlt'
    by_cases hb : l.getD i 0 = c
    · have hx1 : ((((bs l)[i]'hlt').toNat : Int) == (c.toNat : Int)) = true := by rw [hx, hb]; simp
      have ha : Hid (atB l i c = true) := by show _ = _; unfold atB; rw [decide_eq_true hlt, hb]; simp
      clear hx hb
      go_enter Tryd.func19, Tryd.ntmps19
      go_wp2_with fail
      go_quiet (fail)
      go_wp2_with fail
      go_ret
      refine ⟨ret_bool ha.out.symm, grown_trans (grown_drewN (grown_refl _ _) _) (grown_setCell _ _ _ _), ?_⟩
      rw [if_pos ha.out]
      exact (h.drewN _).step _ _ (by omega)
    · have hx1 : ((((bs l)[i]'hlt').toNat : Int) == (c.toNat : Int)) = false := by
        rw [hx]
        have : (l.getD i 0).toNat ≠ c.toNat := fun e => hb (UInt8.toNat_inj.1 e)
        simpa using fun e : ((l.getD i 0).toNat : Int) = (c.toNat : Int) => this (by omega)
      have ha : Hid (atB l i c = false) := by show _ = _; unfold atB; rw [decide_eq_true hlt]; simpa using hb
      clear hx hb
      go_enter Tryd.func19, Tryd.ntmps19
      go_wp2_with fail
      go_quiet (fail)
      go_wp2_with fail
      go_ret
      refine ⟨ret_bool ha.out.symm, grown_drewN (grown_refl _ _) _, ?_⟩
      rw [ha.out]
      exact h.drewN _
  · have hiz : ¬ (i : Int) < l.length := by omega
    have ha : Hid (atB l i c = false) := atB_no (by omega)
    go_enter Tryd.func19, Tryd.ntmps19
    go_wp2_with fail
    go_quiet (fail)
    go_wp2_with fail
    go_ret
    refine ⟨ret_bool ha.out.symm, grown_drewN (grown_refl _ _) _, ?_⟩
    rw [ha.out]
    exact h.drewN _
end Go.Proofs.YtfhfjkpheloanaaDoor
