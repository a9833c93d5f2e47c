/-
  Contracts of the functions that join expressions (chapter 2).
-/
import Derived.Test.YtfhfjkpheloanaaDoorKat
namespace Go.Proofs.YtfhfjkpheloanaaDoor
open Go.RowKit
set_option linter.unusedVariables false
set_option maxHeartbeats 400000

/-- What a fresh list and a truth leave. -/
def Fresh2 (w : World) (r : List Int × Bool) (e : Ending) (w' : World) : Prop := ∃ A n c, e = .returned (.tuple #[.slice A n c, .bool r.2]) ∧ Own w' w.heap.size A n c r.1 ∧ Since w w'
theorem Fresh2.mk {w w' : World} {r : List Int × Bool} {l : List Int} {b : Bool} {A : Option Addr} {n c : Nat} (h : r = (l, b)) (o : Own w' w.heap.size A n c l) (s : Since w w') :
    Fresh2 w r (.returned (.tuple #[.slice A n c, .bool b])) w' := by
  subst h
  exact ⟨A, n, c, rfl, o, s⟩

theorem l2Join_any (A : Option Addr) (n c : Nat) (xs : List Int) (A' : Option Addr) (n' c' : Nat) (ys : List Int) (s : Int) (w : World)
    (hn : n ≤ 274877906944) (hn' : n' ≤ 274877906944) (h : Ls w w.heap.size A n c xs) (h' : Ls w w.heap.size A' n' c' ys) (hs : (Lit.int .i64 s).wf = true) :
    Calls Tryd.prog 15 #[.slice A n c, .slice A' n' c', .int .i64 s] w (Fresh w (jn xs ys s)) := by
  go_enter Tryd.func15, Tryd.ntmps15
  have tok1 : True := trivial
  have tok2 : True := trivial
  have tok3 : True := trivial
  go_wp2_with (first
    | (at_builtin
       have _t := tok1
       refine wpList_app rfl _ _ rfl w.heap.size _ 0 0 [] rfl (Own.zero w) _ A n c xs rfl (h.alloc (Nat.le_refl _) _) (by omega) (by simp) ?_
       intro A1 c1 w1 o1 g1
       have s1 : Since w w1 := ((Since.refl w).alloc _).app (Nat.le_refl _) g1
       simp only [Nat.zero_add, List.nil_append] at o1
       simp only [Nat.zero_add]
       clear g1 tok1)
    | (at_builtin
       have _t := tok2
       refine wpList_app rfl _ _ rfl w.heap.size _ n c1 xs rfl o1 _ A' n' c' ys rfl (h'.since s1) (by omega) s1.size ?_
       intro A2 c2 w2 o2 g2
       have s2 : Since w w2 := s1.app (Nat.le_refl _) g2
       clear g2 tok2)
    | (at_builtin
       have _t := tok3
       refine wpList_app rfl _ _ rfl w.heap.size _ (n + n') c2 (xs ++ ys) rfl (o2.alloc _) _ _ 1 1 [s] rfl (Ls.one w2 s hs _) (by omega) (s2.alloc _).size ?_
       intro A3 c3 w3 o3 g3
       have s3 : Since w w3 := (s2.alloc _).app (Nat.le_refl _) g3
       clear g3 tok3))
  go_ret
  exact ⟨_, _, _, rfl, o3, s3⟩
end Go.Proofs.YtfhfjkpheloanaaDoor
