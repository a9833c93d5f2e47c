/-
  Draws of an expression and a number, and of a number, for the laws on lists of traces.
-/
import Derived.Test.YtlnkkjmejmhaiaaDrawK
import Derived.Deep.RegionLaw
import Derived.Deep.RegionHeld3
namespace Go.Proofs.Ytlnkkjmejmhaiaa
open Go.RowKit
set_option linter.unusedVariables false
set_option maxHeartbeats 400000

/-- the numbers of DrawTracesOf -/
abbrev LITI : Array Value := #[.int .i64 0, .int .i64 1, .int .i64 1, .int .i64 1, .int .i64 1, .int .i64 2, .int .i64 (-1), .int .i64 3]
theorem liti_at (m : Int) (h0 : 0 ≤ m) (h8 : m < 8) : ∃ x : Int, -1 ≤ x ∧ x ≤ 3 ∧ LITI[m.toNat]? = some (.int .i64 x) := by
  have : m = 0 ∨ m = 1 ∨ m = 2 ∨ m = 3 ∨ m = 4 ∨ m = 5 ∨ m = 6 ∨ m = 7 := by omega
  rcases this with rfl | rfl | rfl | rfl | rfl | rfl | rfl | rfl
  · exact ⟨0, by decide, by decide, rfl⟩
  · exact ⟨1, by decide, by decide, rfl⟩
  · exact ⟨1, by decide, by decide, rfl⟩
  · exact ⟨1, by decide, by decide, rfl⟩
  · exact ⟨1, by decide, by decide, rfl⟩
  · exact ⟨2, by decide, by decide, rfl⟩
  · exact ⟨-1, by decide, by decide, rfl⟩
  · exact ⟨3, by decide, by decide, rfl⟩
theorem pO {w0 W : World} {B p : Nat} (hp : p ≤ 100000) (hr : Rs 69 w0 W B p) :
    Calls Try.prog 73 #[.pointer (some ⟨B, 0, none⟩), .int .i64 8] W fun e w' => ∃ m x : Int, e = .returned (.int .i64 m) ∧ 0 ≤ m ∧ m < 8 ∧ -1 ≤ x ∧ x ≤ 3 ∧ LITI[m.toNat]? = some (.int .i64 x) ∧ Rs 69 w0 w' B (p + 1) ∧ W.grownBy w' (some B) := by
  refine (pick_any 8 w0 W B p (by omega) hr).mono ?_
  rintro e w' ⟨m, rfl, m0, _, m1, hr2, hg⟩
  obtain ⟨x, x0, x3, hx⟩ := liti_at m m0 (m1 (by omega))
  exact ⟨m, x, rfl, m0, m1 (by omega), x0, x3, hx, hr2, hg⟩
theorem kO {w0 W : World} {B p : Nat} (hp : p ≤ 100000) (hr : Rs 69 w0 W B p) :
    Calls Try.prog 54 #[.pointer (some ⟨B, 0, none⟩), .int .i64 3, .int .i64 12] W fun e w' => ∃ A n c xs p' base, e = .returned (.slice A n c) ∧ Own w' base A n c xs ∧ B < base ∧ w0.heap.size ≤ base ∧ n ≤ 41 ∧ p' ≤ p + 1200 ∧ Rs 69 w0 w' B p' ∧ W.grownBy w' (some B) := by
  refine (kat_any 3 12 (by omega) (by omega) (by omega) w0 W B p (by omega) hr).mono ?_
  rintro e w' ⟨A, n, c, xs, p', rfl, o, hn, _, hp', hr', hg⟩
  exact ⟨A, n, c, xs, p', _, rfl, o, hr.lt, hr.below.size, hn, hp', hr', hg⟩
theorem lit_new (w : World) {i : Nat} {v : Value} (h : LITI[i]? = some v) : (w.alloc (.cells LITI 3)).cell? ⟨w.heap.size, i, none⟩ = some v := by
  rw [cell_at (heap_alloc_new w _)]; exact h
theorem lit_kept {W w' : World} {L B i : Nat} {v : Value} (h : W.heap[L]? = some (.cells LITI 3)) (g : W.grownBy w' (some B)) (hne : L ≠ B) (hv : LITI[i]? = some v) : w'.cell? ⟨L, i, none⟩ = some v := by
  rw [cell_at (grown_keep g h hne)]; exact hv
theorem cell_kept {W w' : World} {L B i : Nat} {v : Value} (g : W.grownBy w' (some B)) (hne : L ≠ B) (hc : W.cell? ⟨L, i, none⟩ = some v) : w'.cell? ⟨L, i, none⟩ = some v := by
  have hlt := World.block_lt_of_cell? _ _ hc
  have := g.block L hlt (by simpa using hne)
  rw [← hc]
  simp only [World.cell?, this]
def DrewEN (w : World) (e : Ending) (w' : World) : Prop := ∃ A n c xs m, e = .returned (.tuple #[.slice A n c, .int .i64 m]) ∧ Own w' w.heap.size A n c xs ∧ n ≤ 41 ∧ -1 ≤ m ∧ m ≤ 3 ∧ Since w w'
theorem draw_TracesOf (a : Option Addr) (len cap : Nat) (z : List Int) (w : World) (h : RowIn .u8 w a len cap z) : Calls Try.prog 41 #[.slice a len cap] w (DrewEN w) := by
  go_enter Try.func41, Try.ntmps41
  go_wp2_with fail
  refine (open_any a len cap z w h).mono ?_
  rintro e w1 ⟨rfl, hr⟩
  clear h
  have hlt := hr.lt
  have fin : ∀ A n c xs base m w', Own w' base A n c xs → w.heap.size ≤ base → n ≤ 41 → -1 ≤ m → m ≤ 3 → Below w.heap.size w w' → DrewEN w (.returned (.tuple #[.slice A n c, .int .i64 m])) w' :=
    fun _ _ _ _ _ _ _ o hb hn m0 m1 hs => ⟨_, _, _, _, _, rfl, o.lower hb, hn, m0, m1, hs⟩
  replace fin := Lib.hid fin
  go_wp2_with fail
  have r0 : Rs 69 w w1.drew w.heap.size 0 := hr.grown (grown_drew (grown_refl _ _))
  have rL : Rs 69 w (w1.drew.alloc (.cells LITI 3)) w.heap.size 0 := hr.grown (grown_alloc (grown_drew (grown_refl _ _)) _)
  have hL : (w1.drew.alloc (.cells LITI 3)).heap[w1.heap.size]? = some (.cells LITI 3) := heap_alloc_new w1.drew _
  have hne : w1.heap.size ≠ w.heap.size := by omega
  clear hr
  go_region_law (first
    | ((go_simp; go_at_call 54; refine (kO (by omega) r0).mono ?_; rintro e wK ⟨A, n, c, xs, pK, base, rfl, oK, hbK, hsK, hn, hpK, rK, gK⟩))
    | ((go_simp; go_at_call 54; refine (kO (by omega) rL).mono ?_; rintro e wK ⟨A, n, c, xs, pK, base, rfl, oK, hbK, hsK, hn, hpK, rK, gK⟩; have jK := grown_keep gK hL hne))
    | ((go_simp; go_at_call 54; refine (kO (by omega) rP).mono ?_; rintro e wK ⟨A, n, c, xs, pK, base, rfl, oK, hbK, hsK, hn, hpK, rK, gK⟩; (try have cK := cell_kept gK hne cQ)))
    | ((go_simp; go_at_call 54; refine (kO (by omega) (rP.since ((Since.refl _).alloc (.cells LITI 3)))).mono ?_; rintro e wK ⟨A, n, c, xs, pK, base, rfl, oK, hbK, hsK, hn, hpK, rK, gK⟩; have cK := cell_kept gK (show wP.heap.size ≠ w.heap.size by have := rP.lt; omega) cP))
    | ((go_simp; go_at_call 73; refine (pO (by omega) r0).mono ?_; rintro e wP ⟨m, x, rfl, m0, m8, x0, x3, lm, rP, gP⟩; have cP := lit_new wP lm; clear lm))
    | ((go_simp; go_at_call 73; refine (pO (by omega) rL).mono ?_; rintro e wP ⟨m, x, rfl, m0, m8, x0, x3, lm, rP, gP⟩; have cQ := lit_kept hL gP hne lm; clear lm))
    | ((go_simp; go_at_call 73; refine (pO (by omega) rK).mono ?_; rintro e wP ⟨m, x, rfl, m0, m8, x0, x3, lm, rP, gP⟩; have cP := lit_new wP lm; (try have cQ := lit_kept jK gP hne lm); have oK2 := oK.over gP hbK; clear lm))
    | ((go_simp; go_at_call 73; refine (pO (by omega) (rK.since ((Since.refl _).alloc (.cells LITI 3)))).mono ?_; rintro e wP ⟨m, x, rfl, m0, m8, x0, x3, lm, rP, gP⟩; have cQ := lit_kept (heap_alloc_new wK _) gP (show wK.heap.size ≠ w.heap.size by have := rK.lt; omega) lm; have oK2 := (oK.alloc _).over gP hbK; clear lm)))
  all_goals (go_wp2_with fail)
  all_goals go_ret2
  all_goals first
    | exact fin.out _ _ _ _ _ _ _ oK2 hsK hn x0 x3 rP.below
    | exact fin.out _ _ _ _ _ _ _ (oK2.alloc _) hsK hn x0 x3 (Below.alloc rP.below rP.below.size _)
    | exact fin.out _ _ _ _ _ _ _ oK hsK hn x0 x3 rK.below
    | exact fin.out _ _ _ _ _ _ _ (oK.alloc _) hsK hn x0 x3 (Below.alloc rK.below rK.below.size _)
theorem draw_AllTraces (a : Option Addr) (len cap : Nat) (z : List Int) (w : World) (h : RowIn .u8 w a len cap z) : Calls Try.prog 46 #[.slice a len cap] w fun e w' => ∃ m : Int, e = .returned (.int .i64 m) ∧ -2 ≤ m ∧ m ≤ 3 ∧ Since w w' := by
  go_enter Try.func46, Try.ntmps46
  go_wp2_with fail
  refine (open_any a len cap z w h).mono ?_
  rintro e w1 ⟨rfl, hr⟩
  clear h
  have hpk := Lib.hid (pick_any 6 w w1 _ 0 (by omega) hr)
  clear hr
  go_wp2_with fail
  refine hpk.out.mono ?_
  rintro e w2 ⟨m, rfl, m0, _, m1, hr2, hg2⟩
  have hm := m1 (by omega)
  have hb : Since w w2 := hr2.below
  clear hr2 hg2 hpk m1
  go_wp2_with fail
  go_ret
  exact ⟨m - 2, rfl, by omega, by omega, hb⟩
end Go.Proofs.Ytlnkkjmejmhaiaa
