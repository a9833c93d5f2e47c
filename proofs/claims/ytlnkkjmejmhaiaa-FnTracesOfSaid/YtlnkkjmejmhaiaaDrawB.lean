/-
  Small facts for the draws that make lists.
-/
import Derived.Test.YtlnkkjmejmhaiaaDraw
import Derived.Test.YtlnkkjmejmhaiaaSl
import Derived.Test.YtlnkkjmejmhaiaaLib
namespace Go.Proofs.Ytlnkkjmejmhaiaa
open Go.RowKit
set_option linter.unusedVariables false
set_option maxHeartbeats 400000

section
variable {T : TypeId} {w0 w w1 w2 : World} {B p base n c : Nat} {A : Option Addr} {xs : List Int} {r : Option Nat}
theorem since_grown (s : Since w w1) : w.grownBy w1 none := ⟨s.below.os, s.below.tape, s.below.output, s.size, fun k hk _ => s.below.block k hk⟩
theorem Rs.since (h : Rs T w0 w B p) (s : Since w w1) : Rs T w0 w1 B p := h.grown (since_grown s)
theorem Rs.lt (h : Rs T w0 w B p) : B < w.heap.size := by obtain ⟨_, _, _, _, _, hh, _⟩ := h; exact lt_of_block hh
theorem Rs.app {A : Option Addr} (h : Rs T w0 w B p) (hb : B < base) (hg : ∃ row, w.grownBy w1 row ∧ ∀ g, row = some g → base ≤ g ∧ A = some ⟨g, 0, none⟩) : Rs T w0 w1 B p := by
  obtain ⟨row, hg, hr⟩ := hg
  obtain ⟨hbel, hB, a, n, c, hh, hy, hn⟩ := h
  have hlt := lt_of_block hh
  have hne : ∀ k, k ≤ B → some k ≠ row := fun k hk e => by have := (hr k e.symm).1; omega
  exact ⟨hbel.trans ⟨hg.os, hg.tape, hg.output, hg.size, fun k hk => hg.block k (by omega) (hne k (by omega))⟩, hB, a, n, c, by rw [hg.block B hlt (hne B (Nat.le_refl _))]; exact hh, hy, hn⟩
theorem grown_since (h : w.grownBy w1 r) (s : Since w1 w2) : w.grownBy w2 r := grown_trans h (grown_some (since_grown s) r)
theorem grown_app {A : Option Addr} (h : w.grownBy w1 r) (hb : w.heap.size ≤ base) (hg : ∃ row, w1.grownBy w2 row ∧ ∀ g, row = some g → base ≤ g ∧ A = some ⟨g, 0, none⟩) : w.grownBy w2 r := by
  obtain ⟨row, hg, hr⟩ := hg
  exact ⟨hg.os.trans h.os, hg.tape.trans h.tape, hg.output.trans h.output, Nat.le_trans h.size hg.size, fun k hk hne =>
    (hg.block k (Nat.lt_of_lt_of_le hk h.size) (fun e => by have := (hr k e.symm).1; omega)).trans (h.block k hk hne)⟩
theorem Own.over (h : Own w base A n c xs) (hg : w.grownBy w1 (some B)) (hB : B < base) : Own w1 base A n c xs :=
  h.keep hg fun g hA hrow => by
    rcases h.form with ⟨h1, _⟩ | ⟨g1, h1, h2, _, _⟩
    · rw [h1] at hA; cases hA
    · rw [h1] at hA; simp at hA hrow; omega
theorem Own.lit (w : World) (x : Int) (hx : (Lit.int .i64 x).wf = true) : Own (w.alloc (.cells #[.int .i64 x] 3)) w.heap.size (some ⟨w.heap.size, 0, none⟩) 1 1 [x] :=
  ⟨rfl, ⟨rfl, .inr ⟨w.heap.size, 1, #[.int .i64 x], rfl, Nat.le_refl _, heap_alloc_new w _, Nat.le_refl _, by decide, rfl, rfl⟩⟩, by simpa using hx⟩
end

/-- drawn numbers -/
def InR (xs : List Int) : Prop := ∀ x ∈ xs, -1 ≤ x ∧ x ≤ 22
theorem InR.nil : InR [] := by intro x hx; cases hx
theorem InR.one {x : Int} (h0 : -1 ≤ x) (h1 : x ≤ 22) : InR [x] := by intro y hy; simp at hy; subst hy; exact ⟨h0, h1⟩
theorem InR.app {xs ys : List Int} (h : InR xs) (h' : InR ys) : InR (xs ++ ys) := by
  intro x hx
  rcases List.mem_append.1 hx with hx | hx
  · exact h x hx
  · exact h' x hx

/-- What a drawn list leaves: at most q bytes have been asked for, it has at most N numbers. -/
def DrewL (w0 w : World) (B p q N : Nat) (e : Ending) (w' : World) : Prop :=
  ∃ A n c xs p', e = .returned (.slice A n c) ∧ Own w' w.heap.size A n c xs ∧ n ≤ N ∧ InR xs ∧ p' ≤ p + q ∧ Rs 69 w0 w' B p' ∧ w.grownBy w' (some B)

def lenOf : Value → Nat | .slice _ n _ => n | _ => 0
theorem InR.two {x y : Int} (h0 : -1 ≤ x) (h1 : x ≤ 22) (h2 : -1 ≤ y) (h3 : y ≤ 22) : InR [x, y] := by
  intro z hz
  simp at hz
  rcases hz with rfl | rfl <;> omega
end Go.Proofs.Ytlnkkjmejmhaiaa
