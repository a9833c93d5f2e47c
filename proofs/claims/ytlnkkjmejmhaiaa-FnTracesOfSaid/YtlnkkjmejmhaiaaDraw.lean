/-
  Contracts of the draws: the reader of a code; tests.
-/
import Derived.Test.YtlnkkjmejmhaiaaBase
import Derived.Test.YtlnkkjmejmhaiaaTests
namespace Go.Proofs.Ytlnkkjmejmhaiaa
open Go.RowKit
set_option linter.unusedVariables false
set_option maxHeartbeats 400000

/-- What a pick leaves. -/
def Picked (n : Int) (w0 w : World) (B p : Nat) (e : Ending) (w' : World) : Prop :=
  ∃ m : Int, e = .returned (.int .i64 m) ∧ 0 ≤ m ∧ (n < 1 → m = 0) ∧ (1 ≤ n → m < n) ∧ Rs 69 w0 w' B (p + 1) ∧ w.grownBy w' (some B)

theorem Picked.mk {n m : Int} {w0 w w' : World} {B p : Nat} {a : Option Addr} {k c : Nat} (hb : Below B w0 w) (hB : B = w0.heap.size) (hh : w.heap[B]? = some (.cells #[.slice a k c, .int .i64 p] 69 (0, 0))) (hy : Bytes w0 B a k) (hk : k ≤ 2000)
    (h0 : 0 ≤ m) (h1 : n < 1 → m = 0) (h2 : 1 ≤ n → m < n) (hw : ∃ q, w' = (w.setCell ⟨B, 1, none⟩ (.int .i64 ((p : Int) + 1))).drewN q) : Picked n w0 w B p (.returned (.int .i64 m)) w' := by
  obtain ⟨q, rfl⟩ := hw
  refine ⟨m, rfl, h0, h1, h2, ⟨?_, hB, a, k, c, ?_, hy, hk⟩, grown_drewN (grown_setCell _ _ _ _) _⟩
  · have := (hb.setCell (p := ⟨B, 1, none⟩) (Nat.le_refl _) (.int .i64 ((p : Int) + 1)))
    exact ⟨this.os, this.tape, this.output, this.size, this.block⟩
  · show (w.setCell ⟨B, 1, none⟩ (.int .i64 ((p : Int) + 1))).heap[B]? = _
    rw [block_setCell hh]; rfl

theorem pick_any (n : Int) (w0 w : World) (B p : Nat) (hp : p ≤ 1000000) (h : Rs 69 w0 w B p) :
    Calls Try.prog 73 #[.pointer (some ⟨B, 0, none⟩), .int .i64 n] w (Picked n w0 w B p) := by
  obtain ⟨hb, hB, a, k, c, hh, hy, hk⟩ := h
  have hy1 := Bytes.keep hy hb
  have c0 : w.cell? ⟨B, 0, none⟩ = some (.slice a k c) := by rw [cell_at hh]; rfl
  have c1 : w.cell? ⟨B, 1, none⟩ = some (.int .i64 p) := by rw [cell_at hh]; rfl
  have f1 : w.frozen? ⟨B, 1, none⟩ = false := free_at hh
  have D : ∀ (m : Int) (w' : World), 0 ≤ m → (n < 1 → m = 0) → (1 ≤ n → m < n) → (∃ q, w' = (w.setCell ⟨B, 1, none⟩ (.int .i64 ((p : Int) + 1))).drewN q) → Picked n w0 w B p (.returned (.int .i64 m)) w' := fun m w' h0 h1 h2 hw => Picked.mk hb hB hh hy hk h0 h1 h2 hw
  have D := Lib.hid D
  clear hh hy hB hb
  by_cases hn : n < 1
  · clear hy1
    go_enter Try.func73, Try.ntmps73
    go_wp2
    go_ret
    exact D.out 0 _ (by omega) (by omega) (by omega) ⟨0, rfl⟩
  · by_cases hk0 : k = 0
    · subst hk0
      clear hy1
      go_enter Try.func73, Try.ntmps73
      go_wp2
      go_ret
      exact D.out 0 _ (by omega) (by omega) (by omega) ⟨0, rfl⟩
    · rcases hy1 with hy1 | ⟨b, off, rfl, hlt, hc⟩
      · omega
      · by_cases hpk : p < k
        · obtain ⟨z, z0, z1, hz⟩ := hc p hpk
          clear hc
          go_enter Try.func73, Try.ntmps73
          go_wp2
          go_ret
          have hm := Int.emod_nonneg z (b := n) (by omega)
          have hl := Int.emod_lt_of_pos z (b := n) (by omega)
          exact D.out (z % n) _ hm (by omega) (fun _ => hl) ⟨0, rfl⟩
        · have hm1 : ((p : Int)).tmod k = ((p % k : Nat) : Int) := by
            rw [Int.tmod_eq_emod_of_nonneg (by omega)]; omega
          have hm2 : ((p : Int) * 7 + 3).tmod k = (((p * 7 + 3) % k : Nat) : Int) := by
            rw [Int.tmod_eq_emod_of_nonneg (by omega)]; push_cast; rfl
          have hm3 : ((p : Int)).tdiv k = ((p / k : Nat) : Int) := by
            rw [Int.tdiv_eq_ediv_of_nonneg (by omega)]; omega
          have b1 : p % k < k := Nat.mod_lt _ (by omega)
          have b2 : (p * 7 + 3) % k < k := Nat.mod_lt _ (by omega)
          have b3 : p / k ≤ p := Nat.div_le_self _ _
          generalize p % k = i at *
          generalize (p * 7 + 3) % k = j at *
          generalize p / k = d at *
          obtain ⟨z, z0, z1, hz⟩ := hc i b1
          obtain ⟨y, y0, y1, hy⟩ := hc j b2
          clear hc
          have kp : (0 : Int) < k := by omega
          have e1 : IntKind.i64.wrap ((p : Int) * 7) = (p : Int) * 7 := IntWalk.i64_in _ (by omega)
          have e2 : IntKind.i64.wrap ((p : Int) * 7 + 3) = (p : Int) * 7 + 3 := IntWalk.i64_in _ (by omega)
          have e3 : IntKind.i64.wrap (z * 131) = z * 131 := IntWalk.i64_in _ (by omega)
          have e4 : IntKind.i64.wrap (y * 1117) = y * 1117 := IntWalk.i64_in _ (by omega)
          have e5 : IntKind.i64.wrap (z * 131 + y * 1117) = z * 131 + y * 1117 := IntWalk.i64_in _ (by omega)
          have e6 : IntKind.i64.wrap ((p : Int) * 29) = (p : Int) * 29 := IntWalk.i64_in _ (by omega)
          have e7 : IntKind.i64.wrap (z * 131 + y * 1117 + (p : Int) * 29) = z * 131 + y * 1117 + (p : Int) * 29 := IntWalk.i64_in _ (by omega)
          have e8 : IntKind.i64.wrap ((d : Int) * 53) = (d : Int) * 53 := IntWalk.i64_in _ (by omega)
          have e9 : IntKind.i64.wrap (z * 131 + y * 1117 + (p : Int) * 29 + (d : Int) * 53) = z * 131 + y * 1117 + (p : Int) * 29 + (d : Int) * 53 := IntWalk.i64_in _ (by omega)
          go_enter Try.func73, Try.ntmps73
          go_wp2
          go_quiet (fail)
          clear e1 e2 e3 e4 e5 e6 e7 e8 e9 hm1 hm2 hm3
          go_wp2
          go_ret
          have hx : 0 ≤ bits .xor .i64 (z * 131 + y * 1117 + (p : Int) * 29 + (d : Int) * 53) ((z * 131 + y * 1117 + (p : Int) * 29 + (d : Int) * 53) / 64) := xor_nn (by omega) (by omega) (by omega) (by omega)
          generalize bits .xor .i64 (z * 131 + y * 1117 + (p : Int) * 29 + (d : Int) * 53) ((z * 131 + y * 1117 + (p : Int) * 29 + (d : Int) * 53) / 64) = x at *
          have hm := Int.emod_nonneg x (b := n) (by omega)
          have hl := Int.emod_lt_of_pos x (b := n) (by omega)
          have hq : x.tmod n = x % n := Int.tmod_eq_emod_of_nonneg hx
          exact D.out (x.tmod n) _ (by omega) (by omega) (by omega) ⟨nq, rfl⟩
theorem open_any (a : Option Addr) (len cap : Nat) (z : List Int) (w : World) (h : RowIn .u8 w a len cap z) :
    Calls Try.prog 55 #[.slice a len cap] w fun e w' => e = .returned (.pointer (some ⟨w.heap.size, 0, none⟩)) ∧ Rs 69 w w' w.heap.size 0 := by
  have hy := Bytes.of_row h
  have D : ∀ (k : Nat) (c : Nat), k ≤ len → k ≤ 2000 → Rs 69 w (w.alloc (.cells #[.slice a k c, .int .i64 0] 69)) w.heap.size 0 := fun k c hk h2 =>
    ⟨(Below.refl _ _).alloc (Nat.le_refl _) _, rfl, a, k, c, heap_alloc_new w _, hy.less hk, h2⟩
  have D := Lib.hid D
  have hcap : len ≤ cap := by
    rcases h with ⟨_, h1, h2, _⟩ | ⟨x, _, h1, _⟩ <;> omega
  clear hy h
  by_cases hl : 2000 < len
  · go_enter Try.func55, Try.ntmps55
    go_wp2
    go_ret
    exact ⟨rfl, D.out _ _ (by omega) (by omega)⟩
  · go_enter Try.func55, Try.ntmps55
    go_wp2
    go_ret
    exact ⟨rfl, D.out _ _ (by omega) (by omega)⟩
/-- What an odd leaves. -/
def Odd (n : Int) (w0 w : World) (B p : Nat) (e : Ending) (w' : World) : Prop :=
  ∃ (b : Bool) (p' : Nat), e = .returned (.bool b) ∧ p' ≤ p + 1 ∧ (n ≤ 0 → b = false) ∧ Rs 69 w0 w' B p' ∧ w.grownBy w' (some B)
theorem odd_any (n : Int) (hn : n ≤ 1000) (w0 w : World) (B p : Nat) (hp : p ≤ 1000000) (h : Rs 69 w0 w B p) :
    Calls Try.prog 78 #[.pointer (some ⟨B, 0, none⟩), .int .i64 n] w (Odd n w0 w B p) := by
  by_cases h0 : 0 < n
  · go_enter Try.func78, Try.ntmps78
    go_wp2_with fail
    refine (pick_any n w0 w B p hp h).mono ?_
    rintro e w' ⟨m, rfl, m0, m1, m2, hr, hg⟩
    go_wp2
    go_ret
    exact ⟨_, p + 1, rfl, Nat.le_refl _, by omega, hr, hg⟩
  · go_enter Try.func78, Try.ntmps78
    go_wp2
    go_ret
    exact ⟨false, p, rfl, by omega, fun _ => rfl, h, grown_refl _ _⟩
/-- What a drawn test leaves. -/
def Tested (n : Int) (w0 w : World) (B p : Nat) (e : Ending) (w' : World) : Prop :=
  ∃ (t : Int) (p' : Nat), e = .returned (.int .i64 t) ∧ -1 ≤ t ∧ t ≤ 16 ∧ (n ≤ 0 → 0 ≤ t ∧ t ≤ 15) ∧ p' ≤ p + 4 ∧ Rs 69 w0 w' B p' ∧ w.grownBy w' (some B)
theorem test_any (n : Int) (hn : n ≤ 1000) (w0 w : World) (B p : Nat) (hp : p + 10 ≤ 1000000) (h : Rs 69 w0 w B p) :
    Calls Try.prog 89 #[.pointer (some ⟨B, 0, none⟩), .int .i64 n] w (Tested n w0 w B p) := by
  go_enter Try.func89, Try.ntmps89
  go_wp2_with fail
  refine (odd_any n hn w0 w B p (by omega) h).mono ?_
  rintro e w1 ⟨b, p1, rfl, hp1, hb, hr1, hg1⟩
  cases b
  · go_wp2_with fail
    refine (pick_any 16 w0 w1 B p1 (by omega) hr1).mono ?_
    rintro e w2 ⟨m1, rfl, m10, m11, m12, hr2, hg2⟩
    go_wp2_with fail
    refine (pick_any 16 w0 w2 B _ (by omega) hr2).mono ?_
    rintro e w3 ⟨m2, rfl, m20, m21, m22, hr3, hg3⟩
    go_wp2_with fail
    refine (pick_any 8 w0 _ B _ (by omega) (hr3.grown (grown_alloc (grown_refl _ _) _))).mono ?_
    rintro e w4 ⟨m3, rfl, m30, m31, m32, hr4, hg4⟩
    have hB3 : B < w3.heap.size := by obtain ⟨_, _, _, _, _, hh, _⟩ := hr3; exact lt_of_block hh
    have hnew := grown_keep hg4 (heap_alloc_new w3 _) (by omega)
    obtain ⟨t, ht, t0, t1⟩ : ∃ t : Int, w4.cell? ⟨w3.heap.size, m3.toNat, none⟩ = some (.int .i64 t) ∧ 0 ≤ t ∧ t ≤ 15 := by
      rw [cell_at hnew]
      have h8 : m3 = 0 ∨ m3 = 1 ∨ m3 = 2 ∨ m3 = 3 ∨ m3 = 4 ∨ m3 = 5 ∨ m3 = 6 ∨ m3 = 7 := by omega
      rcases h8 with rfl | rfl | rfl | rfl | rfl | rfl | rfl | rfl <;> exact ⟨_, rfl, by omega, by omega⟩
    have hg : w.grownBy w4 (some B) := grown_trans hg1 (grown_trans hg2 (grown_trans hg3 (grown_trans (grown_alloc (grown_refl _ _) _) hg4)))
    clear hnew hg1 hg2 hg3 hg4
    go_wp2
    go_ret
    exact ⟨t, _, rfl, by omega, by omega, by omega, by omega, hr4, hg⟩
  · go_wp2_with fail
    refine (pick_any 2 w0 _ B p1 (by omega) (hr1.grown (grown_alloc (grown_refl _ _) _))).mono ?_
    rintro e w2 ⟨m1, rfl, m10, m11, m12, hr2, hg2⟩
    have hB3 : B < w1.heap.size := by obtain ⟨_, _, _, _, _, hh, _⟩ := hr1; exact lt_of_block hh
    have hnew := grown_keep hg2 (heap_alloc_new w1 _) (by omega)
    obtain ⟨t, ht, t0, t1⟩ : ∃ t : Int, w2.cell? ⟨w1.heap.size, m1.toNat, none⟩ = some (.int .i64 t) ∧ -1 ≤ t ∧ t ≤ 16 := by
      rw [cell_at hnew]
      have h8 : m1 = 0 ∨ m1 = 1 := by omega
      rcases h8 with rfl | rfl <;> exact ⟨_, rfl, by omega, by omega⟩
    have hg : w.grownBy w2 (some B) := grown_trans hg1 (grown_trans (grown_alloc (grown_refl _ _) _) hg2)
    have hn0 : ¬ n ≤ 0 := fun h => by simpa using hb h
    clear hnew hg1 hg2 hb
    go_wp2
    go_ret
    exact ⟨t, _, rfl, by omega, by omega, by omega, by omega, hr2, hg⟩
/-- What a draw of one test leaves. -/
def DrewTest (w : World) (e : Ending) (w' : World) : Prop := ∃ t : Int, e = .returned (.int .i64 t) ∧ -1 ≤ t ∧ t ≤ 16 ∧ Below w.heap.size w w'
theorem DrewTest.of {n : Int} {w w1 : World} {e : Ending} {w' : World} (h : Tested n w w1 w.heap.size 0 e w') : DrewTest w e w' := by
  obtain ⟨t, p, rfl, h0, h1, _, _, hr, _⟩ := h
  exact ⟨t, rfl, h0, h1, hr.below⟩
/-- What a draw of two numbers leaves. -/
def DrewTwo (w : World) (e : Ending) (w' : World) : Prop := ∃ t u : Int, e = .returned (.tuple #[.int .i64 t, .int .i64 u]) ∧ -1 ≤ t ∧ t ≤ 16 ∧ -1 ≤ u ∧ u ≤ 16 ∧ Below w.heap.size w w'
end Go.Proofs.Ytlnkkjmejmhaiaa
