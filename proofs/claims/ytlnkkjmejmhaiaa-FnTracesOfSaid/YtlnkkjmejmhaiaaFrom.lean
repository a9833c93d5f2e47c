/-
  Contracts of impl.tracesFrom, impl.allTraces and impl.AllTraces (chapter 3).
-/
import Derived.Test.YtlnkkjmejmhaiaaSSL
import Derived.Test.YtlnkkjmejmhaiaaOf
namespace Go.Proofs.Ytlnkkjmejmhaiaa
open Go.RowKit
set_option linter.unusedVariables false
set_option maxHeartbeats 400000

/-- a trace and what goes on from it by the first j of twelve ways -/
def pf (k : Nat) (t : List Int) (j : Nat) : List (List Int) := t :: (List.range j).flatMap fun j : Nat => trFrom k (t ++ [16 + (j : Int) / 4, (j : Int) % 4])
theorem pf_zero (k : Nat) (t : List Int) : pf k t 0 = [t] := rfl
theorem pf_all (k : Nat) (t : List Int) : pf k t 12 = trFrom (k + 1) t := rfl
theorem pf_step (k : Nat) (t : List Int) (j : Nat) : pf k t (j + 1) = pf k t j ++ trFrom k (t ++ [16 + (j : Int) / 4, (j : Int) % 4]) := by
  simp [pf, List.range_succ]
theorem pf_step' (k : Nat) (t : List Int) {a b q j : Nat} (ha : q = 16 + a) (hb : b < 4) (hj : j = 4 * a + b) : pf k t (j + 1) = pf k t j ++ trFrom k (t ++ [(q : Int), (b : Int)]) := by
  rw [pf_step]
  have e1 : 16 + (j : Int) / 4 = (q : Int) := by omega
  have e2 : (j : Int) % 4 = (b : Int) := by omega
  rw [e1, e2]
theorem from_len : ∀ {k : Nat} {t : List Int}, (trFrom k t).length ≤ 20 ^ k := by
  intro k
  induction k with
  | zero => intro t; simp [trFrom]
  | succ k ih =>
    intro t
    have key : ∀ j, (pf k t j).length ≤ 1 + j * 20 ^ k := by
      intro j
      induction j with
      | zero => simp [pf]
      | succ j ihj =>
        rw [pf_step, List.length_append]
        have := ih (t := t ++ [16 + (j : Int) / 4, (j : Int) % 4])
        rw [Nat.add_mul]; omega
    have := key 12
    rw [← pf_all]
    have h1 : 1 ≤ 20 ^ k := Nat.one_le_pow _ _ (by omega)
    rw [Nat.pow_succ]; omega
theorem pf_len {k : Nat} (hk : k ≤ 2) {t : List Int} {j : Nat} (hj : j ≤ 12) : (pf k t j).length ≤ 100000 := by
  have key : ∀ j, (pf k t j).length ≤ 1 + j * 20 ^ k := by
    intro j
    induction j with
    | zero => simp [pf]
    | succ j ihj =>
      rw [pf_step, List.length_append]
      have := from_len (k := k) (t := t ++ [16 + (j : Int) / 4, (j : Int) % 4])
      rw [Nat.add_mul]; omega
  have h1 := key j
  have h2 : 20 ^ k ≤ 400 := by
    have : k = 0 ∨ k = 1 ∨ k = 2 := by omega
    rcases this with rfl | rfl | rfl <;> decide
  have h3 : j * 20 ^ k ≤ 12 * 400 := Nat.mul_le_mul hj h2
  omega
theorem from_len2 {k : Nat} (hk : k ≤ 2) {t : List Int} : (trFrom k t).length ≤ 100000 := by
  have h1 := from_len (k := k) (t := t)
  have h2 : 20 ^ k ≤ 400 := by
    have : k = 0 ∨ k = 1 ∨ k = 2 := by omega
    rcases this with rfl | rfl | rfl <;> decide
  omega
theorem SOwn.lit (w : World) (v : Value) (hv : isSl v) (m : Nat) (hm : w.heap.size = m) : SOwn (w.alloc (.cells #[v] 22)) w.heap.size (some ⟨m, 0, none⟩) 1 1 [v] := by
  subst hm
  exact ⟨rfl, by simpa using hv, ⟨rfl, .inr ⟨w.heap.size, 1, #[v], rfl, Nat.le_refl _, heap_alloc_new w _, Nat.le_refl _, by decide, rfl, rfl⟩⟩⟩
theorem impl_tracesFrom : ∀ (k : Nat) (A : Option Addr) (n c : Nat) (t : List Int) (w : World), k ≤ 2 → n + 2 * k ≤ 1000 → Ls w w.heap.size A n c t →
    Calls Try.prog 87 #[.slice A n c, .int .i64 k] w (FreshOO w (trFrom k t)) := by
  intro k
  induction k with
  | zero =>
    intro A n c t w _ hn h
    have hcl := Lib.hid (clone_any A n c t w (by omega) h)
    clear h
    go_enter Try.func87, Try.ntmps87
    go_wp2_with fail
    refine hcl.out.mono ?_
    rintro e w1 ⟨A1, n1, c1, rfl, o1, s1⟩
    go_wp2_with fail
    go_ret
    have ol := (SOwn.lit w1 (.slice A1 n1 c1) ⟨_, _, _, rfl⟩ _ rfl).lower s1.size
    exact ⟨_, _, _, rfl, ⟨_, ol, Ows.one ⟨_, _, _, rfl, o1.alloc _⟩⟩, s1.alloc _⟩
  | succ k ih =>
    intro A n c t w hk hn h
    have hcl := Lib.hid (clone_any A n c t w (by omega) h)
    have hkz : (k : Int) ≤ 1 := by omega
    have hk0 : (((k : Int) + 1) == 0) = false := by simp; omega
    have ih' := Lib.hid (fun A n c t w => ih A n c t w (by omega))
    clear ih
    go_enter Try.func87, Try.ntmps87
    go_wp2_with fail
    refine hcl.out.mono ?_
    rintro e w1 ⟨A1, n1, c1, rfl, o1, s1⟩
    have ol := (SOwn.lit w1 (.slice A1 n1 c1) ⟨_, _, _, rfl⟩ _ rfl).lower s1.size
    have oo : OO (w1.alloc (.cells #[.slice A1 n1 c1] 22)) w.heap.size (some ⟨w1.heap.size, 0, none⟩) 1 1 (pf k t 0) := ⟨_, ol, Ows.one ⟨_, _, _, rfl, o1.alloc _⟩⟩
    have s2 := s1.alloc (.cells #[.slice A1 n1 c1] 22)
    clear ol o1 s1 hcl
    go_wp2_with fail
    generalize w1.alloc (.cells #[.slice A1 n1 c1] 22) = w2 at *
    go_loopw [5, 6] (fun out q wr => ∃ (a q' : Nat) (A1 : Option Addr) (n1 c1 : Nat), q' = 16 + a ∧ a ≤ 3 ∧ q = .int .i64 q' ∧ out = .slice A1 n1 c1 ∧ OO wr w.heap.size A1 n1 c1 (pf k t (4 * a)) ∧ Since w wr) (fun _ q _ => 19 - (intOf q).toNat)
    case atStart => exact ⟨0, 16, _, _, _, rfl, by omega, rfl, rfl, oo, s2⟩
    case round =>
      clear oo s2
      obtain ⟨a, q, A1, n1, c1, hq, ha, rfl, rfl, oo, s1⟩ := hrel
      replace hq := Lib.hid hq
      have hq1 : q ≤ 19 := by have := hq.out; omega
      by_cases hlt : a < 3
      · have hqZ : q ≤ 18 := by have := hq.out; omega
        have hqZ2 : (q : Int) ≤ 18 := by omega
        have hws := wf_small (x := (q : Int)) (by omega) (by omega)
        go_wp2_with fail
        go_loopw [5, 18] (fun out b wr => ∃ (b' j : Nat) (A1 : Option Addr) (n1 c1 : Nat), Hid (j = 4 * a + b') ∧ b' ≤ 4 ∧ b = .int .i64 b' ∧ out = .slice A1 n1 c1 ∧ OO wr w.heap.size A1 n1 c1 (pf k t j) ∧ Since w wr) (fun _ b _ => 4 - (intOf b).toNat)
        case atStart => exact ⟨0, 4 * a, _, _, _, rfl, by omega, rfl, rfl, oo, s1⟩
        case round =>
          clear oo s1
          obtain ⟨b, j, A1, n1, c1, hj, hb, rfl, rfl, oo, s1⟩ := hrel
          have hj12 : j ≤ 12 := by have := hj.out; omega
          by_cases hlt' : b < 4
          · have hst := Lib.hid (pf_step' k t hq.out hlt' hj.out)
            have hwb := wf_small (x := (b : Int)) (by omega) (by omega)
            have hn1 : n1 ≤ 100000 := by rw [← oo.len]; exact pf_len (by omega) (by omega)
            have hcl := Lib.hid (clone_any A n c t _ (by omega) (h.since s1))
            obtain ⟨vs, own, ows⟩ := oo
            have hlx := Lib.hid h.len
            go_wp2_with fail
            refine hcl.out.mono ?_
            rintro e w3 ⟨A2, n2, c2, rfl, o2, s2⟩
            have hn2 : n2 + 2 + 2 * k ≤ 1000 := by rw [← o2.len, hlx.out]; omega
            have hrd := Ls.two w3 (q : Int) (b : Int) hws hwb 3
            have s2a := s2.alloc (.cells #[.int .i64 (q : Int), .int .i64 (b : Int)] 3)
            clear hcl hlx
            go_wp2_with (at_builtin
                         refine wpList_app rfl _ _ rfl _ A2 n2 c2 t rfl (o2.alloc _) _ _ 2 2 [(q : Int), (b : Int)] rfl hrd (by omega) s2a.size ?_
                         intro A3 c3 w4 o3 g3)
            have s3 := since_row s2a (Nat.le_refl _) g3
            have hcall := Lib.hid (ih'.out A3 (n2 + 2) c3 (t ++ [(q : Int), (b : Int)]) w4 (by omega) o3.ls)
            clear g3 s2 s2a hrd o2
            refine hcall.out.mono ?_
            rintro e w5 ⟨A4, n4, c4, rfl, oo4, s4⟩
            have hn4 : n4 ≤ 100000 := by rw [← oo4.len]; exact from_len2 (by omega)
            have sx := s3.trans s4
            obtain ⟨us, own4, ows4⟩ := oo4
            have hb4 := s3.size
            clear hcall
            go_wp2_with (at_builtin
                         refine wpList_appS rfl _ _ rfl w.heap.size A1 n1 c1 vs rfl (own.since sx) _ A4 n4 c4 us rfl own4.ls (by omega) (s1.trans sx).size ?_
                         intro A5 c5 w6 o5 g5)
            go_roundw
            case rel =>
              have hoo := OO.app own ows s1.size sx (ows4.mono fun _ _ _ _ o => o.lower hb4) o5 g5
              exact ⟨b + 1, j + 1, _, _, _, by show _ = _; have := hj.out; omega, by omega, by go_num, rfl, by rw [hst.out]; exact hoo, since_row (s1.trans sx) (Nat.le_refl _) g5⟩
            case measure => simp [intOf]; omega
          · obtain rfl : b = 4 := by omega
            obtain rfl : j = 4 * (a + 1) := by have := hj.out; omega
            go_wp2_with fail
            go_roundw
            case rel => exact ⟨a + 1, q + 1, _, _, _, by have := hq.out; omega, by omega, by go_num, rfl, oo, s1⟩
            case measure => simp [intOf]; omega
      · obtain rfl : a = 3 := by omega
        have hq19 : ¬ (q : Int) ≤ 18 := by have := hq.out; omega
        go_wp2_with fail
        go_ret
        exact ⟨_, _, _, rfl, by rw [← pf_all]; exact oo, s1⟩
end Go.Proofs.Ytlnkkjmejmhaiaa
