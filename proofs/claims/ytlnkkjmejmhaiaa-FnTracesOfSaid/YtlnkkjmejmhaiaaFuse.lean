/-
  Contract of the specification's l3Fuse (chapter 3).
-/
import Derived.Test.YtlnkkjmejmhaiaaList
namespace Go.Proofs.Ytlnkkjmejmhaiaa
open Go.RowKit
set_option linter.unusedVariables false
set_option maxHeartbeats 400000

theorem addL_len (l : List (List Int)) (x : List Int) : (addL l x).length ≤ l.length + 1 := by
  induction l with
  | nil => simp [addL]
  | cons y r ih =>
    unfold addL
    split
    · simp only [List.length_cons]; omega
    · split <;> simp
/-- all joins of the first k lists, and of the next one with the first j -/
def fuI (a b : List (List Int)) (most k j : Nat) : List (List Int) :=
  (b.take j).foldl (fun out q => fuse1 most out (a.getD k []) q) ((a.take k).foldl (fun out p => b.foldl (fun out q => fuse1 most out p q) out) [])
theorem take_at_g {α : Type} {l : List α} {k : Nat} {d : α} (hk : k < l.length) : l.take (k + 1) = l.take k ++ [l.getD k d] := by
  rw [List.take_succ_eq_append_getElem hk]
  simp [List.getD_eq_getElem?_getD, List.getElem?_eq_getElem hk]
theorem fuI_zero (a b : List (List Int)) (most : Nat) : fuI a b most 0 0 = [] := by simp [fuI]
theorem fuI_step {a b : List (List Int)} {most k j : Nat} (hj : j < b.length) : fuI a b most k (j + 1) = fuse1 most (fuI a b most k j) (a.getD k []) (b.getD j []) := by
  unfold fuI
  rw [take_at_g (d := []) hj, List.foldl_append]
  rfl
theorem fuI_next {a b : List (List Int)} {most k : Nat} (hk : k < a.length) : fuI a b most k b.length = fuI a b most (k + 1) 0 := by
  unfold fuI
  rw [List.take_length, take_at_g (d := []) hk, List.foldl_append]
  rfl
theorem fuI_end (a b : List (List Int)) (most : Nat) : fuI a b most a.length 0 = fuseL a b most := by
  unfold fuI fuseL
  rw [List.take_length]; rfl
theorem fuse1_len (most : Nat) (out : List (List Int)) (p q : List Int) : (fuse1 most out p q).length ≤ out.length + 1 := by
  unfold fuse1; split
  · exact addL_len _ _
  · omega
theorem fuse1_short {most : Nat} {out : List (List Int)} {p q : List Int} (h : ∀ x ∈ out, x.length ≤ 41) : ∀ x ∈ fuse1 most out p q, x.length ≤ 41 := by
  intro x hx
  rcases mem_fuse1.1 hx with hx | ⟨hx, _⟩
  · exact h x hx
  · have := tJoin_len (a := p) (b := q) (n := x.length) (by rw [hx])
    exact this
theorem fuI_two {a b : List (List Int)} {most : Nat} : ∀ {k j : Nat}, k ≤ a.length → j ≤ b.length → (k < a.length ∨ j = 0) → (fuI a b most k j).length ≤ k * b.length + j ∧ ∀ x ∈ fuI a b most k j, x.length ≤ 41 := by
  intro k
  induction k with
  | zero =>
    intro j
    induction j with
    | zero => intro _ _ _; rw [fuI_zero]; simp
    | succ j ih =>
      intro h1 h2 h3
      have := ih h1 (by omega) (by omega)
      rw [fuI_step (by omega)]
      have h4 := fuse1_len most (fuI a b most 0 j) (a.getD 0 []) (b.getD j [])
      exact ⟨by omega, fuse1_short this.2⟩
  | succ k ihk =>
    intro j
    induction j with
    | zero =>
      intro h1 h2 h3
      rw [← fuI_next (by omega)]
      have := ihk (j := b.length) (by omega) (Nat.le_refl _) (by omega)
      exact ⟨by rw [Nat.add_mul]; omega, this.2⟩
    | succ j ih =>
      intro h1 h2 h3
      have := ih h1 (by omega) (by omega)
      rw [fuI_step (by omega)]
      have h4 := fuse1_len most (fuI a b most (k + 1) j) (a.getD (k + 1) []) (b.getD j [])
      exact ⟨by omega, fuse1_short this.2⟩
theorem spec_l3Fuse (A : Option Addr) (n c : Nat) (xss : List (List Int)) (A' : Option Addr) (n' c' : Nat) (yss : List (List Int)) (most : Nat) (w : World)
    (hn : n ≤ 100000) (hn' : n' ≤ 100000) (hm : most ≤ 20) (hx : ∀ x ∈ xss, x.length ≤ 1000) (hy : ∀ x ∈ yss, x.length ≤ 1000) (h : LR w w.heap.size A n c xss) (h' : LR w w.heap.size A' n' c' yss) :
    Calls Try.prog 85 #[.slice A n c, .slice A' n' c', .int .i64 most] w (FreshLR w (fuseL xss yss most)) := by
  have hl1 := h.len
  have hl2 := h'.len
  have hz : ∀ k, k ≤ n → k * n' ≤ 10000000000 := by
    intro k hk
    calc k * n' ≤ 100000 * 100000 := Nat.mul_le_mul (by omega) hn'
      _ = _ := by decide
  have h0 : LR (w.alloc (.cells #[] 22)) (w.alloc (.cells #[] 22)).heap.size (some ⟨w.heap.size, 0, none⟩) 0 0 [] := ⟨[], (SOwn.zero w).ls, Rds.nil _ _⟩
  have s0 : Since w (w.alloc (.cells #[] 22)) := (Since.refl w).alloc _
  have hstep : Hid (∀ k j, j < n' → fuI xss yss most k (j + 1) = fuse1 most (fuI xss yss most k j) (xss.getD k []) (yss.getD j [])) := fun k j hj => fuI_step (by omega)
  have hnext : Hid (∀ k, k < n → fuI xss yss most k n' = fuI xss yss most (k + 1) 0) := fun k hk => by rw [← hl2]; exact fuI_next (by omega)
  have hend : Hid (fuI xss yss most n 0 = fuseL xss yss most) := by rw [← hl1]; exact fuI_end _ _ _
  have htwo : Hid (∀ k j, k ≤ n → j ≤ n' → (k < n ∨ j = 0) → (fuI xss yss most k j).length ≤ k * n' + j ∧ ∀ x ∈ fuI xss yss most k j, x.length ≤ 41) := fun k j h1 h2 h3 => by
    rw [← hl2]; exact fuI_two (by omega) (by omega) (by omega)
  have hxH := Lib.hid (fun k (hk : k < n) => hx (xss.getD k []) (getD_mem (by omega)))
  have hyH := Lib.hid (fun k (hk : k < n') => hy (yss.getD k []) (getD_mem (by omega)))
  replace hz := Lib.hid hz
  clear hl1 hl2 hx hy
  go_enter Try.func85, Try.ntmps85
  go_wp2_with fail
  go_loopw [7, 8] (fun out i wr => ∃ (k : Nat) (A1 : Option Addr) (n1 c1 : Nat), k ≤ n ∧ i = .int .i64 k ∧ out = .slice A1 n1 c1 ∧ LR wr wr.heap.size A1 n1 c1 (fuI xss yss most k 0) ∧ Since w wr) (fun _ i _ => n - (intOf i).toNat)
  case atStart => exact ⟨0, _, 0, 0, Nat.zero_le _, rfl, rfl, by rw [fuI_zero]; exact h0, s0⟩
  case round =>
    clear h0 s0
    obtain ⟨k, A1, n1, c1, hk, rfl, rfl, o1, s1⟩ := hrel
    by_cases hlt : k < n
    · have hZ : (k : Int) < n := by omega
      go_wp2_with fail
      go_loopw [7, 9] (fun out i wr => ∃ (j : Nat) (A1 : Option Addr) (n1 c1 : Nat), j ≤ n' ∧ i = .int .i64 j ∧ out = .slice A1 n1 c1 ∧ LR wr wr.heap.size A1 n1 c1 (fuI xss yss most k j) ∧ Since w wr) (fun _ i _ => n' - (intOf i).toNat)
      case atStart => exact ⟨0, _, _, _, Nat.zero_le _, rfl, rfl, o1, s1⟩
      case round =>
        clear o1 s1
        obtain ⟨j, A1, n1, c1, hj, rfl, rfl, o1, s1⟩ := hrel
        by_cases hlt' : j < n'
        · have hZ' : (j : Int) < n' := by omega
          have htw := htwo.out k j (by omega) (by omega) (.inl hlt)
          have hzk := hz.out k (by omega)
          have hn1 : n1 ≤ 274877906944 := by have := o1.len; omega
          have hsh := htw.2
          have hst := hstep.out k j hlt'
          obtain ⟨b, off, Ax, nx, cx, rfl, hcx, lx⟩ := (h.since s1).at_ hlt
          obtain ⟨b', off', Ay, ny, cy, rfl, hcy, ly⟩ := (h'.since s1).at_ hlt'
          have hbx : nx ≤ 1000 := by rw [← lx.len]; exact hxH.out k hlt
          have hby : ny ≤ 1000 := by rw [← ly.len]; exact hyH.out j hlt'
          have hjn := Lib.hid (spec_TraceJoin Ax nx cx _ Ay ny cy _ wr.drew (by omega) (by omega) (lx.since ((Since.refl wr).drew)) (ly.since ((Since.refl wr).drew)))
          have hjl := fun m => tJoin_len (a := xss.getD k []) (b := yss.getD j []) (n := m)
          unfold fuse1 at hst
          generalize tJoin (xss.getD k []) (yss.getD j []) = r at *
          obtain ⟨x, ok⟩ := r
          simp only at hst hjl
          replace hsh := Lib.hid hsh
          generalize hF : fuI xss yss most k j = F at *
          replace hF := Lib.hid hF
          clear htw hzk lx ly
          cases ok
          · simp only [Bool.false_and, Bool.false_eq_true, if_false] at hst
            replace hst := Lib.hid hst
            go_wp2_with fail
            go_region_held3 (fun w' => w'.cell? ⟨b, off + k, none⟩ = some (.slice Ax nx cx) ∧ w'.cell? ⟨b', off' + j, none⟩ = some (.slice Ay ny cy)) (go_keep) (first | (go_at_call 94; refine hjn.out.mono ?_; rintro e w1 ⟨A2, n2, c2, rfl, o2, s2⟩; have q1 := (s2.below.cell (p := ⟨b, off + k, none⟩) (World.block_lt_of_cell? _ _ hcx)).trans hcx; have q2 := (s2.below.cell (p := ⟨b', off' + j, none⟩) (World.block_lt_of_cell? _ _ hcy)).trans hcy))
            have s3 : Since wr w1 := ((Since.refl wr).drew).trans s2
            go_wp2_with fail
            go_roundw
            case rel => exact ⟨j + 1, _, _, _, by omega, by go_num, rfl, by rw [hst.out]; exact o1.since s3, s1.trans s3⟩
            case measure => simp [intOf]; omega
          · by_cases hle : x.length ≤ 2 * most + 1
            · simp only [Bool.true_and, decide_eq_true hle, if_true] at hst
              replace hst := Lib.hid hst
              go_wp2_with fail
              go_region_held3 (fun w' => w'.cell? ⟨b, off + k, none⟩ = some (.slice Ax nx cx) ∧ w'.cell? ⟨b', off' + j, none⟩ = some (.slice Ay ny cy)) (go_keep) (first | (go_at_call 94; refine hjn.out.mono ?_; rintro e w1 ⟨A2, n2, c2, rfl, o2, s2⟩; have q1 := (s2.below.cell (p := ⟨b, off + k, none⟩) (World.block_lt_of_cell? _ _ hcx)).trans hcx; have q2 := (s2.below.cell (p := ⟨b', off' + j, none⟩) (World.block_lt_of_cell? _ _ hcy)).trans hcy))
              have s3 : Since wr w1 := ((Since.refl wr).drew).trans s2
              have hn2 : n2 ≤ 2 * most + 1 := by rw [← o2.len]; exact hle
              have hn2z : (n2 : Int) ≤ 2 * (most : Int) + 1 := by omega
              have hmz : (most : Int) ≤ 20 := by omega
              have had := Lib.hid (spec_l3Add A1 n1 c1 F A2 n2 c2 x w1 hn1 (fun y hy => Nat.le_trans (hsh.out y hy) (by omega)) (o1.since s3) o2.ls)
              clear hle hjl
              go_wp2_with fail
              refine had.out.mono ?_
              rintro e w2 ⟨A4, n4, c4, rfl, o4, s4⟩
              go_wp2_with fail
              go_roundw
              case rel => exact ⟨j + 1, _, _, _, by omega, by go_num, rfl, by rw [hst.out]; exact o4, (s1.trans s3).trans s4⟩
              case measure => simp [intOf]; omega
            · simp only [Bool.true_and, decide_eq_false hle, Bool.false_eq_true, if_false] at hst
              replace hst := Lib.hid hst
              go_wp2_with fail
              go_region_held3 (fun w' => w'.cell? ⟨b, off + k, none⟩ = some (.slice Ax nx cx) ∧ w'.cell? ⟨b', off' + j, none⟩ = some (.slice Ay ny cy)) (go_keep) (first | (go_at_call 94; refine hjn.out.mono ?_; rintro e w1 ⟨A2, n2, c2, rfl, o2, s2⟩; have q1 := (s2.below.cell (p := ⟨b, off + k, none⟩) (World.block_lt_of_cell? _ _ hcx)).trans hcx; have q2 := (s2.below.cell (p := ⟨b', off' + j, none⟩) (World.block_lt_of_cell? _ _ hcy)).trans hcy))
              have s3 : Since wr w1 := ((Since.refl wr).drew).trans s2
              have hn2 : ¬ n2 ≤ 2 * most + 1 := by rw [← o2.len]; exact hle
              have hn2z : ¬ (n2 : Int) ≤ 2 * (most : Int) + 1 := by omega
              have hmz : (most : Int) ≤ 20 := by omega
              have hnb : n2 ≤ 41 := hjl _ o2.len
              clear hle hjl
              go_wp2_with fail
              go_roundw
              case rel => exact ⟨j + 1, _, _, _, by omega, by go_num, rfl, by rw [hst.out]; exact o1.since s3, s1.trans s3⟩
              case measure => simp [intOf]; omega
        · obtain rfl : n' = j := by omega
          go_wp2_with fail
          go_roundw
          case rel => exact ⟨k + 1, _, _, _, by omega, by go_num, rfl, by rw [← hnext.out k hlt]; exact o1, s1⟩
          case measure => simp [intOf]; omega
    · obtain rfl : n = k := by omega
      go_wp2_with fail
      go_ret
      exact ⟨_, _, _, rfl, by rw [← hend.out]; exact o1, s1⟩
end Go.Proofs.Ytlnkkjmejmhaiaa
