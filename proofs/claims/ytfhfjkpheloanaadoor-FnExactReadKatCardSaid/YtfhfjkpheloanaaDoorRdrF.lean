/-
  Contract of the program's ReadKat (chapter 2): it answers readP; what its readers panic with is recovered.
-/
import Derived.Test.YtfhfjkpheloanaaDoorRdrE
import Derived.Defers
import Derived.Recover
namespace Go.Proofs.YtfhfjkpheloanaaDoor
open Go.RowKit
set_option linter.unusedVariables false
set_option maxHeartbeats 400000
theorem catch_wrong (p q : Addr) (older : List PanicEntry) (w : World) (x y : Value) (hp : p.block < w.heap.size) (hq : q.block < w.heap.size) (cp : w.cell? p = some x) (cq : w.cell? q = some y) (hne : p ≠ q) (zp : w.frozen? p = false) (zq : w.frozen? q = false) :
    CallsD Tryd.prog 11 #[.pointer (some p), .pointer (some q)] (.panicking ({ v := .iface 32 (.agg #[]), recovered := false } :: older)) w fun e u' w' =>
      e = .returned (.tuple #[]) ∧ u' = .panicking ({ v := .iface 32 (.agg #[]), recovered := true } :: older) ∧ w' = ((w.alloc (.cells #[] 32)).setCell p (.slice none 0 0)).setCell q (.bool false) := by
  refine callsD_of_wpS Tryd.func11 rfl fun c₀ cs hu => ?_
  apply wpS_seq
  apply wpS_region
  simp [wpOpsS, go_sem, recoverD, hu, Tryd.ntmps11, Exit.thenS]
  refine wpS_of_wp ?_
  change Code.wp _ _ _ { tmps := #[.pointer (some p), .pointer (some q), undef, undef, undef, .iface 32 (.agg #[]), undef, undef, undef, undef, undef], defers := [] } w
  have hta : ∀ w : World, (Instr.typeAssert (.iface 32 (.agg #[])) 20 32 true).run Tryd.prog w = .ok (.tuple #[.agg #[], .bool true]) w := fun w => by kernel_rfl
  have fp : (w.alloc (.cells #[] 32)).frozen? p = false := (World.frozen?_alloc_old w _ p (by omega)).trans zp
  have fq : (w.alloc (.cells #[] 32)).frozen? q = false := (World.frozen?_alloc_old w _ q (by omega)).trans zq
  go_wp2_with fail
  simp [bodyPostS, results, Tryd.results11]
theorem catch_idle (p q : Addr) (w : World) :
    CallsD Tryd.prog 11 #[.pointer (some p), .pointer (some q)] .returning w fun e u' w' => e = .returned (.tuple #[]) ∧ u' = .returning ∧ w' = w := by
  refine callsD_of_wpS Tryd.func11 rfl fun c₀ cs hu => ?_
  apply wpS_seq
  apply wpS_region
  simp [wpOpsS, go_sem, recoverD, hu, Tryd.ntmps11, Exit.thenS]
  refine wpS_of_wp ?_
  change Code.wp _ _ _ { tmps := #[.pointer (some p), .pointer (some q), undef, undef, undef, .nilIface, undef, undef, undef, undef, undef], defers := [] } w
  go_wp2_with fail
  cases c₀
  simp_all [bodyPostS, results, Tryd.results11]
theorem results_read (tmps : Array Value) (W : World) (N : Nat) (v b : Value) (h2 : tmps.getD 2 undef = .pointer (some ⟨N, 0, none⟩)) (h3 : tmps.getD 3 undef = .pointer (some ⟨N + 1, 0, none⟩))
    (c2 : W.cell? ⟨N, 0, none⟩ = some v) (c3 : W.cell? ⟨N + 1, 0, none⟩ = some b) : (results Tryd.f5 tmps).run Tryd.prog W = .ok (.tuple #[v, b]) W := by
  simp at h2 h3
  simp [results, Tryd.results5, go_sem, c2, c3, h2, h3]
theorem two_stores {W : World} {N : Nat} {a b : Value} {T U : TypeId} (k0 : W.heap[N]? = some (.cells #[a] T (0, 0))) (k1 : W.heap[N + 1]? = some (.cells #[b] U (0, 0))) (v u : Value) :
    ((W.setCell ⟨N, 0, none⟩ v).setCell ⟨N + 1, 0, none⟩ u).cell? ⟨N, 0, none⟩ = some v ∧ ((W.setCell ⟨N, 0, none⟩ v).setCell ⟨N + 1, 0, none⟩ u).cell? ⟨N + 1, 0, none⟩ = some u := by
  have h0 := block_setCell (i := 0) (v := v) k0
  have h1 : (W.setCell ⟨N, 0, none⟩ v).heap[N + 1]? = some (.cells #[b] U (0, 0)) := (Below.heap_setCell _ _ _ _ (by simp)).trans k1
  have h2 := block_setCell (i := 0) (v := u) h1
  have h3 : ((W.setCell ⟨N, 0, none⟩ v).setCell ⟨N + 1, 0, none⟩ u).heap[N]? = (W.setCell ⟨N, 0, none⟩ v).heap[N]? := Below.heap_setCell _ _ _ _ (by simp)
  exact ⟨by rw [cell_at (h3.trans h0)]; rfl, by rw [cell_at h2]; rfl⟩
theorem door_idle (tmps : Array Value) (W : World) (N : Nat) (v b : Value) (R : Ending → World → Prop) (h2 : tmps.getD 2 undef = .pointer (some ⟨N, 0, none⟩)) (h3 : tmps.getD 3 undef = .pointer (some ⟨N + 1, 0, none⟩))
    (c2 : W.cell? ⟨N, 0, none⟩ = some v) (c3 : W.cell? ⟨N + 1, 0, none⟩ = some b) (hR : R (.returned (.tuple #[v, b])) W) :
    bodyPostD Tryd.prog Tryd.f5 R Exit.ret { tmps := tmps, defers := [{ target := .fn (.func 11) #[.pointer (some ⟨N, 0, none⟩), .pointer (some ⟨N + 1, 0, none⟩)], args := #[] }] } W := by
  refine leaves_cons (f := 11) (args := #[.pointer (some ⟨N, 0, none⟩), .pointer (some ⟨N + 1, 0, none⟩)]) (by simp) (by simp [go_sem]) ?_
  refine (catch_idle ⟨N, 0, none⟩ ⟨N + 1, 0, none⟩ W).mono ?_
  rintro e u' w3 ⟨rfl, rfl, rfl⟩
  exact ⟨.tuple #[v, b], results_read _ _ N _ _ h2 h3 c2 c3, hR⟩
theorem impl_ReadKat (l : List UInt8) (w : World) (hN : NM w) : Calls Tryd.prog 5 #[.string (bs l)] w (Fresh2 w (readP l)) := by
  have hz : (bs l).size = l.length := rfl
  have hmf : ∀ (fn : Fn) (first cap : Array Value) (w : World), (Instr.makeFunc fn first cap).run Tryd.prog w = .ok (.func fn first cap) w := fun _ _ _ _ => rfl
  by_cases hl : 199 < l.length
  · have hq : (199 : Int) < l.length := by omega
    have hr : Hid (readP l = ([], false)) := by show _ = _; unfold readP; rw [if_pos hl]
    go_enter_defers Tryd.func5, Tryd.ntmps5
    go_wp2_with fail
    refine ⟨.tuple #[.slice none 0 0, .bool false], results_read _ _ w.heap.size _ _ rfl rfl ?_ ?_, ?_⟩
    · simp [go_sem]
    · simp [go_sem]
    · exact Fresh2.mk hr.out (Own.nil _ _) (((Since.refl w).alloc _).alloc _)
  · have hq : ¬ (199 : Int) < l.length := by omega
    have hr : Hid (readP l = match sumP (leafP l) l 99 0 with | some r => if r.2 = l.length ∧ katV r.1 = true then (r.1, true) else ([], false) | none => ([], false)) := by
      show _ = _
      unfold readP
      rw [if_neg hl]
      cases sumP (leafP l) l 99 0 <;> rfl
    have hf := Lib.hid (sum_fwd (leaf_fwd l) 99 0)
    have z1 : (w.alloc (.cells #[.slice none 0 0] 22)).heap.size = w.heap.size + 1 := by simp
    have z2 : ((w.alloc (.cells #[.slice none 0 0] 22)).alloc (.cells #[.bool false] 4)).heap.size = w.heap.size + 1 + 1 := by simp
    have hb0 : (((w.alloc (.cells #[.slice none 0 0] 22)).alloc (.cells #[.bool false] 4)).alloc (.cells #[.string (bs l), .int .i64 0] 35)).heap[w.heap.size]? = some (.cells #[.slice none 0 0] 22 (0, 0)) :=
      (Below.heap_alloc _ _ _ (by omega)).trans ((Below.heap_alloc _ _ _ (by omega)).trans (heap_alloc_new w _))
    have hb1 : (((w.alloc (.cells #[.slice none 0 0] 22)).alloc (.cells #[.bool false] 4)).alloc (.cells #[.string (bs l), .int .i64 0] 35)).heap[w.heap.size + 1]? = some (.cells #[.bool false] 4 (0, 0)) := by
      rw [← z1]
      exact (Below.heap_alloc _ _ _ (by omega)).trans (heap_alloc_new _ _)
    have a0 : At (((w.alloc (.cells #[.slice none 0 0] 22)).alloc (.cells #[.bool false] 4)).alloc (.cells #[.string (bs l), .int .i64 0] 35)) (w.heap.size + 1 + 1) l 0 := by
      unfold At
      rw [← z2]
      exact heap_alloc_new _ _
    clear z1 z2
    have s0 : Since w (((w.alloc (.cells #[.slice none 0 0] 22)).alloc (.cells #[.bool false] 4)).alloc (.cells #[.string (bs l), .int .i64 0] 35)) := (((Since.refl w).alloc _).alloc _).alloc _
    have hsz : (((w.alloc (.cells #[.slice none 0 0] 22)).alloc (.cells #[.bool false] 4)).alloc (.cells #[.string (bs l), .int .i64 0] 35)).heap.size = w.heap.size + 1 + 1 + 1 := by simp
    have hs := Lib.hid (sum_text w hN l (by omega) (w.heap.size + 1 + 1) _ ⟨a0, s0, by omega⟩)
    replace hsz := Lib.hid hsz
    replace hb0 := Lib.hid hb0
    replace hb1 := Lib.hid hb1
    go_enter_defers Tryd.func5, Tryd.ntmps5
    go_wp2_with fail
    generalize (((w.alloc (.cells #[.slice none 0 0] 22)).alloc (.cells #[.bool false] 4)).alloc (.cells #[.string (bs l), .int .i64 0] 35)) = W0 at *
    refine hs.out.mono ?_
    intro e w2 hw
    generalize readP l = F at *
    generalize sumP (leafP l) l 99 0 = r at *
    clear hs
    cases r with
    | none =>
      obtain ⟨rfl, g2⟩ := hw
      have hR : F = ([], false) := hr.out
      have k0 := (g2.block w.heap.size (by have := hsz.out; omega) (by simp; omega)).trans hb0.out
      have k1 := (g2.block (w.heap.size + 1) (by have := hsz.out; omega) (by simp)).trans hb1.out
      have l0 := lt_of_block k0
      have l1 := lt_of_block k1
      unfold wrongV
      refine leaves_cons (f := 11) (args := #[.pointer (some ⟨w.heap.size, 0, none⟩), .pointer (some ⟨w.heap.size + 1, 0, none⟩)]) (by simp) (by simp [go_sem]) ?_
      refine (catch_wrong ⟨w.heap.size, 0, none⟩ ⟨w.heap.size + 1, 0, none⟩ [] w2 (.slice none 0 0) (.bool false) l0 l1 (by rw [cell_at k0]; rfl) (by rw [cell_at k1]; rfl) (by simp) (free_at k0) (free_at k1)).mono ?_
      rintro e u' w3 ⟨rfl, rfl, rfl⟩
      have m0 := (Below.heap_alloc w2 (.cells #[] 32) _ l0).trans k0
      have m1 := (Below.heap_alloc w2 (.cells #[] 32) _ l1).trans k1
      have m2 := two_stores m0 m1 (.slice none 0 0) (.bool false)
      refine ⟨.tuple #[.slice none 0 0, .bool false], results_read _ _ w.heap.size _ _ rfl rfl m2.1 m2.2, Fresh2.mk hR (Own.nil _ _) ?_⟩
      refine (((s0.grown g2 fun k hk => by injection hk with hk; omega).alloc _).setCell (Nat.le_refl _) _).setCell ?_ _
      exact Nat.le_succ _
    | some p =>
      obtain ⟨xs, t⟩ := p
      obtain ⟨A, n, c, rfl, o, g2, a2⟩ := hw
      have c1 := a2.c1
      have h4 := hf.out _ rfl
      simp only at h4
      have k0 := (g2.block w.heap.size (by have := hsz.out; omega) (by simp; omega)).trans hb0.out
      have k1 := (g2.block (w.heap.size + 1) (by have := hsz.out; omega) (by simp)).trans hb1.out
      have l0 := lt_of_block k0
      have l1 := lt_of_block k1
      have f0 : w2.frozen? ⟨w.heap.size, 0, none⟩ = false := free_at k0
      have f1 : w2.frozen? ⟨w.heap.size + 1, 0, none⟩ = false := free_at k1
      have e0 : w2.cell? ⟨w.heap.size, 0, none⟩ = some (.slice none 0 0) := by rw [cell_at k0]; rfl
      have e1 : w2.cell? ⟨w.heap.size + 1, 0, none⟩ = some (.bool false) := by rw [cell_at k1]; rfl
      have s2 := s0.grown g2 fun k hk => by injection hk with hk; omega
      have hkv := Lib.hid (impl_KatValid A n c _ xs w2 o.ls)
      have o2 := o.past (grown_setCell w2 w.heap.size 0 (.slice none 0 0)) (by have := hsz.out; omega)
      replace k0 := Lib.hid k0
      replace k1 := Lib.hid k1
      by_cases ht : t < l.length
      · have htz : (t : Int) < l.length := by omega
        have hr3 : F = ([], false) := by rw [hr.out]; simp; omega
        subst hr3
        clear hr hf h4
        go_wp2_with fail
        have m2 := two_stores k0.out k1.out (.slice none 0 0) (.bool false)
        exact door_idle _ _ w.heap.size _ _ _ rfl rfl m2.1 m2.2 (Fresh2.mk rfl (Own.nil _ _) ((s2.setCell (Nat.le_refl _) _).setCell (Nat.le_succ _) _))
      · have htz : ¬ (t : Int) < l.length := by omega
        obtain rfl : t = l.length := by omega
        cases hv : katV xs
        · have hr3 : F = ([], false) := by rw [hr.out]; simp [hv]
          subst hr3
          rw [hv] at hkv
          clear hr hf h4
          go_wp2_with fail
          refine hkv.out.mono ?_
          rintro e w' ⟨rfl, rfl⟩
          go_wp2_with fail
          have m2 := two_stores k0.out k1.out (.slice none 0 0) (.bool false)
          exact door_idle _ _ w.heap.size _ _ _ rfl rfl m2.1 m2.2 (Fresh2.mk rfl (Own.nil _ _) ((s2.setCell (Nat.le_refl _) _).setCell (Nat.le_succ _) _))
        · have hr3 : F = (xs, true) := by rw [hr.out]; simp [hv]
          subst hr3
          rw [hv] at hkv
          clear hr hf h4
          go_wp2_with fail
          refine hkv.out.mono ?_
          rintro e w' ⟨rfl, rfl⟩
          go_wp2_with fail
          have m2 := two_stores k0.out k1.out (.slice A n c) (.bool true)
          have o3 := (o.past (grown_setCell w2 w.heap.size 0 (.slice A n c)) (by have := hsz.out; omega)).past (grown_setCell _ (w.heap.size + 1) 0 (.bool true)) (by have := hsz.out; omega)
          exact door_idle _ _ w.heap.size _ _ _ rfl rfl m2.1 m2.2 (Fresh2.mk rfl (o3.lower (by have := hsz.out; omega)) ((s2.setCell (Nat.le_refl _) _).setCell (Nat.le_succ _) _))
end Go.Proofs.YtfhfjkpheloanaaDoor
