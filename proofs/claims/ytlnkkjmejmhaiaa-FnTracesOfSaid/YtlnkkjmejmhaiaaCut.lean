/-
  Contracts of a tree's cutter and of impl.TraceIn (chapter 3).
-/
import Derived.Test.YtlnkkjmejmhaiaaMemo
import Derived.Test.YtlnkkjmejmhaiaaIn
import Derived.Test.YtlnkkjmejmhaiaaTreeC
namespace Go.Proofs.Ytlnkkjmejmhaiaa
open Go.RowKit
set_option linter.unusedVariables false
set_option maxHeartbeats 400000

/-- what the map may hold: the truth about a tree of the world w0 -/
def told (w0 : World) (tr : List Int) (g f t : Nat) (b : Bool) : Prop := ∃ X u, isT w0 X u g ∧ b = inB tr u f t
/-- The cutter at block cb, in a call that began in w0: the trace and the map. -/
structure CI (w0 : World) (tr : List Int) (A : Option Addr) (m c cb mb : Nat) (w : World) : Prop where
  since : Since w0 w
  hc : w0.heap.size ≤ cb
  hm : w0.heap.size ≤ mb
  cell : w.heap[cb]? = some (.cells #[.slice A m c, .map (some mb)] 74 (0, 0))
  memo : Memo w mb (told w0 tr)
section
variable {w0 w w' : World} {tr : List Int} {A : Option Addr} {m c cb mb : Nat}
theorem CI.alloc (h : CI w0 tr A m c cb mb w) (o : Obj) : CI w0 tr A m c cb mb (w.alloc o) :=
  ⟨h.since.alloc o, h.hc, h.hm, by rw [Below.heap_alloc _ _ _ (lt_of_block h.cell)]; exact h.cell, h.memo.keep (Below.heap_alloc _ _ _ h.memo.lt)⟩
theorem CI.drewN (h : CI w0 tr A m c cb mb w) (k : Nat) : CI w0 tr A m c cb mb (w.drewN k) := ⟨h.since.drewN k, h.hc, h.hm, h.cell, h.memo⟩
theorem CI.drew (h : CI w0 tr A m c cb mb w) : CI w0 tr A m c cb mb w.drew := ⟨h.since.drew, h.hc, h.hm, h.cell, h.memo⟩
theorem CI.ne (h : CI w0 tr A m c cb mb w) : cb ≠ mb := by
  intro e
  obtain ⟨es, cl, h1, _⟩ := h.memo
  have := h.cell
  rw [e, h1] at this
  cases this
theorem CI.stored (h : CI w0 tr A m c cb mb w) (hm : Memo w' mb (told w0 tr)) (hg : w.grownBy w' (some mb)) : CI w0 tr A m c cb mb w' :=
  ⟨h.since.grown hg (fun k hk => by injection hk with hk; subst hk; exact h.hm), h.hc, h.hm, grown_keep hg h.cell h.ne, hm⟩
theorem told_node (h : CI w0 tr A m c cb mb w) : ∀ g f t b, told w0 tr g f t b → isNode w g := by
  rintro g f t b ⟨X, u, h1, _⟩
  exact (h1.since h.since).isNode
end

theorem cut_size : (Try.prog.info? 82).map (·.size) = some 3 := by kernel_rfl
theorem load_cut (w : World) {B : Nat} {a b c : Value} (h : w.heap[B]? = some (.cells #[a, b, c] 82 (0, 0))) : (loadVar 82 ⟨B, 0, none⟩).run Try.prog w = .ok (.agg #[a, b, c]) w :=
  run_loadVar_row w B 82 82 #[a, b, c] (0, 0) _ h Try.underlying82 rfl cut_size
/-- One look-up: by what 'find' finds. -/
theorem in_step {w0 : World} {tr : List Int} {A : Option Addr} {m c cb mb : Nat} {X : Nat → Prop} (t : Tr) (g f to : Nat) (w : World) (hb : f ≤ 1000 ∧ to ≤ 1000)
    (hT : isT w0 X t g) (ci : CI w0 tr A m c cb mb w)
    (hfind : ∀ w', CI w0 tr A m c cb mb w' → Calls Try.prog 90 #[pv cb, pv g, .int .i64 f, .int .i64 to] w' fun e w'' => e = .returned (.bool (inB tr t f to)) ∧ CI w0 tr A m c cb mb w'' ∧ w'.grownBy w'' (some mb)) :
    Calls Try.prog 81 #[pv cb, pv g, .int .i64 f, .int .i64 to] w fun e w' => e = .returned (.bool (inB tr t f to)) ∧ CI w0 tr A m c cb mb w' ∧ w.grownBy w' (some mb) := by
  have ci1 := ci.alloc (.cells #[.pointer (some ⟨g, 0, none⟩), .int .i64 f, .int .i64 to] 82)
  have gr1 := grown_alloc (grown_refl w (some mb)) (.cells #[.pointer (some ⟨g, 0, none⟩), .int .i64 f, .int .i64 to] 82)
  have hnd := (hT.since ci1.since).isNode
  have hc1 : (w.alloc (.cells #[.pointer (some ⟨g, 0, none⟩), .int .i64 f, .int .i64 to] 82)).cell? ⟨cb, 1, none⟩ = some (.map (some mb)) := by rw [cell_at ci1.cell]; rfl
  have hlk := ci1.memo.look (told_node ci1) (f := f) (t := to) hnd
  have hnew : (w.alloc (.cells #[.pointer (some ⟨g, 0, none⟩), .int .i64 f, .int .i64 to] 82)).heap[w.heap.size]? = some (.cells #[.pointer (some ⟨g, 0, none⟩), .int .i64 f, .int .i64 to] 82 (0, 0)) := heap_alloc_new _ _
  have hmlt := ci.memo.lt
  rcases hlk with hlk | ⟨b, ⟨Y, u, hu, rfl⟩, hlk⟩
  · replace hfind := Lib.hid hfind
    unfold pv at hfind ⊢
    unfold kv at hlk
    go_enter Try.func81, Try.ntmps81
    go_wp2_with fail
    clear hnd
    have hl := fun k => hlk ((w.alloc (.cells #[.pointer (some ⟨g, 0, none⟩), .int .i64 f, .int .i64 to] 82)).drewN k) rfl
    clear hlk
    go_quiet (fail)
    go_wp2_with fail
    refine (hfind.out _ (ci1.drewN nq)).mono ?_
    rintro e w2 ⟨rfl, ci2, gr2⟩
    replace hnew := grown_keep gr2 (hnew) (by omega)
    replace gr1 := grown_trans (grown_drewN gr1 nq) gr2
    clear hl hc1 ci1 gr2 hfind
    have hc1 : w2.cell? ⟨cb, 1, none⟩ = some (.map (some mb)) := by rw [cell_at ci2.cell]; rfl
    have k0 : w2.cell? ⟨w.heap.size, 0, none⟩ = some (.pointer (some ⟨g, 0, none⟩)) := by rw [cell_at hnew]; rfl
    have k1 : w2.cell? ⟨w.heap.size, 1, none⟩ = some (.int .i64 f) := by rw [cell_at hnew]; rfl
    have k2 : w2.cell? ⟨w.heap.size, 2, none⟩ = some (.int .i64 to) := by rw [cell_at hnew]; rfl
    obtain ⟨W, hW⟩ := Classical.axiomOfChoice (fun k => (ci2.drewN k).memo.store (told_node (ci2.drewN k)) (f := f) (t := to) (hT.since (ci2.drewN k).since).isNode (b := inB tr t f to) ⟨X, t, hT, rfl⟩)
    unfold kv at hW
    have hu0 := (hW 0).1
    have hu1 := (hW 1).1
    have hu2 := (hW 2).1
    have hu3 := (hW 3).1
    have hu4 := (hW 4).1
    have hu5 := (hW 5).1
    change Sem.run _ _ w2 = _ at hu0
    change Sem.run _ _ w2.drew = _ at hu1
    change Sem.run _ _ w2.drew.drew = _ at hu2
    change Sem.run _ _ w2.drew.drew.drew = _ at hu3
    change Sem.run _ _ w2.drew.drew.drew.drew = _ at hu4
    change Sem.run _ _ w2.drew.drew.drew.drew.drew = _ at hu5
    have hfin : Hid (∀ k j, CI w0 tr A m c cb mb ((W k).drewN j) ∧ w.grownBy ((W k).drewN j) (some mb)) := fun k j =>
      ⟨((ci2.drewN k).stored (hW k).2.1 (hW k).2.2).drewN j, grown_drewN (grown_trans (grown_drewN gr1 k) (hW k).2.2) j⟩
    clear hW hnew
    go_wp2_with fail
    go_region
    all_goals (go_wp2_with fail)
    all_goals go_ret
    all_goals (first | exact ⟨rfl, hfin.out _ 0⟩ | exact ⟨rfl, hfin.out _ 1⟩ | exact ⟨rfl, hfin.out _ 2⟩ | exact ⟨rfl, hfin.out _ 3⟩ | exact ⟨rfl, hfin.out _ 4⟩ | exact ⟨rfl, hfin.out _ 5⟩)
  · obtain rfl := isT_same hu hT
    unfold pv at *
    unfold kv at hlk
    go_enter Try.func81, Try.ntmps81
    go_wp2_with fail
    clear ci hT hfind
    have hl := fun k => hlk ((w.alloc (.cells #[.pointer (some ⟨g, 0, none⟩), .int .i64 f, .int .i64 to] 82)).drewN k) rfl
    clear hlk hnew
    go_quiet (fail)
    go_wp2_with fail
    go_ret
    exact ⟨rfl, ci1.drewN nq, grown_drewN gr1 nq⟩
/-! what a node's cells are in later worlds -/
theorem node_leaf {w0 : World} {X : Nat → Prop} {s : Int} {g : Nat} (h : isT w0 X (.leaf s) g) : ∀ w, Since w0 w → w.cell? ⟨g, 0, none⟩ = some (.int .i64 s) := by
  obtain ⟨A, c, h1, _⟩ := h
  intro w hs
  rw [hs.below.cell (p := ⟨g, 0, none⟩) (lt_of_block h1), cell_at h1]; rfl
theorem node_star {w0 : World} {X : Nat → Prop} {a : Tr} {g : Nat} (h : isT w0 X (.star a) g) : ∃ ga gk ck, isT w0 X a ga ∧ 1 ≤ ck ∧ ∀ w, Since w0 w →
    w.cell? ⟨g, 0, none⟩ = some (.int .i64 21) ∧ w.cell? ⟨g, 1, none⟩ = some (.slice (some ⟨gk, 0, none⟩) 1 ck) ∧ w.cell? ⟨gk, 0, none⟩ = some (pv ga) := by
  obtain ⟨ga, ⟨A, c, h1, h2, h3, h4, h5⟩, ha⟩ := h
  obtain ⟨gk, C, rfl, hx, hg, hC⟩ := h5 0 (by simp)
  refine ⟨ga, gk, c, ha, h3, fun w hs => ⟨?_, ?_, ?_⟩⟩
  · rw [hs.below.cell (p := ⟨g, 0, none⟩) (lt_of_block h1), cell_at h1]; rfl
  · rw [hs.below.cell (p := ⟨g, 1, none⟩) (lt_of_block h1), cell_at h1]; rfl
  · rw [hs.below.cell (p := ⟨gk, 0, none⟩) (lt_of_block hg), cell_at hg]; exact hC
theorem node_bin {w0 : World} {X : Nat → Prop} {s : Int} {a b : Tr} {g : Nat} (h : isT w0 X (.bin s a b) g) : ∃ ga gb gk ck, isT w0 X a ga ∧ isT w0 X b gb ∧ 2 ≤ ck ∧ ∀ w, Since w0 w →
    w.cell? ⟨g, 0, none⟩ = some (.int .i64 s) ∧ w.cell? ⟨g, 1, none⟩ = some (.slice (some ⟨gk, 0, none⟩) 2 ck) ∧ w.cell? ⟨gk, 0, none⟩ = some (pv ga) ∧ w.cell? ⟨gk, 1, none⟩ = some (pv gb) := by
  obtain ⟨ga, gb, ⟨A, c, h1, h2, h3, h4, h5⟩, ha, hb⟩ := h
  obtain ⟨gk, C, rfl, hx, hg, hC⟩ := h5 0 (by simp)
  obtain ⟨gk', C', e, hx', hg', hC'⟩ := h5 1 (by simp)
  injection e with e
  injection e with e
  subst e
  refine ⟨ga, gb, gk, c, ha, hb, h3, fun w hs => ⟨?_, ?_, ?_, ?_⟩⟩
  · rw [hs.below.cell (p := ⟨g, 0, none⟩) (lt_of_block h1), cell_at h1]; rfl
  · rw [hs.below.cell (p := ⟨g, 1, none⟩) (lt_of_block h1), cell_at h1]; rfl
  · rw [hs.below.cell (p := ⟨gk, 0, none⟩) (lt_of_block hg), cell_at hg]; exact hC
  · rw [hs.below.cell (p := ⟨gk, 1, none⟩) (lt_of_block hg), cell_at hg']; exact hC'

/-- what 'in' and 'find' do -/
def cutPost (w0 : World) (tr : List Int) (A : Option Addr) (m c cb mb : Nat) (w : World) (b : Bool) (e : Ending) (w' : World) : Prop :=
  e = .returned (.bool b) ∧ CI w0 tr A m c cb mb w' ∧ w.grownBy w' (some mb)
theorem find_any {w0 : World} {tr : List Int} {n : Nat} {A : Option Addr} {m c cb mb : Nat} {X : Nat → Prop} (hN : TrN tr n) (hn : n ≤ 500) (htr : Ls w0 w0.heap.size A m c tr) :
    ∀ (M : Nat) (t : Tr) (g f to : Nat) (w : World), t.size + (to - f) ≤ M → M ≤ 1000 → f ≤ to → to ≤ n → t.ok → isT w0 X t g → CI w0 tr A m c cb mb w →
    Calls Try.prog 90 #[pv cb, pv g, .int .i64 f, .int .i64 to] w (cutPost w0 tr A m c cb mb w (inB tr t f to)) := by
  intro M
  induction M with
  | zero => intro t g f to w h; have := t.size_pos; omega
  | succ M ihf =>
    intro t g f to w hM hM2 hf hto ht hT ci
    have ih : ∀ (t : Tr) (g f to : Nat) (w : World), t.size + (to - f) ≤ M → f ≤ to → to ≤ n → t.ok → isT w0 X t g → CI w0 tr A m c cb mb w →
        Calls Try.prog 81 #[pv cb, pv g, .int .i64 f, .int .i64 to] w (cutPost w0 tr A m c cb mb w (inB tr t f to)) := by
      intro t g f to w h1 h2 h3 h4 h5 h6
      exact in_step t g f to w ⟨by omega, by omega⟩ h5 h6 fun w' ci => ihf t g f to w' h1 (by omega) h2 h3 h4 h5 ci
    clear ihf
    have hlen : m = 2 * n + 1 := by rw [← htr.len, hN.len]
    cases t with
    | leaf s =>
      obtain ⟨h0, h18⟩ := ht
      have hc0 := node_leaf hT w ci.since
      have hcc : w.cell? ⟨cb, 0, none⟩ = some (.slice A m c) := by rw [cell_at ci.cell]; rfl
      have htw := htr.since ci.since
      clear ih hT htr
      by_cases h15 : s ≤ 15
      · have hra : inR s 16 18 = false := inR_lo (by omega)
        have hq1 : (s == 20) = false := by simp; omega
        have hq2 : (s == 19) = false := by simp; omega
        have hq3 : (s == 21) = false := by simp; omega
        by_cases hft : f = to
        · subst hft
          have hat := hN.atom f hto
          obtain ⟨b', off', v', rfl, hb', hc', hv'⟩ := htw.at_ (k := 2 * f) (by omega)
          have hv2 : atomAt tr f = v' := hv'.out
          rw [hv2] at hat
          have hfin : Hid (inB tr (.leaf s) f f = (bitI s v' == 1)) := by simp [Hid, inB, h15, hv2]
          have ez : ((2 * f : Nat) : Int) = 2 * (f : Int) := by omega
          have eff : ((f : Int) == f) = true := by simp
          clear hv' hv2 htw hN
          unfold pv
          go_enter Try.func90, Try.ntmps90
          go_wp2_with (go_at_call 56; refine (impl_isAct s _).mono ?_; rintro e w' ⟨rfl, rfl⟩; rw [hra])
          go_quiet ((go_at_call 95; exact quiet_mine (impl_holds s v' h0 h15 hat.1 hat.2 _)))
          go_wp2_with fail
          go_ret
          exact ⟨ret_bool hfin.out.symm, ci.drewN _, grown_drewN (grown_refl _ _) _⟩
        · have hfin : Hid (inB tr (.leaf s) f to = false) := by simp [Hid, inB, h15, hft]
          have eff : ((f : Int) == to) = false := by simp; omega
          clear htw hN
          unfold pv
          go_enter Try.func90, Try.ntmps90
          go_wp2_with (go_at_call 56; refine (impl_isAct s _).mono ?_; rintro e w' ⟨rfl, rfl⟩; rw [hra])
          go_quiet (fail)
          go_wp2_with fail
          go_ret
          exact ⟨ret_bool hfin.out.symm, ci.drewN _, grown_drewN (grown_refl _ _) _⟩
      · have hra : inR s 16 18 = true := inR_true (by omega) (by omega)
        have ew : IntKind.i64.wrap ((f : Int) + 1) = (f : Int) + 1 := IntWalk.i64_in _ (by omega)
        by_cases hft : to = f + 1
        · subst hft
          obtain ⟨b', off', v', rfl, hb', hc', hv'⟩ := htw.at_ (k := 2 * f + 1) (by omega)
          have hv2 : actAt tr f = v' := hv'.out
          have hfin : Hid (inB tr (.leaf s) f (f + 1) = (v' == s)) := by simp [Hid, inB, h15, hv2]
          have eff : (((f + 1 : Nat) : Int) == (f : Int) + 1) = true := by simp
          clear hv' hv2 htw hN
          unfold pv
          go_enter Try.func90, Try.ntmps90
          go_wp2_with (go_at_call 56; refine (impl_isAct s _).mono ?_; rintro e w' ⟨rfl, rfl⟩; rw [hra])
          go_quiet (fail)
          go_wp2_with fail
          go_ret
          exact ⟨ret_bool hfin.out.symm, ci.drewN _, grown_drewN (grown_refl _ _) _⟩
        · have hfin : Hid (inB tr (.leaf s) f to = false) := by simp [Hid, inB, h15, hft]
          have eff : ((to : Int) == (f : Int) + 1) = false := by simp; omega
          clear htw hN
          unfold pv
          go_enter Try.func90, Try.ntmps90
          go_wp2_with (go_at_call 56; refine (impl_isAct s _).mono ?_; rintro e w' ⟨rfl, rfl⟩; rw [hra])
          go_quiet (fail)
          go_wp2_with fail
          go_ret
          exact ⟨ret_bool hfin.out.symm, ci.drewN _, grown_drewN (grown_refl _ _) _⟩
    | star a =>
      have ha : a.ok := ht
      obtain ⟨ga, gk, ck, hTa, hck, hcs⟩ := node_star hT
      have hcs' := Lib.hid hcs
      obtain ⟨k0, k1, k2⟩ := hcs w ci.since
      simp only [Tr.size] at hM
      clear hcs
      have hra : inR 21 16 18 = false := by decide
      by_cases hft : f = to
      · subst hft
        have hfin : Hid (inB tr (.star a) f f = true) := star_refl tr a f
        have eff : ((f : Int) == f) = true := by simp
        clear ih hT htr hN
        unfold pv at *
        go_enter Try.func90, Try.ntmps90
        go_wp2_with (go_at_call 56; refine (impl_isAct 21 _).mono ?_; rintro e w' ⟨rfl, rfl⟩; rw [hra])
        go_ret
        exact ⟨ret_bool hfin.out.symm, ci, grown_refl _ _⟩
      · have hfin : Hid (inB tr (.star a) f to = (List.range (to - f)).any fun i => inB tr a f (f + 1 + i) && inB tr (.star a) (f + 1 + i) to) := by
          have := star_unfold tr a f to
          have e : (f == to) = false := by simpa using hft
          rw [e, Bool.false_or] at this
          exact this
        have eff : ((f : Int) == to) = false := by simp; omega
        have ia := Lib.hid (fun q w' (h0 : q ≤ to) h1 ci' => ih a ga f q w' (show a.size + (q - f) ≤ M by omega) h1 (Nat.le_trans h0 hto) ha hTa ci')
        have ib := Lib.hid (fun q w' (h1 : f < q) h2 ci' => ih (.star a) g q to w' (show (Tr.star a).size + (to - q) ≤ M by simp only [Tr.size]; omega) h2 hto ht hT ci')
        clear ih hT htr hN
        unfold pv at *
        go_enter Try.func90, Try.ntmps90
        go_wp2_with (go_at_call 56; refine (impl_isAct 21 _).mono ?_; rintro e w' ⟨rfl, rfl⟩; rw [hra])
        go_loopw [10] (fun mid wr => ∃ i q : Nat, q = f + 1 + i ∧ i ≤ to - f ∧ mid = .int .i64 q ∧ Hid (noCut (fun i => inB tr a f (f + 1 + i) && inB tr (.star a) (f + 1 + i) to) i) ∧ CI w0 tr A m c cb mb wr ∧ w.grownBy wr (some mb)) (fun mid _ => to + 1 - (intOf mid).toNat)
        case atStart => exact ⟨0, f + 1, rfl, by omega, by go_num, fun i hi => absurd hi (by omega), ci, grown_refl _ _⟩
        case round =>
          clear k0 k1 k2
          obtain ⟨i, q, hq, hi, rfl, hno, ci1, gr1⟩ := hrel
          obtain ⟨k0, k1, k2⟩ := hcs'.out wr ci1.since
          by_cases hlt : i < to - f
          · have hqt : q ≤ to := by omega
            have hfq : f < q := by omega
            replace hq := Lib.hid hq
            have ic := Lib.hid (ia.out q wr (by omega) (by omega) ci1)
            have ib' := Lib.hid (fun w' ci' => ib.out q w' (by omega) (by omega) ci')
            clear ia ib
            cases hA : inB tr a f q
            · have hno' : Hid (noCut (fun i => inB tr a f (f + 1 + i) && inB tr (.star a) (f + 1 + i) to) (i + 1)) := by
                intro j hj
                by_cases e : j = i
                · subst e; simp only [← hq.out, hA]; rfl
                · exact hno.out j (by omega)
              rw [hA] at ic
              clear hA
              go_wp2_with fail
              refine ic.out.mono ?_
              rintro e w3 ⟨rfl, ci3, gr3⟩
              go_wp2
              go_roundw
              case rel => exact ⟨i + 1, q + 1, by have := hq.out; omega, by omega, by go_num, hno', ci3, grown_trans gr1 gr3⟩
              case measure => simp [intOf]; omega
            · rw [hA] at ic
              cases hB : inB tr (.star a) q to
              · have hno' : Hid (noCut (fun i => inB tr a f (f + 1 + i) && inB tr (.star a) (f + 1 + i) to) (i + 1)) := by
                  intro j hj
                  by_cases e : j = i
                  · subst e; simp only [← hq.out, hB]; simp
                  · exact hno.out j (by omega)
                rw [hB] at ib'
                clear hA hB
                go_wp2_with fail
                refine ic.out.mono ?_
                rintro e w3 ⟨rfl, ci3, gr3⟩
                go_wp2_with fail
                refine (ib'.out w3 ci3).mono ?_
                rintro e w4 ⟨rfl, ci4, gr4⟩
                go_wp2
                go_roundw
                case rel => exact ⟨i + 1, q + 1, by have := hq.out; omega, by omega, by go_num, hno', ci4, grown_trans (grown_trans gr1 gr3) gr4⟩
                case measure => simp [intOf]; omega
              · have hyes := Lib.hid (any_of (P := fun i => inB tr a f (f + 1 + i) && inB tr (.star a) (f + 1 + i) to) hlt (by simp only [← hq.out, hA, hB]; rfl))
                rw [hB] at ib'
                clear hA hB
                go_wp2_with fail
                refine ic.out.mono ?_
                rintro e w3 ⟨rfl, ci3, gr3⟩
                go_wp2_with fail
                refine (ib'.out w3 ci3).mono ?_
                rintro e w4 ⟨rfl, ci4, gr4⟩
                go_wp2
                go_ret
                exact ⟨ret_bool (by rw [hfin.out]; exact hyes.out.symm), ci4, grown_trans (grown_trans gr1 gr3) gr4⟩
          · obtain rfl : i = to - f := by omega
            have hf := Lib.hid (any_no hno.out)
            go_wp2
            go_ret
            exact ⟨ret_bool (by rw [hfin.out]; exact hf.out.symm), ci1, gr1⟩
    | bin s a b =>
      obtain ⟨hs, ha, hb⟩ := ht
      obtain ⟨ga, gb, gk, ck, hTa, hTb, hck, hcs⟩ := node_bin hT
      have hcs' := Lib.hid hcs
      obtain ⟨k0, k1, k2, k3⟩ := hcs w ci.since
      simp only [Tr.size] at hM
      clear hcs
      rcases hs with rfl | rfl
      · have hfin : Hid (inB tr (.bin 19 a b) f to = (List.range (to + 1 - f)).any fun i => inB tr a f (f + i) && inB tr b (f + i) to) := then_unfold tr a b f to
        have ia := Lib.hid (fun q w' (h0 : q ≤ to) h1 ci' => ih a ga f q w' (show a.size + (q - f) ≤ M by omega) h1 (Nat.le_trans h0 hto) ha hTa ci')
        have ib := Lib.hid (fun q w' (h1 : f ≤ q) h2 ci' => ih b gb q to w' (show b.size + (to - q) ≤ M by omega) h2 hto hb hTb ci')
        have hra : inR 19 16 18 = false := by decide
        clear ih hT htr hN
        unfold pv at *
        go_enter Try.func90, Try.ntmps90
        go_wp2_with (go_at_call 56; refine (impl_isAct 19 _).mono ?_; rintro e w' ⟨rfl, rfl⟩; rw [hra])
        go_loopw [9] (fun mid wr => ∃ i q : Nat, q = f + i ∧ i ≤ to + 1 - f ∧ mid = .int .i64 q ∧ Hid (noCut (fun i => inB tr a f (f + i) && inB tr b (f + i) to) i) ∧ CI w0 tr A m c cb mb wr ∧ w.grownBy wr (some mb)) (fun mid _ => to + 1 - (intOf mid).toNat)
        case atStart => exact ⟨0, f, rfl, by omega, rfl, fun i hi => absurd hi (by omega), ci, grown_refl _ _⟩
        case round =>
          clear k0 k1 k2 k3
          obtain ⟨i, q, hq, hi, rfl, hno, ci1, gr1⟩ := hrel
          obtain ⟨k0, k1, k2, k3⟩ := hcs'.out wr ci1.since
          by_cases hlt : i < to + 1 - f
          · have hqt : q ≤ to := by omega
            have hfq : f ≤ q := by omega
            replace hq := Lib.hid hq
            have ic := Lib.hid (ia.out q wr (by omega) (by omega) ci1)
            have ib' := Lib.hid (fun w' ci' => ib.out q w' (by omega) (by omega) ci')
            clear ia ib
            cases hA : inB tr a f q
            · have hno' : Hid (noCut (fun i => inB tr a f (f + i) && inB tr b (f + i) to) (i + 1)) := by
                intro j hj
                by_cases e : j = i
                · subst e; simp only [← hq.out, hA]; rfl
                · exact hno.out j (by omega)
              rw [hA] at ic
              clear hA
              go_wp2_with fail
              refine ic.out.mono ?_
              rintro e w3 ⟨rfl, ci3, gr3⟩
              go_wp2
              go_roundw
              case rel => exact ⟨i + 1, q + 1, by have := hq.out; omega, by omega, by go_num, hno', ci3, grown_trans gr1 gr3⟩
              case measure => simp [intOf]; omega
            · rw [hA] at ic
              cases hB : inB tr b q to
              · have hno' : Hid (noCut (fun i => inB tr a f (f + i) && inB tr b (f + i) to) (i + 1)) := by
                  intro j hj
                  by_cases e : j = i
                  · subst e; simp only [← hq.out, hB]; simp
                  · exact hno.out j (by omega)
                rw [hB] at ib'
                clear hA hB
                go_wp2_with fail
                refine ic.out.mono ?_
                rintro e w3 ⟨rfl, ci3, gr3⟩
                obtain ⟨k0, k1, k2, k3⟩ := hcs'.out w3 ci3.since
                go_wp2_with fail
                refine (ib'.out w3 ci3).mono ?_
                rintro e w4 ⟨rfl, ci4, gr4⟩
                go_wp2
                go_roundw
                case rel => exact ⟨i + 1, q + 1, by have := hq.out; omega, by omega, by go_num, hno', ci4, grown_trans (grown_trans gr1 gr3) gr4⟩
                case measure => simp [intOf]; omega
              · have hyes := Lib.hid (any_of (P := fun i => inB tr a f (f + i) && inB tr b (f + i) to) hlt (by simp only [← hq.out, hA, hB]; rfl))
                rw [hB] at ib'
                clear hA hB
                go_wp2_with fail
                refine ic.out.mono ?_
                rintro e w3 ⟨rfl, ci3, gr3⟩
                obtain ⟨k0, k1, k2, k3⟩ := hcs'.out w3 ci3.since
                go_wp2_with fail
                refine (ib'.out w3 ci3).mono ?_
                rintro e w4 ⟨rfl, ci4, gr4⟩
                go_wp2
                go_ret
                exact ⟨ret_bool (by rw [hfin.out]; exact hyes.out.symm), ci4, grown_trans (grown_trans gr1 gr3) gr4⟩
          · obtain rfl : i = to + 1 - f := by omega
            have hf := Lib.hid (any_no hno.out)
            go_wp2
            go_ret
            exact ⟨ret_bool (by rw [hfin.out]; exact hf.out.symm), ci1, gr1⟩
      · have hfin : Hid (inB tr (.bin 20 a b) f to = (inB tr a f to || inB tr b f to)) := plus_unfold tr a b f to
        have ia := ih a ga f to w (by omega) hf hto ha hTa ci
        have ib := Lib.hid (fun w' ci' => ih b gb f to w' (by omega) hf hto hb hTb ci')
        have hra : inR 20 16 18 = false := by decide
        clear ih hT htr
        unfold pv at *
        go_enter Try.func90, Try.ntmps90
        go_wp2_with (go_at_call 56; refine (impl_isAct 20 _).mono ?_; rintro e w' ⟨rfl, rfl⟩; rw [hra])
        refine ia.mono ?_
        rintro e w1 ⟨rfl, ci1, gr1⟩
        cases hq : inB tr a f to
        · have hq := Lib.hid hq
          obtain ⟨k0, k1, k2, k3⟩ := hcs'.out w1 ci1.since
          go_wp2_with fail
          refine (ib.out w1 ci1).mono ?_
          rintro e w2 ⟨rfl, ci2, gr2⟩
          go_wp2_with fail
          go_ret
          exact ⟨ret_bool (by rw [hfin.out, hq.out]; rfl), ci2, grown_trans gr1 gr2⟩
        · have hq := Lib.hid hq
          go_wp2_with fail
          go_ret
          exact ⟨ret_bool (by rw [hfin.out, hq.out]; rfl), ci1, gr1⟩
end Go.Proofs.Ytlnkkjmejmhaiaa
