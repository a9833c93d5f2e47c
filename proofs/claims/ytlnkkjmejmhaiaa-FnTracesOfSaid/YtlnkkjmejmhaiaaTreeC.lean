/-
  Contracts of a tree's steps and of a tree backwards; impl.KatBack.
-/
import Derived.Test.YtlnkkjmejmhaiaaTreeB
import Derived.Deep.RegionHeld3
namespace Go.Proofs.Ytlnkkjmejmhaiaa
open Go.RowKit
set_option linter.unusedVariables false
set_option maxHeartbeats 400000

theorem nodeAt.lt {w : World} {X : Nat → Prop} {g : Nat} {s : Int} {gs : List Nat} (h : nodeAt w X g s gs) : g < w.heap.size := by obtain ⟨A, c, h1, _⟩ := h; exact lt_of_block h1
/-- the steps of the first k kids -/
def ksteps (t : Tr) (k : Nat) : List Int := (t.kids.take k).flatMap Tr.steps
theorem ksteps_succ (t : Tr) {k : Nat} (hk : k < t.kids.length) : ksteps t (k + 1) = ksteps t k ++ (t.kids.getD k (.leaf 0)).steps := by
  unfold ksteps
  rw [List.take_succ_eq_append_getElem hk, List.flatMap_append]
  simp [List.getD_eq_getElem?_getD, List.getElem?_eq_getElem hk]
theorem ksteps_all (t : Tr) : ksteps t t.kids.length ++ [t.last] = t.steps := by rw [ksteps, List.take_length, ← Tr.steps_kids]
theorem ksteps_le (t : Tr) (k : Nat) : (ksteps t k).length ≤ t.size := by
  have h1 : (ksteps t k).length ≤ (ksteps t t.kids.length).length := by
    unfold ksteps
    rw [List.take_length]
    have := List.take_append_drop k t.kids
    calc _ ≤ ((t.kids.take k).flatMap Tr.steps).length + ((t.kids.drop k).flatMap Tr.steps).length := Nat.le_add_right _ _
      _ = _ := by rw [← List.length_append, ← List.flatMap_append, this]
  have h2 := congrArg List.length (ksteps_all t)
  rw [List.length_append, Tr.length_steps] at h2
  omega

theorem steps_any : ∀ (m : Nat) (t : Tr) (g : Nat) (X : Nat → Prop) (w : World), t.size ≤ m → m ≤ 274877906944 → isT w X t g → t.ok →
    Calls Try.prog 53 #[pv g] w (Fresh w t.steps) := by
  intro m
  induction m with
  | zero => intro t g X w h; have := t.size_pos; omega
  | succ m ih =>
    intro t g X w hm h38 hT ht
    obtain ⟨gs, hl, ⟨A, c, hg, hX, hcap, hmax, hkids⟩, hsub⟩ := hT.node
    have hglt := lt_of_block hg
    have hc0 : ∀ wr, Since w wr → wr.cell? ⟨g, 0, none⟩ = some (.int .i64 t.last) := fun wr s => by rw [s.below.cell (p := ⟨g, 0, none⟩) hglt, cell_at hg]; rfl
    have hc1 : w.cell? ⟨g, 1, none⟩ = some (.slice A gs.length c) := by rw [cell_at hg]; rfl
    have hks := t.kids_le
    generalize hq : gs.length = n at *
    have hn2 : n ≤ 2 := by omega
    have hlH := Lib.hid hl
    have hqH := Lib.hid hq
    clear hl hq
    have hend := Lib.hid (ksteps_all t)
    have hwl := t.last_wf ht
    generalize t.last = s at *
    unfold pv
    go_enter Try.func53, Try.ntmps53
    go_wp2_with fail
    clear hc1 hg
    go_loopw [3, 11] (fun out i wr => ∃ (k : Nat) (A1 : Option Addr) (n1 c1 : Nat) , k ≤ n ∧ i = .int .i64 k ∧ out = .slice A1 n1 c1 ∧ Own wr w.heap.size A1 n1 c1 (ksteps t k) ∧ Since w wr) (fun _ i _ => n - (intOf i).toNat)
    case atStart => exact ⟨0, none, 0, 0, Nat.zero_le _, rfl, rfl, by simpa [ksteps] using Own.nil _ _, Since.refl w⟩
    case round =>
      obtain ⟨k, A1, n1, c1, hk, rfl, rfl, o1, s1⟩ := hrel
      have hl := hlH.out
      have hb1 : n1 ≤ 274877906944 := by have := o1.len; have := ksteps_le t k; omega
      by_cases hlt : k < n
      · obtain ⟨gk, C, rfl, hXk, hgk, hCk⟩ := hkids k hlt
        have hck : wr.cell? ⟨gk, k, none⟩ = some (pv (gs.getD k 0)) := by rw [s1.below.cell (p := ⟨gk, k, none⟩) (lt_of_block hgk), cell_at hgk]; exact hCk
        have hcall := ih (t.kids.getD k (.leaf 0)) (gs.getD k 0) X wr (by have := Tr.kid_size (t := t) (j := k) (by omega); omega) (by omega) ((hsub k hlt).since s1) (Tr.kid_ok ht (by omega))
        have hsucc := Lib.hid (ksteps_succ t (k := k) (by omega))
        have hsz := Tr.kid_size (t := t) (j := k) (by omega)
        have hbl : ∀ n2, (t.kids.getD k (.leaf 0)).steps.length = n2 → n2 ≤ 274877906944 := by intro n2 e; rw [Tr.length_steps] at e; omega
        replace hbl := Lib.hid hbl
        generalize (t.kids.getD k (.leaf 0)) = u at *
        generalize gs.getD k 0 = gu at *
        unfold pv at hck hcall
        replace hcall := Lib.hid hcall
        have hcs := hc0 wr s1
        clear hc0 hsub hkids hl hCk hgk hsz hks
        go_wp2_with fail
        refine hcall.out.mono ?_
        rintro e w2 ⟨A2, n2, c2, rfl, o2, s2⟩
        have hb2 := hbl.out _ o2.len
        have o1' := o1.since s2
        clear hcall
        go_wp2_with (at_builtin
                     refine wpList_app rfl _ _ rfl w.heap.size A1 n1 c1 _ rfl o1' _ A2 n2 c2 _ rfl o2.ls (by omega) (s1.trans s2).size ?_
                     intro A3 c3 w3 o3 g3
                     have s3 : Since w w3 := (s1.trans s2).app (Nat.le_refl _) g3
                     clear g3)
        go_roundw
        case rel => exact ⟨k + 1, A3, n1 + n2, c3, by omega, by go_num, rfl, by rw [hsucc.out]; exact o3, s3⟩
        case measure => simp [intOf]; omega
      · obtain rfl : n = k := by omega
        have hcs := hc0 wr s1
        rw [← hl] at hend
        have hws := wf_small (x := s) (by omega) (by omega)
        clear hc0 hsub hkids hl hks
        go_wp2_with (at_builtin
                     refine wpList_app rfl _ _ rfl w.heap.size A1 n1 c1 _ rfl (o1.alloc _) _ _ 1 1 [s] rfl (Ls.one wr s hws _) (by omega) (s1.alloc _).size ?_
                     intro A3 c3 w3 o3 g3
                     have s3 : Since w w3 := (s1.alloc _).app (Nat.le_refl _) g3
                     clear g3)
        go_ret
        exact ⟨_, _, _, rfl, by rw [← hend.out]; exact o3, s3⟩

theorem POwn.free {w : World} {base n c g : Nat} {gs : List Nat} (h : POwn w base (some ⟨g, 0, none⟩) n c gs) (i : Nat) : w.frozen? ⟨g, i, none⟩ = false := by
  rcases h.own.2 with ⟨h1, h2⟩ | ⟨g', cap, cur, h1, h2, h3, h4⟩
  · cases h1
  · injection h1 with h1 h5 h6; injection h1 with h1; injection h1 with h1; subst h1; exact free_at h3
theorem POwn.set_ {w : World} {base n c g : Nat} {gs : List Nat} (h : POwn w base (some ⟨g, 0, none⟩) n c gs) {i : Nat} (hi : i < n) (v : Nat) : POwn (w.setCell ⟨g, i, none⟩ (pv v)) base (some ⟨g, 0, none⟩) n c (gs.set i v) := by
  refine ⟨by simp [h.len], ⟨by simp [h.len], ?_⟩⟩
  rcases h.own.2 with ⟨h1, h2⟩ | ⟨g', cap, cur, h1, h2, h3, h4, h5, h6, h7⟩
  · cases h1
  · injection h1 with h1 h8 h9; injection h1 with h1; injection h1 with h1; subst h1; subst h9
    refine .inr ⟨g, c, _, rfl, h2, block_setCell h3, h4, h5, by simp [h6], ?_⟩
    rw [Array.toList_setIfInBounds, List.take_set, h7, List.map_set]
theorem reverseP_two (g c base a b : Nat) (w : World) (h : POwn w base (some ⟨g, 0, none⟩) 2 c [a, b]) :
    Calls Try.prog 76 #[.slice (some ⟨g, 0, none⟩) 2 c] w fun e w' => e = .returned (.tuple #[]) ∧ POwn w' base (some ⟨g, 0, none⟩) 2 c [b, a] ∧ w.grownBy w' (some g) := by
  have hcap := h.cap_le.1
  go_enter Try.func76, Try.ntmps76
  go_wp2_with fail
  go_loopw [2, 3] (fun i j wr => (i = .int .i64 0 ∧ j = .int .i64 1 ∧ w = wr) ∨ (i = .int .i64 1 ∧ j = .int .i64 0 ∧ POwn wr base (some ⟨g, 0, none⟩) 2 c [b, a] ∧ w.grownBy wr (some g))) (fun i _ _ => 2 - (intOf i).toNat)
  case atStart => exact .inl ⟨rfl, rfl, rfl⟩
  case round =>
    rcases hrel with ⟨rfl, rfl, rfl⟩ | ⟨rfl, rfl, o, hgr⟩
    · obtain ⟨b1, off, e, -, hc⟩ := h.ls.cells (by omega)
      injection e with e; injection e with e1 e2; subst e1 e2
      have c0 : w.cell? ⟨g, 0, none⟩ = some (.pointer (some ⟨a, 0, none⟩)) := hc 0 (by omega)
      have c2 : w.cell? ⟨g, 1, none⟩ = some (.pointer (some ⟨b, 0, none⟩)) := hc 1 (by omega)
      have f0 := h.free 0
      have f1 := h.free 1
      have hO := (h.set_ (i := 0) (by omega) b).set_ (i := 1) (by omega) a
      have hG := grown_drew (grown_trans (grown_setCell w g 0 (pv b)) (grown_setCell (w.setCell ⟨g, 0, none⟩ (pv b)) g 1 (pv a)))
      simp only [List.set_cons_zero, List.set_cons_succ] at hO
      clear hc h
      go_wp2_with fail
      go_region
      all_goals (go_wp2_with fail)
      go_roundw
      case rel => exact .inr ⟨by go_num, by go_num, ⟨hO.len, hO.own⟩, hG⟩
      case measure => simp [intOf]
    · clear h
      go_wp2
      go_end0
      exact ⟨rfl, o, hgr⟩
end Go.Proofs.Ytlnkkjmejmhaiaa
