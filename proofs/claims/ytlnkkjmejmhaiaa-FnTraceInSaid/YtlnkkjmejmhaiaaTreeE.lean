/-
  Contracts of a tree backwards and of impl.KatBack.
-/
import Derived.Test.YtlnkkjmejmhaiaaTreeC
import Derived.Deep.AppendLies
import Derived.Deep.RegionLaw
namespace Go.Proofs.Ytlnkkjmejmhaiaa
open Go.RowKit
set_option linter.unusedVariables false
set_option maxHeartbeats 400000

/-- What is behind a round of back: a kid more. n: the new node's block. -/
theorem pushB {w wr w2 w3 : World} {A1 A3 : Option Addr} {n k c1 c3 : Nat} {gs : List Nat} {rv : List Tr} {s : Int} {u : Tr} {g2 : Nat} {E : TypeId}
    (hn : w.heap.size = n) (s0 : Since w wr) (own : POwn wr (n + 1) A1 k c1 gs) (hl : rv.length = k)
    (hb : wr.heap[n]? = some (.cells #[.int .i64 s, .slice A1 k c1] 65 (0, 0)))
    (ht : ∀ j, j < k → isT wr (Av (n + 1) A1) (rv.getD j (.leaf 0)) (gs.getD j 0))
    (s2 : Since wr w2) (hu : isT w2 (fun b => b < wr.heap.size) u g2)
    (o3 : POwn w3 (n + 1) A3 (k + 1) c3 (gs ++ [g2]))
    (g3 : ∃ row, (w2.alloc (.cells #[pv g2] E)).grownBy w3 row ∧ ∀ g, row = some g → n + 1 ≤ g ∧ A1 = some ⟨g, 0, none⟩)
    (a3 : A3 = A1 ∨ A3 = some ⟨w2.heap.size + 1, 0, none⟩) :
    Since w (w3.setCell ⟨n, 1, none⟩ (.slice A3 (k + 1) c3)) ∧ POwn (w3.setCell ⟨n, 1, none⟩ (.slice A3 (k + 1) c3)) (n + 1) A3 (k + 1) c3 (gs ++ [g2]) ∧
    (w3.setCell ⟨n, 1, none⟩ (.slice A3 (k + 1) c3)).heap[n]? = some (.cells #[.int .i64 s, .slice A3 (k + 1) c3] 65 (0, 0)) ∧
    ∀ j, j < k + 1 → isT (w3.setCell ⟨n, 1, none⟩ (.slice A3 (k + 1) c3)) (Av (n + 1) A3) ((rv ++ [u]).getD j (.leaf 0)) ((gs ++ [g2]).getD j 0) := by
  obtain ⟨row3, k3, k4⟩ := g3
  have hsz3 := k3.size
  simp at hsz3
  have hsz2 := s2.size
  have hnr := lt_of_block hb
  have hA1 : ∀ g, A1 = some ⟨g, 0, none⟩ → n + 1 ≤ g ∧ g < wr.heap.size := by
    intro g hg
    rcases own.form with ⟨rfl, _⟩ | ⟨g', rfl, h0, h, _⟩
    · cases hg
    · simp at hg; omega
  have keep3 : ∀ k, k < w2.heap.size → A1 ≠ some ⟨k, 0, none⟩ → w3.heap[k]? = w2.heap[k]? := by
    intro k hk hne
    rw [k3.block k (by simp; omega) (fun e => hne (k4 k e.symm).2), heap_alloc_old _ _ hk]
  have keep4 : ∀ b, b ≠ n → (w3.setCell ⟨n, 1, none⟩ (.slice A3 (k + 1) c3)).heap[b]? = w3.heap[b]? := fun b hb => Below.heap_setCell _ _ _ _ (by intro h; exact hb h)
  have hA3 : ∀ k, k < w2.heap.size + 1 → A1 ≠ some ⟨k, 0, none⟩ → A3 ≠ some ⟨k, 0, none⟩ := by
    intro k hk hne
    rcases a3 with rfl | rfl
    · exact hne
    · intro e; injection e with e; injection e with e; omega
  have hn3 : w3.heap[n]? = some (.cells #[.int .i64 s, .slice A1 k c1] 65 (0, 0)) := by
    rw [keep3 n (by omega) (fun e => by have := hA1 _ e; omega), s2.below.block n hnr, hb]
  have hgl : gs.length = k := own.len
  refine ⟨?_, ?_, ?_, fun j hj => ?_⟩
  · exact ((((s0.trans s2).alloc _).grown k3 fun g hg => by have := (k4 g hg).1; omega)).setCell (show w.heap.size ≤ n by omega) _
  · refine o3.keep (grown_setCell w3 n 1 (.slice A3 (k + 1) c3)) fun g hg e => ?_
    simp at e
    rcases o3.form with ⟨rfl, _⟩ | ⟨g', rfl, h0, _⟩
    · cases hg
    · injection hg with hg; injection hg with hg; omega
  · rw [block_setCell hn3]; rfl
  · by_cases hjr : j < k
    · rw [getD_app_lo _ _ _ _ (by omega), getD_app_lo _ _ _ _ (by omega)]
      refine (ht j hjr).keep fun b hk hx => ?_
      have hx1 : ¬ b < n + 1 := fun e => hx (.inl e)
      have hx2 : A1 ≠ some ⟨b, 0, none⟩ := fun e => hx (.inr e)
      refine ⟨?_, by rw [keep4 b (by omega), keep3 b (by omega) hx2, s2.below.block b hk]⟩
      rintro (e | e)
      · exact hx1 e
      · exact hA3 b (by omega) hx2 e
    · obtain rfl : k = j := by omega
      rw [getD_app_hi _ _ _ _ hl, getD_app_hi _ _ _ _ hgl]
      refine hu.keep fun b hk hx => ?_
      have hx2 : A1 ≠ some ⟨b, 0, none⟩ := fun e => by have := hA1 _ e; omega
      refine ⟨?_, by rw [keep4 b (by omega), keep3 b hk hx2]⟩
      rintro (e | e)
      · omega
      · exact hA3 b (by omega) hx2 e
theorem finB {wr : World} {A1 : Option Addr} {n k c1 : Nat} {gs : List Nat} {rv : List Tr} {s : Int} {t' : Tr}
    (own : POwn wr (n + 1) A1 k c1 gs) (hl : rv.length = k)
    (hb : wr.heap[n]? = some (.cells #[.int .i64 s, .slice A1 k c1] 65 (0, 0)))
    (ht : ∀ j, j < k → isT wr (Av (n + 1) A1) (rv.getD j (.leaf 0)) (gs.getD j 0)) (h1 : t'.last = s) (h2 : t'.kids = rv) :
    isT wr (fun b => b < n) t' n := by
  have hgl : gs.length = k := own.len
  refine isT_mk (gs := gs) (by rw [h2]; omega) ⟨A1, c1, by rw [hb, h1, hgl], by omega, by rw [hgl]; exact own.cap_le.1, own.cap_le.2, fun j hj => ?_⟩ fun j hj => ?_
  · obtain ⟨gk, C, e, hb, hg, hC⟩ := own.block (j := j) (by omega)
    exact ⟨gk, C, e, by omega, hg, hC⟩
  · rw [h2]
    exact (ht j (by omega)).keep fun k hk hx => ⟨fun e => hx (.inl (by omega)), rfl⟩
/-- The kids backwards, so far. -/
def bkids (t : Tr) (k : Nat) : List Tr := (t.kids.take k).map Tr.back
theorem bkids_succ (t : Tr) {k : Nat} (hk : k < t.kids.length) : bkids t (k + 1) = bkids t k ++ [(t.kids.getD k (.leaf 0)).back] := by
  unfold bkids
  rw [List.take_succ_eq_append_getElem hk]
  simp only [List.map_append, List.map_cons, List.map_nil, List.getD_eq_getElem?_getD, List.getElem?_eq_getElem hk, Option.getD_some]
theorem bkids_len (t : Tr) {k : Nat} (hk : k ≤ t.kids.length) : (bkids t k).length = k := by simp [bkids]; omega
theorem bkids_same {t : Tr} (h : t.last ≠ 19) : t.back.kids = bkids t t.kids.length ∧ t.back.last = t.last := by
  cases t with
  | leaf s => exact ⟨rfl, rfl⟩
  | star a => exact ⟨rfl, rfl⟩
  | bin s a b =>
    have : s ≠ 19 := h
    simp [Tr.back, this, Tr.kids, bkids, Tr.last]
theorem bkids_then {t : Tr} (ht : t.ok) (h : t.last = 19) : ∃ a b, t.kids.length = 2 ∧ bkids t 2 = [a, b] ∧ t.back.kids = [b, a] ∧ t.back.last = 19 := by
  cases t with
  | leaf s => obtain ⟨h0, h1⟩ := ht; simp [Tr.last] at h; omega
  | star a => simp [Tr.last] at h
  | bin s a b =>
    obtain rfl : s = 19 := h
    exact ⟨a.back, b.back, rfl, rfl, rfl, rfl⟩
/-- a cell outside the row of an append stays -/
theorem cell_kept {w2 w3 : World} {o : Obj} {N : Nat} {A1 : Option Addr} {v : Value} (h : w2.cell? ⟨N, 1, none⟩ = some v) (hN : N < w2.heap.size) (g3 : ∃ row, (w2.alloc o).grownBy w3 row ∧ ∀ g, row = some g → N + 1 ≤ g ∧ A1 = some (⟨g, 0, none⟩ : Addr)) :
    w3.cell? ⟨N, 1, none⟩ = some v := by
  obtain ⟨row, h1, h2⟩ := g3
  have : w3.heap[N]? = w2.heap[N]? := by
    rw [h1.block N (by simp; omega) (fun e => by have := (h2 N e.symm).1; omega), heap_alloc_old _ _ hN]
  rw [← h]
  simp [World.cell?, this]
theorem free_kept {w2 w3 : World} {o : Obj} {N : Nat} {A1 : Option Addr} (h : w2.frozen? ⟨N, 1, none⟩ = false) (hN : N < w2.heap.size) (g3 : ∃ row, (w2.alloc o).grownBy w3 row ∧ ∀ g, row = some g → N + 1 ≤ g ∧ A1 = some (⟨g, 0, none⟩ : Addr)) :
    w3.frozen? ⟨N, 1, none⟩ = false := by
  obtain ⟨row, h1, h2⟩ := g3
  have : w3.heap[N]? = w2.heap[N]? := by
    rw [h1.block N (by simp; omega) (fun e => by have := (h2 N e.symm).1; omega), heap_alloc_old _ _ hN]
  rw [← h]
  simp [World.frozen?, this]
theorem free_alloc {w : World} {N : Nat} (o : Obj) (h : w.frozen? ⟨N, 1, none⟩ = false) (hN : N < w.heap.size) : (w.alloc o).frozen? ⟨N, 1, none⟩ = false := by
  rw [← h]
  simp [World.frozen?, heap_alloc_old w o hN]
theorem free_since {w w2 : World} {N : Nat} (h : w.frozen? ⟨N, 1, none⟩ = false) (hN : N < w.heap.size) (s : Since w w2) : w2.frozen? ⟨N, 1, none⟩ = false := by
  rw [← h]
  simp [World.frozen?, s.below.block N hN]
/-- the relation at the head of back's rounds -/
def KBk (w : World) (n : Nat) (t : Tr) (s : Int) (k : Nat) (A1 : Option Addr) (c1 : Nat) (wr : World) : Prop :=
  ∃ gs, POwn wr (n + 1) A1 k c1 gs ∧ Since w wr ∧ wr.heap[n]? = some (.cells #[.int .i64 s, .slice A1 k c1] 65 (0, 0)) ∧
    ∀ j, j < k → isT wr (Av (n + 1) A1) ((bkids t k).getD j (.leaf 0)) (gs.getD j 0)
theorem back_any : ∀ (m : Nat) (t : Tr) (g : Nat) (X : Nat → Prop) (w : World), t.size ≤ m → m ≤ 274877906944 → isT w X t g → t.ok →
    Calls Try.prog 52 #[pv g] w fun e w' => ∃ g', e = .returned (pv g') ∧ isT w' (fun b => b < w.heap.size) t.back g' ∧ Since w w' := by
  intro m
  induction m with
  | zero => intro t g X w h; have := t.size_pos; omega
  | succ m ih =>
    intro t g X w hm h38 hT ht
    obtain ⟨gs, hl, ⟨A, c, hg, hX, hcap, hmax, hkids⟩, hsub⟩ := hT.node
    have hglt := lt_of_block hg
    have hc0 : ∀ wr, Since w wr → wr.cell? ⟨g, 0, none⟩ = some (.int .i64 t.last) := fun wr s => by rw [s.below.cell (p := ⟨g, 0, none⟩) hglt, cell_at hg]; rfl
    have hc1 : ∀ wr, Since w wr → wr.cell? ⟨g, 1, none⟩ = some (.slice A gs.length c) := fun wr s => by rw [s.below.cell (p := ⟨g, 1, none⟩) hglt, cell_at hg]; rfl
    have hks := t.kids_le
    have hsame := Lib.hid (bkids_same (t := t))
    have hthen := Lib.hid (bkids_then ht)
    have hn2 : gs.length ≤ 2 := by omega
    generalize hq : gs.length = n at *
    have hlH := Lib.hid hl
    clear hl hq
    have hwl := t.last_wf ht
    generalize hs : t.last = s at *
    replace hs := Lib.hid hs
    have hc00 := hc0 w (Since.refl w)
    have hc10 := hc1 (w.alloc (.cells #[.int .i64 s, .slice none 0 0] 65)) ((Since.refl w).alloc _)
    have hnew := heap_alloc_new w (.cells #[.int .i64 s, .slice none 0 0] 65)
    have hsz : (w.alloc (.cells #[.int .i64 s, .slice none 0 0] 65)).heap.size = w.heap.size + 1 := by simp
    have hst : Since w (w.alloc (.cells #[.int .i64 s, .slice none 0 0] 65)) := (Since.refl w).alloc _
    unfold pv
    clear hg
    go_enter Try.func52, Try.ntmps52
    go_wp2_with fail
    generalize w.alloc (.cells #[.int .i64 s, .slice none 0 0] 65) = w0 at *
    generalize hN : w.heap.size = N at *
    clear hc00 hc10
    go_loopw [17] (fun i wr => ∃ (k : Nat) (A1 : Option Addr) (c1 : Nat), k ≤ n ∧ i = .int .i64 k ∧ Hid (KBk w N t s k A1 c1 wr)) (fun i _ => n - (intOf i).toNat)
    case atStart => exact ⟨0, none, 0, Nat.zero_le _, rfl, [], POwn.nil _ _, hst, hnew, fun j hj => by omega⟩
    case round =>
      obtain ⟨k, A1, c1, hk, rfl, gs', own, s0, hb, htr⟩ := hrel
      by_cases hlt : k < n
      · have hl := hlH.out
        obtain ⟨gk, C, rfl, hXk, hgk, hCk⟩ := hkids k hlt
        have hck : wr.cell? ⟨gk, k, none⟩ = some (pv (gs.getD k 0)) := by rw [s0.below.cell (p := ⟨gk, k, none⟩) (show gk < w.heap.size from lt_of_block hgk), cell_at hgk]; exact hCk
        have hTu : isT wr.drew X (t.kids.getD k (.leaf 0)) (gs.getD k 0) := ((hsub k hlt).since s0).keep fun b hb hx => ⟨hx, rfl⟩
        have hcall := Lib.hid (ih (t.kids.getD k (.leaf 0)) (gs.getD k 0) X wr.drew (by have := Tr.kid_size (t := t) (j := k) (by omega); omega) (by omega) hTu (Tr.kid_ok ht (by omega)))
        have hsucc := Lib.hid (bkids_succ t (k := k) (by omega))
        have hbl := Lib.hid (bkids_len t (k := k) (by omega))
        have hbl2 := Lib.hid (bkids_len t (k := k + 1) (by omega))
        have s0d : Since w wr.drew := s0.drew
        have ownd := own.drew
        have hbd : wr.drew.heap[N]? = some (.cells #[.int .i64 s, .slice A1 k c1] 65 (0, 0)) := hb
        have htrd : Hid (∀ j, j < k → isT wr.drew (Av (N + 1) A1) ((bkids t k).getD j (.leaf 0)) (gs'.getD j 0)) := fun j hj => (htr j hj).keep fun b hb hx => ⟨hx, rfl⟩
        have hcn : wr.cell? ⟨N, 1, none⟩ = some (.slice A1 k c1) := by rw [cell_at hb]; rfl
        have hNlt := lt_of_block hb
        have hfn : wr.frozen? ⟨N, 1, none⟩ = false := free_at hb
        generalize (t.kids.getD k (.leaf 0)) = u at *
        generalize gs.getD k 0 = gu at *
        unfold pv at hck hcall
        have hcap1 := own.cap_le.1
        clear hc0 hc1 hsub hkids hl hCk hgk htr own hb hks hst hnew hTu
        go_wp2_with fail
        have tokc : True := trivial
        go_region_law (first
          | ((refine step_appP rfl _ _ rfl (N + 1) A1 k c1 gs' rfl own2 _ _ 1 1 [g2] rfl (PLs.one' _ _ _ _ rfl) (by omega) (by simp; omega) ?_; intro A3 c3 w3 o3 g3 a3; have hk3 := cell_kept hk2 hNl2 g3; have hf3 := free_kept hf2 hNl2 g3))
          | ((go_simp; go_at_call 52; have _t := tokc; refine hcall.out.mono ?_; rintro e w2 ⟨g2, rfl, hu, s2⟩; clear tokc; have hk2 : w2.cell? ⟨N, 1, none⟩ = some (.slice A1 k c1) := (s2.below.cell (p := ⟨N, 1, none⟩) hNlt).trans hcn; have hf2 := free_since (w := wr.drew) hfn hNlt s2; have hNl2 := Nat.lt_of_lt_of_le hNlt s2.size; have own2 := (ownd.since s2).alloc (.cells #[pv g2] 47))))
        all_goals (go_wp2_with fail)
        all_goals go_roundw
        all_goals first
          | (have hp := pushB hN s0d ownd hbl.out hbd htrd.out s2 hu o3 g3 (by simpa using a3)
             exact ⟨k + 1, A3, c3, by omega, by go_num, gs' ++ [g2], hp.2.1, hp.1, hp.2.2.1, by rw [hsucc.out]; exact hp.2.2.2⟩)
          | (simp [intOf]; omega)
      · obtain rfl : n = k := by omega
        have hl := hlH.out
        have hcs := hc0 wr s0
        have hbl := bkids_len t (k := n) (by omega)
        by_cases h19 : s = 19
        · obtain ⟨a, b, h1, h2, h3, h4⟩ := hthen.out h19
          obtain rfl : n = 2 := by omega
          rw [h2] at htr hbl
          obtain ⟨ga, C, rfl, hga, hgC, -⟩ := own.block (j := 0) (by omega)
          match gs', own, htr with
          | [g0, g1], own, htr =>
            have hfin : ∀ w', POwn w' (N + 1) (some ⟨ga, 0, none⟩) 2 c1 [g1, g0] → wr.grownBy w' (some ga) → isT w' (fun b => b < N) t.back N ∧ Since w w' := by
              intro w' o hgr
              have hal := lt_of_block hgC
              refine ⟨finB (s := s) (rv := [b, a]) o rfl (grown_keep hgr hb (by omega)) ?_ (h4.trans h19.symm) h3, s0.grown hgr fun g hg => by simp at hg; omega⟩
              have hk : ∀ u g, isT wr (Av (N + 1) (some ⟨ga, 0, none⟩)) u g → isT w' (Av (N + 1) (some ⟨ga, 0, none⟩)) u g := fun u g hT => hT.keep fun b hb hx => ⟨hx, hgr.block b hb (by simp; intro e; exact hx (.inr (by rw [e])))⟩
              intro j hj
              have : j = 0 ∨ j = 1 := by omega
              rcases this with rfl | rfl
              · exact hk _ _ (htr 1 (by omega))
              · exact hk _ _ (htr 0 (by omega))
            replace hfin := Lib.hid hfin
            have hcn : wr.cell? ⟨N, 1, none⟩ = some (.slice (some ⟨ga, 0, none⟩) 2 c1) := by rw [cell_at hb]; rfl
            subst h19
            clear htr hb hc0 hc1 hsub hkids hl hbl h1 h2 h3 h4 hks hst hnew hgC
            go_wp2_with (go_at_call 76; refine (reverseP_two ga c1 (N + 1) g0 g1 _ own).mono ?_; rintro e w' ⟨rfl, o, hgr⟩)
            go_ret
            exact ⟨N, rfl, by rw [hN]; exact (hfin.out _ o hgr).1, (hfin.out _ o hgr).2⟩
          | [], own, htr => exact absurd own.len (by simp)
          | [_], own, htr => exact absurd own.len (by simp)
          | _ :: _ :: _ :: _, own, htr => exact absurd own.len (by simp)
        · obtain ⟨h1, h2⟩ := hsame.out h19
          have hfin := finB (s := s) own hbl hb htr h2 (by rw [h1, hl])
          have hne : (s == 19) = false := by simpa using h19
          clear htr hb hc0 hc1 hsub hkids hl hbl h1 h2 hks hst hnew
          go_wp2
          go_ret
          exact ⟨N, rfl, by rw [hN]; exact hfin, s0⟩
theorem impl_KatBack (A : Option Addr) (n c : Nat) (t : Tr) (w : World) (hn : n ≤ 274877906944) (h : Ls w w.heap.size A n c t.steps) (ht : t.ok) (h40 : t.size ≤ 40) :
    Calls Try.prog 16 #[.slice A n c] w (Fresh w t.back.steps) := by
  have hV : Hid (katV t.steps = true) := Tr.katV_steps ht h40
  go_enter Try.func16, Try.ntmps16
  go_wp2_with fail
  refine (impl_KatValid _ _ _ _ _ _ h).mono ?_
  rintro e w' ⟨rfl, rfl⟩
  rw [hV.out]
  go_wp2_with fail
  refine (build_any _ _ _ t _ hn h ht).mono ?_
  rintro e w1 ⟨g1, rfl, T1, s1⟩
  go_wp2_with fail
  refine (back_any t.size t g1 _ w1 (Nat.le_refl _) (by omega) T1 ht).mono ?_
  rintro e w2 ⟨g2, rfl, T2, s2⟩
  go_wp2_with fail
  refine (steps_any t.back.size t.back g2 _ w2 (Nat.le_refl _) (by rw [Tr.back_size]; omega) T2 (Tr.back_ok ht)).mono ?_
  rintro e w3 ⟨A3, n3, c3, rfl, o3, s3⟩
  go_wp2
  go_ret
  exact ⟨_, _, _, rfl, o3.lower (s1.trans s2).size, (s1.trans s2).trans s3⟩
theorem impl_KatBack_no (A : Option Addr) (n c : Nat) (xs : List Int) (w : World) (h : Ls w w.heap.size A n c xs) (hv : katV xs = false) :
    Calls Try.prog 16 #[.slice A n c] w (Fresh w []) := by
  have hV := Lib.hid hv
  clear hv
  go_enter Try.func16, Try.ntmps16
  go_wp2_with fail
  refine (impl_KatValid _ _ _ _ _ _ h).mono ?_
  rintro e w' ⟨rfl, rfl⟩
  rw [hV.out]
  go_wp2
  go_ret
  exact ⟨_, _, _, rfl, Own.nil _ _, Since.refl w⟩
end Go.Proofs.Ytlnkkjmejmhaiaa
