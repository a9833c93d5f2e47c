/-
  Contracts of slices.IndexFunc and slices.DeleteFunc at [][]int with impl.TracesOf's closure; impl.TracesOf, impl.TracesMany (chapter 3).
-/
import Derived.Test.YtlnkkjmejmhaiaaAll
import Derived.Test.YtlnkkjmejmhaiaaTraceIn
import Derived.Lib.SliceRun
namespace Go.Proofs.Ytlnkkjmejmhaiaa
open Go.RowKit
set_option linter.unusedVariables false
set_option maxHeartbeats 400000

theorem impl_clo (t : Tr) (rc g : Nat) (X : Nat → Prop) (A : Option Addr) (m c : Nat) (tr : List Int) (w : World) (hs : t.size ≤ 40) (ht : t.ok) (hv : trV tr = true) (hT : isT w X t g) (hc : w.cell? ⟨rc, 0, none⟩ = some (pv g)) (htr : Ls w w.heap.size A m c tr) :
    Calls Try.prog 72 #[.slice A m c, .pointer (some ⟨rc, 0, none⟩)] w fun e w' => e = .returned (.bool (!isIn t tr)) ∧ Since w w' := by
  have hti := Lib.hid (impl_traceIn t g A m c tr w hs ht hv hT htr)
  unfold pv at *
  clear hT htr hv
  go_enter Try.func72, Try.ntmps72
  go_wp2_with fail
  refine hti.out.mono ?_
  rintro e w1 ⟨rfl, s1⟩
  go_wp2_with fail
  go_ret
  exact ⟨rfl, s1⟩
/-- the closure's value: its root lies in block rc -/
def cloV (rc : Nat) : Value := .func (.func 72) #[] #[.pointer (some ⟨rc, 0, none⟩)]
/-- The first list that is not one of the expression. -/
theorem index_any {w1 : World} (t : Tr) (rc g : Nat) (X : Nat → Prop) (A : Option Addr) (n c : Nat) (xss : List (List Int)) (w : World) (hs : t.size ≤ 40) (ht : t.ok) (hT : isT w1 X t g) (hc : w1.cell? ⟨rc, 0, none⟩ = some (pv g)) (s1 : Since w1 w)
    (hn : n ≤ 1000000) (hv : ∀ x ∈ xss, trV x = true) (h : LR w w.heap.size A n c xss) :
    Calls Try.prog 86 #[.slice A n c, cloV rc] w fun e w' => (∃ k, k ≤ n ∧ (∀ i, i < k → isIn t (xss.getD i []) = true) ∧ ((k = n ∧ e = .returned (.int .i64 (-1))) ∨ (k < n ∧ isIn t (xss.getD k []) = false ∧ e = .returned (.int .i64 k)))) ∧ Since w w' := by
  have hlen := Lib.hid h.len
  have hrc := World.block_lt_of_cell? w1 _ hc
  have hclo := Lib.hid (fun A m c tr wr (s : Since w wr) hv h => impl_clo t rc g X A m c tr wr hs ht hv (hT.since (s1.trans s)) (((s1.trans s).below.cell (p := ⟨rc, 0, none⟩) hrc).trans hc) h)
  replace hv := Lib.hid hv
  clear hT hc s1
  unfold cloV
  go_enter Try.func86, Try.ntmps86
  go_wp2_with fail
  go_loopw [8] (fun i wr => ∃ k : Nat, k ≤ n ∧ i = .int .i64 k ∧ Hid (∀ i, i < k → isIn t (xss.getD i []) = true) ∧ Since w wr) (fun i _ => n - (intOf i).toNat)
  case atStart => exact ⟨0, Nat.zero_le _, rfl, fun i hi => absurd hi (by omega), Since.refl _⟩
  case round =>
    obtain ⟨k, hk, rfl, hall, s2⟩ := hrel
    by_cases hlt : k < n
    · have hZ : (k : Int) < n := by omega
      obtain ⟨b, off, Ay, ny, cy, rfl, hcy, ly⟩ := (h.since s2).at_ hlt
      have hcall := Lib.hid (hclo.out Ay ny cy _ wr s2 (hv.out _ (getD_mem (by rw [hlen.out]; exact hlt))) ly)
      clear ly
      cases hB : isIn t (xss.getD k [])
      · have hB' := Lib.hid hB
        rw [hB] at hcall
        clear hB
        go_wp2_with (go_at_call 72; refine hcall.out.mono ?_; rintro e w3 ⟨rfl, s3⟩)
        go_ret
        exact ⟨⟨k, hk, hall.out, .inr ⟨hlt, hB'.out, rfl⟩⟩, s2.trans s3⟩
      · have hstep : Hid (∀ i, i < k + 1 → isIn t (xss.getD i []) = true) := by
          intro i hi
          by_cases e : i = k
          · subst e; exact hB
          · exact hall.out i (by omega)
        rw [hB] at hcall
        clear hB
        go_wp2_with (go_at_call 72; refine hcall.out.mono ?_; rintro e w3 ⟨rfl, s3⟩)
        go_roundw
        case rel => exact ⟨k + 1, by omega, by go_num, hstep, s2.trans s3⟩
        case measure => simp [intOf]; omega
    · obtain rfl : n = k := by omega
      go_wp2_with fail
      go_ret
      exact ⟨⟨n, hk, hall.out, .inl ⟨rfl, rfl⟩⟩, s2⟩
theorem zero_sl (w : World) : (zeroValue 22).run Try.prog w = .ok (.slice none 0 0) w := by
  obtain ⟨i0, hi, hz0, hz1, hz2⟩ := info_parts sl_info
  simp [zeroValue, typeInfo, hi, hz0]
/-- Cells of a row of the call's own are written from a place on. -/
theorem SOwn.cleared {base n c g : Nat} : ∀ (l : List Value) (off : Nat) (w : World) (vs : List Value), SOwn w base (some ⟨g, 0, none⟩) n c vs → off + l.length ≤ n → (∀ v ∈ l, isSl v) →
    ∃ vs', SOwn (w.setCells g off l) base (some ⟨g, 0, none⟩) n c vs' ∧ vs'.take off = vs.take off ∧ w.grownBy (w.setCells g off l) (some g) := by
  intro l
  induction l with
  | nil => intro off w vs h _ _; exact ⟨vs, h, rfl, grown_refl _ _⟩
  | cons v r ih =>
    intro off w vs h hl hv
    simp only [List.length_cons] at hl
    obtain ⟨vs', h1, h2, h3⟩ := ih (off + 1) (w.setCell ⟨g, off, none⟩ v) (vs.set off v) (h.set_ (by omega) (hv v (by simp))) (by omega) (fun u hu => hv u (by simp [hu]))
    refine ⟨vs', h1, ?_, grown_trans (grown_setCell w g off v) h3⟩
    have e1 : vs'.take off = (vs'.take (off + 1)).take off := by rw [List.take_take]; congr 1; omega
    rw [e1, h2, List.take_take, show min off (off + 1) = off by omega, List.take_set_of_le (Nat.le_refl _)]
/-- the places below j whose lists are of the expression -/
def keepI (t : Tr) (xss : List (List Int)) (j : Nat) : List Nat := (List.range j).filter fun i => isIn t (xss.getD i [])
theorem keepI_yes {t : Tr} {xss : List (List Int)} {j : Nat} (h : isIn t (xss.getD j []) = true) : keepI t xss (j + 1) = keepI t xss j ++ [j] := by
  unfold keepI; rw [List.range_succ, List.filter_append]; simp only [List.filter_cons, h, List.filter_nil, if_true]
theorem keepI_no {t : Tr} {xss : List (List Int)} {j : Nat} (h : isIn t (xss.getD j []) = false) : keepI t xss (j + 1) = keepI t xss j := by
  unfold keepI; rw [List.range_succ, List.filter_append]; simp only [List.filter_cons, h, List.filter_nil]; simp
theorem keepI_all {t : Tr} {xss : List (List Int)} {j : Nat} (h : ∀ i, i < j → isIn t (xss.getD i []) = true) : keepI t xss j = List.range j := by
  unfold keepI; apply List.filter_eq_self.2; intro i hi; exact h i (List.mem_range.1 hi)
theorem keepI_le (t : Tr) (xss : List (List Int)) (j : Nat) : (keepI t xss j).length ≤ j := Nat.le_trans (List.length_filter_le _ _) (by simp)
theorem keepI_filter (t : Tr) (xss : List (List Int)) : (keepI t xss xss.length).map (fun i => xss.getD i []) = xss.filter (isIn t) := by
  have e : xss = (List.range xss.length).map (fun i => xss.getD i []) := by
    apply List.ext_getElem (by simp)
    intro i h1 h2
    simp [List.getD_eq_getElem?_getD]
    rw [List.getElem?_eq_getElem h1]; rfl
  unfold keepI
  conv => rhs; rw [e, List.filter_map]
  rfl
theorem range_map {α : Type} (l : List α) (d : α) : ∀ {k : Nat}, k ≤ l.length → (List.range k).map (fun i => l.getD i d) = l.take k := by
  intro k
  induction k with
  | zero => intro _; rfl
  | succ k ih => intro h; rw [List.range_succ, List.map_append, ih (by omega), take_at_g (d := d) (by omega)]; rfl
theorem getD_of_drop {l m : List Value} {j i : Nat} (h : l.drop j = m.drop j) (hi : j ≤ i) : l.getD i nilS = m.getD i nilS := by
  have := congrArg (fun x => x.getD (i - j) nilS) h
  simp only [getD_drop_] at this
  rw [show j + (i - j) = i by omega] at this
  exact this
theorem delete_any {w1 : World} (t : Tr) (rc g : Nat) (X : Nat → Prop) (A : Option Addr) (n c base : Nat) (xss : List (List Int)) (w : World) (hs : t.size ≤ 40) (ht : t.ok) (hT : isT w1 X t g) (hc : w1.cell? ⟨rc, 0, none⟩ = some (pv g)) (s1 : Since w1 w)
    (hbase : w1.heap.size ≤ base) (hbw : base ≤ w.heap.size) (hn : n ≤ 1000000) (hv : ∀ x ∈ xss, trV x = true) (h : OO w base A n c xss) :
    Calls Try.prog 70 #[.slice A n c, cloV rc] w fun e w' => ∃ k, e = .returned (.slice A k c) ∧ OO w' base A k c (xss.filter (isIn t)) ∧ Below base w w' := by
  have hlen := Lib.hid h.len
  have hrc := World.block_lt_of_cell? w1 _ hc
  have hidx := Lib.hid (index_any t rc g X A n c xss w hs ht hT hc s1 hn hv h.lr)
  have hclo := Lib.hid (fun A m c tr wr (s : Since w1 wr) hv h => impl_clo t rc g X A m c tr wr hs ht hv (hT.since s) ((s.below.cell (p := ⟨rc, 0, none⟩) hrc).trans hc) h)
  replace hv := Lib.hid hv
  have hfil : Hid ((keepI t xss n).map (fun i => xss.getD i []) = xss.filter (isIn t)) := by show _ = _; rw [← hlen.out]; exact keepI_filter t xss
  obtain ⟨vs, own, ows⟩ := h
  have hvl := Lib.hid own.len
  have hone := Lib.hid own.one
  clear hT hc hrc
  unfold cloV at *
  go_enter Try.func70, Try.ntmps70
  go_wp2_with fail
  refine hidx.out.mono ?_
  rintro e w2 ⟨⟨k, hk, hall, hres⟩, s2⟩
  have own2 := own.since s2
  have ows2 : Ows w2 base vs xss := ows.mono fun _ _ _ _ o => o.since s2
  clear hidx own ows
  rcases hres with ⟨rfl, rfl⟩ | ⟨hkn, hno, rfl⟩
  · have hke := keepI_all hall
    have hfin : Hid (xss.filter (isIn t) = xss) := by
      show _ = _
      rw [← hfil.out, hke, range_map _ _ (by rw [hlen.out]; exact Nat.le_refl _), ← hlen.out, List.take_length]
    clear hall hke
    go_wp2_with fail
    go_ret
    exact ⟨_, rfl, by rw [hfin.out]; exact ⟨vs, own2, ows2⟩, s2.below.mono hbw⟩
  · rcases own2.form with ⟨_, hn0, _⟩ | ⟨b, rfl, hb1, hb2, hb3⟩
    · omega
    · have hke := keepI_all hall
      have hke2 := keepI_no hno
      rw [hke] at hke2
      have hkn1 : ((k : Int) == -1) = false := by simp <;> omega
      have hst0 : Hid (vs.take k = (keepI t xss (k + 1)).map (fun i => vs.getD i nilS)) := by
        show _ = _
        rw [hke2, range_map _ _ (by have := hvl.out; omega)]
      have hle0 : Hid (k = (keepI t xss (k + 1)).length) := by show _ = _; rw [hke2]; simp
      clear hall hke hke2 hno
      go_wp2_with fail
      go_loopw [5, 6] (fun iv jv wr => ∃ (i j : Nat) (vs' : List Value), i < j ∧ j ≤ n ∧ iv = .int .i64 i ∧ jv = .int .i64 j ∧ Hid (i = (keepI t xss j).length) ∧ Hid (vs'.take i = (keepI t xss j).map (fun i => vs.getD i nilS)) ∧ Hid (vs'.drop j = vs.drop j) ∧
        SOwn wr base (some ⟨b, 0, none⟩) n c vs' ∧ Ows wr base vs xss ∧ Below base w2 wr) (fun _ jv _ => n - (intOf jv).toNat)
      case atStart => exact ⟨k, k + 1, vs, by omega, by omega, rfl, by go_num, hle0, hst0, rfl, own2, ows2, Below.refl _ _⟩
      case round =>
        clear own2 ows2 hst0 hle0
        obtain ⟨i, j, vs', hij, hj, rfl, rfl, hle, hst, hdr, own2, ows2, bel⟩ := hrel
        have hvl' := Lib.hid own2.len
        have sw : Since w1 wr := Below.trans (s1.trans s2) (Below.mono bel hbase)
        have hcap := own2.cap_le.1
        by_cases hlt : j < n
        · have hZ : (j : Int) < n := by omega
          obtain ⟨b', off', e', _, hcs⟩ := own2.ls.cells (by omega)
          injection e' with e'
          injection e' with e1 e2
          subst e1 e2
          obtain ⟨Ay, ny, cy, e1, o1⟩ := ows2.at_ j (by rw [hvl.out]; exact hlt)
          have hcj := hcs j hlt
          have hci := hcs i (by omega)
          rw [getD_of_drop hdr.out (Nat.le_refl j), e1] at hcj
          rw [Nat.zero_add] at hcj hci
          have hfr := own2.free i
          generalize vs'.getD i nilS = vi at hci
          have hcall := Lib.hid (hclo.out Ay ny cy _ wr sw (hv.out _ (getD_mem (by rw [hlen.out]; exact hlt))) o1.ls)
          have hdr' : Hid (vs'.drop (j + 1) = vs.drop (j + 1)) := by
            show _ = _
            have := congrArg (List.drop 1) hdr.out
            simpa [List.drop_drop] using this
          replace e1 := Lib.hid e1
          have hib : b < wr.heap.size := World.block_lt_of_cell? wr _ hci
          clear hcs o1
          cases hB : isIn t (xss.getD j [])
          · have hke := Lib.hid (keepI_no hB)
            rw [hB] at hcall
            clear hB
            go_wp2_with (go_at_call 72; refine hcall.out.mono ?_; rintro e w3 ⟨rfl, s3⟩)
            go_roundw
            case rel => exact ⟨i, j + 1, vs', by omega, by omega, rfl, by go_num, by rw [hke.out]; exact hle, by rw [hke.out]; exact hst, hdr', own2.since s3, ows2.mono fun _ _ _ _ o => o.since s3, bel.trans (s3.below.mono (Nat.le_trans (Nat.le_trans hbw s2.size) bel.size))⟩
            case measure => simp [intOf]; omega
          · have hke := Lib.hid (keepI_yes hB)
            rw [hB] at hcall
            clear hB
            go_wp2_with (go_at_call 72; refine hcall.out.mono ?_; rintro e w3 ⟨rfl, s3⟩; have hci3 := (s3.below.cell (p := ⟨b, i, none⟩) hib).trans hci; have hfr3 := (own2.since s3).free i)
            go_roundw
            case rel =>
              have own3 := own2.since s3
              have ows3 : Ows w3 base vs xss := ows2.mono fun _ _ _ _ o => o.since s3
              refine ⟨i + 1, j + 1, vs'.set i (.slice Ay ny cy), by omega, by omega, by go_num, by go_num, ?_, ?_, ?_, own3.set_ (by omega) ⟨_, _, _, rfl⟩,
                ows3.grow own3 ⟨some b, grown_setCell w3 b i _, fun g hg => by injection hg with hg; subst hg; exact ⟨hb1, rfl⟩⟩, (bel.trans (s3.below.mono (Nat.le_trans (Nat.le_trans hbw s2.size) bel.size))).setCell hb1 _⟩
              · show _ = _; rw [hke.out, List.length_append, ← hle.out]; rfl
              · show _ = _
                rw [hke.out, List.map_append, ← hst.out, take_at_g (d := nilS) (by rw [List.length_set, hvl'.out]; omega), List.take_set_of_le (Nat.le_refl _), getD_set_g _ _ _ _ _ (by rw [hvl'.out]; omega), if_pos rfl]
                simp only [List.map_cons, List.map_nil]
                rw [e1.out]
              · show _ = _
                rw [List.drop_set_of_lt (by omega)]; exact hdr'.out
            case measure => simp [intOf]; omega
        · obtain rfl : n = j := by omega
          have hni : i < n := hij
          have hck : c ≠ i := by omega
          have hnz : (i : Int) ≤ n := by omega
          have hcz : (i : Int) ≤ c := by omega
          have hcells : ∀ q, q < n - i → (wr.cell? ⟨b, i + q, none⟩).isSome = true := by
            intro q hq
            obtain ⟨b', off', e', _, hcs⟩ := own2.ls.cells (by omega)
            injection e' with e'
            injection e' with e1 e2
            subst e1 e2
            have := hcs (i + q) (by omega)
            rw [Nat.zero_add] at this
            rw [this]; rfl
          have hcl : ∀ ty, (Builtin.clear_ #[37] ty #[.slice (some ⟨b, i, none⟩) (n - i) (c - i)]).run Try.prog wr = .ok (.tuple #[]) (wr.setCells b i (List.replicate (n - i) nilS)) := fun ty =>
            Lib.run_clear_slice wr 37 22 ty nilS Try.underlying37 zero_sl rfl rfl b i (n - i) (c - i) (by omega) hcells (fun q _ => own2.free _)
          obtain ⟨vs2, own3, htk, hgr⟩ := SOwn.cleared (List.replicate (n - i) nilS) i wr vs' own2 (by simp; omega) (fun v hv => by rw [List.eq_of_mem_replicate hv]; exact ⟨_, _, _, rfl⟩)
          have hfin : Hid (OO (wr.setCells b i (List.replicate (n - i) nilS)) base (some ⟨b, 0, none⟩) i c (xss.filter (isIn t)) ∧ Below base w (wr.setCells b i (List.replicate (n - i) nilS))) := by
            have o4 := own3.take (k := i) (by omega)
            rw [htk, hst.out] at o4
            have ows4 := ows2.grow own2 ⟨some b, hgr, fun g hg => by injection hg with hg; subst hg; exact ⟨hb1, rfl⟩⟩
            have ows5 := ows4.drop_at (keepI t xss n) (List.Pairwise.filter _ (List.pairwise_lt_range)) (fun q hq => by rw [hvl.out]; exact List.mem_range.1 (List.mem_filter.1 hq).1)
            rw [hfil.out] at ows5
            refine ⟨⟨_, o4, ows5⟩, ?_⟩
            exact Below.trans (s2.below.mono hbw) (Below.grown bel hgr (Nat.le_trans hbw s2.size |> fun h => Nat.le_trans h bel.size) (fun g hg => by injection hg with hg; subst hg; exact hb1))
          clear own2 own3 hcells hst hdr htk hgr
          go_wp2_with (simp only [hcl])
          go_ret
          exact ⟨i, rfl, hfin.out.1, hfin.out.2⟩
theorem impl_TracesOf (A : Option Addr) (n c : Nat) (xs : List Int) (m : Int) (w : World) (hn : n ≤ 274877906944) (h : Ls w w.heap.size A n c xs) :
    Calls Try.prog 37 #[.slice A n c, .int .i64 m] w (FreshOO w (trOf xs m)) := by
  have hkv := Lib.hid (impl_KatValid A n c _ xs w h)
  cases hk : katV xs
  · have hfin := Lib.hid (trOf_no (m := m) hk)
    rw [hk] at hkv
    clear hk h
    go_enter Try.func37, Try.ntmps37
    go_wp2_with (go_at_call 23; refine hkv.out.mono ?_; rintro e w' ⟨rfl, rfl⟩)
    go_ret
    exact ⟨_, _, _, rfl, by rw [hfin.out]; exact OO.nil _ _, Since.refl _⟩
  · rw [hk] at hkv
    rcases inR_cases m 0 2 with hm | ⟨h1, h2⟩ | hm
    · have hfin := Lib.hid (trOf_no2 (xs := xs) (inR_lo (hi := 2) hm))
      clear hk h
      go_enter Try.func37, Try.ntmps37
      go_wp2_with (go_at_call 23; refine hkv.out.mono ?_; rintro e w' ⟨rfl, rfl⟩)
      go_ret
      exact ⟨_, _, _, rfl, by rw [hfin.out]; exact OO.nil _ _, Since.refl _⟩
    · obtain ⟨k, rfl⟩ := Int.eq_ofNat_of_zero_le h1
      obtain ⟨t, ht, rfl, hs⟩ := katV_tree hk
      have hk2 : k ≤ 2 := by omega
      have hfin : Hid (trOf t.steps k = (allTr k).filter (isIn t)) := trOf_of ht hs hk2
      have hb := Lib.hid (build_any A n c t w hn h ht)
      have hall := Lib.hid (impl_allTraces k hk2)
      have hval := Lib.hid (fun x (hx : x ∈ allTr k) => by
        have := List.all_eq_true.1 (all_valid hk2) x hx
        simp only [Bool.and_eq_true] at this
        exact this.1 : ∀ x ∈ allTr k, trV x = true)
      have hlen : Hid ((allTr k).length ≤ 1000000) := by
        show _ ≤ _
        rw [all_len hk2]
        split
        · omega
        · split <;> omega
      have hdel := Lib.hid (fun (w1 : World) rc g X A n c base w hT hc s1 hb hbw hn h => delete_any (w1 := w1) t rc g X A n c base (allTr k) w hs ht hT hc s1 hb hbw hn hval.out h)
      clear hk h
      unfold cloV at hdel
      go_enter Try.func37, Try.ntmps37
      go_wp2_with (go_at_call 23; refine hkv.out.mono ?_; rintro e w' ⟨rfl, rfl⟩)
      refine hb.out.mono ?_
      rintro e w1 ⟨g, rfl, hT, s1⟩
      have hT2 := hT.since ((Since.refl w1).alloc (.cells #[pv g] 47))
      have hc2 : (w1.alloc (.cells #[pv g] 47)).cell? ⟨w1.heap.size, 0, none⟩ = some (pv g) := by rw [cell_at (heap_alloc_new w1 _)]; rfl
      have s2 := s1.alloc (.cells #[pv g] 47)
      clear hb hT
      unfold pv at *
      go_wp2_with fail
      generalize hw2 : w1.alloc (.cells #[.pointer (some ⟨g, 0, none⟩)] 47) = w2 at *
      refine (hall.out w2).mono ?_
      rintro e w3 ⟨A3, n3, c3, rfl, oo3, s3⟩
      have hcall := Lib.hid (hdel.out w2 w1.heap.size g _ A3 n3 c3 w2.heap.size w3 hT2 hc2 s3 (Nat.le_refl _) s3.size (by rw [← oo3.len]; exact hlen.out) oo3)
      have s2' := s2.size
      clear hT2 hc2
      go_wp2_with fail
      refine hcall.out.mono ?_
      rintro e w4 ⟨k4, rfl, oo4, b4⟩
      go_wp2_with fail
      go_ret
      exact ⟨_, _, _, rfl, by rw [hfin.out]; exact oo4.lower s2', s2.trans (Below.trans s3 b4)⟩
    · have hfin := Lib.hid (trOf_no2 (xs := xs) (inR_hi (lo := 0) hm))
      clear hk h
      go_enter Try.func37, Try.ntmps37
      go_wp2_with (go_at_call 23; refine hkv.out.mono ?_; rintro e w' ⟨rfl, rfl⟩)
      go_ret
      exact ⟨_, _, _, rfl, by rw [hfin.out]; exact OO.nil _ _, Since.refl _⟩
end Go.Proofs.Ytlnkkjmejmhaiaa
