/-
  Contracts of the specification's TracesOf, AllTraces and TracesMany (chapter 3).
-/
import Derived.Test.YtlnkkjmejmhaiaaListL
namespace Go.Proofs.Ytlnkkjmejmhaiaa
open Go.RowKit
set_option linter.unusedVariables false
set_option maxHeartbeats 400000

/-- all traces of an expression with at most m actions -/
def trOf (xs : List Int) (m : Int) : List (List Int) := if katV xs && inR m 0 2 then (match xs.foldl pst [] with | [t] => (allTr m.toNat).filter (isIn t) | _ => []) else []
/-- all traces with at most m actions -/
def trAll (m : Int) : List (List Int) := if inR m 0 2 then allTr m.toNat else []
/-- how many have just m actions -/
def cntL (m : Nat) (l : List (List Int)) : Nat := l.countP fun x => decide (x.length = 2 * m + 1)
def trMany (xs : List Int) (m : Int) : Int := if katV xs && inR m 0 2 then (cntL m.toNat (trOf xs m) : Int) else -1
theorem trOf_of {t : Tr} (h : t.ok) (hl : t.size ≤ 40) {m : Nat} (hm : m ≤ 2) : trOf t.steps m = (allTr m).filter (isIn t) := by
  have := pst_steps h [] []
  simp only [List.append_nil, List.foldl_nil] at this
  have h2 : inR (m : Int) 0 2 = true := inR_true (by omega) (by omega)
  rw [trOf, Tr.katV_steps h hl, this, h2]
  simp
theorem trOf_no {xs : List Int} {m : Int} (h : katV xs = false) : trOf xs m = [] := by simp [trOf, h]
theorem trOf_no2 {xs : List Int} {m : Int} (h : inR m 0 2 = false) : trOf xs m = [] := by simp [trOf, h]
theorem trOf_two (xs : List Int) (m : Int) : (trOf xs m).length ≤ 628 ∧ ∀ x ∈ trOf xs m, x.length ≤ 5 := by
  cases hk : katV xs
  · rw [trOf_no hk]; simp
  · cases hr : inR m 0 2
    · rw [trOf_no2 hr]; simp
    · have hr' : 0 ≤ m ∧ m ≤ 2 := by simpa [inR] using hr
      obtain ⟨n, rfl⟩ := Int.eq_ofNat_of_zero_le hr'.1
      obtain ⟨t, ht, rfl, hs⟩ := katV_tree hk
      rw [trOf_of ht hs (by omega)]
      constructor
      · refine Nat.le_trans (List.length_filter_le _ _) ?_
        rw [all_len (by omega)]
        split
        · omega
        · split <;> omega
      · intro x hx
        obtain ⟨k, hk, hv⟩ := (mem_all (by omega)).1 (List.mem_filter.1 hx).1
        have := hv.2
        omega
theorem trAll_two (m : Int) : (trAll m).length ≤ 628 ∧ ∀ x ∈ trAll m, x.length ≤ 5 := by
  unfold trAll
  split
  · rename_i hr
    have hr' : 0 ≤ m ∧ m ≤ 2 := by simpa [inR] using hr
    obtain ⟨n, rfl⟩ := Int.eq_ofNat_of_zero_le hr'.1
    constructor
    · rw [all_len (by omega)]
      split
      · omega
      · split <;> omega
    · intro x hx
      obtain ⟨k, hk, hv⟩ := (mem_all (by omega)).1 hx
      have := hv.2
      omega
  · simp
theorem abc_steps : abcStar.steps = [16, 17, 20, 18, 20, 21] := rfl
theorem abc_ok : abcStar.ok := by simp [abcStar, Tr.ok]
theorem trOf_abc (m : Int) : trOf [16, 17, 20, 18, 20, 21] m = trAll m := by
  unfold trAll
  cases hr : inR m 0 2
  · rw [trOf_no2 hr]; rfl
  · have hr' : 0 ≤ m ∧ m ≤ 2 := by simpa [inR] using hr
    obtain ⟨n, rfl⟩ := Int.eq_ofNat_of_zero_le hr'.1
    rw [← abc_steps, trOf_of abc_ok (by decide) (by omega), ← listL_all (by omega) abc_ok, listL_abc (by omega)]
    rfl
theorem cntL_succ {m : Nat} {l : List (List Int)} {k : Nat} (hk : k < l.length) : cntL m (l.take (k + 1)) = cntL m (l.take k) + if (l.getD k []).length = 2 * m + 1 then 1 else 0 := by
  rw [take_at_g (d := []) hk]
  unfold cntL
  rw [List.countP_append]
  simp
theorem cntL_le (m : Nat) (l : List (List Int)) (k : Nat) : cntL m (l.take k) ≤ k := Nat.le_trans List.countP_le_length (by rw [List.length_take]; omega)
theorem spec_TracesOf (A : Option Addr) (n c : Nat) (xs : List Int) (m : Int) (w : World) (hn : n ≤ 274877906944) (h : Ls w w.heap.size A n c xs) :
    Calls Try.prog 36 #[.slice A n c, .int .i64 m] w (FreshLR w (trOf xs m)) := by
  have hkv := Lib.hid (spec_KatValid A n c _ xs w (by omega) h)
  have hr := Lib.hid (spec_l1In m 0 2)
  have z0 : LR (w.alloc (.cells #[] 22)) (w.alloc (.cells #[] 22)).heap.size (some ⟨w.heap.size, 0, none⟩) 0 0 [] := ⟨[], (SOwn.zero w).ls, Rds.nil _ _⟩
  have sz : Since w (w.alloc (.cells #[] 22)) := (Since.refl w).alloc _
  cases hk : katV xs
  · have hfin := Lib.hid (trOf_no (m := m) hk)
    rw [hk] at hkv
    clear hk h
    go_enter Try.func36, Try.ntmps36
    go_wp2_with (go_at_call 27; refine hkv.out.mono ?_; rintro e w' ⟨rfl, rfl⟩)
    go_ret
    exact ⟨_, _, _, rfl, by rw [hfin.out]; exact z0, sz⟩
  · cases hv : inR m 0 2
    · have hfin := Lib.hid (trOf_no2 (xs := xs) hv)
      rw [hk] at hkv
      rw [hv] at hr
      clear hk hv h
      go_enter Try.func36, Try.ntmps36
      go_wp2_with (first | (go_at_call 27; refine hkv.out.mono ?_; rintro e w' ⟨rfl, rfl⟩) | (go_at_call 57; refine (hr.out _).mono ?_; rintro e w' ⟨rfl, rfl⟩))
      go_ret
      exact ⟨_, _, _, rfl, by rw [hfin.out]; exact z0, sz⟩
    · have hr' : 0 ≤ m ∧ m ≤ 2 := by simpa [inR] using hv
      obtain ⟨k, rfl⟩ := Int.eq_ofNat_of_zero_le hr'.1
      obtain ⟨t, ht, rfl, hs⟩ := katV_tree hk
      have hfin : Hid (trOf t.steps k = listL k t) := by show _ = _; rw [trOf_of ht hs (by omega), listL_all (by omega) ht]
      have hli := Lib.hid (spec_l3List k (by omega) t.size t A n c w (Nat.le_refl _) (by omega) ht h)
      rw [hk] at hkv
      rw [hv] at hr
      clear hk hv h z0 sz
      go_enter Try.func36, Try.ntmps36
      go_wp2_with (first | (go_at_call 27; refine hkv.out.mono ?_; rintro e w' ⟨rfl, rfl⟩) | (go_at_call 57; refine (hr.out _).mono ?_; rintro e w' ⟨rfl, rfl⟩))
      refine hli.out.mono ?_
      rintro e w1 ⟨A1, n1, c1, rfl, l1, s1⟩
      go_wp2_with fail
      go_ret
      exact ⟨_, _, _, rfl, by rw [hfin.out]; exact l1, s1⟩
theorem ls_six (w : World) : Ls (w.alloc (.cells #[.int .i64 16, .int .i64 17, .int .i64 20, .int .i64 18, .int .i64 20, .int .i64 21] 3)) (w.alloc (.cells #[.int .i64 16, .int .i64 17, .int .i64 20, .int .i64 18, .int .i64 20, .int .i64 21] 3)).heap.size (some ⟨w.heap.size, 0, none⟩) 6 6 [16, 17, 20, 18, 20, 21] :=
  (Arr.own (w := w.alloc _) (g := w.heap.size) (xs := [16, 17, 20, 18, 20, 21]) (heap_alloc_new w _) (Nat.le_refl _) rfl rfl (by decide) (by intro v hv; simp at hv; rcases hv with rfl | rfl | rfl | rfl | rfl | rfl <;> decide)).ls
theorem spec_AllTraces (m : Int) (w : World) : Calls Try.prog 45 #[.int .i64 m] w (FreshLR w (trAll m)) := by
  have hto := Lib.hid (spec_TracesOf (some ⟨w.heap.size, 0, none⟩) 6 6 _ m _ (by omega) (ls_six w))
  have hfin := Lib.hid (trOf_abc m)
  have sz : Since w (w.alloc (.cells #[.int .i64 16, .int .i64 17, .int .i64 20, .int .i64 18, .int .i64 20, .int .i64 21] 3)) := (Since.refl w).alloc _
  go_enter Try.func45, Try.ntmps45
  go_wp2_with fail
  refine hto.out.mono ?_
  rintro e w1 ⟨A1, n1, c1, rfl, l1, s1⟩
  go_wp2_with fail
  go_ret
  exact ⟨_, _, _, rfl, by rw [← hfin.out]; exact l1, sz.trans s1⟩
theorem spec_TracesMany (A : Option Addr) (n c : Nat) (xs : List Int) (m : Int) (w : World) (hn : n ≤ 274877906944) (h : Ls w w.heap.size A n c xs) :
    Calls Try.prog 48 #[.slice A n c, .int .i64 m] w fun e w' => e = .returned (.int .i64 (trMany xs m)) ∧ Since w w' := by
  have hkv := Lib.hid (spec_KatValid A n c _ xs w (by omega) h)
  have hr := Lib.hid (spec_l1In m 0 2)
  cases hk : katV xs
  · have hfin : Hid (trMany xs m = -1) := by simp [Hid, trMany, hk]
    rw [hk] at hkv
    clear hk h
    go_enter Try.func48, Try.ntmps48
    go_wp2_with (go_at_call 27; refine hkv.out.mono ?_; rintro e w' ⟨rfl, rfl⟩)
    go_ret
    exact ⟨ret_int hfin.out.symm, Since.refl _⟩
  · cases hv : inR m 0 2
    · have hfin : Hid (trMany xs m = -1) := by simp [Hid, trMany, hv]
      rw [hk] at hkv
      rw [hv] at hr
      clear hk hv h
      go_enter Try.func48, Try.ntmps48
      go_wp2_with (first | (go_at_call 27; refine hkv.out.mono ?_; rintro e w' ⟨rfl, rfl⟩) | (go_at_call 57; refine (hr.out _).mono ?_; rintro e w' ⟨rfl, rfl⟩))
      go_ret
      exact ⟨ret_int hfin.out.symm, Since.refl _⟩
    · have hr' : 0 ≤ m ∧ m ≤ 2 := by simpa [inR] using hv
      obtain ⟨k, rfl⟩ := Int.eq_ofNat_of_zero_le hr'.1
      have hfin : Hid (trMany xs k = (cntL k (trOf xs k) : Int)) := by simp [Hid, trMany, hv, hk]
      have hto := trOf_two xs k
      obtain ⟨t, ht, rfl, hs⟩ := katV_tree hk
      have hli := spec_l3List k (by omega) t.size t A n c w (Nat.le_refl _) (by omega) ht h
      rw [listL_all (by omega) ht, ← trOf_of ht hs (by omega)] at hli
      generalize trOf t.steps (k : Int) = L at *
      replace hli := Lib.hid hli
      rw [hk] at hkv
      rw [hv] at hr
      have hkz : (k : Int) ≤ 2 := hr'.2
      have hk2 : k ≤ 2 := by omega
      clear hk hv h
      go_enter Try.func48, Try.ntmps48
      go_wp2_with (first | (go_at_call 27; refine hkv.out.mono ?_; rintro e w' ⟨rfl, rfl⟩) | (go_at_call 57; refine (hr.out _).mono ?_; rintro e w' ⟨rfl, rfl⟩))
      refine hli.out.mono ?_
      rintro e w1 ⟨A1, n1, c1, rfl, l1, s1⟩
      have hn1 := l1.len
      have hn2 : n1 ≤ 628 := by rw [← hn1]; exact hto.1
      have hsm := Lib.hid hto.2
      clear hto hli
      replace hn1 := Lib.hid hn1
      go_wp2_with fail
      go_loop [5, 7] (fun cnt i => ∃ j : Nat, j ≤ n1 ∧ i = .int .i64 j ∧ cnt = .int .i64 (cntL k (L.take j))) (fun _ i => n1 - (intOf i).toNat)
      case atStart => exact ⟨0, Nat.zero_le _, rfl, rfl⟩
      case round =>
        obtain ⟨j, hj, rfl, rfl⟩ := hrel
        have hcj := cntL_le k L j
        by_cases hlt : j < n1
        · obtain ⟨b, off, Ay, ny, cy, rfl, hcy, ly⟩ := l1.at_ hlt
          have hsu := cntL_succ (m := k) (l := L) (k := j) (by rw [hn1.out]; exact hlt)
          rw [ly.len] at hsu
          have hny : ny ≤ 5 := by rw [← ly.len]; exact hsm.out _ (getD_mem (by rw [hn1.out]; exact hlt))
          by_cases hyes : ny = 2 * k + 1
          · rw [if_pos hyes] at hsu
            replace hsu := Lib.hid hsu
            have hq : ((ny : Int) == 2 * (k : Int) + 1) = true := by simp; omega
            clear ly hyes
            go_wp2_with fail
            go_round
            case rel => exact ⟨j + 1, by omega, by go_num, by rw [hsu.out]; go_num⟩
            case measure => simp [intOf]; omega
          · rw [if_neg hyes] at hsu
            replace hsu := Lib.hid hsu
            have hq : ((ny : Int) == 2 * (k : Int) + 1) = false := by simp; omega
            clear ly hyes
            go_wp2_with fail
            go_round
            case rel => exact ⟨j + 1, by omega, by go_num, by rw [hsu.out]; rfl⟩
            case measure => simp [intOf]; omega
        · obtain rfl : n1 = j := by omega
          have hall : Hid (L.take n1 = L) := by show _ = _; rw [← hn1.out]; exact List.take_length
          go_wp2_with fail
          go_ret
          exact ⟨ret_int (by rw [hfin.out, hall.out]), s1⟩
end Go.Proofs.Ytlnkkjmejmhaiaa
