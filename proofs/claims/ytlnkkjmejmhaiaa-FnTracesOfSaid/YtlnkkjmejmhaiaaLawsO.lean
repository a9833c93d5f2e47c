/-
  The walks of the laws on lists of traces (chapter 3).
-/
import Derived.Test.YtlnkkjmejmhaiaaDrawO
import Derived.Test.YtlnkkjmejmhaiaaLawsS
import Derived.Test.YtlnkkjmejmhaiaaLawsT
namespace Go.Proofs.Ytlnkkjmejmhaiaa
open Go.RowKit
set_option linter.unusedVariables false
set_option maxHeartbeats 1000000

theorem getD_in {l : List (List Int)} {j : Nat} (hj : j < l.length) : l.getD j [] = l[j] := by
  rw [List.getD_eq_getElem?_getD, List.getElem?_eq_getElem hj]; rfl
theorem srt_at {l : List (List Int)} (h : Srt l) {j : Nat} (hj : j + 1 < l.length) : lexB (l.getD j []) (l.getD (j + 1) []) = true := by
  rw [getD_in (by omega), getD_in hj]
  exact List.pairwise_iff_getElem.1 h j (j + 1) (by omega) hj (by omega)
/-- how many of the first j have p -/
def cntP (p : List Int → Bool) (l : List (List Int)) (j : Nat) : Nat := ((l.take j).filter p).length
theorem cntP_all (p : List Int → Bool) (l : List (List Int)) : cntP p l l.length = (l.filter p).length := by simp [cntP]
theorem cntP_no {p : List Int → Bool} {l : List (List Int)} {j : Nat} (hj : j < l.length) (h : p (l.getD j []) = false) : cntP p l (j + 1) = cntP p l j := by
  rw [getD_in hj] at h
  rw [cntP, cntP, List.take_succ_eq_append_getElem hj, List.filter_append]
  simp [h]
theorem cntP_yes {p : List Int → Bool} {l : List (List Int)} {j : Nat} (hj : j < l.length) (h : p (l.getD j []) = true) :
    cntP p l (j + 1) = cntP p l j + 1 ∧ cntP p l j < (l.filter p).length ∧ (l.filter p).getD (cntP p l j) [] = l.getD j [] := by
  have h' := h
  rw [getD_in hj] at h'
  have e1 : (l.take (j + 1)).filter p = (l.take j).filter p ++ [l[j]] := by
    rw [List.take_succ_eq_append_getElem hj, List.filter_append]
    simp [h']
  have e2 : l.filter p = (l.take j).filter p ++ ([l[j]] ++ (l.drop (j + 1)).filter p) := by
    rw [← List.append_assoc, ← e1, ← List.filter_append, List.take_append_drop]
  refine ⟨by rw [cntP, e1]; simp [cntP], by rw [e2]; simp [cntP], ?_⟩
  rw [e2, getD_in hj, cntP, List.getD_eq_getElem?_getD, List.getElem?_append_right (Nat.le_refl _)]
  simp
theorem cntP_le (p : List Int → Bool) (l : List (List Int)) (j : Nat) : cntP p l j ≤ j := Nat.le_trans (List.length_filter_le _ _) (by rw [List.length_take]; omega)
theorem trAll_of {k : Nat} (hk : k ≤ 2) : trAll k = allTr k := by simp [trAll, inR_true (show (0 : Int) ≤ k by omega) (show (k : Int) ≤ 2 by omega)]
theorem trAll_no {m : Int} (h : m < 0 ∨ 2 < m) : trAll m = [] := by
  rcases h with h | h
  · simp [trAll, inR_lo h]
  · simp [trAll, inR_hi h]
theorem walk_FnAllTraces (a0 : Option Addr) (len0 cap0 : Nat) (z0 : List Int) (w : World) (w0 : RowIn .u8 w a0 len0 cap0 z0) :
    Calls Try.prog 12 #[.slice a0 len0 cap0] w fun e w' => e = .returned (.bool true) ∧ Below w.heap.size w w' := by
  by_cases hl : 1048576 < len0
  · clear w0
    go_enter Try.func12, Try.ntmps12
    go_wp2
    go_ret
    exact ⟨rfl, Below.refl _ _⟩
  · go_enter Try.func12, Try.ntmps12
    go_wp2_with fail
    refine (draw_AllTraces a0 len0 cap0 z0 w w0).mono ?_
    rintro e w1 ⟨m, rfl, mlo, mhi, tot⟩
    clear w0
    have hT := trAll_two m
    have hN := Lib.hid (@trAll_no m)
    have hY : Hid (∀ k : Nat, m = k → k ≤ 2 → (trAll m).length = (if k = 0 then 4 else if k = 1 then 52 else 628) ∧ ∀ x ∈ trAll m, trV x = true) := by
      rintro k rfl hk
      rw [trAll_of hk]
      refine ⟨all_len hk, fun x hx => ?_⟩
      obtain ⟨n, _, hv⟩ := (mem_all hk).1 hx
      exact hv.1
    have hsp := Lib.hid (spec_AllTraces m)
    have him := Lib.hid (impl_AllTraces m)
    generalize trAll m = L at *
    have hel : Hid (∀ x ∈ L, x.length ≤ 1099511627776) := fun x hx => Nat.le_trans (hT.2 x hx) (by omega)
    have hnl : ∀ n, L.length = n → n ≤ 628 := fun n e => by omega
    replace hT := Lib.hid hT
    replace hnl := Lib.hid hnl
    go_wp2_with fail
    refine (him.out w1).mono ?_
    rintro e w2 ⟨A, n, c, rfl, og, s⟩
    have hn := hnl.out _ og.len
    have lr := og.lr
    replace tot := tot.trans s
    clear s og
    go_wp2_with fail
    refine (hsp.out w2).mono ?_
    rintro e w3 ⟨As, ns, cs, rfl, ls, s⟩
    replace lr := lr.since s
    replace tot := tot.trans s
    clear s
    go_wp2_with fail
    refine (sameLists_any A n c _ _ As ns cs _ _ w3 (by omega) hel.out lr ls).mono ?_
    rintro e w4 ⟨rfl, q⟩
    rw [dec_same]
    replace lr := lr.since q.since
    replace tot : Since w w4 := tot.trans q.since
    clear ls q hsp him hnl
    rcases (show m < 0 ∨ (0 ≤ m ∧ m ≤ 2) ∨ 2 < m by omega) with hm | ⟨h1, h2⟩ | hm
    · obtain rfl := hN.out (.inl hm)
      obtain rfl : 0 = n := lr.len
      clear hY hT hel hN
      go_wp2_with (go_at_call 24; refine (laws_alive _).mono ?_; rintro e w' ⟨rfl, rfl⟩)
      go_ret
      exact ⟨rfl, tot⟩
    · obtain ⟨k, rfl⟩ := Int.eq_ofNat_of_zero_le h1
      obtain ⟨hlen, hv⟩ := hY.out k rfl (by omega)
      rw [lr.len] at hlen
      have hk3 : (k = 0 ∧ n = 4) ∨ (k = 1 ∧ n = 52) ∨ (k = 2 ∧ n = 628) := by
        rcases (show k = 0 ∨ k = 1 ∨ k = 2 by omega) with rfl | rfl | rfl
        · exact .inl ⟨rfl, hlen⟩
        · exact .inr (.inl ⟨rfl, hlen⟩)
        · exact .inr (.inr ⟨rfl, hlen⟩)
      replace hk3 := Lib.hid hk3
      replace hv := Lib.hid hv
      clear hY hN hel hlen
      go_wp2_with fail
      go_loop [5] (fun i => ∃ j : Nat, j ≤ n ∧ i = .int .i64 j) (fun i => n - (intOf i).toNat)
      case atStart => exact ⟨0, Nat.zero_le _, rfl⟩
      case round =>
        obtain ⟨j, hj, rfl⟩ := hrel
        by_cases hlt : j < n
        · have hLn := lr.len
          obtain ⟨b, off, Ay, ny, cy, rfl, hcy, ly⟩ := lr.at_ hlt
          have hmem := getD_mem (l := L) (i := j) (d := []) (by omega)
          have hny : ny ≤ 5 := by rw [← ly.len]; exact hT.out.2 _ hmem
          have hq := impl_TraceValid Ay ny cy _ _ w4 (by omega) ly
          rw [hv.out _ hmem] at hq
          replace hq := Lib.hid hq
          clear ly hmem hLn
          go_wp2_with (go_at_call 47; refine hq.out.mono ?_; rintro e w' ⟨rfl, rfl⟩)
          go_round
          case rel => exact ⟨j + 1, by omega, by go_num⟩
          case measure => simp [intOf]; omega
        · obtain rfl : n = j := by omega
          rcases hk3.out with ⟨rfl, rfl⟩ | ⟨rfl, rfl⟩ | ⟨rfl, rfl⟩
          · go_wp2_with fail
            go_ret
            exact ⟨rfl, Below.alloc tot tot.size _⟩
          · go_wp2_with fail
            go_ret
            exact ⟨rfl, Below.alloc tot tot.size _⟩
          · go_wp2_with fail
            go_ret
            exact ⟨rfl, Below.alloc tot tot.size _⟩
    · obtain rfl := hN.out (.inr hm)
      obtain rfl : 0 = n := lr.len
      clear hY hT hel hN
      go_wp2_with (go_at_call 24; refine (laws_alive _).mono ?_; rintro e w' ⟨rfl, rfl⟩)
      go_ret
      exact ⟨rfl, tot⟩
theorem trOf_list {xs : List Int} {k : Nat} (hk : katV xs = true) (h2 : k ≤ 2) : ∃ p : List Int → Bool, trOf xs k = (allTr k).filter p ∧ ∀ y ∈ allTr k, tIn xs y = p y := by
  obtain ⟨t, ht, rfl, hs⟩ := katV_tree hk
  refine ⟨isIn t, trOf_of ht hs h2, fun y hy => ?_⟩
  rw [tIn_of ht hs]
  obtain ⟨n, hn, hv⟩ := (mem_all h2).1 hy
  rw [hv.1, Bool.true_and]
theorem walk_FnTracesOf (a0 : Option Addr) (len0 cap0 : Nat) (z0 : List Int) (w : World) (w0 : RowIn .u8 w a0 len0 cap0 z0) :
    Calls Try.prog 10 #[.slice a0 len0 cap0] w fun e w' => e = .returned (.bool true) ∧ Below w.heap.size w w' := by
  by_cases hl : 1048576 < len0
  · clear w0
    go_enter Try.func10, Try.ntmps10
    go_wp2
    go_ret
    exact ⟨rfl, Below.refl _ _⟩
  · go_enter Try.func10, Try.ntmps10
    go_wp2_with fail
    refine (draw_TracesOf a0 len0 cap0 z0 w w0).mono ?_
    rintro e w1 ⟨A, n, c, xs, m, rfl, o1, hn, mlo, mhi, tot⟩
    clear w0
    have hT := trOf_two xs m
    have hN0 : Hid (katV xs = false → trOf xs m = []) := fun h => trOf_no h
    have hN : Hid (m < 0 ∨ 2 < m → trOf xs m = []) := by
      rintro (h | h)
      · exact trOf_no2 (inR_lo h)
      · exact trOf_no2 (inR_hi h)
    have hY : Hid (∀ k : Nat, m = k → k ≤ 2 → katV xs = true → ∃ p : List Int → Bool, trOf xs m = (allTr k).filter p ∧ ∀ y ∈ allTr k, tIn xs y = p y) := by
      rintro k rfl h2 hk
      exact trOf_list hk h2
    have hsp := Lib.hid (fun w h => spec_TracesOf A n c xs m w (by omega) h)
    have him := Lib.hid (fun w h => impl_TracesOf A n c xs m w (by omega) h)
    generalize trOf xs m = L at *
    have hel : Hid (∀ x ∈ L, x.length ≤ 1099511627776) := fun x hx => Nat.le_trans (hT.2 x hx) (by omega)
    have hnl : ∀ n, L.length = n → n ≤ 628 := fun n e => by omega
    replace hT := Lib.hid hT
    replace hnl := Lib.hid hnl
    go_wp2_with fail
    refine (him.out w1 o1.ls).mono ?_
    rintro e w2 ⟨A2, n2, c2, rfl, og, s⟩
    have hn2 := hnl.out _ og.len
    have lr := og.lr
    replace tot := tot.trans s
    replace o1 := o1.since s
    clear s og
    go_wp2_with fail
    refine (hsp.out w2 o1.ls).mono ?_
    rintro e w3 ⟨As, ns, cs, rfl, ls, s⟩
    replace lr := lr.since s
    replace tot := tot.trans s
    replace o1 := o1.since s
    clear s
    go_wp2_with fail
    refine (sameLists_any A2 n2 c2 _ _ As ns cs _ _ w3 (by omega) hel.out lr ls).mono ?_
    rintro e w4 ⟨rfl, q⟩
    rw [dec_same]
    replace lr := lr.since q.since
    replace o1 := o1.since q.since
    replace tot : Since w w4 := tot.trans q.since
    clear ls q hsp him hnl
    have hkv := Lib.hid (spec_KatValid A n c _ xs w4 (by omega) o1.ls)
    cases hk : katV xs
    · rw [hk] at hkv
      obtain rfl := hN0.out hk
      obtain rfl : 0 = n2 := lr.len
      clear hY hT hel hN hN0 hk
      go_wp2_with (first
        | (go_at_call 27; refine hkv.out.mono ?_; rintro e w' ⟨rfl, rfl⟩)
        | (go_at_call 24; refine (laws_alive _).mono ?_; rintro e w' ⟨rfl, rfl⟩))
      go_ret
      exact ⟨rfl, tot⟩
    · rw [hk] at hkv
      rcases (show m < 0 ∨ (0 ≤ m ∧ m ≤ 2) ∨ 2 < m by omega) with hm | ⟨h1, h2⟩ | hm
      · obtain rfl := hN.out (.inl hm)
        obtain rfl : 0 = n2 := lr.len
        clear hY hT hel hN hN0 hk
        go_wp2_with (first
          | (go_at_call 27; refine hkv.out.mono ?_; rintro e w' ⟨rfl, rfl⟩)
          | (go_at_call 24; refine (laws_alive _).mono ?_; rintro e w' ⟨rfl, rfl⟩))
        go_ret
        exact ⟨rfl, tot⟩
      · obtain ⟨k, rfl⟩ := Int.eq_ofNat_of_zero_le h1
        have hk2 : k ≤ 2 := by omega
        obtain ⟨p, rfl, hp⟩ := hY.out k rfl hk2 hk
        have hlen := lr.len
        have hsrt : Srt ((allTr k).filter p) := (srt_all hk2).filter _
        have hal : (allTr k).length ≤ 628 := by
          rw [all_len hk2]; split
          · omega
          · split <;> omega
        have hav : ∀ x ∈ allTr k, x.length ≤ 5 := fun x hx => by
          obtain ⟨i, hi, hv⟩ := (mem_all hk2).1 hx
          have := hv.2
          omega
        have hii := impl_AllTraces (k : Int)
        rw [trAll_of hk2] at hii
        generalize allTr k = M at *
        replace hsrt := Lib.hid hsrt
        replace hav := Lib.hid hav
        replace hii := Lib.hid hii
        replace hp := Lib.hid hp
        replace hlen := Lib.hid hlen
        clear hN hN0 hY hel hk
        go_wp2_with (go_at_call 27; refine hkv.out.mono ?_; rintro e w' ⟨rfl, rfl⟩)
        clear hkv
        go_loopw [6] (fun i wr => ∃ j : Nat, (j = 0 ∨ j < n2) ∧ i = .int .i64 ((j : Int) + 1) ∧ Qt w4 wr ∧ LR wr w4.heap.size A2 n2 c2 (M.filter p)) (fun i _ => n2 + 1 - (intOf i).toNat)
        case atStart => exact ⟨0, .inl rfl, rfl, Qt.refl _, lr⟩
        case round =>
          clear lr
          obtain ⟨j, hj, rfl, hq, lr⟩ := hrel
          by_cases hlt : j + 1 < n2
          · obtain ⟨b, off, Ax, nx, cx, rfl, hcx, lx⟩ := lr.at_ (k := j) (by omega)
            obtain ⟨b', off', Ay, ny, cy, e', hcy, ly⟩ := lr.at_ (k := j + 1) hlt
            injection e' with e'
            injection e' with e1 e2
            subst e1 e2
            have hqq : Hid (∀ i, Calls Try.prog 43 #[.slice Ax nx cx, .slice Ay ny cy] (wr.drewN i) fun e w'' => e = .returned (.bool true) ∧ ∃ m, w'' = wr.drewN m) := by
              intro i
              have hb : nx ≤ 5 := by rw [← lx.len]; exact hT.out.2 _ (getD_mem (by rw [hlen.out]; omega))
              have h0 := before_q Ax nx cx _ _ Ay ny cy _ _ (wr.drewN i) (by omega) (lx.drewN i) (ly.drewN i)
              rw [srt_at hsrt.out (by rw [hlen.out]; exact hlt)] at h0
              exact h0.mono fun _ _ ⟨h1, h2⟩ => ⟨h1, Qt.trans ⟨i, rfl⟩ h2⟩
            have hltz : (j : Int) + 1 < n2 := by omega
            clear lx ly
            go_wp2_with fail
            go_quiet ((go_at_call 43; exact hqq.out _))
            go_wp2_with fail
            go_roundw
            case rel => exact ⟨j + 1, .inr hlt, by go_num, hq.drewN _, lr.drewN _⟩
            case measure => simp [intOf]; omega
          · have hltz : ¬ (j : Int) + 1 < n2 := by omega
            replace tot : Since w wr := tot.trans hq.since
            replace o1 := o1.since hq.since
            replace lr := lr.more hq.since.size
            clear hq
            go_wp2_with fail
            refine (hii.out wr).mono ?_
            rintro e w5 ⟨A3, n3, c3, rfl, og, s⟩
            have la := og.lr
            have hM := la.len
            replace lr := lr.since s
            replace tot := tot.trans s
            replace o1 := o1.since s
            clear s og hii
            go_wp2_with fail
            go_loopw [8, 9] (fun cnt i wr => ∃ j : Nat, j ≤ n3 ∧ i = .int .i64 j ∧ cnt = .int .i64 (cntP p M j) ∧ Since w wr ∧ Own wr w.heap.size A n c xs ∧ LR wr wr.heap.size A2 n2 c2 (M.filter p) ∧ LR wr wr.heap.size A3 n3 c3 M) (fun _ i _ => n3 - (intOf i).toNat)
            case atStart => exact ⟨0, Nat.zero_le _, rfl, rfl, tot, o1, lr, la⟩
            case round =>
              clear tot o1 lr la
              obtain ⟨j, hj, rfl, rfl, tot, o1, lr, la⟩ := hrel
              have hcj := cntP_le p M j
              by_cases hlt : j < n3
              · obtain ⟨b, off, Ax, nx, cx, rfl, hcx, lx⟩ := la.at_ hlt
                have hmem := getD_mem (l := M) (i := j) (d := []) (by omega)
                have hnx : nx ≤ 5 := by rw [← lx.len]; exact hav.out _ hmem
                have hti := impl_TraceIn A n c xs Ax nx cx _ wr (by omega) (by omega) o1.ls lx
                rw [hp.out _ hmem] at hti
                cases hpv : p (M.getD j [])
                · have hsu := Lib.hid (cntP_no (by omega) hpv)
                  rw [hpv] at hti
                  replace hti := Lib.hid hti
                  clear lx hmem hpv
                  go_wp2_with fail
                  refine hti.out.mono ?_
                  rintro e w6 ⟨rfl, s⟩
                  go_wp2_with fail
                  go_roundw
                  case rel => exact ⟨j + 1, by omega, by go_num, by rw [hsu.out], tot.trans s, o1.since s, lr.since s, la.since s⟩
                  case measure => simp [intOf]; omega
                · obtain ⟨k1, k2, k3⟩ := cntP_yes (by omega) hpv
                  have hsu := Lib.hid k1
                  have hlt2 : cntP p M j < n2 := by rw [← hlen.out]; exact k2
                  replace k3 := Lib.hid k3
                  rw [hpv] at hti
                  replace hti := Lib.hid hti
                  clear lx hmem hpv k1 k2
                  go_wp2_with fail
                  refine hti.out.mono ?_
                  rintro e w6 ⟨rfl, s⟩
                  replace tot := tot.trans s
                  replace o1 := o1.since s
                  replace lr := lr.since s
                  replace la := la.since s
                  clear s hcx hti
                  obtain ⟨b1, off1, A1, n1, c1, rfl, hc1, l1⟩ := lr.at_ hlt2
                  obtain ⟨b', off', Ay, ny, cy, e', hcy, ly⟩ := la.at_ hlt
                  injection e' with e'
                  injection e' with e1 e2
                  subst e1 e2
                  have hqq : Hid (∀ i, Calls Try.prog 26 #[.slice A1 n1 c1, .slice Ay ny cy] (w6.drewN i) fun e w'' => e = .returned (.bool true) ∧ ∃ m, w'' = w6.drewN m) := by
                    intro i
                    have hb : n1 ≤ 5 := by rw [← l1.len, k3.out]; exact hav.out _ (getD_mem (by omega))
                    have h0 := sameInts_q A1 n1 c1 _ _ Ay ny cy _ _ (w6.drewN i) (by omega) (l1.drewN i) (ly.drewN i)
                    rw [k3.out, dec_same] at h0
                    exact h0.mono fun _ _ ⟨h1, h2⟩ => ⟨h1, Qt.trans ⟨i, rfl⟩ h2⟩
                  have hz : ¬ ((n2 : Int) ≤ cntP p M j) := by omega
                  have hz3 : cntP p M j ≤ 628 := by omega
                  clear l1 ly
                  generalize cntP p M j = q at *
                  go_wp2_with fail
                  go_quiet ((go_at_call 26; exact hqq.out _))
                  go_wp2_with fail
                  go_roundw
                  case rel => exact ⟨j + 1, by omega, by go_num, by rw [hsu.out]; go_num, tot.trans (Qt.since ⟨_, rfl⟩), o1.since (Qt.since ⟨_, rfl⟩), lr.since (Qt.since ⟨_, rfl⟩), la.since (Qt.since ⟨_, rfl⟩)⟩
                  case measure => simp [intOf]; omega
              · obtain rfl : n3 = j := by omega
                have hfin : cntP p M n3 = n2 := by rw [← hM, cntP_all, hlen.out]
                rw [hfin]
                clear hfin
                go_wp2_with fail
                go_ret
                exact ⟨ret_bool (by simp), tot⟩
      · obtain rfl := hN.out (.inr hm)
        obtain rfl : 0 = n2 := lr.len
        clear hY hT hel hN hN0 hk
        go_wp2_with (first
          | (go_at_call 27; refine hkv.out.mono ?_; rintro e w' ⟨rfl, rfl⟩)
          | (go_at_call 24; refine (laws_alive _).mono ?_; rintro e w' ⟨rfl, rfl⟩))
        go_ret
        exact ⟨rfl, tot⟩
end Go.Proofs.Ytlnkkjmejmhaiaa
