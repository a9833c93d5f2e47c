/-
  Contract of impl.TracesMany; the walks of the exact laws on lists of traces (chapter 3).
-/
import Derived.Test.YtlnkkjmejmhaiaaDel
namespace Go.Proofs.Ytlnkkjmejmhaiaa
open Go.RowKit
set_option linter.unusedVariables false
set_option maxHeartbeats 1000000

theorem dec_same {α : Type} [DecidableEq α] (x : α) : decide (x = x) = true := decide_eq_true rfl
theorem sumLen_le {c : Nat} : ∀ {l : List (List Int)}, (∀ x ∈ l, x.length ≤ c) → sumLen l ≤ l.length * c := by
  intro l
  induction l with
  | nil => intro _; simp [sumLen]
  | cons x r ih =>
    intro h
    have h1 := h x (by simp)
    have h2 := ih fun y hy => h y (by simp [hy])
    simp only [sumLen, List.map_cons, List.sum_cons, List.length_cons, Nat.add_mul] at *
    omega
theorem LR.go {w w' : World} {B n c : Nat} {A : Option Addr} {xss : List (List Int)} (h : LR w B A n c xss) (s : Since w w') (hB : B ≤ w.heap.size) : LR w' B A n c xss := h.below (s.below.mono hB)
theorem impl_TracesMany (A : Option Addr) (n c : Nat) (xs : List Int) (m : Int) (w : World) (hn : n ≤ 274877906944) (h : Ls w w.heap.size A n c xs) :
    Calls Try.prog 49 #[.slice A n c, .int .i64 m] w fun e w' => e = .returned (.int .i64 (trMany xs m)) ∧ Since w w' := by
  have hkv := Lib.hid (impl_KatValid A n c _ xs w h)
  cases hk : katV xs
  · have hfin : Hid (trMany xs m = -1) := by simp [Hid, trMany, hk]
    rw [hk] at hkv
    clear hk h
    go_enter Try.func49, Try.ntmps49
    go_wp2_with (go_at_call 23; refine hkv.out.mono ?_; rintro e w' ⟨rfl, rfl⟩)
    go_ret
    exact ⟨ret_int hfin.out.symm, Since.refl _⟩
  · rw [hk] at hkv
    rcases inR_cases m 0 2 with hm | ⟨h1, h2⟩ | hm
    · have hfin : Hid (trMany xs m = -1) := by simp [Hid, trMany, inR_lo hm]
      clear hk h
      go_enter Try.func49, Try.ntmps49
      go_wp2_with (go_at_call 23; refine hkv.out.mono ?_; rintro e w' ⟨rfl, rfl⟩)
      go_ret
      exact ⟨ret_int hfin.out.symm, Since.refl _⟩
    · obtain ⟨k, rfl⟩ := Int.eq_ofNat_of_zero_le h1
      have hfin : Hid (trMany xs k = (cntL k (trOf xs k) : Int)) := by simp [Hid, trMany, inR_true h1 h2, hk]
      have hto := trOf_two xs k
      have hli := impl_TracesOf A n c xs k w hn h
      generalize trOf xs (k : Int) = L at *
      replace hli := Lib.hid hli
      have hk2 : k ≤ 2 := by omega
      clear hk h
      go_enter Try.func49, Try.ntmps49
      go_wp2_with (go_at_call 23; refine hkv.out.mono ?_; rintro e w' ⟨rfl, rfl⟩)
      refine hli.out.mono ?_
      rintro e w1 ⟨A1, n1, c1, rfl, oo1, s1⟩
      have l1 := oo1.lr
      have hn1 := l1.len
      have hn2 : n1 ≤ 628 := by rw [← hn1]; exact hto.1
      have hsm := Lib.hid hto.2
      clear hto hli oo1
      replace hn1 := Lib.hid hn1
      go_wp2_with fail
      go_loop [5, 23] (fun cnt i => ∃ j : Nat, j ≤ n1 ∧ i = .int .i64 j ∧ cnt = .int .i64 (cntL k (L.take j))) (fun _ i => n1 - (intOf i).toNat)
      case atStart => exact ⟨0, Nat.zero_le _, rfl, rfl⟩
      case round =>
        obtain ⟨j, hj, rfl, rfl⟩ := hrel
        have hcj := cntL_le k L j
        by_cases hlt : j < n1
        · obtain ⟨b, off, Ay, ny, cy, rfl, hcy, ly⟩ := l1.at_ hlt
          have hsu := cntL_succ (m := k) (l := L) (k := j) (by rw [hn1.out]; exact hlt)
          rw [ly.len] at hsu
          have hny : ny ≤ 5 := by rw [← ly.len]; exact hsm.out _ (getD_mem (by rw [hn1.out]; exact hlt))
          by_cases hyes : ny = 2 * k + 1
          · rw [if_pos hyes] at hsu
            replace hsu := Lib.hid hsu
            have hq : ((ny : Int) == 2 * (k : Int) + 1) = true := by simp; omega
            clear ly hyes
            go_wp2_with fail
            go_round
            case rel => exact ⟨j + 1, by omega, by go_num, by rw [hsu.out]; go_num⟩
            case measure => simp [intOf]; omega
          · rw [if_neg hyes] at hsu
            replace hsu := Lib.hid hsu
            have hq : ((ny : Int) == 2 * (k : Int) + 1) = false := by simp; omega
            clear ly hyes
            go_wp2_with fail
            go_round
            case rel => exact ⟨j + 1, by omega, by go_num, by rw [hsu.out]; rfl⟩
            case measure => simp [intOf]; omega
        · obtain rfl : n1 = j := by omega
          have hall : Hid (L.take n1 = L) := by show _ = _; rw [← hn1.out]; exact List.take_length
          go_wp2_with fail
          go_ret
          exact ⟨ret_int (by rw [hfin.out, hall.out]), s1⟩
    · have hfin : Hid (trMany xs m = -1) := by simp [Hid, trMany, inR_hi hm]
      clear hk h
      go_enter Try.func49, Try.ntmps49
      go_wp2_with (go_at_call 23; refine hkv.out.mono ?_; rintro e w' ⟨rfl, rfl⟩)
      go_ret
      exact ⟨ret_int hfin.out.symm, Since.refl _⟩
theorem walk_FnExactAllTraces (a0 : Int) (w : World) (w00 : (Lit.int .i64 a0).wf = true) :
    Calls Try.prog 11 #[.int .i64 a0] w fun e w' => e = .returned (.bool true) ∧ Below w.heap.size w w' := by
  have hL := trAll_two a0
  have hsum : sumLen (trAll a0) ≤ 3140 := by
    have h1 := sumLen_le hL.2
    omega
  have hsp := Lib.hid (spec_AllTraces a0)
  have him := Lib.hid (impl_AllTraces a0)
  clear w00
  generalize trAll a0 = L at *
  have hel : Hid (∀ x ∈ L, x.length ≤ 1099511627776) := fun x hx => Nat.le_trans (hL.2 x hx) (by omega)
  have hq0 : ¬ (1 + (sumLen L : Int) < 0) := by omega
  have hq1 : (1 + (sumLen L : Int) != 1 + (sumLen L : Int)) = false := by simp
  have hnl : ∀ n, L.length = n → n ≤ 628 := fun n e => by omega
  replace hL := Lib.hid hL
  replace hnl := Lib.hid hnl
  replace hsum := Lib.hid hsum
  go_enter Try.func11, Try.ntmps11
  go_wp2_with fail
  refine (hsp.out w).mono ?_
  rintro e w1 ⟨As, ns, cs, rfl, lr, s1⟩
  have bs := hnl.out _ lr.len
  go_wp2_with fail
  refine (him.out w1).mono ?_
  rintro e w2 ⟨Ag, ng, cg, rfl, og, s2⟩
  have bg := hnl.out _ og.len
  have lr2 := lr.go s2 (Nat.le_refl _)
  clear lr
  go_wp2_with fail
  refine (eqIntSS_any Ag ng cg _ _ As ns cs _ _ w2 (by omega) hel.out og.lr lr2).mono ?_
  rintro e w3 ⟨rfl, q3⟩
  rw [dec_same]
  replace og := og.since q3.since
  have lr3 := lr2.go q3.since s2.size
  have t3 : Since w1 w3 := s2.trans q3.since
  clear lr2
  go_wp2_with fail
  refine (markIntSS_any Ag ng cg w1.heap.size L 1 w3 (by omega) (by have := hsum.out; omega) og t3.size (by omega) (by omega)).mono ?_
  rintro e w4 ⟨rfl, og4, b4⟩
  have t4 : Since w1 w4 := Below.trans t3 b4
  have lr4 := lr3.below b4
  clear lr3 og
  go_wp2_with fail
  refine (heldIntSS_any Ag ng cg _ L 1 w4 (by omega) (by have := hsum.out; omega) og4.lr (by omega) (by omega)).mono ?_
  rintro e w4' ⟨rfl, rfl⟩
  go_wp2_with fail
  refine (him.out w4).mono ?_
  rintro e w5 ⟨Ah, nh, ch, rfl, oh, s5⟩
  have bh := hnl.out _ oh.len
  have lr5 := lr4.go s5 t4.size
  replace og4 := og4.since s5
  have t5 := t4.trans s5
  go_wp2_with fail
  refine (eqIntSS_any Ah nh ch _ _ As ns cs _ _ w5 (by omega) hel.out oh.lr lr5).mono ?_
  rintro e w6 ⟨rfl, q6⟩
  rw [dec_same]
  replace og4 := og4.since q6.since
  have t6 := t5.trans q6.since
  go_wp2_with fail
  refine (heldIntSS_any Ag ng cg _ L 1 w6 (by omega) (by have := hsum.out; omega) og4.lr (by omega) (by omega)).mono ?_
  rintro e w6' ⟨rfl, rfl⟩
  go_wp2_with fail
  go_ret
  exact ⟨rfl, s1.trans t6⟩
theorem walk_FnExactTracesOf (a0 : Option Addr) (len0 cap0 : Nat) (z0 : List Int) (a1 : Int) (w : World) (w00 : RowIn .i64 w a0 len0 cap0 z0) (w01 : (Lit.int .i64 a1).wf = true) :
    Calls Try.prog 9 #[.slice a0 len0 cap0, .int .i64 a1] w fun e w' => e = .returned (.bool true) ∧ Below w.heap.size w w' := by
  by_cases hl0 : 1048576 < len0
  · clear w00 w01
    go_enter Try.func9, Try.ntmps9
    go_wp2
    go_ret
    exact ⟨rfl, Below.refl _ _⟩
  · have h0 := Ls.of_row w00
    generalize z0.take len0 = xs at *
    clear w00 w01
    have hL := trOf_two xs a1
    have hsum : sumLen (trOf xs a1) ≤ 3140 := by
      have h1 := sumLen_le hL.2
      omega
    have hsp := Lib.hid (fun A n c w hn h => spec_TracesOf A n c xs a1 w hn h)
    have him := Lib.hid (fun A n c w hn h => impl_TracesOf A n c xs a1 w hn h)
    generalize trOf xs a1 = L at *
    have hel : Hid (∀ x ∈ L, x.length ≤ 1099511627776) := fun x hx => Nat.le_trans (hL.2 x hx) (by omega)
    have hq0 : ¬ (1 + (sumLen L : Int) < 0) := by omega
    have hq1 : (1 + (sumLen L : Int) != 1 + (sumLen L : Int)) = false := by simp
    have hnl : ∀ n, L.length = n → n ≤ 628 := fun n e => by omega
    have hnx : ∀ n, xs.length = n → n ≤ 1048576 := fun n e => by have := h0.len; omega
    replace hL := Lib.hid hL
    replace hnl := Lib.hid hnl
    replace hnx := Lib.hid hnx
    replace hsum := Lib.hid hsum
    have tot : Since w w := Since.refl w
    go_enter Try.func9, Try.ntmps9
    go_wp2_with fail
    refine (toIntS_any a0 len0 cap0 w.heap.size xs w (by omega) (h0.below tot.below) tot.size).mono ?_
    rintro e w1 ⟨A1, n1, c1, rfl, o1, s⟩
    have b1 := hnx.out _ o1.len
    replace tot := tot.trans s
    clear s
    go_wp2_with fail
    refine (hsp.out A1 n1 c1 w1 (by omega) o1.ls).mono ?_
    rintro e w2 ⟨As, ns, cs, rfl, lr, s⟩
    have bs := hnl.out _ lr.len
    replace tot := tot.trans s
    clear s o1
    have tsz := tot.size
    generalize hB2 : w2.heap.size = B2 at lr tsz
    have z2 : B2 ≤ w2.heap.size := by omega
    go_wp2_with fail
    refine (toIntS_any a0 len0 cap0 w.heap.size xs w2 (by omega) (h0.below tot.below) tot.size).mono ?_
    rintro e w3 ⟨Ax, nx, cx, rfl, ox, s⟩
    have bx := hnx.out _ ox.len
    rw [hB2] at ox
    replace lr := lr.go s z2
    have z3 := Nat.le_trans z2 s.size
    replace tot := tot.trans s
    clear s hB2 z2
    go_wp2_with fail
    refine (him.out Ax nx cx w3 (by omega) ox.ls).mono ?_
    rintro e w4 ⟨Ag, ng, cg, rfl, og, s⟩
    have bg := hnl.out _ og.len
    replace lr := lr.go s z3
    have z4 := Nat.le_trans z3 s.size
    have hxg : ∀ g, Ax = some ⟨g, 0, none⟩ → g < w3.heap.size := fun g hg => by
      rcases ox.form with ⟨rfl, _⟩ | ⟨g', rfl, _, h, _⟩
      · cases hg
      · injection hg with e; injection e with e; omega
    replace hxg := Lib.hid hxg
    replace ox := ox.since s
    have y4 := s.size
    generalize hB3 : w3.heap.size = B3 at *
    have z34 : B2 ≤ B3 := z3
    replace tot := tot.trans s
    clear s z3
    go_wp2_with fail
    refine (eqIntSS_any Ag ng cg _ _ As ns cs _ _ w4 (by omega) hel.out og.lr lr).mono ?_
    rintro e w5 ⟨rfl, q⟩
    rw [dec_same]
    have s := q.since
    replace lr := lr.go s z4
    have z5 := Nat.le_trans z4 s.size
    have y5 := Nat.le_trans y4 s.size
    replace og := og.since s
    replace ox := ox.since s
    replace tot := tot.trans s
    clear s q z4 y4
    go_wp2_with fail
    refine (toIntS_any a0 len0 cap0 w.heap.size xs w5 (by omega) (h0.below tot.below) tot.size).mono ?_
    rintro e w6 ⟨Ay, ny, cy, rfl, oy, s⟩
    replace lr := lr.go s z5
    have z6 := Nat.le_trans z5 s.size
    have y6 := Nat.le_trans y5 s.size
    replace og := og.since s
    replace ox := ox.since s
    replace tot := tot.trans s
    clear s z5 y5
    go_wp2_with fail
    refine (eqIntS_any Ax nx cx _ _ Ay ny cy _ _ w6 (by omega) ox.ls oy.ls).mono ?_
    rintro e w7 ⟨rfl, s⟩
    rw [dec_same]
    replace lr := lr.go s z6
    have z7 := Nat.le_trans z6 s.size
    have y7 := Nat.le_trans y6 s.size
    replace og := og.since s
    replace ox := ox.since s
    replace tot := tot.trans s
    clear s z6 y6 oy
    go_wp2_with fail
    refine (markIntS_any Ax nx cx B2 xs 1 w7 (by omega) ox (by omega) (by omega)).mono ?_
    rintro e w8 ⟨rfl, ox8, hm⟩
    have z8 : B2 ≤ w8.heap.size := Nat.le_trans z7 hm.choose_spec.1.size
    have y8 : B3 ≤ w8.heap.size := Nat.le_trans y7 hm.choose_spec.1.size
    replace lr := lr.below (belowMarked (Below.refl _ _) (Nat.le_refl B2) ox hm z7)
    replace og : OO w8 B3 Ag ng cg L := by
      obtain ⟨row, hg, hr⟩ := hm
      exact og.keep hg fun g e => hxg.out g (hr g e)
    replace tot : Since w w8 := belowMarked tot tsz ox hm tot.size
    clear ox hm z7 y7 ox8
    go_wp2_with fail
    refine (eqIntSS_any Ag ng cg _ _ As ns cs _ _ w8 (by omega) hel.out og.lr lr).mono ?_
    rintro e w9 ⟨rfl, q⟩
    rw [dec_same]
    have s := q.since
    replace lr := lr.go s z8
    have z9 := Nat.le_trans z8 s.size
    have y9 := Nat.le_trans y8 s.size
    replace og := og.since s
    replace tot := tot.trans s
    clear s q z8 y8
    go_wp2_with fail
    refine (markIntSS_any Ag ng cg B3 L 1 w9 (by omega) (by have := hsum.out; omega) og y9 (by omega) (by omega)).mono ?_
    rintro e w10 ⟨rfl, og10, b10⟩
    replace lr := lr.below (b10.mono z34)
    have z10 := Nat.le_trans z9 b10.size
    have y10 := Nat.le_trans y9 b10.size
    replace tot : Since w w10 := Below.trans tot (b10.mono (Nat.le_trans tsz z34))
    clear og b10 z9 y9
    go_wp2_with fail
    refine (heldIntSS_any Ag ng cg _ L 1 w10 (by omega) (by have := hsum.out; omega) og10.lr (by omega) (by omega)).mono ?_
    rintro e w10' ⟨rfl, rfl⟩
    go_wp2_with fail
    refine (toIntS_any a0 len0 cap0 w.heap.size xs w10 (by omega) (h0.below tot.below) tot.size).mono ?_
    rintro e w11 ⟨Au, nu, cu, rfl, ou, s⟩
    have bu := hnx.out _ ou.len
    replace lr := lr.go s z10
    have z11 := Nat.le_trans z10 s.size
    replace og10 := og10.since s
    replace tot := tot.trans s
    clear s z10 y10
    go_wp2_with fail
    refine (him.out Au nu cu w11 (by omega) ou.ls).mono ?_
    rintro e w12 ⟨Ah, nh, ch, rfl, oh, s⟩
    have bh := hnl.out _ oh.len
    replace lr := lr.go s z11
    replace og10 := og10.since s
    replace tot := tot.trans s
    clear s z11 ou
    go_wp2_with fail
    refine (eqIntSS_any Ah nh ch _ _ As ns cs _ _ w12 (by omega) hel.out oh.lr lr).mono ?_
    rintro e w13 ⟨rfl, q⟩
    rw [dec_same]
    replace og10 := og10.since q.since
    replace tot := tot.trans q.since
    clear q
    go_wp2_with fail
    refine (heldIntSS_any Ag ng cg _ L 1 w13 (by omega) (by have := hsum.out; omega) og10.lr (by omega) (by omega)).mono ?_
    rintro e w13' ⟨rfl, rfl⟩
    go_wp2_with fail
    go_ret
    exact ⟨rfl, tot⟩
theorem walk_FnExactTracesMany (a0 : Option Addr) (len0 cap0 : Nat) (z0 : List Int) (a1 : Int) (w : World) (w00 : RowIn .i64 w a0 len0 cap0 z0) (w01 : (Lit.int .i64 a1).wf = true) :
    Calls Try.prog 13 #[.slice a0 len0 cap0, .int .i64 a1] w fun e w' => e = .returned (.bool true) ∧ Below w.heap.size w w' := by
  by_cases hl0 : 1048576 < len0
  · clear w00 w01
    go_enter Try.func13, Try.ntmps13
    go_wp2
    go_ret
    exact ⟨rfl, Below.refl _ _⟩
  · have h0 := Ls.of_row w00
    generalize z0.take len0 = xs at *
    clear w00 w01
    have hsp := Lib.hid (fun A n c w hn h => spec_TracesMany A n c xs a1 w hn h)
    have him := Lib.hid (fun A n c w hn h => impl_TracesMany A n c xs a1 w hn h)
    generalize trMany xs a1 = r at *
    have hq1 : (r != r) = false := by simp
    have hnx : ∀ n, xs.length = n → n ≤ 1048576 := fun n e => by have := h0.len; omega
    replace hnx := Lib.hid hnx
    have tot : Since w w := Since.refl w
    go_enter Try.func13, Try.ntmps13
    go_wp2_with fail
    refine (toIntS_any a0 len0 cap0 w.heap.size xs w (by omega) (h0.below tot.below) tot.size).mono ?_
    rintro e w1 ⟨A1, n1, c1, rfl, o1, s⟩
    have b1 := hnx.out _ o1.len
    replace tot := tot.trans s
    clear s
    go_wp2_with fail
    refine (hsp.out A1 n1 c1 w1 (by omega) o1.ls).mono ?_
    rintro e w2 ⟨rfl, s⟩
    replace tot := tot.trans s
    clear s o1
    go_wp2_with fail
    refine (toIntS_any a0 len0 cap0 w.heap.size xs w2 (by omega) (h0.below tot.below) tot.size).mono ?_
    rintro e w3 ⟨Ax, nx, cx, rfl, ox, s⟩
    have bx := hnx.out _ ox.len
    replace tot := tot.trans s
    clear s
    go_wp2_with fail
    refine (him.out Ax nx cx w3 (by omega) ox.ls).mono ?_
    rintro e w4 ⟨rfl, s⟩
    replace ox := ox.since s
    replace tot := tot.trans s
    clear s
    go_wp2_with fail
    refine (toIntS_any a0 len0 cap0 w.heap.size xs w4 (by omega) (h0.below tot.below) tot.size).mono ?_
    rintro e w6 ⟨Ay, ny, cy, rfl, oy, s⟩
    replace ox := ox.since s
    replace tot := tot.trans s
    clear s
    go_wp2_with fail
    refine (eqIntS_any Ax nx cx _ _ Ay ny cy _ _ w6 (by omega) ox.ls oy.ls).mono ?_
    rintro e w7 ⟨rfl, s⟩
    rw [dec_same]
    replace tot := tot.trans s
    go_wp2_with fail
    go_ret
    exact ⟨rfl, tot⟩
end Go.Proofs.Ytlnkkjmejmhaiaa
