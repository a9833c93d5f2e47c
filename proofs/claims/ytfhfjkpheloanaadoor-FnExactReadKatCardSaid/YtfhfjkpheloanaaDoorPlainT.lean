/-
  Plain facts on tests (sets of atoms as numbers): no program in sight.
-/
import Derived.WalkKit
import Derived.Laws.BitsAllLaws
namespace Go.Proofs.YtfhfjkpheloanaaDoor
open Go.RowKit
set_option linter.unusedVariables false

theorem ret_bool {a b : Bool} (h : a = b) : Ending.returned (.bool a) = .returned (.bool b) := by rw [h]
theorem ret_int {k : IntKind} {a b : Int} (h : a = b) : Ending.returned (.int k a) = .returned (.int k b) := by rw [h]

/-- a valid test -/
def vT (t : Int) : Bool := decide (0 ≤ t ∧ t ≤ 15)
theorem vT_true {t : Int} (h0 : 0 ≤ t) (h1 : t ≤ 15) : vT t = true := by simp [vT, h0, h1]
theorem vT_lo {t : Int} (h0 : t < 0) : vT t = false := by simp [vT]; omega
theorem vT_hi {t : Int} (h0 : 15 < t) : vT t = false := by simp [vT]; omega
theorem vT_cases (t : Int) : t < 0 ∨ (0 ≤ t ∧ t ≤ 15) ∨ 15 < t := by omega
theorem vT_iff {t : Int} : vT t = true ↔ (0 ≤ t ∧ t ≤ 15) := by simp [vT]
theorem vT_not {t : Int} : vT t = false ↔ ¬ (0 ≤ t ∧ t ≤ 15) := by simp [vT]
/-- a number between two others -/
def inR (n lo hi : Int) : Bool := decide (lo ≤ n ∧ n ≤ hi)
theorem inR_true {n lo hi : Int} (h0 : lo ≤ n) (h1 : n ≤ hi) : inR n lo hi = true := by simp [inR, h0, h1]
theorem inR_lo {n lo hi : Int} (h0 : n < lo) : inR n lo hi = false := by simp [inR]; omega
theorem inR_hi {n lo hi : Int} (h0 : hi < n) : inR n lo hi = false := by simp [inR]; omega
theorem inR_cases (n lo hi : Int) : n < lo ∨ (lo ≤ n ∧ n ≤ hi) ∨ hi < n := by omega
/-- the bit of an atom -/
def bitI (t k : Int) : Int := t / 2 ^ k.toNat % 2
theorem bitI_01 (t k : Int) : bitI t k = 0 ∨ bitI t k = 1 := by unfold bitI; omega
def andI (a b : Int) : Int := ((a.toNat &&& b.toNat : Nat) : Int)
def orI (a b : Int) : Int := ((a.toNat ||| b.toNat : Nat) : Int)

def tHolds (t k : Int) : Bool := vT t && inR k 0 3 && (bitI t k == 1)
def tNot (t : Int) : Int := if vT t then 15 - t else -1
def tAnd (a b : Int) : Int := if vT a && vT b then andI a b else -1
def tOr (a b : Int) : Int := if vT a && vT b then orI a b else -1
def tBelow (a b : Int) : Bool := vT a && vT b && (andI a b == a)
/-- how many of the first k atoms -/
def cntB (t : Int) : Nat → Int
  | 0 => 0
  | k + 1 => cntB t k + bitI t k
def tMany (t : Int) : Int := if vT t then cntB t 4 else -1
theorem cntB_bd (t : Int) (k : Nat) : 0 ≤ cntB t k ∧ cntB t k ≤ k := by
  induction k with
  | zero => simp [cntB]
  | succ k ih => have := bitI_01 t k; simp only [cntB]; omega
theorem cntB_one {t : Int} {k : Nat} (h : (bitI t k == 1) = true) : cntB t (k + 1) = cntB t k + 1 := by simp at h; simp [cntB, h]
theorem cntB_no {t : Int} {k : Nat} (h : (bitI t k == 1) = false) : cntB t (k + 1) = cntB t k := by
  have := bitI_01 t k; simp at h; simp [cntB]; omega

/-- Sixteen cases of a valid test. -/
theorem sixteen {P : Int → Prop} (h : ∀ k : Fin 16, P ((k.val : Nat) : Int)) {t : Int} (h0 : 0 ≤ t) (h1 : t ≤ 15) : P t := by
  obtain ⟨n, rfl⟩ := Int.eq_ofNat_of_zero_le h0
  exact h ⟨n, by omega⟩

theorem bits_and_t {a b : Int} (h0 : 0 ≤ a) (h1 : a ≤ 15) (h2 : 0 ≤ b) (h3 : b ≤ 15) : bits .and .i64 a b = andI a b :=
  sixteen (P := fun a => bits .and .i64 a b = andI a b) (fun k => sixteen (P := fun b => bits .and .i64 ((k.val : Nat) : Int) b = andI ((k.val : Nat) : Int) b) (fun j => by revert k j; decide +kernel) h2 h3) h0 h1
theorem bits_or_t {a b : Int} (h0 : 0 ≤ a) (h1 : a ≤ 15) (h2 : 0 ≤ b) (h3 : b ≤ 15) : bits .or .i64 a b = orI a b :=
  sixteen (P := fun a => bits .or .i64 a b = orI a b) (fun k => sixteen (P := fun b => bits .or .i64 ((k.val : Nat) : Int) b = orI ((k.val : Nat) : Int) b) (fun j => by revert k j; decide +kernel) h2 h3) h0 h1
theorem bits_andNot_t {a b : Int} (h0 : 0 ≤ a) (h1 : a ≤ 15) (h2 : 0 ≤ b) (h3 : b ≤ 15) : bits .andNot .i64 a b = a - andI a b :=
  sixteen (P := fun a => bits .andNot .i64 a b = a - andI a b) (fun k => sixteen (P := fun b => bits .andNot .i64 ((k.val : Nat) : Int) b = ((k.val : Nat) : Int) - andI ((k.val : Nat) : Int) b) (fun j => by revert k j; decide +kernel) h2 h3) h0 h1
theorem bits_and_one {t k : Int} (h0 : 0 ≤ t) (h1 : t ≤ 15) (h2 : 0 ≤ k) (h3 : k ≤ 3) : bits .and .i64 (t / 2 ^ k.toNat) 1 = bitI t k := by
  obtain ⟨n, rfl⟩ := Int.eq_ofNat_of_zero_le h2
  exact sixteen (P := fun t => bits .and .i64 (t / 2 ^ ((n : Int)).toNat) 1 = bitI t n) (fun j => by
    have : n = 0 ∨ n = 1 ∨ n = 2 ∨ n = 3 := by omega
    rcases this with rfl | rfl | rfl | rfl <;> (revert j; decide +kernel)) h0 h1

theorem andI_bd {a b : Int} (h0 : 0 ≤ a) (h1 : a ≤ 15) (h2 : 0 ≤ b) (h3 : b ≤ 15) : 0 ≤ andI a b ∧ andI a b ≤ 15 :=
  sixteen (P := fun a => 0 ≤ andI a b ∧ andI a b ≤ 15) (fun k => sixteen (P := fun b => 0 ≤ andI ((k.val : Nat) : Int) b ∧ andI ((k.val : Nat) : Int) b ≤ 15) (fun j => by revert k j; decide +kernel) h2 h3) h0 h1
theorem orI_bd {a b : Int} (h0 : 0 ≤ a) (h1 : a ≤ 15) (h2 : 0 ≤ b) (h3 : b ≤ 15) : 0 ≤ orI a b ∧ orI a b ≤ 15 :=
  sixteen (P := fun a => 0 ≤ orI a b ∧ orI a b ≤ 15) (fun k => sixteen (P := fun b => 0 ≤ orI ((k.val : Nat) : Int) b ∧ orI ((k.val : Nat) : Int) b ≤ 15) (fun j => by revert k j; decide +kernel) h2 h3) h0 h1
theorem two_tests {P : Int → Int → Prop} (h : ∀ a b : Fin 16, P ((a.val : Nat) : Int) ((b.val : Nat) : Int)) {a b : Int} (h0 : 0 ≤ a) (h1 : a ≤ 15) (h2 : 0 ≤ b) (h3 : b ≤ 15) : P a b := by
  obtain ⟨n, rfl⟩ := Int.eq_ofNat_of_zero_le h0
  obtain ⟨m, rfl⟩ := Int.eq_ofNat_of_zero_le h2
  exact h ⟨n, by omega⟩ ⟨m, by omega⟩
theorem tmod_bit {t k : Int} (h0 : 0 ≤ t) : (t / 2 ^ k.toNat).tmod 2 = bitI t k := by
  have hp : (0 : Int) < 2 ^ k.toNat := Int.pow_pos (by decide)
  rw [Int.tmod_eq_emod_of_nonneg (Int.ediv_nonneg h0 (by omega))]; rfl
theorem and15 {t : Int} (h0 : 0 ≤ t) (h1 : t ≤ 15) : 15 - andI 15 t = 15 - t :=
  sixteen (P := fun t => 15 - andI 15 t = 15 - t) (by decide +kernel) h0 h1
theorem both_step {a b : Int} (h0 : 0 ≤ a) (h1 : a ≤ 15) (h2 : 0 ≤ b) (h3 : b ≤ 15) {k : Nat} (hk : k ≤ 3) :
    andI a b % 2 ^ k + bitI a k * bitI b k * 2 ^ k = andI a b % 2 ^ (k + 1) := by
  have : k = 0 ∨ k = 1 ∨ k = 2 ∨ k = 3 := by omega
  rcases this with rfl | rfl | rfl | rfl <;>
  exact two_tests (P := fun a b => andI a b % 2 ^ _ + bitI a _ * bitI b _ * 2 ^ _ = andI a b % 2 ^ _) (by decide +kernel) h0 h1 h2 h3
theorem both_end {a b : Int} (h0 : 0 ≤ a) (h1 : a ≤ 15) (h2 : 0 ≤ b) (h3 : b ≤ 15) {k : Nat} (hk : a < 2 ^ k ∨ b < 2 ^ k) : andI a b % 2 ^ k = andI a b := by
  have hA : andI a b ≤ a ∧ andI a b ≤ b ∧ 0 ≤ andI a b := two_tests (P := fun a b => andI a b ≤ a ∧ andI a b ≤ b ∧ 0 ≤ andI a b) (by decide +kernel) h0 h1 h2 h3
  exact Int.emod_eq_of_lt hA.2.2 (by omega)
theorem both_0 {a b : Int} (h0 : 0 ≤ a) (h1 : a ≤ 15) (h2 : 0 ≤ b) (h3 : b ≤ 15) : wrap64 (wrap64 (wrap64 (bitI a 0 * bitI b 0))) = andI a b % 2 ^ 1 :=
  two_tests (P := fun a b => wrap64 (wrap64 (wrap64 (bitI a 0 * bitI b 0))) = andI a b % 2 ^ 1) (by decide +kernel) h0 h1 h2 h3
theorem both_1 {a b : Int} (h0 : 0 ≤ a) (h1 : a ≤ 15) (h2 : 0 ≤ b) (h3 : b ≤ 15) : wrap64 (andI a b % 2 + wrap64 (wrap64 (bitI a 1 * bitI b 1) * 2)) = andI a b % 2 ^ 2 :=
  two_tests (P := fun a b => wrap64 (andI a b % 2 + wrap64 (wrap64 (bitI a 1 * bitI b 1) * 2)) = andI a b % 2 ^ 2) (by decide +kernel) h0 h1 h2 h3
theorem both_2 {a b : Int} (h0 : 0 ≤ a) (h1 : a ≤ 15) (h2 : 0 ≤ b) (h3 : b ≤ 15) : wrap64 (andI a b % 4 + wrap64 (wrap64 (bitI a 2 * bitI b 2) * 4)) = andI a b % 2 ^ 3 :=
  two_tests (P := fun a b => wrap64 (andI a b % 4 + wrap64 (wrap64 (bitI a 2 * bitI b 2) * 4)) = andI a b % 2 ^ 3) (by decide +kernel) h0 h1 h2 h3
theorem both_3 {a b : Int} (h0 : 0 ≤ a) (h1 : a ≤ 15) (h2 : 0 ≤ b) (h3 : b ≤ 15) : wrap64 (andI a b % 8 + wrap64 (wrap64 (bitI a 3 * bitI b 3) * 8)) = andI a b % 2 ^ 4 :=
  two_tests (P := fun a b => wrap64 (andI a b % 8 + wrap64 (wrap64 (bitI a 3 * bitI b 3) * 8)) = andI a b % 2 ^ 4) (by decide +kernel) h0 h1 h2 h3
theorem either_eq {a b : Int} (h0 : 0 ≤ a) (h1 : a ≤ 15) (h2 : 0 ≤ b) (h3 : b ≤ 15) : a + b - andI a b = orI a b :=
  two_tests (P := fun a b => a + b - andI a b = orI a b) (by decide +kernel) h0 h1 h2 h3
theorem ofInt_i64 (a : Nat) (ha : a < 2 ^ 62) : (BitVec.ofInt 64 (a : Int)).toNat = a := by
  rw [BitVec.ofInt_natCast, BitVec.toNat_ofNat]; exact Nat.mod_eq_of_lt (by omega)
theorem xor_nn {a b : Int} (h0 : 0 ≤ a) (h1 : a < 1099511627776) (h2 : 0 ≤ b) (h3 : b < 1099511627776) : 0 ≤ bits .xor .i64 a b := by
  obtain ⟨A, rfl⟩ := Int.eq_ofNat_of_zero_le h0
  obtain ⟨B, rfl⟩ := Int.eq_ofNat_of_zero_le h2
  have hx : A ^^^ B < 2 ^ 40 := Nat.xor_lt_two_pow (by omega) (by omega)
  show 0 ≤ IntKind.i64.wrap ((BitVec.ofInt 64 (A : Int) ^^^ BitVec.ofInt 64 (B : Int)).toNat : Int)
  rw [BitVec.toNat_xor, ofInt_i64 A (by omega), ofInt_i64 B (by omega), IntKind.wrap_i64]
  omega
end Go.Proofs.YtfhfjkpheloanaaDoor
