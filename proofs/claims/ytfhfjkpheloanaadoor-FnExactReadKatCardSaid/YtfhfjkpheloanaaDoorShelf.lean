/-
  Contracts of strings.HasPrefix at a prefix of one byte and of strings.IndexByte, after the shelf's own walks of the library's text; in the words of lists of bytes.
-/
import Derived.Test.YtfhfjkpheloanaaDoorReadP
import Derived.Lib.Strings
import Derived.Lib.Slices
import Derived.Lib.Walk
import Derived.Lib.Bytealg
namespace Go.Proofs.YtfhfjkpheloanaaDoor
open Go.RowKit
set_option linter.unusedVariables false

set_option maxHeartbeats 1000000 in
theorem shelf_prefix (s p : ByteArray) (w : World) :
    Calls Tryd.prog 28 #[.string s, .string p] w fun e w' => e = .returned (.bool (Lib.hasPrefix s.data.toList p.data.toList)) ∧ w' = w := by
  rw [← Lib.hasPrefix_of_take, ← Lib.size_eq, ← Lib.size_eq]
  go_enter Tryd.func28, Tryd.ntmps28
  go_wp2
  · rename_i h
    go_ret
    refine ⟨?_, rfl⟩
    show Ending.returned (Value.bool ((s.extract 0 p.size).toList == p.toList)) = _
    rw [Lib.extract_toList, Lib.toList_data]
    simp [h]
  · rename_i h
    go_ret
    refine ⟨?_, rfl⟩
    show Ending.returned (Value.bool false) = _
    simp [h]
/-- the first byte is c -/
def hd (r : List UInt8) (c : UInt8) : Bool := match r with | [] => false | x :: _ => x == c
theorem prefix_one (r : List UInt8) (c : UInt8) (w : World) : Calls Tryd.prog 28 #[.string (bs r), .string ⟨#[c]⟩] w fun e w' => e = .returned (.bool (hd r c)) ∧ w = w' := by
  refine (shelf_prefix (bs r) ⟨#[c]⟩ w).mono ?_
  rintro e w' ⟨rfl, rfl⟩
  refine ⟨?_, rfl⟩
  congr 2
  show Lib.hasPrefix r [c] = _
  unfold Lib.hasPrefix hd
  cases r with
  | nil => rfl
  | cons x q =>
    show (c == x && [].isPrefixOf q) = _
    simp [Bool.beq_comm]
set_option maxHeartbeats 1000000 in
set_option maxRecDepth 100000 in
theorem shelf_index1 (s : ByteArray) (c : Int) (w : World) :
    Calls Tryd.prog 32 #[.string s, .int .u8 c] w fun e w' => e = .returned (.int .i64 (Lib.indexByte s.data.toList c.toNat.toUInt8)) ∧ w' = w := by
  go_enter Tryd.func32, Tryd.ntmps32
  go_wp2
  rw [run_callFunc_extern Tryd.func34 (by kernel_rfl) (by kernel_rfl) (by kernel_rfl) (e := Extern.BytealgIndexByte.indexByte) (by kernel_rfl), Lib.run_indexByteString]
  simp only [Result.andThen]
  rw [Oper.upon_value]
  go_wp2
  go_ret
  exact ⟨rfl, rfl⟩
set_option maxHeartbeats 1000000 in
theorem shelf_index (s : ByteArray) (c : Int) (w : World) :
    Calls Tryd.prog 29 #[.string s, .int .u8 c] w fun e w' => e = .returned (.int .i64 (Lib.indexByte s.data.toList c.toNat.toUInt8)) ∧ w' = w := by
  go_enter Tryd.func29, Tryd.ntmps29
  go_wp2_with (go_at_call 32; refine (shelf_index1 _ _ _).mono ?_; rintro e w' ⟨rfl, rfl⟩)
  go_ret
  exact ⟨rfl, rfl⟩
theorem index_find : ∀ (r : List UInt8) (c : UInt8), Lib.indexByte r c = match r.findIdx? (fun x => x == c) with | some k => (k : Int) | none => -1 := by
  intro r c
  induction r with
  | nil => rfl
  | cons x q ih =>
    unfold Lib.indexByte
    rw [List.findIdx?_cons]
    by_cases h : (x == c) = true
    · rw [if_pos h, if_pos h]; rfl
    · rw [if_neg h, if_neg h, ih]
      cases List.findIdx? (fun x => x == c) q with
      | none => rfl
      | some k =>
        simp only [Option.map_some]
        have h1 : ((k : Int) == -1) = false := by
          rw [beq_eq_false_iff_ne]; omega
        rw [h1]
        rfl
theorem index_wlen (q : List UInt8) (w : World) : Calls Tryd.prog 29 #[.string (bs (91 :: q)), .int .u8 93] w fun e w' => e = .returned (.int .i64 ((wlen (91 :: q) : Int) - 1)) ∧ w = w' := by
  refine (shelf_index (bs (91 :: q)) 93 w).mono ?_
  rintro e w' ⟨rfl, rfl⟩
  refine ⟨?_, rfl⟩
  congr 2
  show Lib.indexByte (91 :: q) 93 = _
  rw [index_find]
  have : wlen (91 :: q) = match (91 :: q).findIdx? (fun c => c == 93) with | some k => k + 1 | none => 0 := rfl
  rw [this]
  cases List.findIdx? (fun c => c == 93) (91 :: q) with
  | none => rfl
  | some k => simp
end Go.Proofs.YtfhfjkpheloanaaDoor
