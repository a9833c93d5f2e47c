/-
  No cell of these rows narrows 'for every input' (looked for: loops, veiled, ifaces, maps, wideKeys, modest, calm, conditions, laid).
  DERIVED. THE GIVEN ROWS OF THIS SEAT. 12 by the template 'for every input the law returns true; each argument reads behind the call as it read before'; 0 by the template 'total and deterministic' (their statements: YtjlbdpoeajjmpaaTotals.lean).
  GIVEN WITH THE SEED: the statements are not yours to turn. If you find one false, say at which input.
  Laid BY PROGRAM, IN A SANDBOX (cutbox-rows.mjs): the forced cells as the released guide's own fill.sh prints them over the translation 799a61b7929da5f1… (all of the seat's roots in one cut). By AI agents, Wed Nov 11 2026. No macro, syntax, notation, axiom, sorry.
-/
import Derived.Test.YtjlbdpoeajjmpaaChecked
import GoSem.Claim
import GoSem.ClaimJoined
import GoSem.ClaimMapViews
import Derived.JoinedTies
import Derived.KernelRfl
namespace Go.Proofs.Ytjlbdpoeajjmpaa
/- THE CELL 'sum', in the pinned program and in every row, IS THE sha256 OF THE DUMP (.gsa) THAT YtjlbdpoeajjmpaaProg.lean LOADS. Nothing in Lean hashes anything: it is a label: what it is worth is what the hold of that sum in a sandbox is worth. -/
noncomputable def Try.pinned : Pinned := { name := "ytjlbdpoeajjmpaa", sum := "799a61b7929da5f1e015de811855f1e51ebf8442be3c1e32ddf4137c050caf28", checked := Try.checked }
namespace Rows
def none {H : Type} : Left H := { results := [], args := [] }

/-- 'laws.FnExactConstants': WHATEVER THE INPUT: true; the input reads as it did. -/
def fnExactConstantsSpec : ChangeSpec := { name := "fnExactConstants", fn := fun _ => fun
  | [] => { results := [.lit (.bool true)], args := [] }
  | _ => none }
def fnExactConstantsRow : OpenClaim := { program := "ytjlbdpoeajjmpaa", sum := "799a61b7929da5f1e015de811855f1e51ebf8442be3c1e32ddf4137c050caf28", func := "loop.example/kleenetests/laws.FnExactConstants", spec := "fnExactConstants", apart := false }
def FnExactConstantsSaid : Prop := fnExactConstantsRow.holds Try.pinned (OpenSpec.ofChange fnExactConstantsSpec)

/-- ITS FALSE NEIGHBOUR: 'it returns false'. Refute it at one input. -/
def fnExactConstantsWrong : ChangeSpec := { name := "fnExactConstants", fn := fun _ => fun
  | [] => { results := [.lit (.bool false)], args := [] }
  | _ => none }
def FnExactConstantsWrongFalsely : Prop := fnExactConstantsRow.holds Try.pinned (OpenSpec.ofChange fnExactConstantsWrong)

/-- 'laws.FnExactTestValid': WHATEVER THE INPUT: true; the input reads as it did. -/
def fnExactTestValidSpec : ChangeSpec := { name := "fnExactTestValid", fn := fun _ => fun
  | [d] => { results := [.lit (.bool true)], args := [d] }
  | _ => none }
def fnExactTestValidRow : OpenClaim := { program := "ytjlbdpoeajjmpaa", sum := "799a61b7929da5f1e015de811855f1e51ebf8442be3c1e32ddf4137c050caf28", func := "loop.example/kleenetests/laws.FnExactTestValid", spec := "fnExactTestValid", apart := false }
def FnExactTestValidSaid : Prop := fnExactTestValidRow.holds Try.pinned (OpenSpec.ofChange fnExactTestValidSpec)

/-- ITS FALSE NEIGHBOUR: 'it returns false'. Refute it at one input. -/
def fnExactTestValidWrong : ChangeSpec := { name := "fnExactTestValid", fn := fun _ => fun
  | [d] => { results := [.lit (.bool false)], args := [d] }
  | _ => none }
def FnExactTestValidWrongFalsely : Prop := fnExactTestValidRow.holds Try.pinned (OpenSpec.ofChange fnExactTestValidWrong)

/-- 'laws.FnExactTestHolds': WHATEVER THE INPUT: true; the input reads as it did. -/
def fnExactTestHoldsSpec : ChangeSpec := { name := "fnExactTestHolds", fn := fun _ => fun
  | [d1, d2] => { results := [.lit (.bool true)], args := [d1, d2] }
  | _ => none }
def fnExactTestHoldsRow : OpenClaim := { program := "ytjlbdpoeajjmpaa", sum := "799a61b7929da5f1e015de811855f1e51ebf8442be3c1e32ddf4137c050caf28", func := "loop.example/kleenetests/laws.FnExactTestHolds", spec := "fnExactTestHolds", apart := false }
def FnExactTestHoldsSaid : Prop := fnExactTestHoldsRow.holds Try.pinned (OpenSpec.ofChange fnExactTestHoldsSpec)

/-- ITS FALSE NEIGHBOUR: 'it returns false'. Refute it at one input. -/
def fnExactTestHoldsWrong : ChangeSpec := { name := "fnExactTestHolds", fn := fun _ => fun
  | [d1, d2] => { results := [.lit (.bool false)], args := [d1, d2] }
  | _ => none }
def FnExactTestHoldsWrongFalsely : Prop := fnExactTestHoldsRow.holds Try.pinned (OpenSpec.ofChange fnExactTestHoldsWrong)

/-- 'laws.FnExactTestNot': WHATEVER THE INPUT: true; the input reads as it did. -/
def fnExactTestNotSpec : ChangeSpec := { name := "fnExactTestNot", fn := fun _ => fun
  | [d] => { results := [.lit (.bool true)], args := [d] }
  | _ => none }
def fnExactTestNotRow : OpenClaim := { program := "ytjlbdpoeajjmpaa", sum := "799a61b7929da5f1e015de811855f1e51ebf8442be3c1e32ddf4137c050caf28", func := "loop.example/kleenetests/laws.FnExactTestNot", spec := "fnExactTestNot", apart := false }
def FnExactTestNotSaid : Prop := fnExactTestNotRow.holds Try.pinned (OpenSpec.ofChange fnExactTestNotSpec)

/-- ITS FALSE NEIGHBOUR: 'it returns false'. Refute it at one input. -/
def fnExactTestNotWrong : ChangeSpec := { name := "fnExactTestNot", fn := fun _ => fun
  | [d] => { results := [.lit (.bool false)], args := [d] }
  | _ => none }
def FnExactTestNotWrongFalsely : Prop := fnExactTestNotRow.holds Try.pinned (OpenSpec.ofChange fnExactTestNotWrong)

/-- 'laws.FnExactTestBelow': WHATEVER THE INPUT: true; the input reads as it did. -/
def fnExactTestBelowSpec : ChangeSpec := { name := "fnExactTestBelow", fn := fun _ => fun
  | [d1, d2] => { results := [.lit (.bool true)], args := [d1, d2] }
  | _ => none }
def fnExactTestBelowRow : OpenClaim := { program := "ytjlbdpoeajjmpaa", sum := "799a61b7929da5f1e015de811855f1e51ebf8442be3c1e32ddf4137c050caf28", func := "loop.example/kleenetests/laws.FnExactTestBelow", spec := "fnExactTestBelow", apart := false }
def FnExactTestBelowSaid : Prop := fnExactTestBelowRow.holds Try.pinned (OpenSpec.ofChange fnExactTestBelowSpec)

/-- ITS FALSE NEIGHBOUR: 'it returns false'. Refute it at one input. -/
def fnExactTestBelowWrong : ChangeSpec := { name := "fnExactTestBelow", fn := fun _ => fun
  | [d1, d2] => { results := [.lit (.bool false)], args := [d1, d2] }
  | _ => none }
def FnExactTestBelowWrongFalsely : Prop := fnExactTestBelowRow.holds Try.pinned (OpenSpec.ofChange fnExactTestBelowWrong)

/-- 'laws.FnExactTestAnd': WHATEVER THE INPUT: true; the input reads as it did. -/
def fnExactTestAndSpec : ChangeSpec := { name := "fnExactTestAnd", fn := fun _ => fun
  | [d1, d2] => { results := [.lit (.bool true)], args := [d1, d2] }
  | _ => none }
def fnExactTestAndRow : OpenClaim := { program := "ytjlbdpoeajjmpaa", sum := "799a61b7929da5f1e015de811855f1e51ebf8442be3c1e32ddf4137c050caf28", func := "loop.example/kleenetests/laws.FnExactTestAnd", spec := "fnExactTestAnd", apart := false }
def FnExactTestAndSaid : Prop := fnExactTestAndRow.holds Try.pinned (OpenSpec.ofChange fnExactTestAndSpec)

/-- ITS FALSE NEIGHBOUR: 'it returns false'. Refute it at one input. -/
def fnExactTestAndWrong : ChangeSpec := { name := "fnExactTestAnd", fn := fun _ => fun
  | [d1, d2] => { results := [.lit (.bool false)], args := [d1, d2] }
  | _ => none }
def FnExactTestAndWrongFalsely : Prop := fnExactTestAndRow.holds Try.pinned (OpenSpec.ofChange fnExactTestAndWrong)

/-- 'laws.FnExactTestOr': WHATEVER THE INPUT: true; the input reads as it did. -/
def fnExactTestOrSpec : ChangeSpec := { name := "fnExactTestOr", fn := fun _ => fun
  | [d1, d2] => { results := [.lit (.bool true)], args := [d1, d2] }
  | _ => none }
def fnExactTestOrRow : OpenClaim := { program := "ytjlbdpoeajjmpaa", sum := "799a61b7929da5f1e015de811855f1e51ebf8442be3c1e32ddf4137c050caf28", func := "loop.example/kleenetests/laws.FnExactTestOr", spec := "fnExactTestOr", apart := false }
def FnExactTestOrSaid : Prop := fnExactTestOrRow.holds Try.pinned (OpenSpec.ofChange fnExactTestOrSpec)

/-- ITS FALSE NEIGHBOUR: 'it returns false'. Refute it at one input. -/
def fnExactTestOrWrong : ChangeSpec := { name := "fnExactTestOr", fn := fun _ => fun
  | [d1, d2] => { results := [.lit (.bool false)], args := [d1, d2] }
  | _ => none }
def FnExactTestOrWrongFalsely : Prop := fnExactTestOrRow.holds Try.pinned (OpenSpec.ofChange fnExactTestOrWrong)

/-- 'laws.FnExactTestMany': WHATEVER THE INPUT: true; the input reads as it did. -/
def fnExactTestManySpec : ChangeSpec := { name := "fnExactTestMany", fn := fun _ => fun
  | [d] => { results := [.lit (.bool true)], args := [d] }
  | _ => none }
def fnExactTestManyRow : OpenClaim := { program := "ytjlbdpoeajjmpaa", sum := "799a61b7929da5f1e015de811855f1e51ebf8442be3c1e32ddf4137c050caf28", func := "loop.example/kleenetests/laws.FnExactTestMany", spec := "fnExactTestMany", apart := false }
def FnExactTestManySaid : Prop := fnExactTestManyRow.holds Try.pinned (OpenSpec.ofChange fnExactTestManySpec)

/-- ITS FALSE NEIGHBOUR: 'it returns false'. Refute it at one input. -/
def fnExactTestManyWrong : ChangeSpec := { name := "fnExactTestMany", fn := fun _ => fun
  | [d] => { results := [.lit (.bool false)], args := [d] }
  | _ => none }
def FnExactTestManyWrongFalsely : Prop := fnExactTestManyRow.holds Try.pinned (OpenSpec.ofChange fnExactTestManyWrong)

/-- 'laws.FnTestValid': WHATEVER THE INPUT: true; the input reads as it did. -/
def fnTestValidSpec : ChangeSpec := { name := "fnTestValid", fn := fun _ => fun
  | [d] => { results := [.lit (.bool true)], args := [d] }
  | _ => none }
def fnTestValidRow : OpenClaim := { program := "ytjlbdpoeajjmpaa", sum := "799a61b7929da5f1e015de811855f1e51ebf8442be3c1e32ddf4137c050caf28", func := "loop.example/kleenetests/laws.FnTestValid", spec := "fnTestValid", apart := false }
def FnTestValidSaid : Prop := fnTestValidRow.holds Try.pinned (OpenSpec.ofChange fnTestValidSpec)

/-- ITS FALSE NEIGHBOUR: 'it returns false'. Refute it at one input. -/
def fnTestValidWrong : ChangeSpec := { name := "fnTestValid", fn := fun _ => fun
  | [d] => { results := [.lit (.bool false)], args := [d] }
  | _ => none }
def FnTestValidWrongFalsely : Prop := fnTestValidRow.holds Try.pinned (OpenSpec.ofChange fnTestValidWrong)

/-- 'laws.FnTestHolds': WHATEVER THE INPUT: true; the input reads as it did. -/
def fnTestHoldsSpec : ChangeSpec := { name := "fnTestHolds", fn := fun _ => fun
  | [d] => { results := [.lit (.bool true)], args := [d] }
  | _ => none }
def fnTestHoldsRow : OpenClaim := { program := "ytjlbdpoeajjmpaa", sum := "799a61b7929da5f1e015de811855f1e51ebf8442be3c1e32ddf4137c050caf28", func := "loop.example/kleenetests/laws.FnTestHolds", spec := "fnTestHolds", apart := false }
def FnTestHoldsSaid : Prop := fnTestHoldsRow.holds Try.pinned (OpenSpec.ofChange fnTestHoldsSpec)

/-- ITS FALSE NEIGHBOUR: 'it returns false'. Refute it at one input. -/
def fnTestHoldsWrong : ChangeSpec := { name := "fnTestHolds", fn := fun _ => fun
  | [d] => { results := [.lit (.bool false)], args := [d] }
  | _ => none }
def FnTestHoldsWrongFalsely : Prop := fnTestHoldsRow.holds Try.pinned (OpenSpec.ofChange fnTestHoldsWrong)

/-- 'laws.FnTestNot': WHATEVER THE INPUT: true; the input reads as it did. -/
def fnTestNotSpec : ChangeSpec := { name := "fnTestNot", fn := fun _ => fun
  | [d] => { results := [.lit (.bool true)], args := [d] }
  | _ => none }
def fnTestNotRow : OpenClaim := { program := "ytjlbdpoeajjmpaa", sum := "799a61b7929da5f1e015de811855f1e51ebf8442be3c1e32ddf4137c050caf28", func := "loop.example/kleenetests/laws.FnTestNot", spec := "fnTestNot", apart := false }
def FnTestNotSaid : Prop := fnTestNotRow.holds Try.pinned (OpenSpec.ofChange fnTestNotSpec)

/-- ITS FALSE NEIGHBOUR: 'it returns false'. Refute it at one input. -/
def fnTestNotWrong : ChangeSpec := { name := "fnTestNot", fn := fun _ => fun
  | [d] => { results := [.lit (.bool false)], args := [d] }
  | _ => none }
def FnTestNotWrongFalsely : Prop := fnTestNotRow.holds Try.pinned (OpenSpec.ofChange fnTestNotWrong)

/-- 'laws.FnTestMany': WHATEVER THE INPUT: true; the input reads as it did. -/
def fnTestManySpec : ChangeSpec := { name := "fnTestMany", fn := fun _ => fun
  | [d] => { results := [.lit (.bool true)], args := [d] }
  | _ => none }
def fnTestManyRow : OpenClaim := { program := "ytjlbdpoeajjmpaa", sum := "799a61b7929da5f1e015de811855f1e51ebf8442be3c1e32ddf4137c050caf28", func := "loop.example/kleenetests/laws.FnTestMany", spec := "fnTestMany", apart := false }
def FnTestManySaid : Prop := fnTestManyRow.holds Try.pinned (OpenSpec.ofChange fnTestManySpec)

/-- ITS FALSE NEIGHBOUR: 'it returns false'. Refute it at one input. -/
def fnTestManyWrong : ChangeSpec := { name := "fnTestMany", fn := fun _ => fun
  | [d] => { results := [.lit (.bool false)], args := [d] }
  | _ => none }
def FnTestManyWrongFalsely : Prop := fnTestManyRow.holds Try.pinned (OpenSpec.ofChange fnTestManyWrong)

/- THE SECOND FORM. 'bulk': how many values and letters a reading holds, each counted each time it is reached (what is shared counts as often as it is met; a slice's spare places count too). A statement '..UptoSaid' is the law's where the arguments, and the package variables that the reading takes, are together of bulk at most 1048576: NARROWER than '..Said'. Prove '..Said' where nothing that the law and all that it calls make is longer than what came in: it says more and counts as full. Else prove '..UptoSaid'. A law counts once. -/
mutual
def uptoBulk {H : Type} : DataW H → Nat
  | .lit (.string bytes) => bytes.length + 1
  | .lit _ => 1
  | .nil => 1
  | .ptr d => uptoBulk d + 1
  | .slice elems spare => uptoBulkAll elems + uptoBulkAll spare + 1
  | .agg parts => uptoBulkAll parts + 1
  | .iface _ d => uptoBulk d + 1
  | .map entries => uptoBulkEntries entries + 1
  | .held _ => 1
def uptoBulkAll {H : Type} : List (DataW H) → Nat
  | [] => 0
  | d :: r => uptoBulk d + uptoBulkAll r
def uptoBulkEntries {H : Type} : List (Lit × DataW H) → Nat
  | [] => 0
  | x :: r => uptoBulkEntry x + uptoBulkEntries r
def uptoBulkEntry {H : Type} : Lit × DataW H → Nat
  | (.string bytes, d) => bytes.length + uptoBulk d + 1
  | (_, d) => uptoBulk d + 1
 end
def uptoSmall : (H : Type) → List (DataW H) → Bool := fun _ ds => decide (uptoBulkAll ds ≤ 1048576)
def OpenSpec.upto (s : _root_.Go.ChangeSpec) : _root_.Go.OpenSpec := { _root_.Go.OpenSpec.ofChange s with cond := some uptoSmall }

/-- 'laws.FnExactConstants', WHERE WHAT IT READS IS OF BULK AT MOST 1048576: true; the input reads as it did. -/
def fnExactConstantsUptoRow : OpenClaim := { program := "ytjlbdpoeajjmpaa", sum := "799a61b7929da5f1e015de811855f1e51ebf8442be3c1e32ddf4137c050caf28", func := "loop.example/kleenetests/laws.FnExactConstants", spec := "fnExactConstants", apart := false, narrowed := true }
def FnExactConstantsUptoSaid : Prop := fnExactConstantsUptoRow.holds Try.pinned (OpenSpec.upto fnExactConstantsSpec)

/-- 'laws.FnExactTestValid', WHERE WHAT IT READS IS OF BULK AT MOST 1048576: true; the input reads as it did. -/
def fnExactTestValidUptoRow : OpenClaim := { program := "ytjlbdpoeajjmpaa", sum := "799a61b7929da5f1e015de811855f1e51ebf8442be3c1e32ddf4137c050caf28", func := "loop.example/kleenetests/laws.FnExactTestValid", spec := "fnExactTestValid", apart := false, narrowed := true }
def FnExactTestValidUptoSaid : Prop := fnExactTestValidUptoRow.holds Try.pinned (OpenSpec.upto fnExactTestValidSpec)

/-- 'laws.FnExactTestHolds', WHERE WHAT IT READS IS OF BULK AT MOST 1048576: true; the input reads as it did. -/
def fnExactTestHoldsUptoRow : OpenClaim := { program := "ytjlbdpoeajjmpaa", sum := "799a61b7929da5f1e015de811855f1e51ebf8442be3c1e32ddf4137c050caf28", func := "loop.example/kleenetests/laws.FnExactTestHolds", spec := "fnExactTestHolds", apart := false, narrowed := true }
def FnExactTestHoldsUptoSaid : Prop := fnExactTestHoldsUptoRow.holds Try.pinned (OpenSpec.upto fnExactTestHoldsSpec)

/-- 'laws.FnExactTestNot', WHERE WHAT IT READS IS OF BULK AT MOST 1048576: true; the input reads as it did. -/
def fnExactTestNotUptoRow : OpenClaim := { program := "ytjlbdpoeajjmpaa", sum := "799a61b7929da5f1e015de811855f1e51ebf8442be3c1e32ddf4137c050caf28", func := "loop.example/kleenetests/laws.FnExactTestNot", spec := "fnExactTestNot", apart := false, narrowed := true }
def FnExactTestNotUptoSaid : Prop := fnExactTestNotUptoRow.holds Try.pinned (OpenSpec.upto fnExactTestNotSpec)

/-- 'laws.FnExactTestBelow', WHERE WHAT IT READS IS OF BULK AT MOST 1048576: true; the input reads as it did. -/
def fnExactTestBelowUptoRow : OpenClaim := { program := "ytjlbdpoeajjmpaa", sum := "799a61b7929da5f1e015de811855f1e51ebf8442be3c1e32ddf4137c050caf28", func := "loop.example/kleenetests/laws.FnExactTestBelow", spec := "fnExactTestBelow", apart := false, narrowed := true }
def FnExactTestBelowUptoSaid : Prop := fnExactTestBelowUptoRow.holds Try.pinned (OpenSpec.upto fnExactTestBelowSpec)

/-- 'laws.FnExactTestAnd', WHERE WHAT IT READS IS OF BULK AT MOST 1048576: true; the input reads as it did. -/
def fnExactTestAndUptoRow : OpenClaim := { program := "ytjlbdpoeajjmpaa", sum := "799a61b7929da5f1e015de811855f1e51ebf8442be3c1e32ddf4137c050caf28", func := "loop.example/kleenetests/laws.FnExactTestAnd", spec := "fnExactTestAnd", apart := false, narrowed := true }
def FnExactTestAndUptoSaid : Prop := fnExactTestAndUptoRow.holds Try.pinned (OpenSpec.upto fnExactTestAndSpec)

/-- 'laws.FnExactTestOr', WHERE WHAT IT READS IS OF BULK AT MOST 1048576: true; the input reads as it did. -/
def fnExactTestOrUptoRow : OpenClaim := { program := "ytjlbdpoeajjmpaa", sum := "799a61b7929da5f1e015de811855f1e51ebf8442be3c1e32ddf4137c050caf28", func := "loop.example/kleenetests/laws.FnExactTestOr", spec := "fnExactTestOr", apart := false, narrowed := true }
def FnExactTestOrUptoSaid : Prop := fnExactTestOrUptoRow.holds Try.pinned (OpenSpec.upto fnExactTestOrSpec)

/-- 'laws.FnExactTestMany', WHERE WHAT IT READS IS OF BULK AT MOST 1048576: true; the input reads as it did. -/
def fnExactTestManyUptoRow : OpenClaim := { program := "ytjlbdpoeajjmpaa", sum := "799a61b7929da5f1e015de811855f1e51ebf8442be3c1e32ddf4137c050caf28", func := "loop.example/kleenetests/laws.FnExactTestMany", spec := "fnExactTestMany", apart := false, narrowed := true }
def FnExactTestManyUptoSaid : Prop := fnExactTestManyUptoRow.holds Try.pinned (OpenSpec.upto fnExactTestManySpec)

/-- 'laws.FnTestValid', WHERE WHAT IT READS IS OF BULK AT MOST 1048576: true; the input reads as it did. -/
def fnTestValidUptoRow : OpenClaim := { program := "ytjlbdpoeajjmpaa", sum := "799a61b7929da5f1e015de811855f1e51ebf8442be3c1e32ddf4137c050caf28", func := "loop.example/kleenetests/laws.FnTestValid", spec := "fnTestValid", apart := false, narrowed := true }
def FnTestValidUptoSaid : Prop := fnTestValidUptoRow.holds Try.pinned (OpenSpec.upto fnTestValidSpec)

/-- 'laws.FnTestHolds', WHERE WHAT IT READS IS OF BULK AT MOST 1048576: true; the input reads as it did. -/
def fnTestHoldsUptoRow : OpenClaim := { program := "ytjlbdpoeajjmpaa", sum := "799a61b7929da5f1e015de811855f1e51ebf8442be3c1e32ddf4137c050caf28", func := "loop.example/kleenetests/laws.FnTestHolds", spec := "fnTestHolds", apart := false, narrowed := true }
def FnTestHoldsUptoSaid : Prop := fnTestHoldsUptoRow.holds Try.pinned (OpenSpec.upto fnTestHoldsSpec)

/-- 'laws.FnTestNot', WHERE WHAT IT READS IS OF BULK AT MOST 1048576: true; the input reads as it did. -/
def fnTestNotUptoRow : OpenClaim := { program := "ytjlbdpoeajjmpaa", sum := "799a61b7929da5f1e015de811855f1e51ebf8442be3c1e32ddf4137c050caf28", func := "loop.example/kleenetests/laws.FnTestNot", spec := "fnTestNot", apart := false, narrowed := true }
def FnTestNotUptoSaid : Prop := fnTestNotUptoRow.holds Try.pinned (OpenSpec.upto fnTestNotSpec)

/-- 'laws.FnTestMany', WHERE WHAT IT READS IS OF BULK AT MOST 1048576: true; the input reads as it did. -/
def fnTestManyUptoRow : OpenClaim := { program := "ytjlbdpoeajjmpaa", sum := "799a61b7929da5f1e015de811855f1e51ebf8442be3c1e32ddf4137c050caf28", func := "loop.example/kleenetests/laws.FnTestMany", spec := "fnTestMany", apart := false, narrowed := true }
def FnTestManyUptoSaid : Prop := fnTestManyUptoRow.holds Try.pinned (OpenSpec.upto fnTestManySpec)

end Rows
end Go.Proofs.Ytjlbdpoeajjmpaa
