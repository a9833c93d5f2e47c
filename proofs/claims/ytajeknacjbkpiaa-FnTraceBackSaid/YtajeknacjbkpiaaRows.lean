/-
  No cell of these rows narrows 'for every input' (looked for: loops, veiled, ifaces, maps, wideKeys, modest, calm, conditions, laid).
  DERIVED. THE GIVEN ROWS OF THIS SEAT. 8 by the template 'for every input the law returns true; each argument reads behind the call as it read before'; 0 by the template 'total and deterministic' (their statements: YtajeknacjbkpiaaTotals.lean).
  GIVEN WITH THE SEED: the statements are not yours to turn. If you find one false, say at which input.
  Laid BY PROGRAM, IN A SANDBOX (cutbox-rows.mjs): the forced cells as the released guide's own fill.sh prints them over the translation 6ba81732fcb5b155… (all of the seat's roots in one cut). By AI agents, Wed Nov 11 2026. No macro, syntax, notation, axiom, sorry.
-/
import Derived.Test.YtajeknacjbkpiaaChecked
import GoSem.Claim
import GoSem.ClaimJoined
import GoSem.ClaimMapViews
import Derived.JoinedTies
import Derived.KernelRfl
namespace Go.Proofs.Ytajeknacjbkpiaa
/- THE CELL 'sum', in the pinned program and in every row, IS THE sha256 OF THE DUMP (.gsa) THAT YtajeknacjbkpiaaProg.lean LOADS. Nothing in Lean hashes anything: it is a label: what it is worth is what the hold of that sum in a sandbox is worth. -/
noncomputable def Try.pinned : Pinned := { name := "ytajeknacjbkpiaa", sum := "6ba81732fcb5b155f4eb40060a5ac0e7f69cebaa509fb28ac129b34ab9c23a7f", checked := Try.checked }
namespace Rows
def none {H : Type} : Left H := { results := [], args := [] }

/-- 'laws.FnTestAnd': WHATEVER THE INPUT: true; the input reads as it did. -/
def fnTestAndSpec : ChangeSpec := { name := "fnTestAnd", fn := fun _ => fun
  | [d] => { results := [.lit (.bool true)], args := [d] }
  | _ => none }
def fnTestAndRow : OpenClaim := { program := "ytajeknacjbkpiaa", sum := "6ba81732fcb5b155f4eb40060a5ac0e7f69cebaa509fb28ac129b34ab9c23a7f", func := "loop.example/kleenetests/laws.FnTestAnd", spec := "fnTestAnd", apart := false }
def FnTestAndSaid : Prop := fnTestAndRow.holds Try.pinned (OpenSpec.ofChange fnTestAndSpec)

/-- ITS FALSE NEIGHBOUR: 'it returns false'. Refute it at one input. -/
def fnTestAndWrong : ChangeSpec := { name := "fnTestAnd", fn := fun _ => fun
  | [d] => { results := [.lit (.bool false)], args := [d] }
  | _ => none }
def FnTestAndWrongFalsely : Prop := fnTestAndRow.holds Try.pinned (OpenSpec.ofChange fnTestAndWrong)

/-- 'laws.FnTestBelow': WHATEVER THE INPUT: true; the input reads as it did. -/
def fnTestBelowSpec : ChangeSpec := { name := "fnTestBelow", fn := fun _ => fun
  | [d] => { results := [.lit (.bool true)], args := [d] }
  | _ => none }
def fnTestBelowRow : OpenClaim := { program := "ytajeknacjbkpiaa", sum := "6ba81732fcb5b155f4eb40060a5ac0e7f69cebaa509fb28ac129b34ab9c23a7f", func := "loop.example/kleenetests/laws.FnTestBelow", spec := "fnTestBelow", apart := false }
def FnTestBelowSaid : Prop := fnTestBelowRow.holds Try.pinned (OpenSpec.ofChange fnTestBelowSpec)

/-- ITS FALSE NEIGHBOUR: 'it returns false'. Refute it at one input. -/
def fnTestBelowWrong : ChangeSpec := { name := "fnTestBelow", fn := fun _ => fun
  | [d] => { results := [.lit (.bool false)], args := [d] }
  | _ => none }
def FnTestBelowWrongFalsely : Prop := fnTestBelowRow.holds Try.pinned (OpenSpec.ofChange fnTestBelowWrong)

/-- 'laws.FnTestOr': WHATEVER THE INPUT: true; the input reads as it did. -/
def fnTestOrSpec : ChangeSpec := { name := "fnTestOr", fn := fun _ => fun
  | [d1, d2] => { results := [.lit (.bool true)], args := [d1, d2] }
  | _ => none }
def fnTestOrRow : OpenClaim := { program := "ytajeknacjbkpiaa", sum := "6ba81732fcb5b155f4eb40060a5ac0e7f69cebaa509fb28ac129b34ab9c23a7f", func := "loop.example/kleenetests/laws.FnTestOr", spec := "fnTestOr", apart := false }
def FnTestOrSaid : Prop := fnTestOrRow.holds Try.pinned (OpenSpec.ofChange fnTestOrSpec)

/-- ITS FALSE NEIGHBOUR: 'it returns false'. Refute it at one input. -/
def fnTestOrWrong : ChangeSpec := { name := "fnTestOr", fn := fun _ => fun
  | [d1, d2] => { results := [.lit (.bool false)], args := [d1, d2] }
  | _ => none }
def FnTestOrWrongFalsely : Prop := fnTestOrRow.holds Try.pinned (OpenSpec.ofChange fnTestOrWrong)

/-- 'laws.FnExactTraceValid': WHATEVER THE INPUT: true; the input reads as it did. -/
def fnExactTraceValidSpec : ChangeSpec := { name := "fnExactTraceValid", fn := fun _ => fun
  | [d] => { results := [.lit (.bool true)], args := [d] }
  | _ => none }
def fnExactTraceValidRow : OpenClaim := { program := "ytajeknacjbkpiaa", sum := "6ba81732fcb5b155f4eb40060a5ac0e7f69cebaa509fb28ac129b34ab9c23a7f", func := "loop.example/kleenetests/laws.FnExactTraceValid", spec := "fnExactTraceValid", apart := false }
def FnExactTraceValidSaid : Prop := fnExactTraceValidRow.holds Try.pinned (OpenSpec.ofChange fnExactTraceValidSpec)

/-- ITS FALSE NEIGHBOUR: 'it returns false'. Refute it at one input. -/
def fnExactTraceValidWrong : ChangeSpec := { name := "fnExactTraceValid", fn := fun _ => fun
  | [d] => { results := [.lit (.bool false)], args := [d] }
  | _ => none }
def FnExactTraceValidWrongFalsely : Prop := fnExactTraceValidRow.holds Try.pinned (OpenSpec.ofChange fnExactTraceValidWrong)

/-- 'laws.FnTraceValid': WHATEVER THE INPUT: true; the input reads as it did. -/
def fnTraceValidSpec : ChangeSpec := { name := "fnTraceValid", fn := fun _ => fun
  | [d] => { results := [.lit (.bool true)], args := [d] }
  | _ => none }
def fnTraceValidRow : OpenClaim := { program := "ytajeknacjbkpiaa", sum := "6ba81732fcb5b155f4eb40060a5ac0e7f69cebaa509fb28ac129b34ab9c23a7f", func := "loop.example/kleenetests/laws.FnTraceValid", spec := "fnTraceValid", apart := false }
def FnTraceValidSaid : Prop := fnTraceValidRow.holds Try.pinned (OpenSpec.ofChange fnTraceValidSpec)

/-- ITS FALSE NEIGHBOUR: 'it returns false'. Refute it at one input. -/
def fnTraceValidWrong : ChangeSpec := { name := "fnTraceValid", fn := fun _ => fun
  | [d] => { results := [.lit (.bool false)], args := [d] }
  | _ => none }
def FnTraceValidWrongFalsely : Prop := fnTraceValidRow.holds Try.pinned (OpenSpec.ofChange fnTraceValidWrong)

/-- 'laws.FnExactTraceJoin': WHATEVER THE INPUT: true; the input reads as it did. -/
def fnExactTraceJoinSpec : ChangeSpec := { name := "fnExactTraceJoin", fn := fun _ => fun
  | [d1, d2] => { results := [.lit (.bool true)], args := [d1, d2] }
  | _ => none }
def fnExactTraceJoinRow : OpenClaim := { program := "ytajeknacjbkpiaa", sum := "6ba81732fcb5b155f4eb40060a5ac0e7f69cebaa509fb28ac129b34ab9c23a7f", func := "loop.example/kleenetests/laws.FnExactTraceJoin", spec := "fnExactTraceJoin", apart := false }
def FnExactTraceJoinSaid : Prop := fnExactTraceJoinRow.holds Try.pinned (OpenSpec.ofChange fnExactTraceJoinSpec)

/-- ITS FALSE NEIGHBOUR: 'it returns false'. Refute it at one input. -/
def fnExactTraceJoinWrong : ChangeSpec := { name := "fnExactTraceJoin", fn := fun _ => fun
  | [d1, d2] => { results := [.lit (.bool false)], args := [d1, d2] }
  | _ => none }
def FnExactTraceJoinWrongFalsely : Prop := fnExactTraceJoinRow.holds Try.pinned (OpenSpec.ofChange fnExactTraceJoinWrong)

/-- 'laws.FnExactTraceBack': WHATEVER THE INPUT: true; the input reads as it did. -/
def fnExactTraceBackSpec : ChangeSpec := { name := "fnExactTraceBack", fn := fun _ => fun
  | [d] => { results := [.lit (.bool true)], args := [d] }
  | _ => none }
def fnExactTraceBackRow : OpenClaim := { program := "ytajeknacjbkpiaa", sum := "6ba81732fcb5b155f4eb40060a5ac0e7f69cebaa509fb28ac129b34ab9c23a7f", func := "loop.example/kleenetests/laws.FnExactTraceBack", spec := "fnExactTraceBack", apart := false }
def FnExactTraceBackSaid : Prop := fnExactTraceBackRow.holds Try.pinned (OpenSpec.ofChange fnExactTraceBackSpec)

/-- ITS FALSE NEIGHBOUR: 'it returns false'. Refute it at one input. -/
def fnExactTraceBackWrong : ChangeSpec := { name := "fnExactTraceBack", fn := fun _ => fun
  | [d] => { results := [.lit (.bool false)], args := [d] }
  | _ => none }
def FnExactTraceBackWrongFalsely : Prop := fnExactTraceBackRow.holds Try.pinned (OpenSpec.ofChange fnExactTraceBackWrong)

/-- 'laws.FnTraceBack': WHATEVER THE INPUT: true; the input reads as it did. -/
def fnTraceBackSpec : ChangeSpec := { name := "fnTraceBack", fn := fun _ => fun
  | [d] => { results := [.lit (.bool true)], args := [d] }
  | _ => none }
def fnTraceBackRow : OpenClaim := { program := "ytajeknacjbkpiaa", sum := "6ba81732fcb5b155f4eb40060a5ac0e7f69cebaa509fb28ac129b34ab9c23a7f", func := "loop.example/kleenetests/laws.FnTraceBack", spec := "fnTraceBack", apart := false }
def FnTraceBackSaid : Prop := fnTraceBackRow.holds Try.pinned (OpenSpec.ofChange fnTraceBackSpec)

/-- ITS FALSE NEIGHBOUR: 'it returns false'. Refute it at one input. -/
def fnTraceBackWrong : ChangeSpec := { name := "fnTraceBack", fn := fun _ => fun
  | [d] => { results := [.lit (.bool false)], args := [d] }
  | _ => none }
def FnTraceBackWrongFalsely : Prop := fnTraceBackRow.holds Try.pinned (OpenSpec.ofChange fnTraceBackWrong)

/- THE SECOND FORM. 'bulk': how many values and letters a reading holds, each counted each time it is reached (what is shared counts as often as it is met; a slice's spare places count too). A statement '..UptoSaid' is the law's where the arguments, and the package variables that the reading takes, are together of bulk at most 1048576: NARROWER than '..Said'. Prove '..Said' where nothing that the law and all that it calls make is longer than what came in: it says more and counts as full. Else prove '..UptoSaid'. A law counts once. -/
mutual
def uptoBulk {H : Type} : DataW H → Nat
  | .lit (.string bytes) => bytes.length + 1
  | .lit _ => 1
  | .nil => 1
  | .ptr d => uptoBulk d + 1
  | .slice elems spare => uptoBulkAll elems + uptoBulkAll spare + 1
  | .agg parts => uptoBulkAll parts + 1
  | .iface _ d => uptoBulk d + 1
  | .map entries => uptoBulkEntries entries + 1
  | .held _ => 1
def uptoBulkAll {H : Type} : List (DataW H) → Nat
  | [] => 0
  | d :: r => uptoBulk d + uptoBulkAll r
def uptoBulkEntries {H : Type} : List (Lit × DataW H) → Nat
  | [] => 0
  | x :: r => uptoBulkEntry x + uptoBulkEntries r
def uptoBulkEntry {H : Type} : Lit × DataW H → Nat
  | (.string bytes, d) => bytes.length + uptoBulk d + 1
  | (_, d) => uptoBulk d + 1
 end
def uptoSmall : (H : Type) → List (DataW H) → Bool := fun _ ds => decide (uptoBulkAll ds ≤ 1048576)
def OpenSpec.upto (s : _root_.Go.ChangeSpec) : _root_.Go.OpenSpec := { _root_.Go.OpenSpec.ofChange s with cond := some uptoSmall }

/-- 'laws.FnTestAnd', WHERE WHAT IT READS IS OF BULK AT MOST 1048576: true; the input reads as it did. -/
def fnTestAndUptoRow : OpenClaim := { program := "ytajeknacjbkpiaa", sum := "6ba81732fcb5b155f4eb40060a5ac0e7f69cebaa509fb28ac129b34ab9c23a7f", func := "loop.example/kleenetests/laws.FnTestAnd", spec := "fnTestAnd", apart := false, narrowed := true }
def FnTestAndUptoSaid : Prop := fnTestAndUptoRow.holds Try.pinned (OpenSpec.upto fnTestAndSpec)

/-- 'laws.FnTestBelow', WHERE WHAT IT READS IS OF BULK AT MOST 1048576: true; the input reads as it did. -/
def fnTestBelowUptoRow : OpenClaim := { program := "ytajeknacjbkpiaa", sum := "6ba81732fcb5b155f4eb40060a5ac0e7f69cebaa509fb28ac129b34ab9c23a7f", func := "loop.example/kleenetests/laws.FnTestBelow", spec := "fnTestBelow", apart := false, narrowed := true }
def FnTestBelowUptoSaid : Prop := fnTestBelowUptoRow.holds Try.pinned (OpenSpec.upto fnTestBelowSpec)

/-- 'laws.FnTestOr', WHERE WHAT IT READS IS OF BULK AT MOST 1048576: true; the input reads as it did. -/
def fnTestOrUptoRow : OpenClaim := { program := "ytajeknacjbkpiaa", sum := "6ba81732fcb5b155f4eb40060a5ac0e7f69cebaa509fb28ac129b34ab9c23a7f", func := "loop.example/kleenetests/laws.FnTestOr", spec := "fnTestOr", apart := false, narrowed := true }
def FnTestOrUptoSaid : Prop := fnTestOrUptoRow.holds Try.pinned (OpenSpec.upto fnTestOrSpec)

/-- 'laws.FnExactTraceValid', WHERE WHAT IT READS IS OF BULK AT MOST 1048576: true; the input reads as it did. -/
def fnExactTraceValidUptoRow : OpenClaim := { program := "ytajeknacjbkpiaa", sum := "6ba81732fcb5b155f4eb40060a5ac0e7f69cebaa509fb28ac129b34ab9c23a7f", func := "loop.example/kleenetests/laws.FnExactTraceValid", spec := "fnExactTraceValid", apart := false, narrowed := true }
def FnExactTraceValidUptoSaid : Prop := fnExactTraceValidUptoRow.holds Try.pinned (OpenSpec.upto fnExactTraceValidSpec)

/-- 'laws.FnTraceValid', WHERE WHAT IT READS IS OF BULK AT MOST 1048576: true; the input reads as it did. -/
def fnTraceValidUptoRow : OpenClaim := { program := "ytajeknacjbkpiaa", sum := "6ba81732fcb5b155f4eb40060a5ac0e7f69cebaa509fb28ac129b34ab9c23a7f", func := "loop.example/kleenetests/laws.FnTraceValid", spec := "fnTraceValid", apart := false, narrowed := true }
def FnTraceValidUptoSaid : Prop := fnTraceValidUptoRow.holds Try.pinned (OpenSpec.upto fnTraceValidSpec)

/-- 'laws.FnExactTraceJoin', WHERE WHAT IT READS IS OF BULK AT MOST 1048576: true; the input reads as it did. -/
def fnExactTraceJoinUptoRow : OpenClaim := { program := "ytajeknacjbkpiaa", sum := "6ba81732fcb5b155f4eb40060a5ac0e7f69cebaa509fb28ac129b34ab9c23a7f", func := "loop.example/kleenetests/laws.FnExactTraceJoin", spec := "fnExactTraceJoin", apart := false, narrowed := true }
def FnExactTraceJoinUptoSaid : Prop := fnExactTraceJoinUptoRow.holds Try.pinned (OpenSpec.upto fnExactTraceJoinSpec)

/-- 'laws.FnExactTraceBack', WHERE WHAT IT READS IS OF BULK AT MOST 1048576: true; the input reads as it did. -/
def fnExactTraceBackUptoRow : OpenClaim := { program := "ytajeknacjbkpiaa", sum := "6ba81732fcb5b155f4eb40060a5ac0e7f69cebaa509fb28ac129b34ab9c23a7f", func := "loop.example/kleenetests/laws.FnExactTraceBack", spec := "fnExactTraceBack", apart := false, narrowed := true }
def FnExactTraceBackUptoSaid : Prop := fnExactTraceBackUptoRow.holds Try.pinned (OpenSpec.upto fnExactTraceBackSpec)

/-- 'laws.FnTraceBack', WHERE WHAT IT READS IS OF BULK AT MOST 1048576: true; the input reads as it did. -/
def fnTraceBackUptoRow : OpenClaim := { program := "ytajeknacjbkpiaa", sum := "6ba81732fcb5b155f4eb40060a5ac0e7f69cebaa509fb28ac129b34ab9c23a7f", func := "loop.example/kleenetests/laws.FnTraceBack", spec := "fnTraceBack", apart := false, narrowed := true }
def FnTraceBackUptoSaid : Prop := fnTraceBackUptoRow.holds Try.pinned (OpenSpec.upto fnTraceBackSpec)

end Rows
end Go.Proofs.Ytajeknacjbkpiaa
