/-
  NARROWER THAN 'FOR EVERY INPUT', by the rows' own cells (each row's printed sentence says how): FnExactTestText: maps, laid · FnExactReadTest: maps, laid · FnTestText: maps, laid · FnReadTest: maps, laid.
  DERIVED. THE GIVEN ROWS OF THIS SEAT. 4 by the template 'for every input the law returns true; each argument reads behind the call as it read before'; 0 by the template 'total and deterministic' (their statements: YtajeknacjbkpiaaDoorTotals.lean).
  GIVEN WITH THE SEED: the statements are not yours to turn. If you find one false, say at which input.
  Laid BY PROGRAM, IN A SANDBOX (cutbox-rows.mjs): the forced cells as the released guide's own fill.sh prints them over the translation e42d0dfc46ee765b… (all of the seat's roots in one cut). By AI agents, Wed Nov 11 2026. No macro, syntax, notation, axiom, sorry.
-/
import Derived.Test.YtajeknacjbkpiaaDoorChecked
import GoSem.Claim
import GoSem.ClaimJoined
import GoSem.ClaimMapViews
import Derived.JoinedTies
import Derived.KernelRfl
namespace Go.Proofs.YtajeknacjbkpiaaDoor
/- THE CELL 'sum', in the pinned program and in every row, IS THE sha256 OF THE DUMP (.gsa) THAT YtajeknacjbkpiaaDoorProg.lean LOADS. Nothing in Lean hashes anything: it is a label: what it is worth is what the hold of that sum in a sandbox is worth. -/
noncomputable def Tryd.pinned : Pinned := { name := "ytajeknacjbkpiaadoor", sum := "e42d0dfc46ee765b90d9c30d6bafaa4ad4d3192f991a6f86fa5976f5ddfb8f7d", checked := Tryd.checked }
namespace Rows
def none {H : Type} : Left H := { results := [], args := [] }

/- WHAT THE LISTED PACKAGE-LEVEL VARIABLES READ AS WHEN THE CALL BEGINS. Each datum BY PROGRAM (the guide's laid-datum.mjs) off the statement by which the dump's own 'gosem.cut.vars' lays the variable. In a bare row this is a premise. The card (YtajeknacjbkpiaaDoorCards.lean) ties it to the program's text. -/
def laid_loop_example_kleenetests_impl_testNames {H : Type} : DataW H := .map [(.int .i64 0, .lit (.string [48])), (.int .i64 3, .lit (.string [33, 113])), (.int .i64 5, .lit (.string [33, 112])), (.int .i64 10, .lit (.string [112])), (.int .i64 12, .lit (.string [113])), (.int .i64 15, .lit (.string [49]))]

/-- 'laws.FnExactTestText': WHATEVER THE INPUT: true; the input reads as it did. -/
def fnExactTestTextSpec : ChangeSpec := { name := "fnExactTestText", vars := ["loop.example/kleenetests/impl.testNames"], fn := fun _ => fun
  | [d, g1] => { results := [.lit (.bool true)], args := [d], vars := [g1] }
  | _ => none }
def fnExactTestTextRow : OpenClaim := { program := "ytajeknacjbkpiaadoor", sum := "e42d0dfc46ee765b90d9c30d6bafaa4ad4d3192f991a6f86fa5976f5ddfb8f7d", func := "loop.example/kleenetests/laws.FnExactTestText", spec := "fnExactTestText", named := ["loop.example/kleenetests/impl.testNames"], maps := true, apart := false, laid := [("loop.example/kleenetests/impl.testNames", laid_loop_example_kleenetests_impl_testNames)] }
def FnExactTestTextSaid : Prop := fnExactTestTextRow.holds Tryd.pinned (OpenSpec.ofChange fnExactTestTextSpec)

/-- ITS FALSE NEIGHBOUR: 'it returns false'. Refute it at one input. -/
def fnExactTestTextWrong : ChangeSpec := { name := "fnExactTestText", vars := ["loop.example/kleenetests/impl.testNames"], fn := fun _ => fun
  | [d, g1] => { results := [.lit (.bool false)], args := [d], vars := [g1] }
  | _ => none }
def FnExactTestTextWrongFalsely : Prop := fnExactTestTextRow.holds Tryd.pinned (OpenSpec.ofChange fnExactTestTextWrong)

/-- 'laws.FnExactReadTest': WHATEVER THE INPUT: true; the input reads as it did. -/
def fnExactReadTestSpec : ChangeSpec := { name := "fnExactReadTest", vars := ["loop.example/kleenetests/impl.testNames"], fn := fun _ => fun
  | [d, g1] => { results := [.lit (.bool true)], args := [d], vars := [g1] }
  | _ => none }
def fnExactReadTestRow : OpenClaim := { program := "ytajeknacjbkpiaadoor", sum := "e42d0dfc46ee765b90d9c30d6bafaa4ad4d3192f991a6f86fa5976f5ddfb8f7d", func := "loop.example/kleenetests/laws.FnExactReadTest", spec := "fnExactReadTest", named := ["loop.example/kleenetests/impl.testNames"], maps := true, apart := false, laid := [("loop.example/kleenetests/impl.testNames", laid_loop_example_kleenetests_impl_testNames)] }
def FnExactReadTestSaid : Prop := fnExactReadTestRow.holds Tryd.pinned (OpenSpec.ofChange fnExactReadTestSpec)

/-- ITS FALSE NEIGHBOUR: 'it returns false'. Refute it at one input. -/
def fnExactReadTestWrong : ChangeSpec := { name := "fnExactReadTest", vars := ["loop.example/kleenetests/impl.testNames"], fn := fun _ => fun
  | [d, g1] => { results := [.lit (.bool false)], args := [d], vars := [g1] }
  | _ => none }
def FnExactReadTestWrongFalsely : Prop := fnExactReadTestRow.holds Tryd.pinned (OpenSpec.ofChange fnExactReadTestWrong)

/-- 'laws.FnTestText': WHATEVER THE INPUT: true; the input reads as it did. -/
def fnTestTextSpec : ChangeSpec := { name := "fnTestText", vars := ["loop.example/kleenetests/impl.testNames"], fn := fun _ => fun
  | [d, g1] => { results := [.lit (.bool true)], args := [d], vars := [g1] }
  | _ => none }
def fnTestTextRow : OpenClaim := { program := "ytajeknacjbkpiaadoor", sum := "e42d0dfc46ee765b90d9c30d6bafaa4ad4d3192f991a6f86fa5976f5ddfb8f7d", func := "loop.example/kleenetests/laws.FnTestText", spec := "fnTestText", named := ["loop.example/kleenetests/impl.testNames"], maps := true, apart := false, laid := [("loop.example/kleenetests/impl.testNames", laid_loop_example_kleenetests_impl_testNames)] }
def FnTestTextSaid : Prop := fnTestTextRow.holds Tryd.pinned (OpenSpec.ofChange fnTestTextSpec)

/-- ITS FALSE NEIGHBOUR: 'it returns false'. Refute it at one input. -/
def fnTestTextWrong : ChangeSpec := { name := "fnTestText", vars := ["loop.example/kleenetests/impl.testNames"], fn := fun _ => fun
  | [d, g1] => { results := [.lit (.bool false)], args := [d], vars := [g1] }
  | _ => none }
def FnTestTextWrongFalsely : Prop := fnTestTextRow.holds Tryd.pinned (OpenSpec.ofChange fnTestTextWrong)

/-- 'laws.FnReadTest': WHATEVER THE INPUT: true; the input reads as it did. -/
def fnReadTestSpec : ChangeSpec := { name := "fnReadTest", vars := ["loop.example/kleenetests/impl.testNames"], fn := fun _ => fun
  | [d, g1] => { results := [.lit (.bool true)], args := [d], vars := [g1] }
  | _ => none }
def fnReadTestRow : OpenClaim := { program := "ytajeknacjbkpiaadoor", sum := "e42d0dfc46ee765b90d9c30d6bafaa4ad4d3192f991a6f86fa5976f5ddfb8f7d", func := "loop.example/kleenetests/laws.FnReadTest", spec := "fnReadTest", named := ["loop.example/kleenetests/impl.testNames"], maps := true, apart := false, laid := [("loop.example/kleenetests/impl.testNames", laid_loop_example_kleenetests_impl_testNames)] }
def FnReadTestSaid : Prop := fnReadTestRow.holds Tryd.pinned (OpenSpec.ofChange fnReadTestSpec)

/-- ITS FALSE NEIGHBOUR: 'it returns false'. Refute it at one input. -/
def fnReadTestWrong : ChangeSpec := { name := "fnReadTest", vars := ["loop.example/kleenetests/impl.testNames"], fn := fun _ => fun
  | [d, g1] => { results := [.lit (.bool false)], args := [d], vars := [g1] }
  | _ => none }
def FnReadTestWrongFalsely : Prop := fnReadTestRow.holds Tryd.pinned (OpenSpec.ofChange fnReadTestWrong)

/- THE SECOND FORM. 'bulk': how many values and letters a reading holds, each counted each time it is reached (what is shared counts as often as it is met; a slice's spare places count too). A statement '..UptoSaid' is the law's where the arguments, and the package variables that the reading takes, are together of bulk at most 1048576: NARROWER than '..Said'. Prove '..Said' where nothing that the law and all that it calls make is longer than what came in: it says more and counts as full. Else prove '..UptoSaid'. A law counts once. -/
mutual
def uptoBulk {H : Type} : DataW H → Nat
  | .lit (.string bytes) => bytes.length + 1
  | .lit _ => 1
  | .nil => 1
  | .ptr d => uptoBulk d + 1
  | .slice elems spare => uptoBulkAll elems + uptoBulkAll spare + 1
  | .agg parts => uptoBulkAll parts + 1
  | .iface _ d => uptoBulk d + 1
  | .map entries => uptoBulkEntries entries + 1
  | .held _ => 1
def uptoBulkAll {H : Type} : List (DataW H) → Nat
  | [] => 0
  | d :: r => uptoBulk d + uptoBulkAll r
def uptoBulkEntries {H : Type} : List (Lit × DataW H) → Nat
  | [] => 0
  | x :: r => uptoBulkEntry x + uptoBulkEntries r
def uptoBulkEntry {H : Type} : Lit × DataW H → Nat
  | (.string bytes, d) => bytes.length + uptoBulk d + 1
  | (_, d) => uptoBulk d + 1
 end
def uptoSmall : (H : Type) → List (DataW H) → Bool := fun _ ds => decide (uptoBulkAll ds ≤ 1048576)
def OpenSpec.upto (s : _root_.Go.ChangeSpec) : _root_.Go.OpenSpec := { _root_.Go.OpenSpec.ofChange s with cond := some uptoSmall }

/-- 'laws.FnExactTestText', WHERE WHAT IT READS IS OF BULK AT MOST 1048576: true; the input reads as it did. -/
def fnExactTestTextUptoRow : OpenClaim := { program := "ytajeknacjbkpiaadoor", sum := "e42d0dfc46ee765b90d9c30d6bafaa4ad4d3192f991a6f86fa5976f5ddfb8f7d", func := "loop.example/kleenetests/laws.FnExactTestText", spec := "fnExactTestText", named := ["loop.example/kleenetests/impl.testNames"], maps := true, apart := false, laid := [("loop.example/kleenetests/impl.testNames", laid_loop_example_kleenetests_impl_testNames)], narrowed := true }
def FnExactTestTextUptoSaid : Prop := fnExactTestTextUptoRow.holds Tryd.pinned (OpenSpec.upto fnExactTestTextSpec)

/-- 'laws.FnExactReadTest', WHERE WHAT IT READS IS OF BULK AT MOST 1048576: true; the input reads as it did. -/
def fnExactReadTestUptoRow : OpenClaim := { program := "ytajeknacjbkpiaadoor", sum := "e42d0dfc46ee765b90d9c30d6bafaa4ad4d3192f991a6f86fa5976f5ddfb8f7d", func := "loop.example/kleenetests/laws.FnExactReadTest", spec := "fnExactReadTest", named := ["loop.example/kleenetests/impl.testNames"], maps := true, apart := false, laid := [("loop.example/kleenetests/impl.testNames", laid_loop_example_kleenetests_impl_testNames)], narrowed := true }
def FnExactReadTestUptoSaid : Prop := fnExactReadTestUptoRow.holds Tryd.pinned (OpenSpec.upto fnExactReadTestSpec)

/-- 'laws.FnTestText', WHERE WHAT IT READS IS OF BULK AT MOST 1048576: true; the input reads as it did. -/
def fnTestTextUptoRow : OpenClaim := { program := "ytajeknacjbkpiaadoor", sum := "e42d0dfc46ee765b90d9c30d6bafaa4ad4d3192f991a6f86fa5976f5ddfb8f7d", func := "loop.example/kleenetests/laws.FnTestText", spec := "fnTestText", named := ["loop.example/kleenetests/impl.testNames"], maps := true, apart := false, laid := [("loop.example/kleenetests/impl.testNames", laid_loop_example_kleenetests_impl_testNames)], narrowed := true }
def FnTestTextUptoSaid : Prop := fnTestTextUptoRow.holds Tryd.pinned (OpenSpec.upto fnTestTextSpec)

/-- 'laws.FnReadTest', WHERE WHAT IT READS IS OF BULK AT MOST 1048576: true; the input reads as it did. -/
def fnReadTestUptoRow : OpenClaim := { program := "ytajeknacjbkpiaadoor", sum := "e42d0dfc46ee765b90d9c30d6bafaa4ad4d3192f991a6f86fa5976f5ddfb8f7d", func := "loop.example/kleenetests/laws.FnReadTest", spec := "fnReadTest", named := ["loop.example/kleenetests/impl.testNames"], maps := true, apart := false, laid := [("loop.example/kleenetests/impl.testNames", laid_loop_example_kleenetests_impl_testNames)], narrowed := true }
def FnReadTestUptoSaid : Prop := fnReadTestUptoRow.holds Tryd.pinned (OpenSpec.upto fnReadTestSpec)

end Rows
end Go.Proofs.YtajeknacjbkpiaaDoor
