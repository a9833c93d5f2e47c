/-
  No cell of these rows narrows 'for every input' (looked for: loops, veiled, ifaces, maps, wideKeys, modest, calm, conditions, laid).
  DERIVED. THE GIVEN ROWS OF THIS SEAT. 11 by the template 'for every input the law returns true; each argument reads behind the call as it read before'; 0 by the template 'total and deterministic' (their statements: YtlnkkjmejmhaiaaTotals.lean).
  GIVEN WITH THE SEED: the statements are not yours to turn. If you find one false, say at which input.
  Laid BY PROGRAM, IN A SANDBOX (cutbox-rows.mjs): the forced cells as the released guide's own fill.sh prints them over the translation 0e8a45fdbd93b0b5… (all of the seat's roots in one cut). By AI agents, Wed Nov 11 2026. No macro, syntax, notation, axiom, sorry.
-/
import Derived.Test.YtlnkkjmejmhaiaaChecked
import GoSem.Claim
import GoSem.ClaimJoined
import GoSem.ClaimMapViews
import Derived.JoinedTies
import Derived.KernelRfl
namespace Go.Proofs.Ytlnkkjmejmhaiaa
/- THE CELL 'sum', in the pinned program and in every row, IS THE sha256 OF THE DUMP (.gsa) THAT YtlnkkjmejmhaiaaProg.lean LOADS. Nothing in Lean hashes anything: it is a label: what it is worth is what the hold of that sum in a sandbox is worth. -/
noncomputable def Try.pinned : Pinned := { name := "ytlnkkjmejmhaiaa", sum := "0e8a45fdbd93b0b5bef4490e72e14c3a703a4c0047a75d44eb45d93419608e65", checked := Try.checked }
namespace Rows
def none {H : Type} : Left H := { results := [], args := [] }

/-- 'laws.FnExactKatBack': WHATEVER THE INPUT: true; the input reads as it did. -/
def fnExactKatBackSpec : ChangeSpec := { name := "fnExactKatBack", fn := fun _ => fun
  | [d] => { results := [.lit (.bool true)], args := [d] }
  | _ => none }
def fnExactKatBackRow : OpenClaim := { program := "ytlnkkjmejmhaiaa", sum := "0e8a45fdbd93b0b5bef4490e72e14c3a703a4c0047a75d44eb45d93419608e65", func := "loop.example/kleenetests/laws.FnExactKatBack", spec := "fnExactKatBack", recurses := true, plainKeys := false, apart := false }
def FnExactKatBackSaid : Prop := fnExactKatBackRow.holds Try.pinned (OpenSpec.ofChange fnExactKatBackSpec)

/-- ITS FALSE NEIGHBOUR: 'it returns false'. Refute it at one input. -/
def fnExactKatBackWrong : ChangeSpec := { name := "fnExactKatBack", fn := fun _ => fun
  | [d] => { results := [.lit (.bool false)], args := [d] }
  | _ => none }
def FnExactKatBackWrongFalsely : Prop := fnExactKatBackRow.holds Try.pinned (OpenSpec.ofChange fnExactKatBackWrong)

/-- 'laws.FnKatActs': WHATEVER THE INPUT: true; the input reads as it did. -/
def fnKatActsSpec : ChangeSpec := { name := "fnKatActs", fn := fun _ => fun
  | [d] => { results := [.lit (.bool true)], args := [d] }
  | _ => none }
def fnKatActsRow : OpenClaim := { program := "ytlnkkjmejmhaiaa", sum := "0e8a45fdbd93b0b5bef4490e72e14c3a703a4c0047a75d44eb45d93419608e65", func := "loop.example/kleenetests/laws.FnKatActs", spec := "fnKatActs", recurses := true, plainKeys := false, apart := false }
def FnKatActsSaid : Prop := fnKatActsRow.holds Try.pinned (OpenSpec.ofChange fnKatActsSpec)

/-- ITS FALSE NEIGHBOUR: 'it returns false'. Refute it at one input. -/
def fnKatActsWrong : ChangeSpec := { name := "fnKatActs", fn := fun _ => fun
  | [d] => { results := [.lit (.bool false)], args := [d] }
  | _ => none }
def FnKatActsWrongFalsely : Prop := fnKatActsRow.holds Try.pinned (OpenSpec.ofChange fnKatActsWrong)

/-- 'laws.FnKatBack': WHATEVER THE INPUT: true; the input reads as it did. -/
def fnKatBackSpec : ChangeSpec := { name := "fnKatBack", fn := fun _ => fun
  | [d] => { results := [.lit (.bool true)], args := [d] }
  | _ => none }
def fnKatBackRow : OpenClaim := { program := "ytlnkkjmejmhaiaa", sum := "0e8a45fdbd93b0b5bef4490e72e14c3a703a4c0047a75d44eb45d93419608e65", func := "loop.example/kleenetests/laws.FnKatBack", spec := "fnKatBack", recurses := true, plainKeys := false, apart := false }
def FnKatBackSaid : Prop := fnKatBackRow.holds Try.pinned (OpenSpec.ofChange fnKatBackSpec)

/-- ITS FALSE NEIGHBOUR: 'it returns false'. Refute it at one input. -/
def fnKatBackWrong : ChangeSpec := { name := "fnKatBack", fn := fun _ => fun
  | [d] => { results := [.lit (.bool false)], args := [d] }
  | _ => none }
def FnKatBackWrongFalsely : Prop := fnKatBackRow.holds Try.pinned (OpenSpec.ofChange fnKatBackWrong)

/-- 'laws.FnKatThen': WHATEVER THE INPUT: true; the input reads as it did. -/
def fnKatThenSpec : ChangeSpec := { name := "fnKatThen", fn := fun _ => fun
  | [d] => { results := [.lit (.bool true)], args := [d] }
  | _ => none }
def fnKatThenRow : OpenClaim := { program := "ytlnkkjmejmhaiaa", sum := "0e8a45fdbd93b0b5bef4490e72e14c3a703a4c0047a75d44eb45d93419608e65", func := "loop.example/kleenetests/laws.FnKatThen", spec := "fnKatThen", recurses := true, plainKeys := false, apart := false }
def FnKatThenSaid : Prop := fnKatThenRow.holds Try.pinned (OpenSpec.ofChange fnKatThenSpec)

/-- ITS FALSE NEIGHBOUR: 'it returns false'. Refute it at one input. -/
def fnKatThenWrong : ChangeSpec := { name := "fnKatThen", fn := fun _ => fun
  | [d] => { results := [.lit (.bool false)], args := [d] }
  | _ => none }
def FnKatThenWrongFalsely : Prop := fnKatThenRow.holds Try.pinned (OpenSpec.ofChange fnKatThenWrong)

/-- 'laws.FnExactTraceIn': WHATEVER THE INPUT: true; the input reads as it did. -/
def fnExactTraceInSpec : ChangeSpec := { name := "fnExactTraceIn", fn := fun _ => fun
  | [d1, d2] => { results := [.lit (.bool true)], args := [d1, d2] }
  | _ => none }
def fnExactTraceInRow : OpenClaim := { program := "ytlnkkjmejmhaiaa", sum := "0e8a45fdbd93b0b5bef4490e72e14c3a703a4c0047a75d44eb45d93419608e65", func := "loop.example/kleenetests/laws.FnExactTraceIn", spec := "fnExactTraceIn", recurses := true, plainKeys := false, apart := false }
def FnExactTraceInSaid : Prop := fnExactTraceInRow.holds Try.pinned (OpenSpec.ofChange fnExactTraceInSpec)

/-- ITS FALSE NEIGHBOUR: 'it returns false'. Refute it at one input. -/
def fnExactTraceInWrong : ChangeSpec := { name := "fnExactTraceIn", fn := fun _ => fun
  | [d1, d2] => { results := [.lit (.bool false)], args := [d1, d2] }
  | _ => none }
def FnExactTraceInWrongFalsely : Prop := fnExactTraceInRow.holds Try.pinned (OpenSpec.ofChange fnExactTraceInWrong)

/-- 'laws.FnTraceIn': WHATEVER THE INPUT: true; the input reads as it did. -/
def fnTraceInSpec : ChangeSpec := { name := "fnTraceIn", fn := fun _ => fun
  | [d] => { results := [.lit (.bool true)], args := [d] }
  | _ => none }
def fnTraceInRow : OpenClaim := { program := "ytlnkkjmejmhaiaa", sum := "0e8a45fdbd93b0b5bef4490e72e14c3a703a4c0047a75d44eb45d93419608e65", func := "loop.example/kleenetests/laws.FnTraceIn", spec := "fnTraceIn", recurses := true, plainKeys := false, apart := false }
def FnTraceInSaid : Prop := fnTraceInRow.holds Try.pinned (OpenSpec.ofChange fnTraceInSpec)

/-- ITS FALSE NEIGHBOUR: 'it returns false'. Refute it at one input. -/
def fnTraceInWrong : ChangeSpec := { name := "fnTraceIn", fn := fun _ => fun
  | [d] => { results := [.lit (.bool false)], args := [d] }
  | _ => none }
def FnTraceInWrongFalsely : Prop := fnTraceInRow.holds Try.pinned (OpenSpec.ofChange fnTraceInWrong)

/-- 'laws.FnExactTracesOf': WHATEVER THE INPUT: true; the input reads as it did. -/
def fnExactTracesOfSpec : ChangeSpec := { name := "fnExactTracesOf", fn := fun _ => fun
  | [d1, d2] => { results := [.lit (.bool true)], args := [d1, d2] }
  | _ => none }
def fnExactTracesOfRow : OpenClaim := { program := "ytlnkkjmejmhaiaa", sum := "0e8a45fdbd93b0b5bef4490e72e14c3a703a4c0047a75d44eb45d93419608e65", func := "loop.example/kleenetests/laws.FnExactTracesOf", spec := "fnExactTracesOf", unfollowed := true, recurses := true, plainKeys := false, apart := false }
def FnExactTracesOfSaid : Prop := fnExactTracesOfRow.holds Try.pinned (OpenSpec.ofChange fnExactTracesOfSpec)

/-- ITS FALSE NEIGHBOUR: 'it returns false'. Refute it at one input. -/
def fnExactTracesOfWrong : ChangeSpec := { name := "fnExactTracesOf", fn := fun _ => fun
  | [d1, d2] => { results := [.lit (.bool false)], args := [d1, d2] }
  | _ => none }
def FnExactTracesOfWrongFalsely : Prop := fnExactTracesOfRow.holds Try.pinned (OpenSpec.ofChange fnExactTracesOfWrong)

/-- 'laws.FnTracesOf': WHATEVER THE INPUT: true; the input reads as it did. -/
def fnTracesOfSpec : ChangeSpec := { name := "fnTracesOf", fn := fun _ => fun
  | [d] => { results := [.lit (.bool true)], args := [d] }
  | _ => none }
def fnTracesOfRow : OpenClaim := { program := "ytlnkkjmejmhaiaa", sum := "0e8a45fdbd93b0b5bef4490e72e14c3a703a4c0047a75d44eb45d93419608e65", func := "loop.example/kleenetests/laws.FnTracesOf", spec := "fnTracesOf", unfollowed := true, recurses := true, plainKeys := false, apart := false }
def FnTracesOfSaid : Prop := fnTracesOfRow.holds Try.pinned (OpenSpec.ofChange fnTracesOfSpec)

/-- ITS FALSE NEIGHBOUR: 'it returns false'. Refute it at one input. -/
def fnTracesOfWrong : ChangeSpec := { name := "fnTracesOf", fn := fun _ => fun
  | [d] => { results := [.lit (.bool false)], args := [d] }
  | _ => none }
def FnTracesOfWrongFalsely : Prop := fnTracesOfRow.holds Try.pinned (OpenSpec.ofChange fnTracesOfWrong)

/-- 'laws.FnExactAllTraces': WHATEVER THE INPUT: true; the input reads as it did. -/
def fnExactAllTracesSpec : ChangeSpec := { name := "fnExactAllTraces", fn := fun _ => fun
  | [d] => { results := [.lit (.bool true)], args := [d] }
  | _ => none }
def fnExactAllTracesRow : OpenClaim := { program := "ytlnkkjmejmhaiaa", sum := "0e8a45fdbd93b0b5bef4490e72e14c3a703a4c0047a75d44eb45d93419608e65", func := "loop.example/kleenetests/laws.FnExactAllTraces", spec := "fnExactAllTraces", recurses := true, plainKeys := false, apart := false }
def FnExactAllTracesSaid : Prop := fnExactAllTracesRow.holds Try.pinned (OpenSpec.ofChange fnExactAllTracesSpec)

/-- ITS FALSE NEIGHBOUR: 'it returns false'. Refute it at one input. -/
def fnExactAllTracesWrong : ChangeSpec := { name := "fnExactAllTraces", fn := fun _ => fun
  | [d] => { results := [.lit (.bool false)], args := [d] }
  | _ => none }
def FnExactAllTracesWrongFalsely : Prop := fnExactAllTracesRow.holds Try.pinned (OpenSpec.ofChange fnExactAllTracesWrong)

/-- 'laws.FnAllTraces': WHATEVER THE INPUT: true; the input reads as it did. -/
def fnAllTracesSpec : ChangeSpec := { name := "fnAllTraces", fn := fun _ => fun
  | [d] => { results := [.lit (.bool true)], args := [d] }
  | _ => none }
def fnAllTracesRow : OpenClaim := { program := "ytlnkkjmejmhaiaa", sum := "0e8a45fdbd93b0b5bef4490e72e14c3a703a4c0047a75d44eb45d93419608e65", func := "loop.example/kleenetests/laws.FnAllTraces", spec := "fnAllTraces", recurses := true, plainKeys := false, apart := false }
def FnAllTracesSaid : Prop := fnAllTracesRow.holds Try.pinned (OpenSpec.ofChange fnAllTracesSpec)

/-- ITS FALSE NEIGHBOUR: 'it returns false'. Refute it at one input. -/
def fnAllTracesWrong : ChangeSpec := { name := "fnAllTraces", fn := fun _ => fun
  | [d] => { results := [.lit (.bool false)], args := [d] }
  | _ => none }
def FnAllTracesWrongFalsely : Prop := fnAllTracesRow.holds Try.pinned (OpenSpec.ofChange fnAllTracesWrong)

/-- 'laws.FnExactTracesMany': WHATEVER THE INPUT: true; the input reads as it did. -/
def fnExactTracesManySpec : ChangeSpec := { name := "fnExactTracesMany", fn := fun _ => fun
  | [d1, d2] => { results := [.lit (.bool true)], args := [d1, d2] }
  | _ => none }
def fnExactTracesManyRow : OpenClaim := { program := "ytlnkkjmejmhaiaa", sum := "0e8a45fdbd93b0b5bef4490e72e14c3a703a4c0047a75d44eb45d93419608e65", func := "loop.example/kleenetests/laws.FnExactTracesMany", spec := "fnExactTracesMany", unfollowed := true, recurses := true, plainKeys := false, apart := false }
def FnExactTracesManySaid : Prop := fnExactTracesManyRow.holds Try.pinned (OpenSpec.ofChange fnExactTracesManySpec)

/-- ITS FALSE NEIGHBOUR: 'it returns false'. Refute it at one input. -/
def fnExactTracesManyWrong : ChangeSpec := { name := "fnExactTracesMany", fn := fun _ => fun
  | [d1, d2] => { results := [.lit (.bool false)], args := [d1, d2] }
  | _ => none }
def FnExactTracesManyWrongFalsely : Prop := fnExactTracesManyRow.holds Try.pinned (OpenSpec.ofChange fnExactTracesManyWrong)

/- THE SECOND FORM. 'bulk': how many values and letters a reading holds, each counted each time it is reached (what is shared counts as often as it is met; a slice's spare places count too). A statement '..UptoSaid' is the law's where the arguments, and the package variables that the reading takes, are together of bulk at most 1048576: NARROWER than '..Said'. Prove '..Said' where nothing that the law and all that it calls make is longer than what came in: it says more and counts as full. Else prove '..UptoSaid'. A law counts once. -/
mutual
def uptoBulk {H : Type} : DataW H → Nat
  | .lit (.string bytes) => bytes.length + 1
  | .lit _ => 1
  | .nil => 1
  | .ptr d => uptoBulk d + 1
  | .slice elems spare => uptoBulkAll elems + uptoBulkAll spare + 1
  | .agg parts => uptoBulkAll parts + 1
  | .iface _ d => uptoBulk d + 1
  | .map entries => uptoBulkEntries entries + 1
  | .held _ => 1
def uptoBulkAll {H : Type} : List (DataW H) → Nat
  | [] => 0
  | d :: r => uptoBulk d + uptoBulkAll r
def uptoBulkEntries {H : Type} : List (Lit × DataW H) → Nat
  | [] => 0
  | x :: r => uptoBulkEntry x + uptoBulkEntries r
def uptoBulkEntry {H : Type} : Lit × DataW H → Nat
  | (.string bytes, d) => bytes.length + uptoBulk d + 1
  | (_, d) => uptoBulk d + 1
 end
def uptoSmall : (H : Type) → List (DataW H) → Bool := fun _ ds => decide (uptoBulkAll ds ≤ 1048576)
def OpenSpec.upto (s : _root_.Go.ChangeSpec) : _root_.Go.OpenSpec := { _root_.Go.OpenSpec.ofChange s with cond := some uptoSmall }

/-- 'laws.FnExactKatBack', WHERE WHAT IT READS IS OF BULK AT MOST 1048576: true; the input reads as it did. -/
def fnExactKatBackUptoRow : OpenClaim := { program := "ytlnkkjmejmhaiaa", sum := "0e8a45fdbd93b0b5bef4490e72e14c3a703a4c0047a75d44eb45d93419608e65", func := "loop.example/kleenetests/laws.FnExactKatBack", spec := "fnExactKatBack", recurses := true, plainKeys := false, apart := false, narrowed := true }
def FnExactKatBackUptoSaid : Prop := fnExactKatBackUptoRow.holds Try.pinned (OpenSpec.upto fnExactKatBackSpec)

/-- 'laws.FnKatActs', WHERE WHAT IT READS IS OF BULK AT MOST 1048576: true; the input reads as it did. -/
def fnKatActsUptoRow : OpenClaim := { program := "ytlnkkjmejmhaiaa", sum := "0e8a45fdbd93b0b5bef4490e72e14c3a703a4c0047a75d44eb45d93419608e65", func := "loop.example/kleenetests/laws.FnKatActs", spec := "fnKatActs", recurses := true, plainKeys := false, apart := false, narrowed := true }
def FnKatActsUptoSaid : Prop := fnKatActsUptoRow.holds Try.pinned (OpenSpec.upto fnKatActsSpec)

/-- 'laws.FnKatBack', WHERE WHAT IT READS IS OF BULK AT MOST 1048576: true; the input reads as it did. -/
def fnKatBackUptoRow : OpenClaim := { program := "ytlnkkjmejmhaiaa", sum := "0e8a45fdbd93b0b5bef4490e72e14c3a703a4c0047a75d44eb45d93419608e65", func := "loop.example/kleenetests/laws.FnKatBack", spec := "fnKatBack", recurses := true, plainKeys := false, apart := false, narrowed := true }
def FnKatBackUptoSaid : Prop := fnKatBackUptoRow.holds Try.pinned (OpenSpec.upto fnKatBackSpec)

/-- 'laws.FnKatThen', WHERE WHAT IT READS IS OF BULK AT MOST 1048576: true; the input reads as it did. -/
def fnKatThenUptoRow : OpenClaim := { program := "ytlnkkjmejmhaiaa", sum := "0e8a45fdbd93b0b5bef4490e72e14c3a703a4c0047a75d44eb45d93419608e65", func := "loop.example/kleenetests/laws.FnKatThen", spec := "fnKatThen", recurses := true, plainKeys := false, apart := false, narrowed := true }
def FnKatThenUptoSaid : Prop := fnKatThenUptoRow.holds Try.pinned (OpenSpec.upto fnKatThenSpec)

/-- 'laws.FnExactTraceIn', WHERE WHAT IT READS IS OF BULK AT MOST 1048576: true; the input reads as it did. -/
def fnExactTraceInUptoRow : OpenClaim := { program := "ytlnkkjmejmhaiaa", sum := "0e8a45fdbd93b0b5bef4490e72e14c3a703a4c0047a75d44eb45d93419608e65", func := "loop.example/kleenetests/laws.FnExactTraceIn", spec := "fnExactTraceIn", recurses := true, plainKeys := false, apart := false, narrowed := true }
def FnExactTraceInUptoSaid : Prop := fnExactTraceInUptoRow.holds Try.pinned (OpenSpec.upto fnExactTraceInSpec)

/-- 'laws.FnTraceIn', WHERE WHAT IT READS IS OF BULK AT MOST 1048576: true; the input reads as it did. -/
def fnTraceInUptoRow : OpenClaim := { program := "ytlnkkjmejmhaiaa", sum := "0e8a45fdbd93b0b5bef4490e72e14c3a703a4c0047a75d44eb45d93419608e65", func := "loop.example/kleenetests/laws.FnTraceIn", spec := "fnTraceIn", recurses := true, plainKeys := false, apart := false, narrowed := true }
def FnTraceInUptoSaid : Prop := fnTraceInUptoRow.holds Try.pinned (OpenSpec.upto fnTraceInSpec)

/-- 'laws.FnExactTracesOf', WHERE WHAT IT READS IS OF BULK AT MOST 1048576: true; the input reads as it did. -/
def fnExactTracesOfUptoRow : OpenClaim := { program := "ytlnkkjmejmhaiaa", sum := "0e8a45fdbd93b0b5bef4490e72e14c3a703a4c0047a75d44eb45d93419608e65", func := "loop.example/kleenetests/laws.FnExactTracesOf", spec := "fnExactTracesOf", unfollowed := true, recurses := true, plainKeys := false, apart := false, narrowed := true }
def FnExactTracesOfUptoSaid : Prop := fnExactTracesOfUptoRow.holds Try.pinned (OpenSpec.upto fnExactTracesOfSpec)

/-- 'laws.FnTracesOf', WHERE WHAT IT READS IS OF BULK AT MOST 1048576: true; the input reads as it did. -/
def fnTracesOfUptoRow : OpenClaim := { program := "ytlnkkjmejmhaiaa", sum := "0e8a45fdbd93b0b5bef4490e72e14c3a703a4c0047a75d44eb45d93419608e65", func := "loop.example/kleenetests/laws.FnTracesOf", spec := "fnTracesOf", unfollowed := true, recurses := true, plainKeys := false, apart := false, narrowed := true }
def FnTracesOfUptoSaid : Prop := fnTracesOfUptoRow.holds Try.pinned (OpenSpec.upto fnTracesOfSpec)

/-- 'laws.FnExactAllTraces', WHERE WHAT IT READS IS OF BULK AT MOST 1048576: true; the input reads as it did. -/
def fnExactAllTracesUptoRow : OpenClaim := { program := "ytlnkkjmejmhaiaa", sum := "0e8a45fdbd93b0b5bef4490e72e14c3a703a4c0047a75d44eb45d93419608e65", func := "loop.example/kleenetests/laws.FnExactAllTraces", spec := "fnExactAllTraces", recurses := true, plainKeys := false, apart := false, narrowed := true }
def FnExactAllTracesUptoSaid : Prop := fnExactAllTracesUptoRow.holds Try.pinned (OpenSpec.upto fnExactAllTracesSpec)

/-- 'laws.FnAllTraces', WHERE WHAT IT READS IS OF BULK AT MOST 1048576: true; the input reads as it did. -/
def fnAllTracesUptoRow : OpenClaim := { program := "ytlnkkjmejmhaiaa", sum := "0e8a45fdbd93b0b5bef4490e72e14c3a703a4c0047a75d44eb45d93419608e65", func := "loop.example/kleenetests/laws.FnAllTraces", spec := "fnAllTraces", recurses := true, plainKeys := false, apart := false, narrowed := true }
def FnAllTracesUptoSaid : Prop := fnAllTracesUptoRow.holds Try.pinned (OpenSpec.upto fnAllTracesSpec)

/-- 'laws.FnExactTracesMany', WHERE WHAT IT READS IS OF BULK AT MOST 1048576: true; the input reads as it did. -/
def fnExactTracesManyUptoRow : OpenClaim := { program := "ytlnkkjmejmhaiaa", sum := "0e8a45fdbd93b0b5bef4490e72e14c3a703a4c0047a75d44eb45d93419608e65", func := "loop.example/kleenetests/laws.FnExactTracesMany", spec := "fnExactTracesMany", unfollowed := true, recurses := true, plainKeys := false, apart := false, narrowed := true }
def FnExactTracesManyUptoSaid : Prop := fnExactTracesManyUptoRow.holds Try.pinned (OpenSpec.upto fnExactTracesManySpec)

end Rows
end Go.Proofs.Ytlnkkjmejmhaiaa
