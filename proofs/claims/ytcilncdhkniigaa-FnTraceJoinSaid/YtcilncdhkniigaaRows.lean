/-
  No cell of these rows narrows 'for every input' (looked for: loops, veiled, ifaces, maps, wideKeys, modest, calm, conditions, laid).
  DERIVED. THE GIVEN ROWS OF THIS SEAT. 12 by the template 'for every input the law returns true; each argument reads behind the call as it read before'; 0 by the template 'total and deterministic' (their statements: YtcilncdhkniigaaTotals.lean).
  GIVEN WITH THE SEED: the statements are not yours to turn. If you find one false, say at which input.
  Laid BY PROGRAM, IN A SANDBOX (cutbox-rows.mjs): the forced cells as the released guide's own fill.sh prints them over the translation b4ac83496c722e6c… (all of the seat's roots in one cut). By AI agents, Wed Nov 11 2026. No macro, syntax, notation, axiom, sorry.
-/
import Derived.Test.YtcilncdhkniigaaChecked
import GoSem.Claim
import GoSem.ClaimJoined
import GoSem.ClaimMapViews
import Derived.JoinedTies
import Derived.KernelRfl
namespace Go.Proofs.Ytcilncdhkniigaa
/- THE CELL 'sum', in the pinned program and in every row, IS THE sha256 OF THE DUMP (.gsa) THAT YtcilncdhkniigaaProg.lean LOADS. Nothing in Lean hashes anything: it is a label: what it is worth is what the hold of that sum in a sandbox is worth. -/
noncomputable def Try.pinned : Pinned := { name := "ytcilncdhkniigaa", sum := "b4ac83496c722e6c6a2694d8f52bb73752a8aefb6b94930588fcd6e2699b154e", checked := Try.checked }
namespace Rows
def none {H : Type} : Left H := { results := [], args := [] }

/-- 'laws.FnTraceJoin': WHATEVER THE INPUT: true; the input reads as it did. -/
def fnTraceJoinSpec : ChangeSpec := { name := "fnTraceJoin", fn := fun _ => fun
  | [d] => { results := [.lit (.bool true)], args := [d] }
  | _ => none }
def fnTraceJoinRow : OpenClaim := { program := "ytcilncdhkniigaa", sum := "b4ac83496c722e6c6a2694d8f52bb73752a8aefb6b94930588fcd6e2699b154e", func := "loop.example/kleenetests/laws.FnTraceJoin", spec := "fnTraceJoin", apart := false }
def FnTraceJoinSaid : Prop := fnTraceJoinRow.holds Try.pinned (OpenSpec.ofChange fnTraceJoinSpec)

/-- ITS FALSE NEIGHBOUR: 'it returns false'. Refute it at one input. -/
def fnTraceJoinWrong : ChangeSpec := { name := "fnTraceJoin", fn := fun _ => fun
  | [d] => { results := [.lit (.bool false)], args := [d] }
  | _ => none }
def FnTraceJoinWrongFalsely : Prop := fnTraceJoinRow.holds Try.pinned (OpenSpec.ofChange fnTraceJoinWrong)

/-- 'laws.FnExactKatValid': WHATEVER THE INPUT: true; the input reads as it did. -/
def fnExactKatValidSpec : ChangeSpec := { name := "fnExactKatValid", fn := fun _ => fun
  | [d] => { results := [.lit (.bool true)], args := [d] }
  | _ => none }
def fnExactKatValidRow : OpenClaim := { program := "ytcilncdhkniigaa", sum := "b4ac83496c722e6c6a2694d8f52bb73752a8aefb6b94930588fcd6e2699b154e", func := "loop.example/kleenetests/laws.FnExactKatValid", spec := "fnExactKatValid", apart := false }
def FnExactKatValidSaid : Prop := fnExactKatValidRow.holds Try.pinned (OpenSpec.ofChange fnExactKatValidSpec)

/-- ITS FALSE NEIGHBOUR: 'it returns false'. Refute it at one input. -/
def fnExactKatValidWrong : ChangeSpec := { name := "fnExactKatValid", fn := fun _ => fun
  | [d] => { results := [.lit (.bool false)], args := [d] }
  | _ => none }
def FnExactKatValidWrongFalsely : Prop := fnExactKatValidRow.holds Try.pinned (OpenSpec.ofChange fnExactKatValidWrong)

/-- 'laws.FnExactKatActs': WHATEVER THE INPUT: true; the input reads as it did. -/
def fnExactKatActsSpec : ChangeSpec := { name := "fnExactKatActs", fn := fun _ => fun
  | [d] => { results := [.lit (.bool true)], args := [d] }
  | _ => none }
def fnExactKatActsRow : OpenClaim := { program := "ytcilncdhkniigaa", sum := "b4ac83496c722e6c6a2694d8f52bb73752a8aefb6b94930588fcd6e2699b154e", func := "loop.example/kleenetests/laws.FnExactKatActs", spec := "fnExactKatActs", apart := false }
def FnExactKatActsSaid : Prop := fnExactKatActsRow.holds Try.pinned (OpenSpec.ofChange fnExactKatActsSpec)

/-- ITS FALSE NEIGHBOUR: 'it returns false'. Refute it at one input. -/
def fnExactKatActsWrong : ChangeSpec := { name := "fnExactKatActs", fn := fun _ => fun
  | [d] => { results := [.lit (.bool false)], args := [d] }
  | _ => none }
def FnExactKatActsWrongFalsely : Prop := fnExactKatActsRow.holds Try.pinned (OpenSpec.ofChange fnExactKatActsWrong)

/-- 'laws.FnExactKatStar': WHATEVER THE INPUT: true; the input reads as it did. -/
def fnExactKatStarSpec : ChangeSpec := { name := "fnExactKatStar", fn := fun _ => fun
  | [d] => { results := [.lit (.bool true)], args := [d] }
  | _ => none }
def fnExactKatStarRow : OpenClaim := { program := "ytcilncdhkniigaa", sum := "b4ac83496c722e6c6a2694d8f52bb73752a8aefb6b94930588fcd6e2699b154e", func := "loop.example/kleenetests/laws.FnExactKatStar", spec := "fnExactKatStar", apart := false }
def FnExactKatStarSaid : Prop := fnExactKatStarRow.holds Try.pinned (OpenSpec.ofChange fnExactKatStarSpec)

/-- ITS FALSE NEIGHBOUR: 'it returns false'. Refute it at one input. -/
def fnExactKatStarWrong : ChangeSpec := { name := "fnExactKatStar", fn := fun _ => fun
  | [d] => { results := [.lit (.bool false)], args := [d] }
  | _ => none }
def FnExactKatStarWrongFalsely : Prop := fnExactKatStarRow.holds Try.pinned (OpenSpec.ofChange fnExactKatStarWrong)

/-- 'laws.FnExactKatPlus': WHATEVER THE INPUT: true; the input reads as it did. -/
def fnExactKatPlusSpec : ChangeSpec := { name := "fnExactKatPlus", fn := fun _ => fun
  | [d1, d2] => { results := [.lit (.bool true)], args := [d1, d2] }
  | _ => none }
def fnExactKatPlusRow : OpenClaim := { program := "ytcilncdhkniigaa", sum := "b4ac83496c722e6c6a2694d8f52bb73752a8aefb6b94930588fcd6e2699b154e", func := "loop.example/kleenetests/laws.FnExactKatPlus", spec := "fnExactKatPlus", apart := false }
def FnExactKatPlusSaid : Prop := fnExactKatPlusRow.holds Try.pinned (OpenSpec.ofChange fnExactKatPlusSpec)

/-- ITS FALSE NEIGHBOUR: 'it returns false'. Refute it at one input. -/
def fnExactKatPlusWrong : ChangeSpec := { name := "fnExactKatPlus", fn := fun _ => fun
  | [d1, d2] => { results := [.lit (.bool false)], args := [d1, d2] }
  | _ => none }
def FnExactKatPlusWrongFalsely : Prop := fnExactKatPlusRow.holds Try.pinned (OpenSpec.ofChange fnExactKatPlusWrong)

/-- 'laws.FnExactKatThen': WHATEVER THE INPUT: true; the input reads as it did. -/
def fnExactKatThenSpec : ChangeSpec := { name := "fnExactKatThen", fn := fun _ => fun
  | [d1, d2] => { results := [.lit (.bool true)], args := [d1, d2] }
  | _ => none }
def fnExactKatThenRow : OpenClaim := { program := "ytcilncdhkniigaa", sum := "b4ac83496c722e6c6a2694d8f52bb73752a8aefb6b94930588fcd6e2699b154e", func := "loop.example/kleenetests/laws.FnExactKatThen", spec := "fnExactKatThen", apart := false }
def FnExactKatThenSaid : Prop := fnExactKatThenRow.holds Try.pinned (OpenSpec.ofChange fnExactKatThenSpec)

/-- ITS FALSE NEIGHBOUR: 'it returns false'. Refute it at one input. -/
def fnExactKatThenWrong : ChangeSpec := { name := "fnExactKatThen", fn := fun _ => fun
  | [d1, d2] => { results := [.lit (.bool false)], args := [d1, d2] }
  | _ => none }
def FnExactKatThenWrongFalsely : Prop := fnExactKatThenRow.holds Try.pinned (OpenSpec.ofChange fnExactKatThenWrong)

/-- 'laws.FnKatValid': WHATEVER THE INPUT: true; the input reads as it did. -/
def fnKatValidSpec : ChangeSpec := { name := "fnKatValid", fn := fun _ => fun
  | [d] => { results := [.lit (.bool true)], args := [d] }
  | _ => none }
def fnKatValidRow : OpenClaim := { program := "ytcilncdhkniigaa", sum := "b4ac83496c722e6c6a2694d8f52bb73752a8aefb6b94930588fcd6e2699b154e", func := "loop.example/kleenetests/laws.FnKatValid", spec := "fnKatValid", apart := false }
def FnKatValidSaid : Prop := fnKatValidRow.holds Try.pinned (OpenSpec.ofChange fnKatValidSpec)

/-- ITS FALSE NEIGHBOUR: 'it returns false'. Refute it at one input. -/
def fnKatValidWrong : ChangeSpec := { name := "fnKatValid", fn := fun _ => fun
  | [d] => { results := [.lit (.bool false)], args := [d] }
  | _ => none }
def FnKatValidWrongFalsely : Prop := fnKatValidRow.holds Try.pinned (OpenSpec.ofChange fnKatValidWrong)

/-- 'laws.FnExactKatIf': WHATEVER THE INPUT: true; the input reads as it did. -/
def fnExactKatIfSpec : ChangeSpec := { name := "fnExactKatIf", fn := fun _ => fun
  | [d1, d2, d3] => { results := [.lit (.bool true)], args := [d1, d2, d3] }
  | _ => none }
def fnExactKatIfRow : OpenClaim := { program := "ytcilncdhkniigaa", sum := "b4ac83496c722e6c6a2694d8f52bb73752a8aefb6b94930588fcd6e2699b154e", func := "loop.example/kleenetests/laws.FnExactKatIf", spec := "fnExactKatIf", apart := false }
def FnExactKatIfSaid : Prop := fnExactKatIfRow.holds Try.pinned (OpenSpec.ofChange fnExactKatIfSpec)

/-- ITS FALSE NEIGHBOUR: 'it returns false'. Refute it at one input. -/
def fnExactKatIfWrong : ChangeSpec := { name := "fnExactKatIf", fn := fun _ => fun
  | [d1, d2, d3] => { results := [.lit (.bool false)], args := [d1, d2, d3] }
  | _ => none }
def FnExactKatIfWrongFalsely : Prop := fnExactKatIfRow.holds Try.pinned (OpenSpec.ofChange fnExactKatIfWrong)

/-- 'laws.FnExactKatWhile': WHATEVER THE INPUT: true; the input reads as it did. -/
def fnExactKatWhileSpec : ChangeSpec := { name := "fnExactKatWhile", fn := fun _ => fun
  | [d1, d2] => { results := [.lit (.bool true)], args := [d1, d2] }
  | _ => none }
def fnExactKatWhileRow : OpenClaim := { program := "ytcilncdhkniigaa", sum := "b4ac83496c722e6c6a2694d8f52bb73752a8aefb6b94930588fcd6e2699b154e", func := "loop.example/kleenetests/laws.FnExactKatWhile", spec := "fnExactKatWhile", apart := false }
def FnExactKatWhileSaid : Prop := fnExactKatWhileRow.holds Try.pinned (OpenSpec.ofChange fnExactKatWhileSpec)

/-- ITS FALSE NEIGHBOUR: 'it returns false'. Refute it at one input. -/
def fnExactKatWhileWrong : ChangeSpec := { name := "fnExactKatWhile", fn := fun _ => fun
  | [d1, d2] => { results := [.lit (.bool false)], args := [d1, d2] }
  | _ => none }
def FnExactKatWhileWrongFalsely : Prop := fnExactKatWhileRow.holds Try.pinned (OpenSpec.ofChange fnExactKatWhileWrong)

/-- 'laws.FnKatPlus': WHATEVER THE INPUT: true; the input reads as it did. -/
def fnKatPlusSpec : ChangeSpec := { name := "fnKatPlus", fn := fun _ => fun
  | [d] => { results := [.lit (.bool true)], args := [d] }
  | _ => none }
def fnKatPlusRow : OpenClaim := { program := "ytcilncdhkniigaa", sum := "b4ac83496c722e6c6a2694d8f52bb73752a8aefb6b94930588fcd6e2699b154e", func := "loop.example/kleenetests/laws.FnKatPlus", spec := "fnKatPlus", apart := false }
def FnKatPlusSaid : Prop := fnKatPlusRow.holds Try.pinned (OpenSpec.ofChange fnKatPlusSpec)

/-- ITS FALSE NEIGHBOUR: 'it returns false'. Refute it at one input. -/
def fnKatPlusWrong : ChangeSpec := { name := "fnKatPlus", fn := fun _ => fun
  | [d] => { results := [.lit (.bool false)], args := [d] }
  | _ => none }
def FnKatPlusWrongFalsely : Prop := fnKatPlusRow.holds Try.pinned (OpenSpec.ofChange fnKatPlusWrong)

/-- 'laws.FnKatIf': WHATEVER THE INPUT: true; the input reads as it did. -/
def fnKatIfSpec : ChangeSpec := { name := "fnKatIf", fn := fun _ => fun
  | [d] => { results := [.lit (.bool true)], args := [d] }
  | _ => none }
def fnKatIfRow : OpenClaim := { program := "ytcilncdhkniigaa", sum := "b4ac83496c722e6c6a2694d8f52bb73752a8aefb6b94930588fcd6e2699b154e", func := "loop.example/kleenetests/laws.FnKatIf", spec := "fnKatIf", apart := false }
def FnKatIfSaid : Prop := fnKatIfRow.holds Try.pinned (OpenSpec.ofChange fnKatIfSpec)

/-- ITS FALSE NEIGHBOUR: 'it returns false'. Refute it at one input. -/
def fnKatIfWrong : ChangeSpec := { name := "fnKatIf", fn := fun _ => fun
  | [d] => { results := [.lit (.bool false)], args := [d] }
  | _ => none }
def FnKatIfWrongFalsely : Prop := fnKatIfRow.holds Try.pinned (OpenSpec.ofChange fnKatIfWrong)

/-- 'laws.FnKatWhile': WHATEVER THE INPUT: true; the input reads as it did. -/
def fnKatWhileSpec : ChangeSpec := { name := "fnKatWhile", fn := fun _ => fun
  | [d] => { results := [.lit (.bool true)], args := [d] }
  | _ => none }
def fnKatWhileRow : OpenClaim := { program := "ytcilncdhkniigaa", sum := "b4ac83496c722e6c6a2694d8f52bb73752a8aefb6b94930588fcd6e2699b154e", func := "loop.example/kleenetests/laws.FnKatWhile", spec := "fnKatWhile", apart := false }
def FnKatWhileSaid : Prop := fnKatWhileRow.holds Try.pinned (OpenSpec.ofChange fnKatWhileSpec)

/-- ITS FALSE NEIGHBOUR: 'it returns false'. Refute it at one input. -/
def fnKatWhileWrong : ChangeSpec := { name := "fnKatWhile", fn := fun _ => fun
  | [d] => { results := [.lit (.bool false)], args := [d] }
  | _ => none }
def FnKatWhileWrongFalsely : Prop := fnKatWhileRow.holds Try.pinned (OpenSpec.ofChange fnKatWhileWrong)

/- THE SECOND FORM. 'bulk': how many values and letters a reading holds, each counted each time it is reached (what is shared counts as often as it is met; a slice's spare places count too). A statement '..UptoSaid' is the law's where the arguments, and the package variables that the reading takes, are together of bulk at most 1048576: NARROWER than '..Said'. Prove '..Said' where nothing that the law and all that it calls make is longer than what came in: it says more and counts as full. Else prove '..UptoSaid'. A law counts once. -/
mutual
def uptoBulk {H : Type} : DataW H → Nat
  | .lit (.string bytes) => bytes.length + 1
  | .lit _ => 1
  | .nil => 1
  | .ptr d => uptoBulk d + 1
  | .slice elems spare => uptoBulkAll elems + uptoBulkAll spare + 1
  | .agg parts => uptoBulkAll parts + 1
  | .iface _ d => uptoBulk d + 1
  | .map entries => uptoBulkEntries entries + 1
  | .held _ => 1
def uptoBulkAll {H : Type} : List (DataW H) → Nat
  | [] => 0
  | d :: r => uptoBulk d + uptoBulkAll r
def uptoBulkEntries {H : Type} : List (Lit × DataW H) → Nat
  | [] => 0
  | x :: r => uptoBulkEntry x + uptoBulkEntries r
def uptoBulkEntry {H : Type} : Lit × DataW H → Nat
  | (.string bytes, d) => bytes.length + uptoBulk d + 1
  | (_, d) => uptoBulk d + 1
 end
def uptoSmall : (H : Type) → List (DataW H) → Bool := fun _ ds => decide (uptoBulkAll ds ≤ 1048576)
def OpenSpec.upto (s : _root_.Go.ChangeSpec) : _root_.Go.OpenSpec := { _root_.Go.OpenSpec.ofChange s with cond := some uptoSmall }

/-- 'laws.FnTraceJoin', WHERE WHAT IT READS IS OF BULK AT MOST 1048576: true; the input reads as it did. -/
def fnTraceJoinUptoRow : OpenClaim := { program := "ytcilncdhkniigaa", sum := "b4ac83496c722e6c6a2694d8f52bb73752a8aefb6b94930588fcd6e2699b154e", func := "loop.example/kleenetests/laws.FnTraceJoin", spec := "fnTraceJoin", apart := false, narrowed := true }
def FnTraceJoinUptoSaid : Prop := fnTraceJoinUptoRow.holds Try.pinned (OpenSpec.upto fnTraceJoinSpec)

/-- 'laws.FnExactKatValid', WHERE WHAT IT READS IS OF BULK AT MOST 1048576: true; the input reads as it did. -/
def fnExactKatValidUptoRow : OpenClaim := { program := "ytcilncdhkniigaa", sum := "b4ac83496c722e6c6a2694d8f52bb73752a8aefb6b94930588fcd6e2699b154e", func := "loop.example/kleenetests/laws.FnExactKatValid", spec := "fnExactKatValid", apart := false, narrowed := true }
def FnExactKatValidUptoSaid : Prop := fnExactKatValidUptoRow.holds Try.pinned (OpenSpec.upto fnExactKatValidSpec)

/-- 'laws.FnExactKatActs', WHERE WHAT IT READS IS OF BULK AT MOST 1048576: true; the input reads as it did. -/
def fnExactKatActsUptoRow : OpenClaim := { program := "ytcilncdhkniigaa", sum := "b4ac83496c722e6c6a2694d8f52bb73752a8aefb6b94930588fcd6e2699b154e", func := "loop.example/kleenetests/laws.FnExactKatActs", spec := "fnExactKatActs", apart := false, narrowed := true }
def FnExactKatActsUptoSaid : Prop := fnExactKatActsUptoRow.holds Try.pinned (OpenSpec.upto fnExactKatActsSpec)

/-- 'laws.FnExactKatStar', WHERE WHAT IT READS IS OF BULK AT MOST 1048576: true; the input reads as it did. -/
def fnExactKatStarUptoRow : OpenClaim := { program := "ytcilncdhkniigaa", sum := "b4ac83496c722e6c6a2694d8f52bb73752a8aefb6b94930588fcd6e2699b154e", func := "loop.example/kleenetests/laws.FnExactKatStar", spec := "fnExactKatStar", apart := false, narrowed := true }
def FnExactKatStarUptoSaid : Prop := fnExactKatStarUptoRow.holds Try.pinned (OpenSpec.upto fnExactKatStarSpec)

/-- 'laws.FnExactKatPlus', WHERE WHAT IT READS IS OF BULK AT MOST 1048576: true; the input reads as it did. -/
def fnExactKatPlusUptoRow : OpenClaim := { program := "ytcilncdhkniigaa", sum := "b4ac83496c722e6c6a2694d8f52bb73752a8aefb6b94930588fcd6e2699b154e", func := "loop.example/kleenetests/laws.FnExactKatPlus", spec := "fnExactKatPlus", apart := false, narrowed := true }
def FnExactKatPlusUptoSaid : Prop := fnExactKatPlusUptoRow.holds Try.pinned (OpenSpec.upto fnExactKatPlusSpec)

/-- 'laws.FnExactKatThen', WHERE WHAT IT READS IS OF BULK AT MOST 1048576: true; the input reads as it did. -/
def fnExactKatThenUptoRow : OpenClaim := { program := "ytcilncdhkniigaa", sum := "b4ac83496c722e6c6a2694d8f52bb73752a8aefb6b94930588fcd6e2699b154e", func := "loop.example/kleenetests/laws.FnExactKatThen", spec := "fnExactKatThen", apart := false, narrowed := true }
def FnExactKatThenUptoSaid : Prop := fnExactKatThenUptoRow.holds Try.pinned (OpenSpec.upto fnExactKatThenSpec)

/-- 'laws.FnKatValid', WHERE WHAT IT READS IS OF BULK AT MOST 1048576: true; the input reads as it did. -/
def fnKatValidUptoRow : OpenClaim := { program := "ytcilncdhkniigaa", sum := "b4ac83496c722e6c6a2694d8f52bb73752a8aefb6b94930588fcd6e2699b154e", func := "loop.example/kleenetests/laws.FnKatValid", spec := "fnKatValid", apart := false, narrowed := true }
def FnKatValidUptoSaid : Prop := fnKatValidUptoRow.holds Try.pinned (OpenSpec.upto fnKatValidSpec)

/-- 'laws.FnExactKatIf', WHERE WHAT IT READS IS OF BULK AT MOST 1048576: true; the input reads as it did. -/
def fnExactKatIfUptoRow : OpenClaim := { program := "ytcilncdhkniigaa", sum := "b4ac83496c722e6c6a2694d8f52bb73752a8aefb6b94930588fcd6e2699b154e", func := "loop.example/kleenetests/laws.FnExactKatIf", spec := "fnExactKatIf", apart := false, narrowed := true }
def FnExactKatIfUptoSaid : Prop := fnExactKatIfUptoRow.holds Try.pinned (OpenSpec.upto fnExactKatIfSpec)

/-- 'laws.FnExactKatWhile', WHERE WHAT IT READS IS OF BULK AT MOST 1048576: true; the input reads as it did. -/
def fnExactKatWhileUptoRow : OpenClaim := { program := "ytcilncdhkniigaa", sum := "b4ac83496c722e6c6a2694d8f52bb73752a8aefb6b94930588fcd6e2699b154e", func := "loop.example/kleenetests/laws.FnExactKatWhile", spec := "fnExactKatWhile", apart := false, narrowed := true }
def FnExactKatWhileUptoSaid : Prop := fnExactKatWhileUptoRow.holds Try.pinned (OpenSpec.upto fnExactKatWhileSpec)

/-- 'laws.FnKatPlus', WHERE WHAT IT READS IS OF BULK AT MOST 1048576: true; the input reads as it did. -/
def fnKatPlusUptoRow : OpenClaim := { program := "ytcilncdhkniigaa", sum := "b4ac83496c722e6c6a2694d8f52bb73752a8aefb6b94930588fcd6e2699b154e", func := "loop.example/kleenetests/laws.FnKatPlus", spec := "fnKatPlus", apart := false, narrowed := true }
def FnKatPlusUptoSaid : Prop := fnKatPlusUptoRow.holds Try.pinned (OpenSpec.upto fnKatPlusSpec)

/-- 'laws.FnKatIf', WHERE WHAT IT READS IS OF BULK AT MOST 1048576: true; the input reads as it did. -/
def fnKatIfUptoRow : OpenClaim := { program := "ytcilncdhkniigaa", sum := "b4ac83496c722e6c6a2694d8f52bb73752a8aefb6b94930588fcd6e2699b154e", func := "loop.example/kleenetests/laws.FnKatIf", spec := "fnKatIf", apart := false, narrowed := true }
def FnKatIfUptoSaid : Prop := fnKatIfUptoRow.holds Try.pinned (OpenSpec.upto fnKatIfSpec)

/-- 'laws.FnKatWhile', WHERE WHAT IT READS IS OF BULK AT MOST 1048576: true; the input reads as it did. -/
def fnKatWhileUptoRow : OpenClaim := { program := "ytcilncdhkniigaa", sum := "b4ac83496c722e6c6a2694d8f52bb73752a8aefb6b94930588fcd6e2699b154e", func := "loop.example/kleenetests/laws.FnKatWhile", spec := "fnKatWhile", apart := false, narrowed := true }
def FnKatWhileUptoSaid : Prop := fnKatWhileUptoRow.holds Try.pinned (OpenSpec.upto fnKatWhileSpec)

end Rows
end Go.Proofs.Ytcilncdhkniigaa
