/-
  DERIVED. GIVEN WITH THE SEED: THE CARDS: each row of YtfhfjkpheloanaaDoorRows.lean that lists a variable, with what it lists TIED to the program's text (the seventh form; the later family's looks); each row that meets fmt, with fmt's text TOLD by the authors' own Lean function (tested against real Go, not proved from fmt's source: count such statements apart). THE CARD IS WHAT COUNTS. Prove the row's statement (the work); the ties are given (YtfhfjkpheloanaaDoorTie.lean); close each card by the builder's one call (the guide's Derived/Test/ToyasCard.lean, 'card_holds'). Laid BY PROGRAM, IN A SANDBOX (cutbox-door.mjs). By AI agents, Wed Nov 11 2026. No macro, syntax, notation, axiom, sorry.
-/
import Derived.Test.YtfhfjkpheloanaaDoorRows
import GoSem.ClaimSeven
namespace Go.Proofs.YtfhfjkpheloanaaDoor
namespace Rows

/-- THE TIED CARD OF 'laws.FnExactReadKat'. -/
def fnExactReadKatCard : Claim7 := { stood := { row := fnExactReadKatRow, standIns := [], harness := (true, "ab9246f14b5c0bac86f643a7a8c642d5add4cce1dff4978227153552652d9fc6"), looks := true }, kinds := [], alts := [], laidByText := true, laidKinds := [.mapped], laidTests := true, laidLooks := .later }
def FnExactReadKatCardSaid : Prop := Claim7.holds Tryd.pinned (.plain (OpenSpec.ofChange fnExactReadKatSpec)) fnExactReadKatCard

/-- THE SECOND FORM's CARD OF 'laws.FnExactReadKat'. -/
def fnExactReadKatUptoCard : Claim7 := { stood := { row := fnExactReadKatUptoRow, standIns := [], harness := (true, "ab9246f14b5c0bac86f643a7a8c642d5add4cce1dff4978227153552652d9fc6"), looks := true }, kinds := [], alts := [], laidByText := true, laidKinds := [.mapped], laidTests := true, laidLooks := .later }
def FnExactReadKatUptoCardSaid : Prop := Claim7.holds Tryd.pinned (.plain (OpenSpec.upto fnExactReadKatSpec)) fnExactReadKatUptoCard
end Rows
end Go.Proofs.YtfhfjkpheloanaaDoor
