/-
  DERIVED. GIVEN WITH THE SEED: THE CARDS: each row of YtajeknacjbkpiaaDoorRows.lean that lists a variable, with what it lists TIED to the program's text (the seventh form; the later family's looks); each row that meets fmt, with fmt's text TOLD by the authors' own Lean function (tested against real Go, not proved from fmt's source: count such statements apart). THE CARD IS WHAT COUNTS. Prove the row's statement (the work); the ties are given (YtajeknacjbkpiaaDoorTie.lean); close each card by the builder's one call (the guide's Derived/Test/ToyasCard.lean, 'card_holds'). Laid BY PROGRAM, IN A SANDBOX (cutbox-door.mjs). By AI agents, Wed Nov 11 2026. No macro, syntax, notation, axiom, sorry.
-/
import Derived.Test.YtajeknacjbkpiaaDoorRows
import GoSem.ClaimSeven
namespace Go.Proofs.YtajeknacjbkpiaaDoor
namespace Rows

/-- THE TIED CARD OF 'laws.FnExactTestText'. -/
def fnExactTestTextCard : Claim7 := { stood := { row := fnExactTestTextRow, standIns := [], harness := (true, "22d41654d1fc191a167203e434b2229f182ac313ccdf84001fd36ec8c0fb89c0"), looks := false }, kinds := [], alts := [], laidByText := true, laidKinds := [.mapped], laidTests := true, laidLooks := .later }
def FnExactTestTextCardSaid : Prop := Claim7.holds Tryd.pinned (.plain (OpenSpec.ofChange fnExactTestTextSpec)) fnExactTestTextCard

/-- THE TIED CARD OF 'laws.FnExactReadTest'. -/
def fnExactReadTestCard : Claim7 := { stood := { row := fnExactReadTestRow, standIns := [], harness := (true, "22d41654d1fc191a167203e434b2229f182ac313ccdf84001fd36ec8c0fb89c0"), looks := false }, kinds := [], alts := [], laidByText := true, laidKinds := [.mapped], laidTests := true, laidLooks := .later }
def FnExactReadTestCardSaid : Prop := Claim7.holds Tryd.pinned (.plain (OpenSpec.ofChange fnExactReadTestSpec)) fnExactReadTestCard

/-- THE TIED CARD OF 'laws.FnTestText'. -/
def fnTestTextCard : Claim7 := { stood := { row := fnTestTextRow, standIns := [], harness := (true, "22d41654d1fc191a167203e434b2229f182ac313ccdf84001fd36ec8c0fb89c0"), looks := false }, kinds := [], alts := [], laidByText := true, laidKinds := [.mapped], laidTests := true, laidLooks := .later }
def FnTestTextCardSaid : Prop := Claim7.holds Tryd.pinned (.plain (OpenSpec.ofChange fnTestTextSpec)) fnTestTextCard

/-- THE TIED CARD OF 'laws.FnReadTest'. -/
def fnReadTestCard : Claim7 := { stood := { row := fnReadTestRow, standIns := [], harness := (true, "22d41654d1fc191a167203e434b2229f182ac313ccdf84001fd36ec8c0fb89c0"), looks := false }, kinds := [], alts := [], laidByText := true, laidKinds := [.mapped], laidTests := true, laidLooks := .later }
def FnReadTestCardSaid : Prop := Claim7.holds Tryd.pinned (.plain (OpenSpec.ofChange fnReadTestSpec)) fnReadTestCard

/-- THE SECOND FORM's CARD OF 'laws.FnExactTestText'. -/
def fnExactTestTextUptoCard : Claim7 := { stood := { row := fnExactTestTextUptoRow, standIns := [], harness := (true, "22d41654d1fc191a167203e434b2229f182ac313ccdf84001fd36ec8c0fb89c0"), looks := false }, kinds := [], alts := [], laidByText := true, laidKinds := [.mapped], laidTests := true, laidLooks := .later }
def FnExactTestTextUptoCardSaid : Prop := Claim7.holds Tryd.pinned (.plain (OpenSpec.upto fnExactTestTextSpec)) fnExactTestTextUptoCard

/-- THE SECOND FORM's CARD OF 'laws.FnExactReadTest'. -/
def fnExactReadTestUptoCard : Claim7 := { stood := { row := fnExactReadTestUptoRow, standIns := [], harness := (true, "22d41654d1fc191a167203e434b2229f182ac313ccdf84001fd36ec8c0fb89c0"), looks := false }, kinds := [], alts := [], laidByText := true, laidKinds := [.mapped], laidTests := true, laidLooks := .later }
def FnExactReadTestUptoCardSaid : Prop := Claim7.holds Tryd.pinned (.plain (OpenSpec.upto fnExactReadTestSpec)) fnExactReadTestUptoCard

/-- THE SECOND FORM's CARD OF 'laws.FnTestText'. -/
def fnTestTextUptoCard : Claim7 := { stood := { row := fnTestTextUptoRow, standIns := [], harness := (true, "22d41654d1fc191a167203e434b2229f182ac313ccdf84001fd36ec8c0fb89c0"), looks := false }, kinds := [], alts := [], laidByText := true, laidKinds := [.mapped], laidTests := true, laidLooks := .later }
def FnTestTextUptoCardSaid : Prop := Claim7.holds Tryd.pinned (.plain (OpenSpec.upto fnTestTextSpec)) fnTestTextUptoCard

/-- THE SECOND FORM's CARD OF 'laws.FnReadTest'. -/
def fnReadTestUptoCard : Claim7 := { stood := { row := fnReadTestUptoRow, standIns := [], harness := (true, "22d41654d1fc191a167203e434b2229f182ac313ccdf84001fd36ec8c0fb89c0"), looks := false }, kinds := [], alts := [], laidByText := true, laidKinds := [.mapped], laidTests := true, laidLooks := .later }
def FnReadTestUptoCardSaid : Prop := Claim7.holds Tryd.pinned (.plain (OpenSpec.upto fnReadTestSpec)) fnReadTestUptoCard
end Rows
end Go.Proofs.YtajeknacjbkpiaaDoor
