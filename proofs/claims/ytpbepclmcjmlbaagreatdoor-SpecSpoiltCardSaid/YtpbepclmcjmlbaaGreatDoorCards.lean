/-
  DERIVED. GIVEN WITH THE SEED: THE CARDS: each row of YtpbepclmcjmlbaaGreatDoorRows.lean that lists a variable, with what it lists TIED to the program's text (the seventh form; the later family's looks); each row that meets fmt, with fmt's text TOLD by the authors' own Lean function (tested against real Go, not proved from fmt's source: count such statements apart). THE CARD IS WHAT COUNTS. Prove the row's statement (the work); the ties are given (YtpbepclmcjmlbaaGreatDoorTie.lean); close each card by the builder's one call (the guide's Derived/Test/ToyasCard.lean, 'card_holds'). Laid BY PROGRAM, IN A SANDBOX (cutbox-door.mjs). By AI agents, Wed Nov 11 2026. No macro, syntax, notation, axiom, sorry.
-/
import Derived.Test.YtpbepclmcjmlbaaGreatDoorRows
import GoSem.ClaimSeven
namespace Go.Proofs.YtpbepclmcjmlbaaGreatDoor
namespace Rows

/-- THE TIED CARD OF 'hecklelaw06.SpecMade'. -/
def specMadeCard : Claim7 := { stood := { row := specMadeRow, standIns := [], harness := (true, "bf18a564efef1c13adcbbbde0be7728ef8669c185545035822477d0f8d15f968"), looks := false }, kinds := [], alts := [], laidByText := true, laidKinds := [.data, .data, .data], laidTests := true, laidLooks := .later }
def SpecMadeCardSaid : Prop := Claim7.holds Tryz.pinned (.plain (OpenSpec.ofChange specMadeSpec)) specMadeCard

/-- THE TIED CARD OF 'hecklelaw06.SpecSpoilt'. -/
def specSpoiltCard : Claim7 := { stood := { row := specSpoiltRow, standIns := [], harness := (true, "bf18a564efef1c13adcbbbde0be7728ef8669c185545035822477d0f8d15f968"), looks := false }, kinds := [], alts := [], laidByText := true, laidKinds := [.data, .data, .data], laidTests := true, laidLooks := .later }
def SpecSpoiltCardSaid : Prop := Claim7.holds Tryz.pinned (.plain (OpenSpec.ofChange specSpoiltSpec)) specSpoiltCard

/-- THE SECOND FORM's CARD OF 'hecklelaw06.SpecMade'. -/
def specMadeUptoCard : Claim7 := { stood := { row := specMadeUptoRow, standIns := [], harness := (true, "bf18a564efef1c13adcbbbde0be7728ef8669c185545035822477d0f8d15f968"), looks := false }, kinds := [], alts := [], laidByText := true, laidKinds := [.data, .data, .data], laidTests := true, laidLooks := .later }
def SpecMadeUptoCardSaid : Prop := Claim7.holds Tryz.pinned (.plain (OpenSpec.upto specMadeSpec)) specMadeUptoCard

/-- THE SECOND FORM's CARD OF 'hecklelaw06.SpecSpoilt'. -/
def specSpoiltUptoCard : Claim7 := { stood := { row := specSpoiltUptoRow, standIns := [], harness := (true, "bf18a564efef1c13adcbbbde0be7728ef8669c185545035822477d0f8d15f968"), looks := false }, kinds := [], alts := [], laidByText := true, laidKinds := [.data, .data, .data], laidTests := true, laidLooks := .later }
def SpecSpoiltUptoCardSaid : Prop := Claim7.holds Tryz.pinned (.plain (OpenSpec.upto specSpoiltSpec)) specSpoiltUptoCard
end Rows
end Go.Proofs.YtpbepclmcjmlbaaGreatDoor
