/-
  DERIVED. GIVEN WITH THE SEED: THE CARDS: each row of YtpbepclmcjmlbaaDoorRows.lean that lists a variable, with what it lists TIED to the program's text (the seventh form; the later family's looks); each row that meets fmt, with fmt's text TOLD by the authors' own Lean function (tested against real Go, not proved from fmt's source: count such statements apart). THE CARD IS WHAT COUNTS. Prove the row's statement (the work); the ties are given (YtpbepclmcjmlbaaDoorTie.lean); close each card by the builder's one call (the guide's Derived/Test/ToyasCard.lean, 'card_holds'). Laid BY PROGRAM, IN A SANDBOX (cutbox-door.mjs). By AI agents, Wed Nov 11 2026. No macro, syntax, notation, axiom, sorry.
-/
import Derived.Test.YtpbepclmcjmlbaaDoorRows
import GoSem.ClaimSeven
namespace Go.Proofs.YtpbepclmcjmlbaaDoor
namespace Rows

/-- THE TIED CARD OF 'hecklelaw06.SpecAny'. -/
def specAnyCard : Claim7 := { stood := { row := specAnyRow, standIns := [], harness := (true, "0775b419011d47b2a88b34e9d1cb7ea7bc27ef6ca5d4124bd0ed3d137ffd0788"), looks := false }, kinds := [], alts := [], laidByText := true, laidKinds := [.data, .data, .data], laidTests := true, laidLooks := .later }
def SpecAnyCardSaid : Prop := Claim7.holds Tryd.pinned (.plain (OpenSpec.ofChange specAnySpec)) specAnyCard

/-- THE TIED CARD OF 'hecklelaw06.SpecApart'. -/
def specApartCard : Claim7 := { stood := { row := specApartRow, standIns := [], harness := (true, "0775b419011d47b2a88b34e9d1cb7ea7bc27ef6ca5d4124bd0ed3d137ffd0788"), looks := false }, kinds := [], alts := [], laidByText := true, laidKinds := [.data, .data, .data], laidTests := true, laidLooks := .later }
def SpecApartCardSaid : Prop := Claim7.holds Tryd.pinned (.plain (OpenSpec.ofChange specApartSpec)) specApartCard

/-- THE SECOND FORM's CARD OF 'hecklelaw06.SpecAny'. -/
def specAnyUptoCard : Claim7 := { stood := { row := specAnyUptoRow, standIns := [], harness := (true, "0775b419011d47b2a88b34e9d1cb7ea7bc27ef6ca5d4124bd0ed3d137ffd0788"), looks := false }, kinds := [], alts := [], laidByText := true, laidKinds := [.data, .data, .data], laidTests := true, laidLooks := .later }
def SpecAnyUptoCardSaid : Prop := Claim7.holds Tryd.pinned (.plain (OpenSpec.upto specAnySpec)) specAnyUptoCard

/-- THE SECOND FORM's CARD OF 'hecklelaw06.SpecApart'. -/
def specApartUptoCard : Claim7 := { stood := { row := specApartUptoRow, standIns := [], harness := (true, "0775b419011d47b2a88b34e9d1cb7ea7bc27ef6ca5d4124bd0ed3d137ffd0788"), looks := false }, kinds := [], alts := [], laidByText := true, laidKinds := [.data, .data, .data], laidTests := true, laidLooks := .later }
def SpecApartUptoCardSaid : Prop := Claim7.holds Tryd.pinned (.plain (OpenSpec.upto specApartSpec)) specApartUptoCard
end Rows
end Go.Proofs.YtpbepclmcjmlbaaDoor
