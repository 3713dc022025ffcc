/-
  DERIVED. GIVEN WITH THE SEED: THE CARDS: each row of YtbnhflckmfmkoaaDoorRows.lean that lists a variable, with what it lists TIED to the program's text (the seventh form; the later family's looks); each row that meets fmt, with fmt's text TOLD by the authors' own Lean function (tested against real Go, not proved from fmt's source: count such statements apart). THE CARD IS WHAT COUNTS. Prove the row's statement (the work); the ties are given (YtbnhflckmfmkoaaDoorTie.lean); close each card by the builder's one call (the guide's Derived/Test/ToyasCard.lean, 'card_holds'). Laid BY PROGRAM, IN A SANDBOX (cutbox-door.mjs). By AI agents, Wed Nov 11 2026. No macro, syntax, notation, axiom, sorry.
-/
import Derived.Test.YtbnhflckmfmkoaaDoorRows
import GoSem.ClaimSeven
namespace Go.Proofs.YtbnhflckmfmkoaaDoor
namespace Rows

/-- THE TIED CARD OF 'hecklelaw03.RxAny'. -/
def rxAnyCard : Claim7 := { stood := { row := rxAnyRow, standIns := [], harness := (true, "159506902055e5ff3169a0536aec835841ddfec6996f4b5f958850e910599842"), looks := false }, kinds := [], alts := [], laidByText := true, laidKinds := [.data, .data, .data], laidTests := true, laidLooks := .later }
def RxAnyCardSaid : Prop := Claim7.holds Tryd.pinned (.plain (OpenSpec.ofChange rxAnySpec)) rxAnyCard

/-- THE TIED CARD OF 'hecklelaw03.RxMade'. -/
def rxMadeCard : Claim7 := { stood := { row := rxMadeRow, standIns := [], harness := (true, "159506902055e5ff3169a0536aec835841ddfec6996f4b5f958850e910599842"), looks := false }, kinds := [], alts := [], laidByText := true, laidKinds := [.data, .data, .data], laidTests := true, laidLooks := .later }
def RxMadeCardSaid : Prop := Claim7.holds Tryd.pinned (.plain (OpenSpec.ofChange rxMadeSpec)) rxMadeCard

/-- THE TIED CARD OF 'hecklelaw03.RxSpoilt'. -/
def rxSpoiltCard : Claim7 := { stood := { row := rxSpoiltRow, standIns := [], harness := (true, "159506902055e5ff3169a0536aec835841ddfec6996f4b5f958850e910599842"), looks := false }, kinds := [], alts := [], laidByText := true, laidKinds := [.data, .data, .data], laidTests := true, laidLooks := .later }
def RxSpoiltCardSaid : Prop := Claim7.holds Tryd.pinned (.plain (OpenSpec.ofChange rxSpoiltSpec)) rxSpoiltCard

/-- THE TIED CARD OF 'hecklelaw03.RxDeep'. -/
def rxDeepCard : Claim7 := { stood := { row := rxDeepRow, standIns := [], harness := (true, "159506902055e5ff3169a0536aec835841ddfec6996f4b5f958850e910599842"), looks := false }, kinds := [], alts := [], laidByText := true, laidKinds := [.data, .data, .data], laidTests := true, laidLooks := .later }
def RxDeepCardSaid : Prop := Claim7.holds Tryd.pinned (.plain (OpenSpec.ofChange rxDeepSpec)) rxDeepCard

/-- THE TIED CARD OF 'hecklelaw03.RxApart'. -/
def rxApartCard : Claim7 := { stood := { row := rxApartRow, standIns := [], harness := (true, "159506902055e5ff3169a0536aec835841ddfec6996f4b5f958850e910599842"), looks := false }, kinds := [], alts := [], laidByText := true, laidKinds := [.data, .data, .data], laidTests := true, laidLooks := .later }
def RxApartCardSaid : Prop := Claim7.holds Tryd.pinned (.plain (OpenSpec.ofChange rxApartSpec)) rxApartCard

/-- THE SECOND FORM's CARD OF 'hecklelaw03.RxAny'. -/
def rxAnyUptoCard : Claim7 := { stood := { row := rxAnyUptoRow, standIns := [], harness := (true, "159506902055e5ff3169a0536aec835841ddfec6996f4b5f958850e910599842"), looks := false }, kinds := [], alts := [], laidByText := true, laidKinds := [.data, .data, .data], laidTests := true, laidLooks := .later }
def RxAnyUptoCardSaid : Prop := Claim7.holds Tryd.pinned (.plain (OpenSpec.upto rxAnySpec)) rxAnyUptoCard

/-- THE SECOND FORM's CARD OF 'hecklelaw03.RxMade'. -/
def rxMadeUptoCard : Claim7 := { stood := { row := rxMadeUptoRow, standIns := [], harness := (true, "159506902055e5ff3169a0536aec835841ddfec6996f4b5f958850e910599842"), looks := false }, kinds := [], alts := [], laidByText := true, laidKinds := [.data, .data, .data], laidTests := true, laidLooks := .later }
def RxMadeUptoCardSaid : Prop := Claim7.holds Tryd.pinned (.plain (OpenSpec.upto rxMadeSpec)) rxMadeUptoCard

/-- THE SECOND FORM's CARD OF 'hecklelaw03.RxSpoilt'. -/
def rxSpoiltUptoCard : Claim7 := { stood := { row := rxSpoiltUptoRow, standIns := [], harness := (true, "159506902055e5ff3169a0536aec835841ddfec6996f4b5f958850e910599842"), looks := false }, kinds := [], alts := [], laidByText := true, laidKinds := [.data, .data, .data], laidTests := true, laidLooks := .later }
def RxSpoiltUptoCardSaid : Prop := Claim7.holds Tryd.pinned (.plain (OpenSpec.upto rxSpoiltSpec)) rxSpoiltUptoCard

/-- THE SECOND FORM's CARD OF 'hecklelaw03.RxDeep'. -/
def rxDeepUptoCard : Claim7 := { stood := { row := rxDeepUptoRow, standIns := [], harness := (true, "159506902055e5ff3169a0536aec835841ddfec6996f4b5f958850e910599842"), looks := false }, kinds := [], alts := [], laidByText := true, laidKinds := [.data, .data, .data], laidTests := true, laidLooks := .later }
def RxDeepUptoCardSaid : Prop := Claim7.holds Tryd.pinned (.plain (OpenSpec.upto rxDeepSpec)) rxDeepUptoCard

/-- THE SECOND FORM's CARD OF 'hecklelaw03.RxApart'. -/
def rxApartUptoCard : Claim7 := { stood := { row := rxApartUptoRow, standIns := [], harness := (true, "159506902055e5ff3169a0536aec835841ddfec6996f4b5f958850e910599842"), looks := false }, kinds := [], alts := [], laidByText := true, laidKinds := [.data, .data, .data], laidTests := true, laidLooks := .later }
def RxApartUptoCardSaid : Prop := Claim7.holds Tryd.pinned (.plain (OpenSpec.upto rxApartSpec)) rxApartUptoCard
end Rows
end Go.Proofs.YtbnhflckmfmkoaaDoor
