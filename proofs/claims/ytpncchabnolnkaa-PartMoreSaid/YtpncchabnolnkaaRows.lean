/-
  No cell of these rows narrows 'for every input' (looked for: loops, veiled, ifaces, maps, wideKeys, modest, calm, conditions, laid).
  DERIVED. THE GIVEN ROWS OF THIS SEAT. 10 by the template 'for every input the law returns true; each argument reads behind the call as it read before'; 0 by the template 'total and deterministic' (their statements: YtpncchabnolnkaaTotals.lean).
  GIVEN WITH THE SEED: the statements are not yours to turn. If you find one false, say at which input.
  Laid BY PROGRAM, IN A SANDBOX (cutbox-rows.mjs): the forced cells as the released guide's own fill.sh prints them over the translation c9674f81191880e0… (all of the seat's roots in one cut). By AI agents, Wed Nov 11 2026. No macro, syntax, notation, axiom, sorry.
-/
import Derived.Test.YtpncchabnolnkaaChecked
import GoSem.Claim
import GoSem.ClaimJoined
import GoSem.ClaimMapViews
import Derived.JoinedTies
import Derived.KernelRfl
namespace Go.Proofs.Ytpncchabnolnkaa
/- THE CELL 'sum', in the pinned program and in every row, IS THE sha256 OF THE DUMP (.gsa) THAT YtpncchabnolnkaaProg.lean LOADS. Nothing in Lean hashes anything: it is a label: what it is worth is what the hold of that sum in a sandbox is worth. -/
noncomputable def Try.pinned : Pinned := { name := "ytpncchabnolnkaa", sum := "c9674f81191880e09343832f5760551a41f81d4fa403aa65aad42f2b920ef85b", checked := Try.checked }
namespace Rows
def none {H : Type} : Left H := { results := [], args := [] }

/-- 'hecklelaw01.SetMakes': WHATEVER THE INPUT: true; the input reads as it did. -/
def setMakesSpec : ChangeSpec := { name := "setMakes", fn := fun _ => fun
  | [d1, d2, d3, d4, d5] => { results := [.lit (.bool true)], args := [d1, d2, d3, d4, d5] }
  | _ => none }
def setMakesRow : OpenClaim := { program := "ytpncchabnolnkaa", sum := "c9674f81191880e09343832f5760551a41f81d4fa403aa65aad42f2b920ef85b", func := "heckle/hecklelaw01.SetMakes", spec := "setMakes", unfollowed := true, recurses := true, plainKeys := false, apart := false }
def SetMakesSaid : Prop := setMakesRow.holds Try.pinned (OpenSpec.ofChange setMakesSpec)

/-- ITS FALSE NEIGHBOUR: 'it returns false'. Refute it at one input. -/
def setMakesWrong : ChangeSpec := { name := "setMakes", fn := fun _ => fun
  | [d1, d2, d3, d4, d5] => { results := [.lit (.bool false)], args := [d1, d2, d3, d4, d5] }
  | _ => none }
def SetMakesWrongFalsely : Prop := setMakesRow.holds Try.pinned (OpenSpec.ofChange setMakesWrong)

/-- 'hecklelaw01.SetLists': WHATEVER THE INPUT: true; the input reads as it did. -/
def setListsSpec : ChangeSpec := { name := "setLists", fn := fun _ => fun
  | [d] => { results := [.lit (.bool true)], args := [d] }
  | _ => none }
def setListsRow : OpenClaim := { program := "ytpncchabnolnkaa", sum := "c9674f81191880e09343832f5760551a41f81d4fa403aa65aad42f2b920ef85b", func := "heckle/hecklelaw01.SetLists", spec := "setLists", unfollowed := true, recurses := true, plainKeys := false, apart := false }
def SetListsSaid : Prop := setListsRow.holds Try.pinned (OpenSpec.ofChange setListsSpec)

/-- ITS FALSE NEIGHBOUR: 'it returns false'. Refute it at one input. -/
def setListsWrong : ChangeSpec := { name := "setLists", fn := fun _ => fun
  | [d] => { results := [.lit (.bool false)], args := [d] }
  | _ => none }
def SetListsWrongFalsely : Prop := setListsRow.holds Try.pinned (OpenSpec.ofChange setListsWrong)

/-- 'hecklelaw01.SetTurned': WHATEVER THE INPUT: true; the input reads as it did. -/
def setTurnedSpec : ChangeSpec := { name := "setTurned", fn := fun _ => fun
  | [d1, d2] => { results := [.lit (.bool true)], args := [d1, d2] }
  | _ => none }
def setTurnedRow : OpenClaim := { program := "ytpncchabnolnkaa", sum := "c9674f81191880e09343832f5760551a41f81d4fa403aa65aad42f2b920ef85b", func := "heckle/hecklelaw01.SetTurned", spec := "setTurned", unfollowed := true, recurses := true, plainKeys := false, apart := false }
def SetTurnedSaid : Prop := setTurnedRow.holds Try.pinned (OpenSpec.ofChange setTurnedSpec)

/-- ITS FALSE NEIGHBOUR: 'it returns false'. Refute it at one input. -/
def setTurnedWrong : ChangeSpec := { name := "setTurned", fn := fun _ => fun
  | [d1, d2] => { results := [.lit (.bool false)], args := [d1, d2] }
  | _ => none }
def SetTurnedWrongFalsely : Prop := setTurnedRow.holds Try.pinned (OpenSpec.ofChange setTurnedWrong)

/-- 'hecklelaw01.SetBack': WHATEVER THE INPUT: true; the input reads as it did. -/
def setBackSpec : ChangeSpec := { name := "setBack", fn := fun _ => fun
  | [d] => { results := [.lit (.bool true)], args := [d] }
  | _ => none }
def setBackRow : OpenClaim := { program := "ytpncchabnolnkaa", sum := "c9674f81191880e09343832f5760551a41f81d4fa403aa65aad42f2b920ef85b", func := "heckle/hecklelaw01.SetBack", spec := "setBack", unfollowed := true, recurses := true, plainKeys := false, apart := false }
def SetBackSaid : Prop := setBackRow.holds Try.pinned (OpenSpec.ofChange setBackSpec)

/-- ITS FALSE NEIGHBOUR: 'it returns false'. Refute it at one input. -/
def setBackWrong : ChangeSpec := { name := "setBack", fn := fun _ => fun
  | [d] => { results := [.lit (.bool false)], args := [d] }
  | _ => none }
def SetBackWrongFalsely : Prop := setBackRow.holds Try.pinned (OpenSpec.ofChange setBackWrong)

/-- 'hecklelaw01.SetParts': WHATEVER THE INPUT: true; the input reads as it did. -/
def setPartsSpec : ChangeSpec := { name := "setParts", fn := fun _ => fun
  | [d1, d2, d3] => { results := [.lit (.bool true)], args := [d1, d2, d3] }
  | _ => none }
def setPartsRow : OpenClaim := { program := "ytpncchabnolnkaa", sum := "c9674f81191880e09343832f5760551a41f81d4fa403aa65aad42f2b920ef85b", func := "heckle/hecklelaw01.SetParts", spec := "setParts", unfollowed := true, recurses := true, plainKeys := false, apart := false }
def SetPartsSaid : Prop := setPartsRow.holds Try.pinned (OpenSpec.ofChange setPartsSpec)

/-- ITS FALSE NEIGHBOUR: 'it returns false'. Refute it at one input. -/
def setPartsWrong : ChangeSpec := { name := "setParts", fn := fun _ => fun
  | [d1, d2, d3] => { results := [.lit (.bool false)], args := [d1, d2, d3] }
  | _ => none }
def SetPartsWrongFalsely : Prop := setPartsRow.holds Try.pinned (OpenSpec.ofChange setPartsWrong)

/-- 'hecklelaw02.PartSplit': WHATEVER THE INPUT: true; the input reads as it did. -/
def partSplitSpec : ChangeSpec := { name := "partSplit", fn := fun _ => fun
  | [d] => { results := [.lit (.bool true)], args := [d] }
  | _ => none }
def partSplitRow : OpenClaim := { program := "ytpncchabnolnkaa", sum := "c9674f81191880e09343832f5760551a41f81d4fa403aa65aad42f2b920ef85b", func := "heckle/hecklelaw02.PartSplit", spec := "partSplit", plainKeys := false, apart := false }
def PartSplitSaid : Prop := partSplitRow.holds Try.pinned (OpenSpec.ofChange partSplitSpec)

/-- ITS FALSE NEIGHBOUR: 'it returns false'. Refute it at one input. -/
def partSplitWrong : ChangeSpec := { name := "partSplit", fn := fun _ => fun
  | [d] => { results := [.lit (.bool false)], args := [d] }
  | _ => none }
def PartSplitWrongFalsely : Prop := partSplitRow.holds Try.pinned (OpenSpec.ofChange partSplitWrong)

/-- 'hecklelaw02.PartRuns': WHATEVER THE INPUT: true; the input reads as it did. -/
def partRunsSpec : ChangeSpec := { name := "partRuns", fn := fun _ => fun
  | [d] => { results := [.lit (.bool true)], args := [d] }
  | _ => none }
def partRunsRow : OpenClaim := { program := "ytpncchabnolnkaa", sum := "c9674f81191880e09343832f5760551a41f81d4fa403aa65aad42f2b920ef85b", func := "heckle/hecklelaw02.PartRuns", spec := "partRuns", plainKeys := false, apart := false }
def PartRunsSaid : Prop := partRunsRow.holds Try.pinned (OpenSpec.ofChange partRunsSpec)

/-- ITS FALSE NEIGHBOUR: 'it returns false'. Refute it at one input. -/
def partRunsWrong : ChangeSpec := { name := "partRuns", fn := fun _ => fun
  | [d] => { results := [.lit (.bool false)], args := [d] }
  | _ => none }
def PartRunsWrongFalsely : Prop := partRunsRow.holds Try.pinned (OpenSpec.ofChange partRunsWrong)

/-- 'hecklelaw02.PartLeast': WHATEVER THE INPUT: true; the input reads as it did. -/
def partLeastSpec : ChangeSpec := { name := "partLeast", fn := fun _ => fun
  | [d1, d2] => { results := [.lit (.bool true)], args := [d1, d2] }
  | _ => none }
def partLeastRow : OpenClaim := { program := "ytpncchabnolnkaa", sum := "c9674f81191880e09343832f5760551a41f81d4fa403aa65aad42f2b920ef85b", func := "heckle/hecklelaw02.PartLeast", spec := "partLeast", plainKeys := false, apart := false }
def PartLeastSaid : Prop := partLeastRow.holds Try.pinned (OpenSpec.ofChange partLeastSpec)

/-- ITS FALSE NEIGHBOUR: 'it returns false'. Refute it at one input. -/
def partLeastWrong : ChangeSpec := { name := "partLeast", fn := fun _ => fun
  | [d1, d2] => { results := [.lit (.bool false)], args := [d1, d2] }
  | _ => none }
def PartLeastWrongFalsely : Prop := partLeastRow.holds Try.pinned (OpenSpec.ofChange partLeastWrong)

/-- 'hecklelaw02.PartMore': WHATEVER THE INPUT: true; the input reads as it did. -/
def partMoreSpec : ChangeSpec := { name := "partMore", fn := fun _ => fun
  | [d1, d2] => { results := [.lit (.bool true)], args := [d1, d2] }
  | _ => none }
def partMoreRow : OpenClaim := { program := "ytpncchabnolnkaa", sum := "c9674f81191880e09343832f5760551a41f81d4fa403aa65aad42f2b920ef85b", func := "heckle/hecklelaw02.PartMore", spec := "partMore", plainKeys := false, apart := false }
def PartMoreSaid : Prop := partMoreRow.holds Try.pinned (OpenSpec.ofChange partMoreSpec)

/-- ITS FALSE NEIGHBOUR: 'it returns false'. Refute it at one input. -/
def partMoreWrong : ChangeSpec := { name := "partMore", fn := fun _ => fun
  | [d1, d2] => { results := [.lit (.bool false)], args := [d1, d2] }
  | _ => none }
def PartMoreWrongFalsely : Prop := partMoreRow.holds Try.pinned (OpenSpec.ofChange partMoreWrong)

/-- 'hecklelaw02.PartTold': WHATEVER THE INPUT: true; the input reads as it did. -/
def partToldSpec : ChangeSpec := { name := "partTold", fn := fun _ => fun
  | [d1, d2, d3] => { results := [.lit (.bool true)], args := [d1, d2, d3] }
  | _ => none }
def partToldRow : OpenClaim := { program := "ytpncchabnolnkaa", sum := "c9674f81191880e09343832f5760551a41f81d4fa403aa65aad42f2b920ef85b", func := "heckle/hecklelaw02.PartTold", spec := "partTold", plainKeys := false, apart := false }
def PartToldSaid : Prop := partToldRow.holds Try.pinned (OpenSpec.ofChange partToldSpec)

/-- ITS FALSE NEIGHBOUR: 'it returns false'. Refute it at one input. -/
def partToldWrong : ChangeSpec := { name := "partTold", fn := fun _ => fun
  | [d1, d2, d3] => { results := [.lit (.bool false)], args := [d1, d2, d3] }
  | _ => none }
def PartToldWrongFalsely : Prop := partToldRow.holds Try.pinned (OpenSpec.ofChange partToldWrong)

/- THE SECOND FORM. 'bulk': how many values and letters a reading holds, each counted each time it is reached (what is shared counts as often as it is met; a slice's spare places count too). A statement '..UptoSaid' is the law's where the arguments, and the package variables that the reading takes, are together of bulk at most 1048576: NARROWER than '..Said'. Prove '..Said' where nothing that the law and all that it calls make is longer than what came in: it says more and counts as full. Else prove '..UptoSaid'. A law counts once. -/
mutual
def uptoBulk {H : Type} : DataW H → Nat
  | .lit (.string bytes) => bytes.length + 1
  | .lit _ => 1
  | .nil => 1
  | .ptr d => uptoBulk d + 1
  | .slice elems spare => uptoBulkAll elems + uptoBulkAll spare + 1
  | .agg parts => uptoBulkAll parts + 1
  | .iface _ d => uptoBulk d + 1
  | .map entries => uptoBulkEntries entries + 1
  | .held _ => 1
def uptoBulkAll {H : Type} : List (DataW H) → Nat
  | [] => 0
  | d :: r => uptoBulk d + uptoBulkAll r
def uptoBulkEntries {H : Type} : List (Lit × DataW H) → Nat
  | [] => 0
  | x :: r => uptoBulkEntry x + uptoBulkEntries r
def uptoBulkEntry {H : Type} : Lit × DataW H → Nat
  | (.string bytes, d) => bytes.length + uptoBulk d + 1
  | (_, d) => uptoBulk d + 1
 end
def uptoSmall : (H : Type) → List (DataW H) → Bool := fun _ ds => decide (uptoBulkAll ds ≤ 1048576)
def OpenSpec.upto (s : _root_.Go.ChangeSpec) : _root_.Go.OpenSpec := { _root_.Go.OpenSpec.ofChange s with cond := some uptoSmall }

/-- 'hecklelaw01.SetMakes', WHERE WHAT IT READS IS OF BULK AT MOST 1048576: true; the input reads as it did. -/
def setMakesUptoRow : OpenClaim := { program := "ytpncchabnolnkaa", sum := "c9674f81191880e09343832f5760551a41f81d4fa403aa65aad42f2b920ef85b", func := "heckle/hecklelaw01.SetMakes", spec := "setMakes", unfollowed := true, recurses := true, plainKeys := false, apart := false, narrowed := true }
def SetMakesUptoSaid : Prop := setMakesUptoRow.holds Try.pinned (OpenSpec.upto setMakesSpec)

/-- 'hecklelaw01.SetLists', WHERE WHAT IT READS IS OF BULK AT MOST 1048576: true; the input reads as it did. -/
def setListsUptoRow : OpenClaim := { program := "ytpncchabnolnkaa", sum := "c9674f81191880e09343832f5760551a41f81d4fa403aa65aad42f2b920ef85b", func := "heckle/hecklelaw01.SetLists", spec := "setLists", unfollowed := true, recurses := true, plainKeys := false, apart := false, narrowed := true }
def SetListsUptoSaid : Prop := setListsUptoRow.holds Try.pinned (OpenSpec.upto setListsSpec)

/-- 'hecklelaw01.SetTurned', WHERE WHAT IT READS IS OF BULK AT MOST 1048576: true; the input reads as it did. -/
def setTurnedUptoRow : OpenClaim := { program := "ytpncchabnolnkaa", sum := "c9674f81191880e09343832f5760551a41f81d4fa403aa65aad42f2b920ef85b", func := "heckle/hecklelaw01.SetTurned", spec := "setTurned", unfollowed := true, recurses := true, plainKeys := false, apart := false, narrowed := true }
def SetTurnedUptoSaid : Prop := setTurnedUptoRow.holds Try.pinned (OpenSpec.upto setTurnedSpec)

/-- 'hecklelaw01.SetBack', WHERE WHAT IT READS IS OF BULK AT MOST 1048576: true; the input reads as it did. -/
def setBackUptoRow : OpenClaim := { program := "ytpncchabnolnkaa", sum := "c9674f81191880e09343832f5760551a41f81d4fa403aa65aad42f2b920ef85b", func := "heckle/hecklelaw01.SetBack", spec := "setBack", unfollowed := true, recurses := true, plainKeys := false, apart := false, narrowed := true }
def SetBackUptoSaid : Prop := setBackUptoRow.holds Try.pinned (OpenSpec.upto setBackSpec)

/-- 'hecklelaw01.SetParts', WHERE WHAT IT READS IS OF BULK AT MOST 1048576: true; the input reads as it did. -/
def setPartsUptoRow : OpenClaim := { program := "ytpncchabnolnkaa", sum := "c9674f81191880e09343832f5760551a41f81d4fa403aa65aad42f2b920ef85b", func := "heckle/hecklelaw01.SetParts", spec := "setParts", unfollowed := true, recurses := true, plainKeys := false, apart := false, narrowed := true }
def SetPartsUptoSaid : Prop := setPartsUptoRow.holds Try.pinned (OpenSpec.upto setPartsSpec)

/-- 'hecklelaw02.PartSplit', WHERE WHAT IT READS IS OF BULK AT MOST 1048576: true; the input reads as it did. -/
def partSplitUptoRow : OpenClaim := { program := "ytpncchabnolnkaa", sum := "c9674f81191880e09343832f5760551a41f81d4fa403aa65aad42f2b920ef85b", func := "heckle/hecklelaw02.PartSplit", spec := "partSplit", plainKeys := false, apart := false, narrowed := true }
def PartSplitUptoSaid : Prop := partSplitUptoRow.holds Try.pinned (OpenSpec.upto partSplitSpec)

/-- 'hecklelaw02.PartRuns', WHERE WHAT IT READS IS OF BULK AT MOST 1048576: true; the input reads as it did. -/
def partRunsUptoRow : OpenClaim := { program := "ytpncchabnolnkaa", sum := "c9674f81191880e09343832f5760551a41f81d4fa403aa65aad42f2b920ef85b", func := "heckle/hecklelaw02.PartRuns", spec := "partRuns", plainKeys := false, apart := false, narrowed := true }
def PartRunsUptoSaid : Prop := partRunsUptoRow.holds Try.pinned (OpenSpec.upto partRunsSpec)

/-- 'hecklelaw02.PartLeast', WHERE WHAT IT READS IS OF BULK AT MOST 1048576: true; the input reads as it did. -/
def partLeastUptoRow : OpenClaim := { program := "ytpncchabnolnkaa", sum := "c9674f81191880e09343832f5760551a41f81d4fa403aa65aad42f2b920ef85b", func := "heckle/hecklelaw02.PartLeast", spec := "partLeast", plainKeys := false, apart := false, narrowed := true }
def PartLeastUptoSaid : Prop := partLeastUptoRow.holds Try.pinned (OpenSpec.upto partLeastSpec)

/-- 'hecklelaw02.PartMore', WHERE WHAT IT READS IS OF BULK AT MOST 1048576: true; the input reads as it did. -/
def partMoreUptoRow : OpenClaim := { program := "ytpncchabnolnkaa", sum := "c9674f81191880e09343832f5760551a41f81d4fa403aa65aad42f2b920ef85b", func := "heckle/hecklelaw02.PartMore", spec := "partMore", plainKeys := false, apart := false, narrowed := true }
def PartMoreUptoSaid : Prop := partMoreUptoRow.holds Try.pinned (OpenSpec.upto partMoreSpec)

/-- 'hecklelaw02.PartTold', WHERE WHAT IT READS IS OF BULK AT MOST 1048576: true; the input reads as it did. -/
def partToldUptoRow : OpenClaim := { program := "ytpncchabnolnkaa", sum := "c9674f81191880e09343832f5760551a41f81d4fa403aa65aad42f2b920ef85b", func := "heckle/hecklelaw02.PartTold", spec := "partTold", plainKeys := false, apart := false, narrowed := true }
def PartToldUptoSaid : Prop := partToldUptoRow.holds Try.pinned (OpenSpec.upto partToldSpec)

end Rows
end Go.Proofs.Ytpncchabnolnkaa
