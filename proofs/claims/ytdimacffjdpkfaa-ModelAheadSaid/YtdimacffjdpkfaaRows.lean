/-
  No cell of these rows narrows 'for every input' (looked for: loops, veiled, ifaces, maps, wideKeys, modest, calm, conditions, laid).
  DERIVED. THE GIVEN ROWS OF THIS SEAT. 3 by the template 'for every input the law returns true; each argument reads behind the call as it read before'; 0 by the template 'total and deterministic' (their statements: YtdimacffjdpkfaaTotals.lean).
  GIVEN WITH THE SEED: the statements are not yours to turn. If you find one false, say at which input.
  Laid BY PROGRAM, IN A SANDBOX (cutbox-rows.mjs): the forced cells as the released guide's own fill.sh prints them over the translation 5ae1be885ca36af1… (all of the seat's roots in one cut). By AI agents, Wed Nov 11 2026. No macro, syntax, notation, axiom, sorry.
-/
import Derived.Test.YtdimacffjdpkfaaChecked
import GoSem.Claim
import GoSem.ClaimJoined
import GoSem.ClaimMapViews
import Derived.JoinedTies
import Derived.KernelRfl
namespace Go.Proofs.Ytdimacffjdpkfaa
/- THE CELL 'sum', in the pinned program and in every row, IS THE sha256 OF THE DUMP (.gsa) THAT YtdimacffjdpkfaaProg.lean LOADS. Nothing in Lean hashes anything: it is a label: what it is worth is what the hold of that sum in a sandbox is worth. -/
noncomputable def Try.pinned : Pinned := { name := "ytdimacffjdpkfaa", sum := "5ae1be885ca36af1a624d5508b35ea760d3d62710b263581d9eafae0790eee85", checked := Try.checked }
namespace Rows
def none {H : Type} : Left H := { results := [], args := [] }

/-- 'hecklelaw08.ModelWhole': WHATEVER THE INPUT: true; the input reads as it did. -/
def modelWholeSpec : ChangeSpec := { name := "modelWhole", fn := fun _ => fun
  | [d1, d2] => { results := [.lit (.bool true)], args := [d1, d2] }
  | _ => none }
def modelWholeRow : OpenClaim := { program := "ytdimacffjdpkfaa", sum := "5ae1be885ca36af1a624d5508b35ea760d3d62710b263581d9eafae0790eee85", func := "heckle/hecklelaw08.ModelWhole", spec := "modelWhole", inPlace := ["maps.clone"], unfollowed := true, recurses := true, apart := false }
def ModelWholeSaid : Prop := modelWholeRow.holds Try.pinned (OpenSpec.ofChange modelWholeSpec)

/-- ITS FALSE NEIGHBOUR: 'it returns false'. Refute it at one input. -/
def modelWholeWrong : ChangeSpec := { name := "modelWhole", fn := fun _ => fun
  | [d1, d2] => { results := [.lit (.bool false)], args := [d1, d2] }
  | _ => none }
def ModelWholeWrongFalsely : Prop := modelWholeRow.holds Try.pinned (OpenSpec.ofChange modelWholeWrong)

/-- 'hecklelaw08.ModelBehind': WHATEVER THE INPUT: true; the input reads as it did. -/
def modelBehindSpec : ChangeSpec := { name := "modelBehind", fn := fun _ => fun
  | [d1, d2] => { results := [.lit (.bool true)], args := [d1, d2] }
  | _ => none }
def modelBehindRow : OpenClaim := { program := "ytdimacffjdpkfaa", sum := "5ae1be885ca36af1a624d5508b35ea760d3d62710b263581d9eafae0790eee85", func := "heckle/hecklelaw08.ModelBehind", spec := "modelBehind", inPlace := ["maps.clone"], unfollowed := true, recurses := true, apart := false }
def ModelBehindSaid : Prop := modelBehindRow.holds Try.pinned (OpenSpec.ofChange modelBehindSpec)

/-- ITS FALSE NEIGHBOUR: 'it returns false'. Refute it at one input. -/
def modelBehindWrong : ChangeSpec := { name := "modelBehind", fn := fun _ => fun
  | [d1, d2] => { results := [.lit (.bool false)], args := [d1, d2] }
  | _ => none }
def ModelBehindWrongFalsely : Prop := modelBehindRow.holds Try.pinned (OpenSpec.ofChange modelBehindWrong)

/-- 'hecklelaw08.ModelAhead': WHATEVER THE INPUT: true; the input reads as it did. -/
def modelAheadSpec : ChangeSpec := { name := "modelAhead", fn := fun _ => fun
  | [d1, d2, d3] => { results := [.lit (.bool true)], args := [d1, d2, d3] }
  | _ => none }
def modelAheadRow : OpenClaim := { program := "ytdimacffjdpkfaa", sum := "5ae1be885ca36af1a624d5508b35ea760d3d62710b263581d9eafae0790eee85", func := "heckle/hecklelaw08.ModelAhead", spec := "modelAhead", inPlace := ["maps.clone"], unfollowed := true, recurses := true, apart := false }
def ModelAheadSaid : Prop := modelAheadRow.holds Try.pinned (OpenSpec.ofChange modelAheadSpec)

/-- ITS FALSE NEIGHBOUR: 'it returns false'. Refute it at one input. -/
def modelAheadWrong : ChangeSpec := { name := "modelAhead", fn := fun _ => fun
  | [d1, d2, d3] => { results := [.lit (.bool false)], args := [d1, d2, d3] }
  | _ => none }
def ModelAheadWrongFalsely : Prop := modelAheadRow.holds Try.pinned (OpenSpec.ofChange modelAheadWrong)

/- THE SECOND FORM. 'bulk': how many values and letters a reading holds, each counted each time it is reached (what is shared counts as often as it is met; a slice's spare places count too). A statement '..UptoSaid' is the law's where the arguments, and the package variables that the reading takes, are together of bulk at most 1048576: NARROWER than '..Said'. Prove '..Said' where nothing that the law and all that it calls make is longer than what came in: it says more and counts as full. Else prove '..UptoSaid'. A law counts once. -/
mutual
def uptoBulk {H : Type} : DataW H → Nat
  | .lit (.string bytes) => bytes.length + 1
  | .lit _ => 1
  | .nil => 1
  | .ptr d => uptoBulk d + 1
  | .slice elems spare => uptoBulkAll elems + uptoBulkAll spare + 1
  | .agg parts => uptoBulkAll parts + 1
  | .iface _ d => uptoBulk d + 1
  | .map entries => uptoBulkEntries entries + 1
  | .held _ => 1
def uptoBulkAll {H : Type} : List (DataW H) → Nat
  | [] => 0
  | d :: r => uptoBulk d + uptoBulkAll r
def uptoBulkEntries {H : Type} : List (Lit × DataW H) → Nat
  | [] => 0
  | x :: r => uptoBulkEntry x + uptoBulkEntries r
def uptoBulkEntry {H : Type} : Lit × DataW H → Nat
  | (.string bytes, d) => bytes.length + uptoBulk d + 1
  | (_, d) => uptoBulk d + 1
 end
def uptoSmall : (H : Type) → List (DataW H) → Bool := fun _ ds => decide (uptoBulkAll ds ≤ 1048576)
def OpenSpec.upto (s : _root_.Go.ChangeSpec) : _root_.Go.OpenSpec := { _root_.Go.OpenSpec.ofChange s with cond := some uptoSmall }

/-- 'hecklelaw08.ModelWhole', WHERE WHAT IT READS IS OF BULK AT MOST 1048576: true; the input reads as it did. -/
def modelWholeUptoRow : OpenClaim := { program := "ytdimacffjdpkfaa", sum := "5ae1be885ca36af1a624d5508b35ea760d3d62710b263581d9eafae0790eee85", func := "heckle/hecklelaw08.ModelWhole", spec := "modelWhole", inPlace := ["maps.clone"], unfollowed := true, recurses := true, apart := false, narrowed := true }
def ModelWholeUptoSaid : Prop := modelWholeUptoRow.holds Try.pinned (OpenSpec.upto modelWholeSpec)

/-- 'hecklelaw08.ModelBehind', WHERE WHAT IT READS IS OF BULK AT MOST 1048576: true; the input reads as it did. -/
def modelBehindUptoRow : OpenClaim := { program := "ytdimacffjdpkfaa", sum := "5ae1be885ca36af1a624d5508b35ea760d3d62710b263581d9eafae0790eee85", func := "heckle/hecklelaw08.ModelBehind", spec := "modelBehind", inPlace := ["maps.clone"], unfollowed := true, recurses := true, apart := false, narrowed := true }
def ModelBehindUptoSaid : Prop := modelBehindUptoRow.holds Try.pinned (OpenSpec.upto modelBehindSpec)

/-- 'hecklelaw08.ModelAhead', WHERE WHAT IT READS IS OF BULK AT MOST 1048576: true; the input reads as it did. -/
def modelAheadUptoRow : OpenClaim := { program := "ytdimacffjdpkfaa", sum := "5ae1be885ca36af1a624d5508b35ea760d3d62710b263581d9eafae0790eee85", func := "heckle/hecklelaw08.ModelAhead", spec := "modelAhead", inPlace := ["maps.clone"], unfollowed := true, recurses := true, apart := false, narrowed := true }
def ModelAheadUptoSaid : Prop := modelAheadUptoRow.holds Try.pinned (OpenSpec.upto modelAheadSpec)

end Rows
end Go.Proofs.Ytdimacffjdpkfaa
