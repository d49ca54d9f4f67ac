/-
  No cell of these rows narrows 'for every input' (looked for: loops, veiled, ifaces, maps, wideKeys, modest, calm, conditions, laid).
  DERIVED. THE GIVEN ROWS OF THIS SEAT. 7 by the template 'for every input the law returns true; each argument reads behind the call as it read before'; 0 by the template 'total and deterministic' (their statements: YtpbcchljlhkonaaTotals.lean).
  GIVEN WITH THE SEED: the statements are not yours to turn. If you find one false, say at which input.
  Laid BY PROGRAM, IN A SANDBOX (cutbox-rows.mjs): the forced cells as the released guide's own fill.sh prints them over the translation 574b3fcbc0c804bc… (all of the seat's roots in one cut). By AI agents, Wed Nov 11 2026. No macro, syntax, notation, axiom, sorry.
-/
import Derived.Test.YtpbcchljlhkonaaChecked
import GoSem.Claim
import GoSem.ClaimJoined
import GoSem.ClaimMapViews
import Derived.JoinedTies
import Derived.KernelRfl
namespace Go.Proofs.Ytpbcchljlhkonaa
/- THE CELL 'sum', in the pinned program and in every row, IS THE sha256 OF THE DUMP (.gsa) THAT YtpbcchljlhkonaaProg.lean LOADS. Nothing in Lean hashes anything: it is a label: what it is worth is what the hold of that sum in a sandbox is worth. -/
noncomputable def Try.pinned : Pinned := { name := "ytpbcchljlhkonaa", sum := "574b3fcbc0c804bc571c27ace4a279a1ed8258e3830e9abd63e847546c93cba1", checked := Try.checked }
namespace Rows
def none {H : Type} : Left H := { results := [], args := [] }

/-- 'dormouselaw26.FoldAll': WHATEVER THE INPUT: true; the input reads as it did. -/
def foldAllSpec : ChangeSpec := { name := "foldAll", fn := fun _ => fun
  | [d1, d2, d3] => { results := [.lit (.bool true)], args := [d1, d2, d3] }
  | _ => none }
def foldAllRow : OpenClaim := { program := "ytpbcchljlhkonaa", sum := "574b3fcbc0c804bc571c27ace4a279a1ed8258e3830e9abd63e847546c93cba1", func := "dormouse/dormouselaw26.FoldAll", spec := "foldAll", inPlace := ["slices.overlaps[dormouse/api.Pair]"], unfollowed := true, recurses := true, plainKeys := false, apart := false }
def FoldAllSaid : Prop := foldAllRow.holds Try.pinned (OpenSpec.ofChange foldAllSpec)

/-- ITS FALSE NEIGHBOUR: 'it returns false'. Refute it at one input. -/
def foldAllWrong : ChangeSpec := { name := "foldAll", fn := fun _ => fun
  | [d1, d2, d3] => { results := [.lit (.bool false)], args := [d1, d2, d3] }
  | _ => none }
def FoldAllWrongFalsely : Prop := foldAllRow.holds Try.pinned (OpenSpec.ofChange foldAllWrong)

/-- 'dormouselaw26.FoldOne': WHATEVER THE INPUT: true; the input reads as it did. -/
def foldOneSpec : ChangeSpec := { name := "foldOne", fn := fun _ => fun
  | [d1, d2, d3] => { results := [.lit (.bool true)], args := [d1, d2, d3] }
  | _ => none }
def foldOneRow : OpenClaim := { program := "ytpbcchljlhkonaa", sum := "574b3fcbc0c804bc571c27ace4a279a1ed8258e3830e9abd63e847546c93cba1", func := "dormouse/dormouselaw26.FoldOne", spec := "foldOne", inPlace := ["slices.overlaps[dormouse/api.Pair]"], unfollowed := true, recurses := true, plainKeys := false, apart := false }
def FoldOneSaid : Prop := foldOneRow.holds Try.pinned (OpenSpec.ofChange foldOneSpec)

/-- ITS FALSE NEIGHBOUR: 'it returns false'. Refute it at one input. -/
def foldOneWrong : ChangeSpec := { name := "foldOne", fn := fun _ => fun
  | [d1, d2, d3] => { results := [.lit (.bool false)], args := [d1, d2, d3] }
  | _ => none }
def FoldOneWrongFalsely : Prop := foldOneRow.holds Try.pinned (OpenSpec.ofChange foldOneWrong)

/-- 'dormouselaw26.FoldWith': WHATEVER THE INPUT: true; the input reads as it did. -/
def foldWithSpec : ChangeSpec := { name := "foldWith", fn := fun _ => fun
  | [d1, d2, d3] => { results := [.lit (.bool true)], args := [d1, d2, d3] }
  | _ => none }
def foldWithRow : OpenClaim := { program := "ytpbcchljlhkonaa", sum := "574b3fcbc0c804bc571c27ace4a279a1ed8258e3830e9abd63e847546c93cba1", func := "dormouse/dormouselaw26.FoldWith", spec := "foldWith", inPlace := ["slices.overlaps[dormouse/api.Pair]"], unfollowed := true, recurses := true, plainKeys := false, apart := false }
def FoldWithSaid : Prop := foldWithRow.holds Try.pinned (OpenSpec.ofChange foldWithSpec)

/-- ITS FALSE NEIGHBOUR: 'it returns false'. Refute it at one input. -/
def foldWithWrong : ChangeSpec := { name := "foldWith", fn := fun _ => fun
  | [d1, d2, d3] => { results := [.lit (.bool false)], args := [d1, d2, d3] }
  | _ => none }
def FoldWithWrongFalsely : Prop := foldWithRow.holds Try.pinned (OpenSpec.ofChange foldWithWrong)

/-- 'dormouselaw27.ImageOf': WHATEVER THE INPUT: true; the input reads as it did. -/
def imageOfSpec : ChangeSpec := { name := "imageOf", fn := fun _ => fun
  | [d] => { results := [.lit (.bool true)], args := [d] }
  | _ => none }
def imageOfRow : OpenClaim := { program := "ytpbcchljlhkonaa", sum := "574b3fcbc0c804bc571c27ace4a279a1ed8258e3830e9abd63e847546c93cba1", func := "dormouse/dormouselaw27.ImageOf", spec := "imageOf", inPlace := ["slices.overlaps[dormouse/api.Pair]"], unfollowed := true, recurses := true, plainKeys := false, apart := false }
def ImageOfSaid : Prop := imageOfRow.holds Try.pinned (OpenSpec.ofChange imageOfSpec)

/-- ITS FALSE NEIGHBOUR: 'it returns false'. Refute it at one input. -/
def imageOfWrong : ChangeSpec := { name := "imageOf", fn := fun _ => fun
  | [d] => { results := [.lit (.bool false)], args := [d] }
  | _ => none }
def ImageOfWrongFalsely : Prop := imageOfRow.holds Try.pinned (OpenSpec.ofChange imageOfWrong)

/-- 'dormouselaw27.ImageReads': WHATEVER THE INPUT: true; the input reads as it did. -/
def imageReadsSpec : ChangeSpec := { name := "imageReads", fn := fun _ => fun
  | [d] => { results := [.lit (.bool true)], args := [d] }
  | _ => none }
def imageReadsRow : OpenClaim := { program := "ytpbcchljlhkonaa", sum := "574b3fcbc0c804bc571c27ace4a279a1ed8258e3830e9abd63e847546c93cba1", func := "dormouse/dormouselaw27.ImageReads", spec := "imageReads", inPlace := ["slices.overlaps[dormouse/api.Pair]"], unfollowed := true, recurses := true, plainKeys := false, apart := false }
def ImageReadsSaid : Prop := imageReadsRow.holds Try.pinned (OpenSpec.ofChange imageReadsSpec)

/-- ITS FALSE NEIGHBOUR: 'it returns false'. Refute it at one input. -/
def imageReadsWrong : ChangeSpec := { name := "imageReads", fn := fun _ => fun
  | [d] => { results := [.lit (.bool false)], args := [d] }
  | _ => none }
def ImageReadsWrongFalsely : Prop := imageReadsRow.holds Try.pinned (OpenSpec.ofChange imageReadsWrong)

/-- 'dormouselaw27.ImageDelta': WHATEVER THE INPUT: true; the input reads as it did. -/
def imageDeltaSpec : ChangeSpec := { name := "imageDelta", fn := fun _ => fun
  | [d1, d2] => { results := [.lit (.bool true)], args := [d1, d2] }
  | _ => none }
def imageDeltaRow : OpenClaim := { program := "ytpbcchljlhkonaa", sum := "574b3fcbc0c804bc571c27ace4a279a1ed8258e3830e9abd63e847546c93cba1", func := "dormouse/dormouselaw27.ImageDelta", spec := "imageDelta", inPlace := ["slices.overlaps[dormouse/api.Pair]"], unfollowed := true, recurses := true, plainKeys := false, apart := false }
def ImageDeltaSaid : Prop := imageDeltaRow.holds Try.pinned (OpenSpec.ofChange imageDeltaSpec)

/-- ITS FALSE NEIGHBOUR: 'it returns false'. Refute it at one input. -/
def imageDeltaWrong : ChangeSpec := { name := "imageDelta", fn := fun _ => fun
  | [d1, d2] => { results := [.lit (.bool false)], args := [d1, d2] }
  | _ => none }
def ImageDeltaWrongFalsely : Prop := imageDeltaRow.holds Try.pinned (OpenSpec.ofChange imageDeltaWrong)

/-- 'dormouselaw46.DeltaPairs': WHATEVER THE INPUT: true; the input reads as it did. -/
def deltaPairsSpec : ChangeSpec := { name := "deltaPairs", fn := fun _ => fun
  | [d1, d2] => { results := [.lit (.bool true)], args := [d1, d2] }
  | _ => none }
def deltaPairsRow : OpenClaim := { program := "ytpbcchljlhkonaa", sum := "574b3fcbc0c804bc571c27ace4a279a1ed8258e3830e9abd63e847546c93cba1", func := "dormouse/dormouselaw46.DeltaPairs", spec := "deltaPairs", unfollowed := true, recurses := true, plainKeys := false, apart := false }
def DeltaPairsSaid : Prop := deltaPairsRow.holds Try.pinned (OpenSpec.ofChange deltaPairsSpec)

/-- ITS FALSE NEIGHBOUR: 'it returns false'. Refute it at one input. -/
def deltaPairsWrong : ChangeSpec := { name := "deltaPairs", fn := fun _ => fun
  | [d1, d2] => { results := [.lit (.bool false)], args := [d1, d2] }
  | _ => none }
def DeltaPairsWrongFalsely : Prop := deltaPairsRow.holds Try.pinned (OpenSpec.ofChange deltaPairsWrong)

/- THE SECOND FORM. 'bulk': how many values and letters a reading holds, each counted each time it is reached (what is shared counts as often as it is met; a slice's spare places count too). A statement '..UptoSaid' is the law's where the arguments, and the package variables that the reading takes, are together of bulk at most 1048576: NARROWER than '..Said'. Prove '..Said' where nothing that the law and all that it calls make is longer than what came in: it says more and counts as full. Else prove '..UptoSaid'. A law counts once. -/
mutual
def uptoBulk {H : Type} : DataW H → Nat
  | .lit (.string bytes) => bytes.length + 1
  | .lit _ => 1
  | .nil => 1
  | .ptr d => uptoBulk d + 1
  | .slice elems spare => uptoBulkAll elems + uptoBulkAll spare + 1
  | .agg parts => uptoBulkAll parts + 1
  | .iface _ d => uptoBulk d + 1
  | .map entries => uptoBulkEntries entries + 1
  | .held _ => 1
def uptoBulkAll {H : Type} : List (DataW H) → Nat
  | [] => 0
  | d :: r => uptoBulk d + uptoBulkAll r
def uptoBulkEntries {H : Type} : List (Lit × DataW H) → Nat
  | [] => 0
  | x :: r => uptoBulkEntry x + uptoBulkEntries r
def uptoBulkEntry {H : Type} : Lit × DataW H → Nat
  | (.string bytes, d) => bytes.length + uptoBulk d + 1
  | (_, d) => uptoBulk d + 1
 end
def uptoSmall : (H : Type) → List (DataW H) → Bool := fun _ ds => decide (uptoBulkAll ds ≤ 1048576)
def OpenSpec.upto (s : _root_.Go.ChangeSpec) : _root_.Go.OpenSpec := { _root_.Go.OpenSpec.ofChange s with cond := some uptoSmall }

/-- 'dormouselaw26.FoldAll', WHERE WHAT IT READS IS OF BULK AT MOST 1048576: true; the input reads as it did. -/
def foldAllUptoRow : OpenClaim := { program := "ytpbcchljlhkonaa", sum := "574b3fcbc0c804bc571c27ace4a279a1ed8258e3830e9abd63e847546c93cba1", func := "dormouse/dormouselaw26.FoldAll", spec := "foldAll", inPlace := ["slices.overlaps[dormouse/api.Pair]"], unfollowed := true, recurses := true, plainKeys := false, apart := false, narrowed := true }
def FoldAllUptoSaid : Prop := foldAllUptoRow.holds Try.pinned (OpenSpec.upto foldAllSpec)

/-- 'dormouselaw26.FoldOne', WHERE WHAT IT READS IS OF BULK AT MOST 1048576: true; the input reads as it did. -/
def foldOneUptoRow : OpenClaim := { program := "ytpbcchljlhkonaa", sum := "574b3fcbc0c804bc571c27ace4a279a1ed8258e3830e9abd63e847546c93cba1", func := "dormouse/dormouselaw26.FoldOne", spec := "foldOne", inPlace := ["slices.overlaps[dormouse/api.Pair]"], unfollowed := true, recurses := true, plainKeys := false, apart := false, narrowed := true }
def FoldOneUptoSaid : Prop := foldOneUptoRow.holds Try.pinned (OpenSpec.upto foldOneSpec)

/-- 'dormouselaw26.FoldWith', WHERE WHAT IT READS IS OF BULK AT MOST 1048576: true; the input reads as it did. -/
def foldWithUptoRow : OpenClaim := { program := "ytpbcchljlhkonaa", sum := "574b3fcbc0c804bc571c27ace4a279a1ed8258e3830e9abd63e847546c93cba1", func := "dormouse/dormouselaw26.FoldWith", spec := "foldWith", inPlace := ["slices.overlaps[dormouse/api.Pair]"], unfollowed := true, recurses := true, plainKeys := false, apart := false, narrowed := true }
def FoldWithUptoSaid : Prop := foldWithUptoRow.holds Try.pinned (OpenSpec.upto foldWithSpec)

/-- 'dormouselaw27.ImageOf', WHERE WHAT IT READS IS OF BULK AT MOST 1048576: true; the input reads as it did. -/
def imageOfUptoRow : OpenClaim := { program := "ytpbcchljlhkonaa", sum := "574b3fcbc0c804bc571c27ace4a279a1ed8258e3830e9abd63e847546c93cba1", func := "dormouse/dormouselaw27.ImageOf", spec := "imageOf", inPlace := ["slices.overlaps[dormouse/api.Pair]"], unfollowed := true, recurses := true, plainKeys := false, apart := false, narrowed := true }
def ImageOfUptoSaid : Prop := imageOfUptoRow.holds Try.pinned (OpenSpec.upto imageOfSpec)

/-- 'dormouselaw27.ImageReads', WHERE WHAT IT READS IS OF BULK AT MOST 1048576: true; the input reads as it did. -/
def imageReadsUptoRow : OpenClaim := { program := "ytpbcchljlhkonaa", sum := "574b3fcbc0c804bc571c27ace4a279a1ed8258e3830e9abd63e847546c93cba1", func := "dormouse/dormouselaw27.ImageReads", spec := "imageReads", inPlace := ["slices.overlaps[dormouse/api.Pair]"], unfollowed := true, recurses := true, plainKeys := false, apart := false, narrowed := true }
def ImageReadsUptoSaid : Prop := imageReadsUptoRow.holds Try.pinned (OpenSpec.upto imageReadsSpec)

/-- 'dormouselaw27.ImageDelta', WHERE WHAT IT READS IS OF BULK AT MOST 1048576: true; the input reads as it did. -/
def imageDeltaUptoRow : OpenClaim := { program := "ytpbcchljlhkonaa", sum := "574b3fcbc0c804bc571c27ace4a279a1ed8258e3830e9abd63e847546c93cba1", func := "dormouse/dormouselaw27.ImageDelta", spec := "imageDelta", inPlace := ["slices.overlaps[dormouse/api.Pair]"], unfollowed := true, recurses := true, plainKeys := false, apart := false, narrowed := true }
def ImageDeltaUptoSaid : Prop := imageDeltaUptoRow.holds Try.pinned (OpenSpec.upto imageDeltaSpec)

/-- 'dormouselaw46.DeltaPairs', WHERE WHAT IT READS IS OF BULK AT MOST 1048576: true; the input reads as it did. -/
def deltaPairsUptoRow : OpenClaim := { program := "ytpbcchljlhkonaa", sum := "574b3fcbc0c804bc571c27ace4a279a1ed8258e3830e9abd63e847546c93cba1", func := "dormouse/dormouselaw46.DeltaPairs", spec := "deltaPairs", unfollowed := true, recurses := true, plainKeys := false, apart := false, narrowed := true }
def DeltaPairsUptoSaid : Prop := deltaPairsUptoRow.holds Try.pinned (OpenSpec.upto deltaPairsSpec)

end Rows
end Go.Proofs.Ytpbcchljlhkonaa
