/-
  No cell of these rows narrows 'for every input' (looked for: loops, veiled, ifaces, maps, wideKeys, modest, calm, conditions, laid).
  DERIVED. THE GIVEN ROWS OF THIS SEAT. 12 by the template 'for every input the law returns true; each argument reads behind the call as it read before'; 0 by the template 'total and deterministic' (their statements: YtejhoahklkbgpaaTotals.lean).
  GIVEN WITH THE SEED: the statements are not yours to turn. If you find one false, say at which input.
  Laid BY PROGRAM, IN A SANDBOX (cutbox-rows.mjs): the forced cells as the released guide's own fill.sh prints them over the translation 3d069aa5036f83f8… (all of the seat's roots in one cut). By AI agents, Wed Nov 11 2026. No macro, syntax, notation, axiom, sorry.
-/
import Derived.Test.YtejhoahklkbgpaaChecked
import GoSem.Claim
import GoSem.ClaimJoined
import GoSem.ClaimMapViews
import Derived.JoinedTies
import Derived.KernelRfl
namespace Go.Proofs.Ytejhoahklkbgpaa
/- THE CELL 'sum', in the pinned program and in every row, IS THE sha256 OF THE DUMP (.gsa) THAT YtejhoahklkbgpaaProg.lean LOADS. Nothing in Lean hashes anything: it is a label: what it is worth is what the hold of that sum in a sandbox is worth. -/
noncomputable def Try.pinned : Pinned := { name := "ytejhoahklkbgpaa", sum := "3d069aa5036f83f88ff6d343b4c9f709f5f6626123db8fa611ecbb9daf97de15", checked := Try.checked }
namespace Rows
def none {H : Type} : Left H := { results := [], args := [] }

/-- 'dormouselaw03.SumOf': WHATEVER THE INPUT: true; the input reads as it did. -/
def sumOfSpec : ChangeSpec := { name := "sumOf", fn := fun _ => fun
  | [d1, d2] => { results := [.lit (.bool true)], args := [d1, d2] }
  | _ => none }
def sumOfRow : OpenClaim := { program := "ytejhoahklkbgpaa", sum := "3d069aa5036f83f88ff6d343b4c9f709f5f6626123db8fa611ecbb9daf97de15", func := "dormouse/dormouselaw03.SumOf", spec := "sumOf", inPlace := ["internal/bytealg.IndexByteString"], unfollowed := true, recurses := true, plainKeys := false, apart := false }
def SumOfSaid : Prop := sumOfRow.holds Try.pinned (OpenSpec.ofChange sumOfSpec)

/-- ITS FALSE NEIGHBOUR: 'it returns false'. Refute it at one input. -/
def sumOfWrong : ChangeSpec := { name := "sumOf", fn := fun _ => fun
  | [d1, d2] => { results := [.lit (.bool false)], args := [d1, d2] }
  | _ => none }
def SumOfWrongFalsely : Prop := sumOfRow.holds Try.pinned (OpenSpec.ofChange sumOfWrong)

/-- 'dormouselaw03.SumReads': WHATEVER THE INPUT: true; the input reads as it did. -/
def sumReadsSpec : ChangeSpec := { name := "sumReads", fn := fun _ => fun
  | [d1, d2, d3] => { results := [.lit (.bool true)], args := [d1, d2, d3] }
  | _ => none }
def sumReadsRow : OpenClaim := { program := "ytejhoahklkbgpaa", sum := "3d069aa5036f83f88ff6d343b4c9f709f5f6626123db8fa611ecbb9daf97de15", func := "dormouse/dormouselaw03.SumReads", spec := "sumReads", inPlace := ["internal/bytealg.IndexByteString"], unfollowed := true, recurses := true, plainKeys := false, apart := false }
def SumReadsSaid : Prop := sumReadsRow.holds Try.pinned (OpenSpec.ofChange sumReadsSpec)

/-- ITS FALSE NEIGHBOUR: 'it returns false'. Refute it at one input. -/
def sumReadsWrong : ChangeSpec := { name := "sumReads", fn := fun _ => fun
  | [d1, d2, d3] => { results := [.lit (.bool false)], args := [d1, d2, d3] }
  | _ => none }
def SumReadsWrongFalsely : Prop := sumReadsRow.holds Try.pinned (OpenSpec.ofChange sumReadsWrong)

/-- 'dormouselaw16.KeyTexts': WHATEVER THE INPUT: true; the input reads as it did. -/
def keyTextsSpec : ChangeSpec := { name := "keyTexts", fn := fun _ => fun
  | [d1, d2, d3] => { results := [.lit (.bool true)], args := [d1, d2, d3] }
  | _ => none }
def keyTextsRow : OpenClaim := { program := "ytejhoahklkbgpaa", sum := "3d069aa5036f83f88ff6d343b4c9f709f5f6626123db8fa611ecbb9daf97de15", func := "dormouse/dormouselaw16.KeyTexts", spec := "keyTexts", inPlace := ["internal/bytealg.IndexByteString", "internal/bytealg.IndexString"], unfollowed := true, recurses := true, named := ["internal/bytealg.MaxLen"], plainKeys := false, apart := false }
def KeyTextsSaid : Prop := keyTextsRow.holds Try.pinned (OpenSpec.ofChange keyTextsSpec)

/-- ITS FALSE NEIGHBOUR: 'it returns false'. Refute it at one input. -/
def keyTextsWrong : ChangeSpec := { name := "keyTexts", fn := fun _ => fun
  | [d1, d2, d3] => { results := [.lit (.bool false)], args := [d1, d2, d3] }
  | _ => none }
def KeyTextsWrongFalsely : Prop := keyTextsRow.holds Try.pinned (OpenSpec.ofChange keyTextsWrong)

/-- 'dormouselaw16.KeyParses': WHATEVER THE INPUT: true; the input reads as it did. -/
def keyParsesSpec : ChangeSpec := { name := "keyParses", fn := fun _ => fun
  | [d] => { results := [.lit (.bool true)], args := [d] }
  | _ => none }
def keyParsesRow : OpenClaim := { program := "ytejhoahklkbgpaa", sum := "3d069aa5036f83f88ff6d343b4c9f709f5f6626123db8fa611ecbb9daf97de15", func := "dormouse/dormouselaw16.KeyParses", spec := "keyParses", inPlace := ["internal/bytealg.IndexByteString", "internal/bytealg.IndexString"], unfollowed := true, recurses := true, named := ["internal/bytealg.MaxLen"], plainKeys := false, apart := false }
def KeyParsesSaid : Prop := keyParsesRow.holds Try.pinned (OpenSpec.ofChange keyParsesSpec)

/-- ITS FALSE NEIGHBOUR: 'it returns false'. Refute it at one input. -/
def keyParsesWrong : ChangeSpec := { name := "keyParses", fn := fun _ => fun
  | [d] => { results := [.lit (.bool false)], args := [d] }
  | _ => none }
def KeyParsesWrongFalsely : Prop := keyParsesRow.holds Try.pinned (OpenSpec.ofChange keyParsesWrong)

/-- 'dormouselaw26.FoldAll': WHATEVER THE INPUT: true; the input reads as it did. -/
def foldAllSpec : ChangeSpec := { name := "foldAll", fn := fun _ => fun
  | [d1, d2, d3] => { results := [.lit (.bool true)], args := [d1, d2, d3] }
  | _ => none }
def foldAllRow : OpenClaim := { program := "ytejhoahklkbgpaa", sum := "3d069aa5036f83f88ff6d343b4c9f709f5f6626123db8fa611ecbb9daf97de15", func := "dormouse/dormouselaw26.FoldAll", spec := "foldAll", inPlace := ["slices.overlaps[dormouse/api.Pair]"], unfollowed := true, recurses := true, plainKeys := false, apart := false }
def FoldAllSaid : Prop := foldAllRow.holds Try.pinned (OpenSpec.ofChange foldAllSpec)

/-- ITS FALSE NEIGHBOUR: 'it returns false'. Refute it at one input. -/
def foldAllWrong : ChangeSpec := { name := "foldAll", fn := fun _ => fun
  | [d1, d2, d3] => { results := [.lit (.bool false)], args := [d1, d2, d3] }
  | _ => none }
def FoldAllWrongFalsely : Prop := foldAllRow.holds Try.pinned (OpenSpec.ofChange foldAllWrong)

/-- 'dormouselaw26.FoldOne': WHATEVER THE INPUT: true; the input reads as it did. -/
def foldOneSpec : ChangeSpec := { name := "foldOne", fn := fun _ => fun
  | [d1, d2, d3] => { results := [.lit (.bool true)], args := [d1, d2, d3] }
  | _ => none }
def foldOneRow : OpenClaim := { program := "ytejhoahklkbgpaa", sum := "3d069aa5036f83f88ff6d343b4c9f709f5f6626123db8fa611ecbb9daf97de15", func := "dormouse/dormouselaw26.FoldOne", spec := "foldOne", inPlace := ["slices.overlaps[dormouse/api.Pair]"], unfollowed := true, recurses := true, plainKeys := false, apart := false }
def FoldOneSaid : Prop := foldOneRow.holds Try.pinned (OpenSpec.ofChange foldOneSpec)

/-- ITS FALSE NEIGHBOUR: 'it returns false'. Refute it at one input. -/
def foldOneWrong : ChangeSpec := { name := "foldOne", fn := fun _ => fun
  | [d1, d2, d3] => { results := [.lit (.bool false)], args := [d1, d2, d3] }
  | _ => none }
def FoldOneWrongFalsely : Prop := foldOneRow.holds Try.pinned (OpenSpec.ofChange foldOneWrong)

/-- 'dormouselaw26.FoldWith': WHATEVER THE INPUT: true; the input reads as it did. -/
def foldWithSpec : ChangeSpec := { name := "foldWith", fn := fun _ => fun
  | [d1, d2, d3] => { results := [.lit (.bool true)], args := [d1, d2, d3] }
  | _ => none }
def foldWithRow : OpenClaim := { program := "ytejhoahklkbgpaa", sum := "3d069aa5036f83f88ff6d343b4c9f709f5f6626123db8fa611ecbb9daf97de15", func := "dormouse/dormouselaw26.FoldWith", spec := "foldWith", inPlace := ["slices.overlaps[dormouse/api.Pair]"], unfollowed := true, recurses := true, plainKeys := false, apart := false }
def FoldWithSaid : Prop := foldWithRow.holds Try.pinned (OpenSpec.ofChange foldWithSpec)

/-- ITS FALSE NEIGHBOUR: 'it returns false'. Refute it at one input. -/
def foldWithWrong : ChangeSpec := { name := "foldWith", fn := fun _ => fun
  | [d1, d2, d3] => { results := [.lit (.bool false)], args := [d1, d2, d3] }
  | _ => none }
def FoldWithWrongFalsely : Prop := foldWithRow.holds Try.pinned (OpenSpec.ofChange foldWithWrong)

/-- 'dormouselaw46.DeltaPairs': WHATEVER THE INPUT: true; the input reads as it did. -/
def deltaPairsSpec : ChangeSpec := { name := "deltaPairs", fn := fun _ => fun
  | [d1, d2] => { results := [.lit (.bool true)], args := [d1, d2] }
  | _ => none }
def deltaPairsRow : OpenClaim := { program := "ytejhoahklkbgpaa", sum := "3d069aa5036f83f88ff6d343b4c9f709f5f6626123db8fa611ecbb9daf97de15", func := "dormouse/dormouselaw46.DeltaPairs", spec := "deltaPairs", unfollowed := true, recurses := true, plainKeys := false, apart := false }
def DeltaPairsSaid : Prop := deltaPairsRow.holds Try.pinned (OpenSpec.ofChange deltaPairsSpec)

/-- ITS FALSE NEIGHBOUR: 'it returns false'. Refute it at one input. -/
def deltaPairsWrong : ChangeSpec := { name := "deltaPairs", fn := fun _ => fun
  | [d1, d2] => { results := [.lit (.bool false)], args := [d1, d2] }
  | _ => none }
def DeltaPairsWrongFalsely : Prop := deltaPairsRow.holds Try.pinned (OpenSpec.ofChange deltaPairsWrong)

/-- 'dormouselaw27.ImageOf': WHATEVER THE INPUT: true; the input reads as it did. -/
def imageOfSpec : ChangeSpec := { name := "imageOf", fn := fun _ => fun
  | [d] => { results := [.lit (.bool true)], args := [d] }
  | _ => none }
def imageOfRow : OpenClaim := { program := "ytejhoahklkbgpaa", sum := "3d069aa5036f83f88ff6d343b4c9f709f5f6626123db8fa611ecbb9daf97de15", func := "dormouse/dormouselaw27.ImageOf", spec := "imageOf", inPlace := ["slices.overlaps[dormouse/api.Pair]"], unfollowed := true, recurses := true, plainKeys := false, apart := false }
def ImageOfSaid : Prop := imageOfRow.holds Try.pinned (OpenSpec.ofChange imageOfSpec)

/-- ITS FALSE NEIGHBOUR: 'it returns false'. Refute it at one input. -/
def imageOfWrong : ChangeSpec := { name := "imageOf", fn := fun _ => fun
  | [d] => { results := [.lit (.bool false)], args := [d] }
  | _ => none }
def ImageOfWrongFalsely : Prop := imageOfRow.holds Try.pinned (OpenSpec.ofChange imageOfWrong)

/-- 'dormouselaw27.ImageReads': WHATEVER THE INPUT: true; the input reads as it did. -/
def imageReadsSpec : ChangeSpec := { name := "imageReads", fn := fun _ => fun
  | [d] => { results := [.lit (.bool true)], args := [d] }
  | _ => none }
def imageReadsRow : OpenClaim := { program := "ytejhoahklkbgpaa", sum := "3d069aa5036f83f88ff6d343b4c9f709f5f6626123db8fa611ecbb9daf97de15", func := "dormouse/dormouselaw27.ImageReads", spec := "imageReads", inPlace := ["slices.overlaps[dormouse/api.Pair]"], unfollowed := true, recurses := true, plainKeys := false, apart := false }
def ImageReadsSaid : Prop := imageReadsRow.holds Try.pinned (OpenSpec.ofChange imageReadsSpec)

/-- ITS FALSE NEIGHBOUR: 'it returns false'. Refute it at one input. -/
def imageReadsWrong : ChangeSpec := { name := "imageReads", fn := fun _ => fun
  | [d] => { results := [.lit (.bool false)], args := [d] }
  | _ => none }
def ImageReadsWrongFalsely : Prop := imageReadsRow.holds Try.pinned (OpenSpec.ofChange imageReadsWrong)

/-- 'dormouselaw27.ImageDelta': WHATEVER THE INPUT: true; the input reads as it did. -/
def imageDeltaSpec : ChangeSpec := { name := "imageDelta", fn := fun _ => fun
  | [d1, d2] => { results := [.lit (.bool true)], args := [d1, d2] }
  | _ => none }
def imageDeltaRow : OpenClaim := { program := "ytejhoahklkbgpaa", sum := "3d069aa5036f83f88ff6d343b4c9f709f5f6626123db8fa611ecbb9daf97de15", func := "dormouse/dormouselaw27.ImageDelta", spec := "imageDelta", inPlace := ["slices.overlaps[dormouse/api.Pair]"], unfollowed := true, recurses := true, plainKeys := false, apart := false }
def ImageDeltaSaid : Prop := imageDeltaRow.holds Try.pinned (OpenSpec.ofChange imageDeltaSpec)

/-- ITS FALSE NEIGHBOUR: 'it returns false'. Refute it at one input. -/
def imageDeltaWrong : ChangeSpec := { name := "imageDelta", fn := fun _ => fun
  | [d1, d2] => { results := [.lit (.bool false)], args := [d1, d2] }
  | _ => none }
def ImageDeltaWrongFalsely : Prop := imageDeltaRow.holds Try.pinned (OpenSpec.ofChange imageDeltaWrong)

/-- 'dormouselaw16.KeySorts': WHATEVER THE INPUT: true; the input reads as it did. -/
def keySortsSpec : ChangeSpec := { name := "keySorts", fn := fun _ => fun
  | [d] => { results := [.lit (.bool true)], args := [d] }
  | _ => none }
def keySortsRow : OpenClaim := { program := "ytejhoahklkbgpaa", sum := "3d069aa5036f83f88ff6d343b4c9f709f5f6626123db8fa611ecbb9daf97de15", func := "dormouse/dormouselaw16.KeySorts", spec := "keySorts", inPlace := ["internal/bytealg.IndexByteString", "internal/bytealg.IndexString"], unfollowed := true, recurses := true, named := ["internal/bytealg.MaxLen"], plainKeys := false, apart := false }
def KeySortsSaid : Prop := keySortsRow.holds Try.pinned (OpenSpec.ofChange keySortsSpec)

/-- ITS FALSE NEIGHBOUR: 'it returns false'. Refute it at one input. -/
def keySortsWrong : ChangeSpec := { name := "keySorts", fn := fun _ => fun
  | [d] => { results := [.lit (.bool false)], args := [d] }
  | _ => none }
def KeySortsWrongFalsely : Prop := keySortsRow.holds Try.pinned (OpenSpec.ofChange keySortsWrong)

/- THE SECOND FORM. 'bulk': how many values and letters a reading holds, each counted each time it is reached (what is shared counts as often as it is met; a slice's spare places count too). A statement '..UptoSaid' is the law's where the arguments, and the package variables that the reading takes, are together of bulk at most 1048576: NARROWER than '..Said'. Prove '..Said' where nothing that the law and all that it calls make is longer than what came in: it says more and counts as full. Else prove '..UptoSaid'. A law counts once. -/
mutual
def uptoBulk {H : Type} : DataW H → Nat
  | .lit (.string bytes) => bytes.length + 1
  | .lit _ => 1
  | .nil => 1
  | .ptr d => uptoBulk d + 1
  | .slice elems spare => uptoBulkAll elems + uptoBulkAll spare + 1
  | .agg parts => uptoBulkAll parts + 1
  | .iface _ d => uptoBulk d + 1
  | .map entries => uptoBulkEntries entries + 1
  | .held _ => 1
def uptoBulkAll {H : Type} : List (DataW H) → Nat
  | [] => 0
  | d :: r => uptoBulk d + uptoBulkAll r
def uptoBulkEntries {H : Type} : List (Lit × DataW H) → Nat
  | [] => 0
  | x :: r => uptoBulkEntry x + uptoBulkEntries r
def uptoBulkEntry {H : Type} : Lit × DataW H → Nat
  | (.string bytes, d) => bytes.length + uptoBulk d + 1
  | (_, d) => uptoBulk d + 1
 end
def uptoSmall : (H : Type) → List (DataW H) → Bool := fun _ ds => decide (uptoBulkAll ds ≤ 1048576)
def OpenSpec.upto (s : _root_.Go.ChangeSpec) : _root_.Go.OpenSpec := { _root_.Go.OpenSpec.ofChange s with cond := some uptoSmall }

/-- 'dormouselaw03.SumOf', WHERE WHAT IT READS IS OF BULK AT MOST 1048576: true; the input reads as it did. -/
def sumOfUptoRow : OpenClaim := { program := "ytejhoahklkbgpaa", sum := "3d069aa5036f83f88ff6d343b4c9f709f5f6626123db8fa611ecbb9daf97de15", func := "dormouse/dormouselaw03.SumOf", spec := "sumOf", inPlace := ["internal/bytealg.IndexByteString"], unfollowed := true, recurses := true, plainKeys := false, apart := false, narrowed := true }
def SumOfUptoSaid : Prop := sumOfUptoRow.holds Try.pinned (OpenSpec.upto sumOfSpec)

/-- 'dormouselaw03.SumReads', WHERE WHAT IT READS IS OF BULK AT MOST 1048576: true; the input reads as it did. -/
def sumReadsUptoRow : OpenClaim := { program := "ytejhoahklkbgpaa", sum := "3d069aa5036f83f88ff6d343b4c9f709f5f6626123db8fa611ecbb9daf97de15", func := "dormouse/dormouselaw03.SumReads", spec := "sumReads", inPlace := ["internal/bytealg.IndexByteString"], unfollowed := true, recurses := true, plainKeys := false, apart := false, narrowed := true }
def SumReadsUptoSaid : Prop := sumReadsUptoRow.holds Try.pinned (OpenSpec.upto sumReadsSpec)

/-- 'dormouselaw16.KeyTexts', WHERE WHAT IT READS IS OF BULK AT MOST 1048576: true; the input reads as it did. -/
def keyTextsUptoRow : OpenClaim := { program := "ytejhoahklkbgpaa", sum := "3d069aa5036f83f88ff6d343b4c9f709f5f6626123db8fa611ecbb9daf97de15", func := "dormouse/dormouselaw16.KeyTexts", spec := "keyTexts", inPlace := ["internal/bytealg.IndexByteString", "internal/bytealg.IndexString"], unfollowed := true, recurses := true, named := ["internal/bytealg.MaxLen"], plainKeys := false, apart := false, narrowed := true }
def KeyTextsUptoSaid : Prop := keyTextsUptoRow.holds Try.pinned (OpenSpec.upto keyTextsSpec)

/-- 'dormouselaw16.KeyParses', WHERE WHAT IT READS IS OF BULK AT MOST 1048576: true; the input reads as it did. -/
def keyParsesUptoRow : OpenClaim := { program := "ytejhoahklkbgpaa", sum := "3d069aa5036f83f88ff6d343b4c9f709f5f6626123db8fa611ecbb9daf97de15", func := "dormouse/dormouselaw16.KeyParses", spec := "keyParses", inPlace := ["internal/bytealg.IndexByteString", "internal/bytealg.IndexString"], unfollowed := true, recurses := true, named := ["internal/bytealg.MaxLen"], plainKeys := false, apart := false, narrowed := true }
def KeyParsesUptoSaid : Prop := keyParsesUptoRow.holds Try.pinned (OpenSpec.upto keyParsesSpec)

/-- 'dormouselaw26.FoldAll', WHERE WHAT IT READS IS OF BULK AT MOST 1048576: true; the input reads as it did. -/
def foldAllUptoRow : OpenClaim := { program := "ytejhoahklkbgpaa", sum := "3d069aa5036f83f88ff6d343b4c9f709f5f6626123db8fa611ecbb9daf97de15", func := "dormouse/dormouselaw26.FoldAll", spec := "foldAll", inPlace := ["slices.overlaps[dormouse/api.Pair]"], unfollowed := true, recurses := true, plainKeys := false, apart := false, narrowed := true }
def FoldAllUptoSaid : Prop := foldAllUptoRow.holds Try.pinned (OpenSpec.upto foldAllSpec)

/-- 'dormouselaw26.FoldOne', WHERE WHAT IT READS IS OF BULK AT MOST 1048576: true; the input reads as it did. -/
def foldOneUptoRow : OpenClaim := { program := "ytejhoahklkbgpaa", sum := "3d069aa5036f83f88ff6d343b4c9f709f5f6626123db8fa611ecbb9daf97de15", func := "dormouse/dormouselaw26.FoldOne", spec := "foldOne", inPlace := ["slices.overlaps[dormouse/api.Pair]"], unfollowed := true, recurses := true, plainKeys := false, apart := false, narrowed := true }
def FoldOneUptoSaid : Prop := foldOneUptoRow.holds Try.pinned (OpenSpec.upto foldOneSpec)

/-- 'dormouselaw26.FoldWith', WHERE WHAT IT READS IS OF BULK AT MOST 1048576: true; the input reads as it did. -/
def foldWithUptoRow : OpenClaim := { program := "ytejhoahklkbgpaa", sum := "3d069aa5036f83f88ff6d343b4c9f709f5f6626123db8fa611ecbb9daf97de15", func := "dormouse/dormouselaw26.FoldWith", spec := "foldWith", inPlace := ["slices.overlaps[dormouse/api.Pair]"], unfollowed := true, recurses := true, plainKeys := false, apart := false, narrowed := true }
def FoldWithUptoSaid : Prop := foldWithUptoRow.holds Try.pinned (OpenSpec.upto foldWithSpec)

/-- 'dormouselaw46.DeltaPairs', WHERE WHAT IT READS IS OF BULK AT MOST 1048576: true; the input reads as it did. -/
def deltaPairsUptoRow : OpenClaim := { program := "ytejhoahklkbgpaa", sum := "3d069aa5036f83f88ff6d343b4c9f709f5f6626123db8fa611ecbb9daf97de15", func := "dormouse/dormouselaw46.DeltaPairs", spec := "deltaPairs", unfollowed := true, recurses := true, plainKeys := false, apart := false, narrowed := true }
def DeltaPairsUptoSaid : Prop := deltaPairsUptoRow.holds Try.pinned (OpenSpec.upto deltaPairsSpec)

/-- 'dormouselaw27.ImageOf', WHERE WHAT IT READS IS OF BULK AT MOST 1048576: true; the input reads as it did. -/
def imageOfUptoRow : OpenClaim := { program := "ytejhoahklkbgpaa", sum := "3d069aa5036f83f88ff6d343b4c9f709f5f6626123db8fa611ecbb9daf97de15", func := "dormouse/dormouselaw27.ImageOf", spec := "imageOf", inPlace := ["slices.overlaps[dormouse/api.Pair]"], unfollowed := true, recurses := true, plainKeys := false, apart := false, narrowed := true }
def ImageOfUptoSaid : Prop := imageOfUptoRow.holds Try.pinned (OpenSpec.upto imageOfSpec)

/-- 'dormouselaw27.ImageReads', WHERE WHAT IT READS IS OF BULK AT MOST 1048576: true; the input reads as it did. -/
def imageReadsUptoRow : OpenClaim := { program := "ytejhoahklkbgpaa", sum := "3d069aa5036f83f88ff6d343b4c9f709f5f6626123db8fa611ecbb9daf97de15", func := "dormouse/dormouselaw27.ImageReads", spec := "imageReads", inPlace := ["slices.overlaps[dormouse/api.Pair]"], unfollowed := true, recurses := true, plainKeys := false, apart := false, narrowed := true }
def ImageReadsUptoSaid : Prop := imageReadsUptoRow.holds Try.pinned (OpenSpec.upto imageReadsSpec)

/-- 'dormouselaw27.ImageDelta', WHERE WHAT IT READS IS OF BULK AT MOST 1048576: true; the input reads as it did. -/
def imageDeltaUptoRow : OpenClaim := { program := "ytejhoahklkbgpaa", sum := "3d069aa5036f83f88ff6d343b4c9f709f5f6626123db8fa611ecbb9daf97de15", func := "dormouse/dormouselaw27.ImageDelta", spec := "imageDelta", inPlace := ["slices.overlaps[dormouse/api.Pair]"], unfollowed := true, recurses := true, plainKeys := false, apart := false, narrowed := true }
def ImageDeltaUptoSaid : Prop := imageDeltaUptoRow.holds Try.pinned (OpenSpec.upto imageDeltaSpec)

/-- 'dormouselaw16.KeySorts', WHERE WHAT IT READS IS OF BULK AT MOST 1048576: true; the input reads as it did. -/
def keySortsUptoRow : OpenClaim := { program := "ytejhoahklkbgpaa", sum := "3d069aa5036f83f88ff6d343b4c9f709f5f6626123db8fa611ecbb9daf97de15", func := "dormouse/dormouselaw16.KeySorts", spec := "keySorts", inPlace := ["internal/bytealg.IndexByteString", "internal/bytealg.IndexString"], unfollowed := true, recurses := true, named := ["internal/bytealg.MaxLen"], plainKeys := false, apart := false, narrowed := true }
def KeySortsUptoSaid : Prop := keySortsUptoRow.holds Try.pinned (OpenSpec.upto keySortsSpec)

end Rows
end Go.Proofs.Ytejhoahklkbgpaa
