/-
  No cell of these rows narrows 'for every input' (looked for: loops, veiled, ifaces, maps, wideKeys, modest, calm, conditions, laid).
  DERIVED. THE GIVEN ROWS OF THIS SEAT. 8 by the template 'for every input the law returns true; each argument reads behind the call as it read before'; 0 by the template 'total and deterministic' (their statements: YtkffblmobccedaaTotals.lean).
  GIVEN WITH THE SEED: the statements are not yours to turn. If you find one false, say at which input.
  Laid BY PROGRAM, IN A SANDBOX (cutbox-rows.mjs): the forced cells as the released guide's own fill.sh prints them over the translation 0c454f33ed679df9… (all of the seat's roots in one cut). By AI agents, Wed Nov 11 2026. No macro, syntax, notation, axiom, sorry.
-/
import Derived.Test.YtkffblmobccedaaChecked
import GoSem.Claim
import GoSem.ClaimJoined
import GoSem.ClaimMapViews
import Derived.JoinedTies
import Derived.KernelRfl
namespace Go.Proofs.Ytkffblmobccedaa
/- THE CELL 'sum', in the pinned program and in every row, IS THE sha256 OF THE DUMP (.gsa) THAT YtkffblmobccedaaProg.lean LOADS. Nothing in Lean hashes anything: it is a label: what it is worth is what the hold of that sum in a sandbox is worth. -/
noncomputable def Try.pinned : Pinned := { name := "ytkffblmobccedaa", sum := "0c454f33ed679df93159a7cffb13f8145950d0ad9d250cfe376b98af0a915458", checked := Try.checked }
namespace Rows
def none {H : Type} : Left H := { results := [], args := [] }

/-- 'dormouselaw16.KeySorts': WHATEVER THE INPUT: true; the input reads as it did. -/
def keySortsSpec : ChangeSpec := { name := "keySorts", fn := fun _ => fun
  | [d] => { results := [.lit (.bool true)], args := [d] }
  | _ => none }
def keySortsRow : OpenClaim := { program := "ytkffblmobccedaa", sum := "0c454f33ed679df93159a7cffb13f8145950d0ad9d250cfe376b98af0a915458", func := "dormouse/dormouselaw16.KeySorts", spec := "keySorts", inPlace := ["internal/bytealg.IndexByteString", "internal/bytealg.IndexString"], unfollowed := true, recurses := true, named := ["internal/bytealg.MaxLen"], apart := false }
def KeySortsSaid : Prop := keySortsRow.holds Try.pinned (OpenSpec.ofChange keySortsSpec)

/-- ITS FALSE NEIGHBOUR: 'it returns false'. Refute it at one input. -/
def keySortsWrong : ChangeSpec := { name := "keySorts", fn := fun _ => fun
  | [d] => { results := [.lit (.bool false)], args := [d] }
  | _ => none }
def KeySortsWrongFalsely : Prop := keySortsRow.holds Try.pinned (OpenSpec.ofChange keySortsWrong)

/-- 'dormouselaw04.GaugeOrders': WHATEVER THE INPUT: true; the input reads as it did. -/
def gaugeOrdersSpec : ChangeSpec := { name := "gaugeOrders", fn := fun _ => fun
  | [d1, d2] => { results := [.lit (.bool true)], args := [d1, d2] }
  | _ => none }
def gaugeOrdersRow : OpenClaim := { program := "ytkffblmobccedaa", sum := "0c454f33ed679df93159a7cffb13f8145950d0ad9d250cfe376b98af0a915458", func := "dormouse/dormouselaw04.GaugeOrders", spec := "gaugeOrders", inPlace := ["math.Float64frombits", "math.Float64bits"], unfollowed := true, recurses := true, apart := false }
def GaugeOrdersSaid : Prop := gaugeOrdersRow.holds Try.pinned (OpenSpec.ofChange gaugeOrdersSpec)

/-- ITS FALSE NEIGHBOUR: 'it returns false'. Refute it at one input. -/
def gaugeOrdersWrong : ChangeSpec := { name := "gaugeOrders", fn := fun _ => fun
  | [d1, d2] => { results := [.lit (.bool false)], args := [d1, d2] }
  | _ => none }
def GaugeOrdersWrongFalsely : Prop := gaugeOrdersRow.holds Try.pinned (OpenSpec.ofChange gaugeOrdersWrong)

/-- 'dormouselaw04.GaugeSorts': WHATEVER THE INPUT: true; the input reads as it did. -/
def gaugeSortsSpec : ChangeSpec := { name := "gaugeSorts", fn := fun _ => fun
  | [d] => { results := [.lit (.bool true)], args := [d] }
  | _ => none }
def gaugeSortsRow : OpenClaim := { program := "ytkffblmobccedaa", sum := "0c454f33ed679df93159a7cffb13f8145950d0ad9d250cfe376b98af0a915458", func := "dormouse/dormouselaw04.GaugeSorts", spec := "gaugeSorts", inPlace := ["math.Float64bits", "math.Float64frombits"], unfollowed := true, recurses := true, apart := false }
def GaugeSortsSaid : Prop := gaugeSortsRow.holds Try.pinned (OpenSpec.ofChange gaugeSortsSpec)

/-- ITS FALSE NEIGHBOUR: 'it returns false'. Refute it at one input. -/
def gaugeSortsWrong : ChangeSpec := { name := "gaugeSorts", fn := fun _ => fun
  | [d] => { results := [.lit (.bool false)], args := [d] }
  | _ => none }
def GaugeSortsWrongFalsely : Prop := gaugeSortsRow.holds Try.pinned (OpenSpec.ofChange gaugeSortsWrong)

/-- 'dormouselaw04.GaugeShares': WHATEVER THE INPUT: true; the input reads as it did. -/
def gaugeSharesSpec : ChangeSpec := { name := "gaugeShares", fn := fun _ => fun
  | [d1, d2] => { results := [.lit (.bool true)], args := [d1, d2] }
  | _ => none }
def gaugeSharesRow : OpenClaim := { program := "ytkffblmobccedaa", sum := "0c454f33ed679df93159a7cffb13f8145950d0ad9d250cfe376b98af0a915458", func := "dormouse/dormouselaw04.GaugeShares", spec := "gaugeShares", inPlace := ["math.Float64bits", "math.Float64frombits"], unfollowed := true, recurses := true, apart := false }
def GaugeSharesSaid : Prop := gaugeSharesRow.holds Try.pinned (OpenSpec.ofChange gaugeSharesSpec)

/-- ITS FALSE NEIGHBOUR: 'it returns false'. Refute it at one input. -/
def gaugeSharesWrong : ChangeSpec := { name := "gaugeShares", fn := fun _ => fun
  | [d1, d2] => { results := [.lit (.bool false)], args := [d1, d2] }
  | _ => none }
def GaugeSharesWrongFalsely : Prop := gaugeSharesRow.holds Try.pinned (OpenSpec.ofChange gaugeSharesWrong)

/-- 'dormouselaw04.GaugeSmooths': WHATEVER THE INPUT: true; the input reads as it did. -/
def gaugeSmoothsSpec : ChangeSpec := { name := "gaugeSmooths", fn := fun _ => fun
  | [d] => { results := [.lit (.bool true)], args := [d] }
  | _ => none }
def gaugeSmoothsRow : OpenClaim := { program := "ytkffblmobccedaa", sum := "0c454f33ed679df93159a7cffb13f8145950d0ad9d250cfe376b98af0a915458", func := "dormouse/dormouselaw04.GaugeSmooths", spec := "gaugeSmooths", inPlace := ["math.Float64frombits", "math.Float64bits"], unfollowed := true, recurses := true, apart := false }
def GaugeSmoothsSaid : Prop := gaugeSmoothsRow.holds Try.pinned (OpenSpec.ofChange gaugeSmoothsSpec)

/-- ITS FALSE NEIGHBOUR: 'it returns false'. Refute it at one input. -/
def gaugeSmoothsWrong : ChangeSpec := { name := "gaugeSmooths", fn := fun _ => fun
  | [d] => { results := [.lit (.bool false)], args := [d] }
  | _ => none }
def GaugeSmoothsWrongFalsely : Prop := gaugeSmoothsRow.holds Try.pinned (OpenSpec.ofChange gaugeSmoothsWrong)

/-- 'dormouselaw26.FoldAll': WHATEVER THE INPUT: true; the input reads as it did. -/
def foldAllSpec : ChangeSpec := { name := "foldAll", fn := fun _ => fun
  | [d1, d2, d3] => { results := [.lit (.bool true)], args := [d1, d2, d3] }
  | _ => none }
def foldAllRow : OpenClaim := { program := "ytkffblmobccedaa", sum := "0c454f33ed679df93159a7cffb13f8145950d0ad9d250cfe376b98af0a915458", func := "dormouse/dormouselaw26.FoldAll", spec := "foldAll", inPlace := ["slices.overlaps[dormouse/api.Pair]"], unfollowed := true, recurses := true, apart := false }
def FoldAllSaid : Prop := foldAllRow.holds Try.pinned (OpenSpec.ofChange foldAllSpec)

/-- ITS FALSE NEIGHBOUR: 'it returns false'. Refute it at one input. -/
def foldAllWrong : ChangeSpec := { name := "foldAll", fn := fun _ => fun
  | [d1, d2, d3] => { results := [.lit (.bool false)], args := [d1, d2, d3] }
  | _ => none }
def FoldAllWrongFalsely : Prop := foldAllRow.holds Try.pinned (OpenSpec.ofChange foldAllWrong)

/-- 'dormouselaw26.FoldOne': WHATEVER THE INPUT: true; the input reads as it did. -/
def foldOneSpec : ChangeSpec := { name := "foldOne", fn := fun _ => fun
  | [d1, d2, d3] => { results := [.lit (.bool true)], args := [d1, d2, d3] }
  | _ => none }
def foldOneRow : OpenClaim := { program := "ytkffblmobccedaa", sum := "0c454f33ed679df93159a7cffb13f8145950d0ad9d250cfe376b98af0a915458", func := "dormouse/dormouselaw26.FoldOne", spec := "foldOne", inPlace := ["slices.overlaps[dormouse/api.Pair]"], unfollowed := true, recurses := true, apart := false }
def FoldOneSaid : Prop := foldOneRow.holds Try.pinned (OpenSpec.ofChange foldOneSpec)

/-- ITS FALSE NEIGHBOUR: 'it returns false'. Refute it at one input. -/
def foldOneWrong : ChangeSpec := { name := "foldOne", fn := fun _ => fun
  | [d1, d2, d3] => { results := [.lit (.bool false)], args := [d1, d2, d3] }
  | _ => none }
def FoldOneWrongFalsely : Prop := foldOneRow.holds Try.pinned (OpenSpec.ofChange foldOneWrong)

/-- 'dormouselaw26.FoldWith': WHATEVER THE INPUT: true; the input reads as it did. -/
def foldWithSpec : ChangeSpec := { name := "foldWith", fn := fun _ => fun
  | [d1, d2, d3] => { results := [.lit (.bool true)], args := [d1, d2, d3] }
  | _ => none }
def foldWithRow : OpenClaim := { program := "ytkffblmobccedaa", sum := "0c454f33ed679df93159a7cffb13f8145950d0ad9d250cfe376b98af0a915458", func := "dormouse/dormouselaw26.FoldWith", spec := "foldWith", inPlace := ["slices.overlaps[dormouse/api.Pair]"], unfollowed := true, recurses := true, apart := false }
def FoldWithSaid : Prop := foldWithRow.holds Try.pinned (OpenSpec.ofChange foldWithSpec)

/-- ITS FALSE NEIGHBOUR: 'it returns false'. Refute it at one input. -/
def foldWithWrong : ChangeSpec := { name := "foldWith", fn := fun _ => fun
  | [d1, d2, d3] => { results := [.lit (.bool false)], args := [d1, d2, d3] }
  | _ => none }
def FoldWithWrongFalsely : Prop := foldWithRow.holds Try.pinned (OpenSpec.ofChange foldWithWrong)

/- THE SECOND FORM. 'bulk': how many values and letters a reading holds, each counted each time it is reached (what is shared counts as often as it is met; a slice's spare places count too). A statement '..UptoSaid' is the law's where the arguments, and the package variables that the reading takes, are together of bulk at most 1048576: NARROWER than '..Said'. Prove '..Said' where nothing that the law and all that it calls make is longer than what came in: it says more and counts as full. Else prove '..UptoSaid'. A law counts once. -/
mutual
def uptoBulk {H : Type} : DataW H → Nat
  | .lit (.string bytes) => bytes.length + 1
  | .lit _ => 1
  | .nil => 1
  | .ptr d => uptoBulk d + 1
  | .slice elems spare => uptoBulkAll elems + uptoBulkAll spare + 1
  | .agg parts => uptoBulkAll parts + 1
  | .iface _ d => uptoBulk d + 1
  | .map entries => uptoBulkEntries entries + 1
  | .held _ => 1
def uptoBulkAll {H : Type} : List (DataW H) → Nat
  | [] => 0
  | d :: r => uptoBulk d + uptoBulkAll r
def uptoBulkEntries {H : Type} : List (Lit × DataW H) → Nat
  | [] => 0
  | x :: r => uptoBulkEntry x + uptoBulkEntries r
def uptoBulkEntry {H : Type} : Lit × DataW H → Nat
  | (.string bytes, d) => bytes.length + uptoBulk d + 1
  | (_, d) => uptoBulk d + 1
 end
def uptoSmall : (H : Type) → List (DataW H) → Bool := fun _ ds => decide (uptoBulkAll ds ≤ 1048576)
def OpenSpec.upto (s : _root_.Go.ChangeSpec) : _root_.Go.OpenSpec := { _root_.Go.OpenSpec.ofChange s with cond := some uptoSmall }

/-- 'dormouselaw16.KeySorts', WHERE WHAT IT READS IS OF BULK AT MOST 1048576: true; the input reads as it did. -/
def keySortsUptoRow : OpenClaim := { program := "ytkffblmobccedaa", sum := "0c454f33ed679df93159a7cffb13f8145950d0ad9d250cfe376b98af0a915458", func := "dormouse/dormouselaw16.KeySorts", spec := "keySorts", inPlace := ["internal/bytealg.IndexByteString", "internal/bytealg.IndexString"], unfollowed := true, recurses := true, named := ["internal/bytealg.MaxLen"], apart := false, narrowed := true }
def KeySortsUptoSaid : Prop := keySortsUptoRow.holds Try.pinned (OpenSpec.upto keySortsSpec)

/-- 'dormouselaw04.GaugeOrders', WHERE WHAT IT READS IS OF BULK AT MOST 1048576: true; the input reads as it did. -/
def gaugeOrdersUptoRow : OpenClaim := { program := "ytkffblmobccedaa", sum := "0c454f33ed679df93159a7cffb13f8145950d0ad9d250cfe376b98af0a915458", func := "dormouse/dormouselaw04.GaugeOrders", spec := "gaugeOrders", inPlace := ["math.Float64frombits", "math.Float64bits"], unfollowed := true, recurses := true, apart := false, narrowed := true }
def GaugeOrdersUptoSaid : Prop := gaugeOrdersUptoRow.holds Try.pinned (OpenSpec.upto gaugeOrdersSpec)

/-- 'dormouselaw04.GaugeSorts', WHERE WHAT IT READS IS OF BULK AT MOST 1048576: true; the input reads as it did. -/
def gaugeSortsUptoRow : OpenClaim := { program := "ytkffblmobccedaa", sum := "0c454f33ed679df93159a7cffb13f8145950d0ad9d250cfe376b98af0a915458", func := "dormouse/dormouselaw04.GaugeSorts", spec := "gaugeSorts", inPlace := ["math.Float64bits", "math.Float64frombits"], unfollowed := true, recurses := true, apart := false, narrowed := true }
def GaugeSortsUptoSaid : Prop := gaugeSortsUptoRow.holds Try.pinned (OpenSpec.upto gaugeSortsSpec)

/-- 'dormouselaw04.GaugeShares', WHERE WHAT IT READS IS OF BULK AT MOST 1048576: true; the input reads as it did. -/
def gaugeSharesUptoRow : OpenClaim := { program := "ytkffblmobccedaa", sum := "0c454f33ed679df93159a7cffb13f8145950d0ad9d250cfe376b98af0a915458", func := "dormouse/dormouselaw04.GaugeShares", spec := "gaugeShares", inPlace := ["math.Float64bits", "math.Float64frombits"], unfollowed := true, recurses := true, apart := false, narrowed := true }
def GaugeSharesUptoSaid : Prop := gaugeSharesUptoRow.holds Try.pinned (OpenSpec.upto gaugeSharesSpec)

/-- 'dormouselaw04.GaugeSmooths', WHERE WHAT IT READS IS OF BULK AT MOST 1048576: true; the input reads as it did. -/
def gaugeSmoothsUptoRow : OpenClaim := { program := "ytkffblmobccedaa", sum := "0c454f33ed679df93159a7cffb13f8145950d0ad9d250cfe376b98af0a915458", func := "dormouse/dormouselaw04.GaugeSmooths", spec := "gaugeSmooths", inPlace := ["math.Float64frombits", "math.Float64bits"], unfollowed := true, recurses := true, apart := false, narrowed := true }
def GaugeSmoothsUptoSaid : Prop := gaugeSmoothsUptoRow.holds Try.pinned (OpenSpec.upto gaugeSmoothsSpec)

/-- 'dormouselaw26.FoldAll', WHERE WHAT IT READS IS OF BULK AT MOST 1048576: true; the input reads as it did. -/
def foldAllUptoRow : OpenClaim := { program := "ytkffblmobccedaa", sum := "0c454f33ed679df93159a7cffb13f8145950d0ad9d250cfe376b98af0a915458", func := "dormouse/dormouselaw26.FoldAll", spec := "foldAll", inPlace := ["slices.overlaps[dormouse/api.Pair]"], unfollowed := true, recurses := true, apart := false, narrowed := true }
def FoldAllUptoSaid : Prop := foldAllUptoRow.holds Try.pinned (OpenSpec.upto foldAllSpec)

/-- 'dormouselaw26.FoldOne', WHERE WHAT IT READS IS OF BULK AT MOST 1048576: true; the input reads as it did. -/
def foldOneUptoRow : OpenClaim := { program := "ytkffblmobccedaa", sum := "0c454f33ed679df93159a7cffb13f8145950d0ad9d250cfe376b98af0a915458", func := "dormouse/dormouselaw26.FoldOne", spec := "foldOne", inPlace := ["slices.overlaps[dormouse/api.Pair]"], unfollowed := true, recurses := true, apart := false, narrowed := true }
def FoldOneUptoSaid : Prop := foldOneUptoRow.holds Try.pinned (OpenSpec.upto foldOneSpec)

/-- 'dormouselaw26.FoldWith', WHERE WHAT IT READS IS OF BULK AT MOST 1048576: true; the input reads as it did. -/
def foldWithUptoRow : OpenClaim := { program := "ytkffblmobccedaa", sum := "0c454f33ed679df93159a7cffb13f8145950d0ad9d250cfe376b98af0a915458", func := "dormouse/dormouselaw26.FoldWith", spec := "foldWith", inPlace := ["slices.overlaps[dormouse/api.Pair]"], unfollowed := true, recurses := true, apart := false, narrowed := true }
def FoldWithUptoSaid : Prop := foldWithUptoRow.holds Try.pinned (OpenSpec.upto foldWithSpec)

end Rows
end Go.Proofs.Ytkffblmobccedaa
