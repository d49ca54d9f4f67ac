/-
  No cell of these rows narrows 'for every input' (looked for: loops, veiled, ifaces, maps, wideKeys, modest, calm, conditions, laid).
  DERIVED. THE GIVEN ROWS OF THIS SEAT. 3 by the template 'for every input the law returns true; each argument reads behind the call as it read before'; 0 by the template 'total and deterministic' (their statements: YtaglmapfcjbcfaaTotals.lean).
  GIVEN WITH THE SEED: the statements are not yours to turn. If you find one false, say at which input.
  Laid BY PROGRAM, IN A SANDBOX (cutbox-rows.mjs): the forced cells as the released guide's own fill.sh prints them over the translation 5ca77a38289dd381… (all of the seat's roots in one cut). By AI agents, Wed Nov 11 2026. No macro, syntax, notation, axiom, sorry.
-/
import Derived.Test.YtaglmapfcjbcfaaChecked
import GoSem.Claim
import GoSem.ClaimJoined
import GoSem.ClaimMapViews
import Derived.JoinedTies
import Derived.KernelRfl
namespace Go.Proofs.Ytaglmapfcjbcfaa
/- THE CELL 'sum', in the pinned program and in every row, IS THE sha256 OF THE DUMP (.gsa) THAT YtaglmapfcjbcfaaProg.lean LOADS. Nothing in Lean hashes anything: it is a label: what it is worth is what the hold of that sum in a sandbox is worth. -/
noncomputable def Try.pinned : Pinned := { name := "ytaglmapfcjbcfaa", sum := "5ca77a38289dd381955975caa0e2d2b3045daa16a7cebe3b09337e1b9f8711e3", checked := Try.checked }
namespace Rows
def none {H : Type} : Left H := { results := [], args := [] }

/-- 'dormouselaw43.StatReplies': WHATEVER THE INPUT: true; the input reads as it did. -/
def statRepliesSpec : ChangeSpec := { name := "statReplies", fn := fun _ => fun
  | [d1, d2] => { results := [.lit (.bool true)], args := [d1, d2] }
  | _ => none }
def statRepliesRow : OpenClaim := { program := "ytaglmapfcjbcfaa", sum := "5ca77a38289dd381955975caa0e2d2b3045daa16a7cebe3b09337e1b9f8711e3", func := "dormouse/dormouselaw43.StatReplies", spec := "statReplies", inPlace := ["math.Float64frombits", "math.Float64bits"], unfollowed := true, recurses := true, apart := false }
def StatRepliesSaid : Prop := statRepliesRow.holds Try.pinned (OpenSpec.ofChange statRepliesSpec)

/-- ITS FALSE NEIGHBOUR: 'it returns false'. Refute it at one input. -/
def statRepliesWrong : ChangeSpec := { name := "statReplies", fn := fun _ => fun
  | [d1, d2] => { results := [.lit (.bool false)], args := [d1, d2] }
  | _ => none }
def StatRepliesWrongFalsely : Prop := statRepliesRow.holds Try.pinned (OpenSpec.ofChange statRepliesWrong)

/-- 'dormouselaw43.StatRanks': WHATEVER THE INPUT: true; the input reads as it did. -/
def statRanksSpec : ChangeSpec := { name := "statRanks", fn := fun _ => fun
  | [d1, d2] => { results := [.lit (.bool true)], args := [d1, d2] }
  | _ => none }
def statRanksRow : OpenClaim := { program := "ytaglmapfcjbcfaa", sum := "5ca77a38289dd381955975caa0e2d2b3045daa16a7cebe3b09337e1b9f8711e3", func := "dormouse/dormouselaw43.StatRanks", spec := "statRanks", inPlace := ["math.Float64frombits", "math.Float64bits"], unfollowed := true, recurses := true, apart := false }
def StatRanksSaid : Prop := statRanksRow.holds Try.pinned (OpenSpec.ofChange statRanksSpec)

/-- ITS FALSE NEIGHBOUR: 'it returns false'. Refute it at one input. -/
def statRanksWrong : ChangeSpec := { name := "statRanks", fn := fun _ => fun
  | [d1, d2] => { results := [.lit (.bool false)], args := [d1, d2] }
  | _ => none }
def StatRanksWrongFalsely : Prop := statRanksRow.holds Try.pinned (OpenSpec.ofChange statRanksWrong)

/-- 'dormouselaw43.StatSpreads': WHATEVER THE INPUT: true; the input reads as it did. -/
def statSpreadsSpec : ChangeSpec := { name := "statSpreads", fn := fun _ => fun
  | [d1, d2] => { results := [.lit (.bool true)], args := [d1, d2] }
  | _ => none }
def statSpreadsRow : OpenClaim := { program := "ytaglmapfcjbcfaa", sum := "5ca77a38289dd381955975caa0e2d2b3045daa16a7cebe3b09337e1b9f8711e3", func := "dormouse/dormouselaw43.StatSpreads", spec := "statSpreads", inPlace := ["math.Float64frombits", "math.Float64bits"], unfollowed := true, recurses := true, apart := false }
def StatSpreadsSaid : Prop := statSpreadsRow.holds Try.pinned (OpenSpec.ofChange statSpreadsSpec)

/-- ITS FALSE NEIGHBOUR: 'it returns false'. Refute it at one input. -/
def statSpreadsWrong : ChangeSpec := { name := "statSpreads", fn := fun _ => fun
  | [d1, d2] => { results := [.lit (.bool false)], args := [d1, d2] }
  | _ => none }
def StatSpreadsWrongFalsely : Prop := statSpreadsRow.holds Try.pinned (OpenSpec.ofChange statSpreadsWrong)

/- THE SECOND FORM. 'bulk': how many values and letters a reading holds, each counted each time it is reached (what is shared counts as often as it is met; a slice's spare places count too). A statement '..UptoSaid' is the law's where the arguments, and the package variables that the reading takes, are together of bulk at most 1048576: NARROWER than '..Said'. Prove '..Said' where nothing that the law and all that it calls make is longer than what came in: it says more and counts as full. Else prove '..UptoSaid'. A law counts once. -/
mutual
def uptoBulk {H : Type} : DataW H → Nat
  | .lit (.string bytes) => bytes.length + 1
  | .lit _ => 1
  | .nil => 1
  | .ptr d => uptoBulk d + 1
  | .slice elems spare => uptoBulkAll elems + uptoBulkAll spare + 1
  | .agg parts => uptoBulkAll parts + 1
  | .iface _ d => uptoBulk d + 1
  | .map entries => uptoBulkEntries entries + 1
  | .held _ => 1
def uptoBulkAll {H : Type} : List (DataW H) → Nat
  | [] => 0
  | d :: r => uptoBulk d + uptoBulkAll r
def uptoBulkEntries {H : Type} : List (Lit × DataW H) → Nat
  | [] => 0
  | x :: r => uptoBulkEntry x + uptoBulkEntries r
def uptoBulkEntry {H : Type} : Lit × DataW H → Nat
  | (.string bytes, d) => bytes.length + uptoBulk d + 1
  | (_, d) => uptoBulk d + 1
 end
def uptoSmall : (H : Type) → List (DataW H) → Bool := fun _ ds => decide (uptoBulkAll ds ≤ 1048576)
def OpenSpec.upto (s : _root_.Go.ChangeSpec) : _root_.Go.OpenSpec := { _root_.Go.OpenSpec.ofChange s with cond := some uptoSmall }

/-- 'dormouselaw43.StatReplies', WHERE WHAT IT READS IS OF BULK AT MOST 1048576: true; the input reads as it did. -/
def statRepliesUptoRow : OpenClaim := { program := "ytaglmapfcjbcfaa", sum := "5ca77a38289dd381955975caa0e2d2b3045daa16a7cebe3b09337e1b9f8711e3", func := "dormouse/dormouselaw43.StatReplies", spec := "statReplies", inPlace := ["math.Float64frombits", "math.Float64bits"], unfollowed := true, recurses := true, apart := false, narrowed := true }
def StatRepliesUptoSaid : Prop := statRepliesUptoRow.holds Try.pinned (OpenSpec.upto statRepliesSpec)

/-- 'dormouselaw43.StatRanks', WHERE WHAT IT READS IS OF BULK AT MOST 1048576: true; the input reads as it did. -/
def statRanksUptoRow : OpenClaim := { program := "ytaglmapfcjbcfaa", sum := "5ca77a38289dd381955975caa0e2d2b3045daa16a7cebe3b09337e1b9f8711e3", func := "dormouse/dormouselaw43.StatRanks", spec := "statRanks", inPlace := ["math.Float64frombits", "math.Float64bits"], unfollowed := true, recurses := true, apart := false, narrowed := true }
def StatRanksUptoSaid : Prop := statRanksUptoRow.holds Try.pinned (OpenSpec.upto statRanksSpec)

/-- 'dormouselaw43.StatSpreads', WHERE WHAT IT READS IS OF BULK AT MOST 1048576: true; the input reads as it did. -/
def statSpreadsUptoRow : OpenClaim := { program := "ytaglmapfcjbcfaa", sum := "5ca77a38289dd381955975caa0e2d2b3045daa16a7cebe3b09337e1b9f8711e3", func := "dormouse/dormouselaw43.StatSpreads", spec := "statSpreads", inPlace := ["math.Float64frombits", "math.Float64bits"], unfollowed := true, recurses := true, apart := false, narrowed := true }
def StatSpreadsUptoSaid : Prop := statSpreadsUptoRow.holds Try.pinned (OpenSpec.upto statSpreadsSpec)

end Rows
end Go.Proofs.Ytaglmapfcjbcfaa
