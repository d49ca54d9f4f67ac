/-
  NARROWER THAN 'FOR EVERY INPUT', by the rows' own cells (each row's printed sentence says how): ReplyTexts: laid · ReplyReads: laid · ReplyLogs: laid · CmdTexts: laid · CmdParses: laid · CmdHex: laid · CmdAll: laid.
  DERIVED. THE GIVEN ROWS OF THIS SEAT. 7 by the template 'for every input the law returns true; each argument reads behind the call as it read before'; 0 by the template 'total and deterministic' (their statements: YtlejphdgfoejaaaDoorTotals.lean).
  GIVEN WITH THE SEED: the statements are not yours to turn. If you find one false, say at which input.
  Laid BY PROGRAM, IN A SANDBOX (cutbox-rows.mjs): the forced cells as the released guide's own fill.sh prints them over the translation 7e84b68f591e3510… (all of the seat's roots in one cut). By AI agents, Wed Nov 11 2026. No macro, syntax, notation, axiom, sorry.
-/
import Derived.Test.YtlejphdgfoejaaaDoorChecked
import GoSem.PinnedTables
import GoSem.Claim
import GoSem.ClaimJoined
import GoSem.ClaimMapViews
import Derived.JoinedTies
import Derived.KernelRfl
namespace Go.Proofs.YtlejphdgfoejaaaDoor
/- THE CELL 'sum', in the pinned program and in every row, IS THE sha256 OF THE DUMP (.gsa) THAT YtlejphdgfoejaaaDoorProg.lean LOADS. Nothing in Lean hashes anything: it is a label: what it is worth is what the hold of that sum in a sandbox is worth. -/
noncomputable def Tryd.pinned : Pinned := { name := "ytlejphdgfoejaaadoor", sum := "7e84b68f591e35107185a6577381bb608558dfcf053069b7e247ee003c5b09e0", checked := Tryd.checked }
namespace Rows
def none {H : Type} : Left H := { results := [], args := [] }

/- WHAT THE LISTED PACKAGE-LEVEL VARIABLES READ AS WHEN THE CALL BEGINS. Each datum BY PROGRAM (the guide's laid-datum.mjs) off the statement by which the dump's own 'gosem.cut.vars' lays the variable. In a bare row this is a premise. The card (YtlejphdgfoejaaaDoorCards.lean) ties it to the program's text. -/
def laid_unicode_utf8_acceptRanges {H : Type} : DataW H := .agg [.agg [.lit (.int .u8 128), .lit (.int .u8 191)], .agg [.lit (.int .u8 160), .lit (.int .u8 191)], .agg [.lit (.int .u8 128), .lit (.int .u8 159)], .agg [.lit (.int .u8 144), .lit (.int .u8 191)], .agg [.lit (.int .u8 128), .lit (.int .u8 143)], .agg [.lit (.int .u8 0), .lit (.int .u8 0)], .agg [.lit (.int .u8 0), .lit (.int .u8 0)], .agg [.lit (.int .u8 0), .lit (.int .u8 0)], .agg [.lit (.int .u8 0), .lit (.int .u8 0)], .agg [.lit (.int .u8 0), .lit (.int .u8 0)], .agg [.lit (.int .u8 0), .lit (.int .u8 0)], .agg [.lit (.int .u8 0), .lit (.int .u8 0)], .agg [.lit (.int .u8 0), .lit (.int .u8 0)], .agg [.lit (.int .u8 0), .lit (.int .u8 0)], .agg [.lit (.int .u8 0), .lit (.int .u8 0)], .agg [.lit (.int .u8 0), .lit (.int .u8 0)]]
/-- One of Go's own tables, pinned by name: the form's constant. -/
def laid_unicode_utf8_first : DataW Unit := Go.Pinned.utf8First

/-- 'dormouselaw39.ReplyTexts': WHATEVER THE INPUT: true; the input reads as it did. -/
def replyTextsSpec : ChangeSpec := { name := "replyTexts", fn := fun _ => fun
  | [d1, d2] => { results := [.lit (.bool true)], args := [d1, d2] }
  | _ => none }
def replyTextsRow : OpenClaim := { program := "ytlejphdgfoejaaadoor", sum := "7e84b68f591e35107185a6577381bb608558dfcf053069b7e247ee003c5b09e0", func := "dormouse/dormouselaw39.ReplyTexts", spec := "replyTexts", inPlace := ["internal/bytealg.IndexByteString", "internal/bytealg.IndexString", "internal/bytealg.CountString"], unfollowed := true, recurses := true, named := ["internal/bytealg.MaxLen", "unicode/utf8.first", "unicode/utf8.acceptRanges"], apart := false, laid := [("unicode/utf8.acceptRanges", laid_unicode_utf8_acceptRanges), ("unicode/utf8.first", laid_unicode_utf8_first)] }
def ReplyTextsSaid : Prop := replyTextsRow.holds Tryd.pinned (OpenSpec.ofChange replyTextsSpec)

/-- ITS FALSE NEIGHBOUR: 'it returns false'. Refute it at one input. -/
def replyTextsWrong : ChangeSpec := { name := "replyTexts", fn := fun _ => fun
  | [d1, d2] => { results := [.lit (.bool false)], args := [d1, d2] }
  | _ => none }
def ReplyTextsWrongFalsely : Prop := replyTextsRow.holds Tryd.pinned (OpenSpec.ofChange replyTextsWrong)

/-- 'dormouselaw39.ReplyReads': WHATEVER THE INPUT: true; the input reads as it did. -/
def replyReadsSpec : ChangeSpec := { name := "replyReads", fn := fun _ => fun
  | [d] => { results := [.lit (.bool true)], args := [d] }
  | _ => none }
def replyReadsRow : OpenClaim := { program := "ytlejphdgfoejaaadoor", sum := "7e84b68f591e35107185a6577381bb608558dfcf053069b7e247ee003c5b09e0", func := "dormouse/dormouselaw39.ReplyReads", spec := "replyReads", inPlace := ["internal/bytealg.IndexByteString", "internal/bytealg.IndexString", "internal/bytealg.CountString"], unfollowed := true, recurses := true, named := ["internal/bytealg.MaxLen", "unicode/utf8.first", "unicode/utf8.acceptRanges"], apart := false, laid := [("unicode/utf8.acceptRanges", laid_unicode_utf8_acceptRanges), ("unicode/utf8.first", laid_unicode_utf8_first)] }
def ReplyReadsSaid : Prop := replyReadsRow.holds Tryd.pinned (OpenSpec.ofChange replyReadsSpec)

/-- ITS FALSE NEIGHBOUR: 'it returns false'. Refute it at one input. -/
def replyReadsWrong : ChangeSpec := { name := "replyReads", fn := fun _ => fun
  | [d] => { results := [.lit (.bool false)], args := [d] }
  | _ => none }
def ReplyReadsWrongFalsely : Prop := replyReadsRow.holds Tryd.pinned (OpenSpec.ofChange replyReadsWrong)

/-- 'dormouselaw39.ReplyLogs': WHATEVER THE INPUT: true; the input reads as it did. -/
def replyLogsSpec : ChangeSpec := { name := "replyLogs", fn := fun _ => fun
  | [d1, d2] => { results := [.lit (.bool true)], args := [d1, d2] }
  | _ => none }
def replyLogsRow : OpenClaim := { program := "ytlejphdgfoejaaadoor", sum := "7e84b68f591e35107185a6577381bb608558dfcf053069b7e247ee003c5b09e0", func := "dormouse/dormouselaw39.ReplyLogs", spec := "replyLogs", inPlace := ["internal/bytealg.IndexByteString", "internal/bytealg.IndexString", "internal/bytealg.CountString", "internal/abi.NoEscape", "internal/bytealg.MakeNoZero"], unfollowed := true, recurses := true, named := ["internal/bytealg.MaxLen", "unicode/utf8.first", "unicode/utf8.acceptRanges"], apart := false, laid := [("unicode/utf8.acceptRanges", laid_unicode_utf8_acceptRanges), ("unicode/utf8.first", laid_unicode_utf8_first)] }
def ReplyLogsSaid : Prop := replyLogsRow.holds Tryd.pinned (OpenSpec.ofChange replyLogsSpec)

/-- ITS FALSE NEIGHBOUR: 'it returns false'. Refute it at one input. -/
def replyLogsWrong : ChangeSpec := { name := "replyLogs", fn := fun _ => fun
  | [d1, d2] => { results := [.lit (.bool false)], args := [d1, d2] }
  | _ => none }
def ReplyLogsWrongFalsely : Prop := replyLogsRow.holds Tryd.pinned (OpenSpec.ofChange replyLogsWrong)

/-- 'dormouselaw38.CmdTexts': WHATEVER THE INPUT: true; the input reads as it did. -/
def cmdTextsSpec : ChangeSpec := { name := "cmdTexts", fn := fun _ => fun
  | [d] => { results := [.lit (.bool true)], args := [d] }
  | _ => none }
def cmdTextsRow : OpenClaim := { program := "ytlejphdgfoejaaadoor", sum := "7e84b68f591e35107185a6577381bb608558dfcf053069b7e247ee003c5b09e0", func := "dormouse/dormouselaw38.CmdTexts", spec := "cmdTexts", inPlace := ["internal/bytealg.CountString", "internal/bytealg.IndexByteString", "internal/bytealg.IndexString", "internal/abi.NoEscape", "internal/bytealg.MakeNoZero"], unfollowed := true, recurses := true, named := ["unicode/utf8.first", "unicode/utf8.acceptRanges", "internal/bytealg.MaxLen"], apart := false, laid := [("unicode/utf8.acceptRanges", laid_unicode_utf8_acceptRanges), ("unicode/utf8.first", laid_unicode_utf8_first)] }
def CmdTextsSaid : Prop := cmdTextsRow.holds Tryd.pinned (OpenSpec.ofChange cmdTextsSpec)

/-- ITS FALSE NEIGHBOUR: 'it returns false'. Refute it at one input. -/
def cmdTextsWrong : ChangeSpec := { name := "cmdTexts", fn := fun _ => fun
  | [d] => { results := [.lit (.bool false)], args := [d] }
  | _ => none }
def CmdTextsWrongFalsely : Prop := cmdTextsRow.holds Tryd.pinned (OpenSpec.ofChange cmdTextsWrong)

/-- 'dormouselaw38.CmdParses': WHATEVER THE INPUT: true; the input reads as it did. -/
def cmdParsesSpec : ChangeSpec := { name := "cmdParses", fn := fun _ => fun
  | [d] => { results := [.lit (.bool true)], args := [d] }
  | _ => none }
def cmdParsesRow : OpenClaim := { program := "ytlejphdgfoejaaadoor", sum := "7e84b68f591e35107185a6577381bb608558dfcf053069b7e247ee003c5b09e0", func := "dormouse/dormouselaw38.CmdParses", spec := "cmdParses", inPlace := ["internal/bytealg.CountString", "internal/bytealg.IndexByteString", "internal/bytealg.IndexString", "internal/abi.NoEscape", "internal/bytealg.MakeNoZero"], unfollowed := true, recurses := true, named := ["unicode/utf8.first", "unicode/utf8.acceptRanges", "internal/bytealg.MaxLen"], apart := false, laid := [("unicode/utf8.acceptRanges", laid_unicode_utf8_acceptRanges), ("unicode/utf8.first", laid_unicode_utf8_first)] }
def CmdParsesSaid : Prop := cmdParsesRow.holds Tryd.pinned (OpenSpec.ofChange cmdParsesSpec)

/-- ITS FALSE NEIGHBOUR: 'it returns false'. Refute it at one input. -/
def cmdParsesWrong : ChangeSpec := { name := "cmdParses", fn := fun _ => fun
  | [d] => { results := [.lit (.bool false)], args := [d] }
  | _ => none }
def CmdParsesWrongFalsely : Prop := cmdParsesRow.holds Tryd.pinned (OpenSpec.ofChange cmdParsesWrong)

/-- 'dormouselaw38.CmdHex': WHATEVER THE INPUT: true; the input reads as it did. -/
def cmdHexSpec : ChangeSpec := { name := "cmdHex", fn := fun _ => fun
  | [d1, d2] => { results := [.lit (.bool true)], args := [d1, d2] }
  | _ => none }
def cmdHexRow : OpenClaim := { program := "ytlejphdgfoejaaadoor", sum := "7e84b68f591e35107185a6577381bb608558dfcf053069b7e247ee003c5b09e0", func := "dormouse/dormouselaw38.CmdHex", spec := "cmdHex", inPlace := ["internal/bytealg.CountString", "internal/bytealg.IndexByteString", "internal/bytealg.IndexString", "internal/abi.NoEscape", "internal/bytealg.MakeNoZero"], unfollowed := true, recurses := true, named := ["unicode/utf8.first", "unicode/utf8.acceptRanges", "internal/bytealg.MaxLen"], apart := false, laid := [("unicode/utf8.acceptRanges", laid_unicode_utf8_acceptRanges), ("unicode/utf8.first", laid_unicode_utf8_first)] }
def CmdHexSaid : Prop := cmdHexRow.holds Tryd.pinned (OpenSpec.ofChange cmdHexSpec)

/-- ITS FALSE NEIGHBOUR: 'it returns false'. Refute it at one input. -/
def cmdHexWrong : ChangeSpec := { name := "cmdHex", fn := fun _ => fun
  | [d1, d2] => { results := [.lit (.bool false)], args := [d1, d2] }
  | _ => none }
def CmdHexWrongFalsely : Prop := cmdHexRow.holds Tryd.pinned (OpenSpec.ofChange cmdHexWrong)

/-- 'dormouselaw38.CmdAll': WHATEVER THE INPUT: true; the input reads as it did. -/
def cmdAllSpec : ChangeSpec := { name := "cmdAll", fn := fun _ => fun
  | [d1, d2] => { results := [.lit (.bool true)], args := [d1, d2] }
  | _ => none }
def cmdAllRow : OpenClaim := { program := "ytlejphdgfoejaaadoor", sum := "7e84b68f591e35107185a6577381bb608558dfcf053069b7e247ee003c5b09e0", func := "dormouse/dormouselaw38.CmdAll", spec := "cmdAll", inPlace := ["internal/bytealg.CountString", "internal/bytealg.IndexByteString", "internal/bytealg.IndexString", "internal/abi.NoEscape", "internal/bytealg.MakeNoZero"], unfollowed := true, recurses := true, named := ["unicode/utf8.first", "unicode/utf8.acceptRanges", "internal/bytealg.MaxLen"], apart := false, laid := [("unicode/utf8.acceptRanges", laid_unicode_utf8_acceptRanges), ("unicode/utf8.first", laid_unicode_utf8_first)] }
def CmdAllSaid : Prop := cmdAllRow.holds Tryd.pinned (OpenSpec.ofChange cmdAllSpec)

/-- ITS FALSE NEIGHBOUR: 'it returns false'. Refute it at one input. -/
def cmdAllWrong : ChangeSpec := { name := "cmdAll", fn := fun _ => fun
  | [d1, d2] => { results := [.lit (.bool false)], args := [d1, d2] }
  | _ => none }
def CmdAllWrongFalsely : Prop := cmdAllRow.holds Tryd.pinned (OpenSpec.ofChange cmdAllWrong)

/- THE SECOND FORM. 'bulk': how many values and letters a reading holds, each counted each time it is reached (what is shared counts as often as it is met; a slice's spare places count too). A statement '..UptoSaid' is the law's where the arguments, and the package variables that the reading takes, are together of bulk at most 1048576: NARROWER than '..Said'. Prove '..Said' where nothing that the law and all that it calls make is longer than what came in: it says more and counts as full. Else prove '..UptoSaid'. A law counts once. -/
mutual
def uptoBulk {H : Type} : DataW H → Nat
  | .lit (.string bytes) => bytes.length + 1
  | .lit _ => 1
  | .nil => 1
  | .ptr d => uptoBulk d + 1
  | .slice elems spare => uptoBulkAll elems + uptoBulkAll spare + 1
  | .agg parts => uptoBulkAll parts + 1
  | .iface _ d => uptoBulk d + 1
  | .map entries => uptoBulkEntries entries + 1
  | .held _ => 1
def uptoBulkAll {H : Type} : List (DataW H) → Nat
  | [] => 0
  | d :: r => uptoBulk d + uptoBulkAll r
def uptoBulkEntries {H : Type} : List (Lit × DataW H) → Nat
  | [] => 0
  | x :: r => uptoBulkEntry x + uptoBulkEntries r
def uptoBulkEntry {H : Type} : Lit × DataW H → Nat
  | (.string bytes, d) => bytes.length + uptoBulk d + 1
  | (_, d) => uptoBulk d + 1
 end
def uptoSmall : (H : Type) → List (DataW H) → Bool := fun _ ds => decide (uptoBulkAll ds ≤ 1048576)
def OpenSpec.upto (s : _root_.Go.ChangeSpec) : _root_.Go.OpenSpec := { _root_.Go.OpenSpec.ofChange s with cond := some uptoSmall }

/-- 'dormouselaw39.ReplyTexts', WHERE WHAT IT READS IS OF BULK AT MOST 1048576: true; the input reads as it did. -/
def replyTextsUptoRow : OpenClaim := { program := "ytlejphdgfoejaaadoor", sum := "7e84b68f591e35107185a6577381bb608558dfcf053069b7e247ee003c5b09e0", func := "dormouse/dormouselaw39.ReplyTexts", spec := "replyTexts", inPlace := ["internal/bytealg.IndexByteString", "internal/bytealg.IndexString", "internal/bytealg.CountString"], unfollowed := true, recurses := true, named := ["internal/bytealg.MaxLen", "unicode/utf8.first", "unicode/utf8.acceptRanges"], apart := false, laid := [("unicode/utf8.acceptRanges", laid_unicode_utf8_acceptRanges), ("unicode/utf8.first", laid_unicode_utf8_first)], narrowed := true }
def ReplyTextsUptoSaid : Prop := replyTextsUptoRow.holds Tryd.pinned (OpenSpec.upto replyTextsSpec)

/-- 'dormouselaw39.ReplyReads', WHERE WHAT IT READS IS OF BULK AT MOST 1048576: true; the input reads as it did. -/
def replyReadsUptoRow : OpenClaim := { program := "ytlejphdgfoejaaadoor", sum := "7e84b68f591e35107185a6577381bb608558dfcf053069b7e247ee003c5b09e0", func := "dormouse/dormouselaw39.ReplyReads", spec := "replyReads", inPlace := ["internal/bytealg.IndexByteString", "internal/bytealg.IndexString", "internal/bytealg.CountString"], unfollowed := true, recurses := true, named := ["internal/bytealg.MaxLen", "unicode/utf8.first", "unicode/utf8.acceptRanges"], apart := false, laid := [("unicode/utf8.acceptRanges", laid_unicode_utf8_acceptRanges), ("unicode/utf8.first", laid_unicode_utf8_first)], narrowed := true }
def ReplyReadsUptoSaid : Prop := replyReadsUptoRow.holds Tryd.pinned (OpenSpec.upto replyReadsSpec)

/-- 'dormouselaw39.ReplyLogs', WHERE WHAT IT READS IS OF BULK AT MOST 1048576: true; the input reads as it did. -/
def replyLogsUptoRow : OpenClaim := { program := "ytlejphdgfoejaaadoor", sum := "7e84b68f591e35107185a6577381bb608558dfcf053069b7e247ee003c5b09e0", func := "dormouse/dormouselaw39.ReplyLogs", spec := "replyLogs", inPlace := ["internal/bytealg.IndexByteString", "internal/bytealg.IndexString", "internal/bytealg.CountString", "internal/abi.NoEscape", "internal/bytealg.MakeNoZero"], unfollowed := true, recurses := true, named := ["internal/bytealg.MaxLen", "unicode/utf8.first", "unicode/utf8.acceptRanges"], apart := false, laid := [("unicode/utf8.acceptRanges", laid_unicode_utf8_acceptRanges), ("unicode/utf8.first", laid_unicode_utf8_first)], narrowed := true }
def ReplyLogsUptoSaid : Prop := replyLogsUptoRow.holds Tryd.pinned (OpenSpec.upto replyLogsSpec)

/-- 'dormouselaw38.CmdTexts', WHERE WHAT IT READS IS OF BULK AT MOST 1048576: true; the input reads as it did. -/
def cmdTextsUptoRow : OpenClaim := { program := "ytlejphdgfoejaaadoor", sum := "7e84b68f591e35107185a6577381bb608558dfcf053069b7e247ee003c5b09e0", func := "dormouse/dormouselaw38.CmdTexts", spec := "cmdTexts", inPlace := ["internal/bytealg.CountString", "internal/bytealg.IndexByteString", "internal/bytealg.IndexString", "internal/abi.NoEscape", "internal/bytealg.MakeNoZero"], unfollowed := true, recurses := true, named := ["unicode/utf8.first", "unicode/utf8.acceptRanges", "internal/bytealg.MaxLen"], apart := false, laid := [("unicode/utf8.acceptRanges", laid_unicode_utf8_acceptRanges), ("unicode/utf8.first", laid_unicode_utf8_first)], narrowed := true }
def CmdTextsUptoSaid : Prop := cmdTextsUptoRow.holds Tryd.pinned (OpenSpec.upto cmdTextsSpec)

/-- 'dormouselaw38.CmdParses', WHERE WHAT IT READS IS OF BULK AT MOST 1048576: true; the input reads as it did. -/
def cmdParsesUptoRow : OpenClaim := { program := "ytlejphdgfoejaaadoor", sum := "7e84b68f591e35107185a6577381bb608558dfcf053069b7e247ee003c5b09e0", func := "dormouse/dormouselaw38.CmdParses", spec := "cmdParses", inPlace := ["internal/bytealg.CountString", "internal/bytealg.IndexByteString", "internal/bytealg.IndexString", "internal/abi.NoEscape", "internal/bytealg.MakeNoZero"], unfollowed := true, recurses := true, named := ["unicode/utf8.first", "unicode/utf8.acceptRanges", "internal/bytealg.MaxLen"], apart := false, laid := [("unicode/utf8.acceptRanges", laid_unicode_utf8_acceptRanges), ("unicode/utf8.first", laid_unicode_utf8_first)], narrowed := true }
def CmdParsesUptoSaid : Prop := cmdParsesUptoRow.holds Tryd.pinned (OpenSpec.upto cmdParsesSpec)

/-- 'dormouselaw38.CmdHex', WHERE WHAT IT READS IS OF BULK AT MOST 1048576: true; the input reads as it did. -/
def cmdHexUptoRow : OpenClaim := { program := "ytlejphdgfoejaaadoor", sum := "7e84b68f591e35107185a6577381bb608558dfcf053069b7e247ee003c5b09e0", func := "dormouse/dormouselaw38.CmdHex", spec := "cmdHex", inPlace := ["internal/bytealg.CountString", "internal/bytealg.IndexByteString", "internal/bytealg.IndexString", "internal/abi.NoEscape", "internal/bytealg.MakeNoZero"], unfollowed := true, recurses := true, named := ["unicode/utf8.first", "unicode/utf8.acceptRanges", "internal/bytealg.MaxLen"], apart := false, laid := [("unicode/utf8.acceptRanges", laid_unicode_utf8_acceptRanges), ("unicode/utf8.first", laid_unicode_utf8_first)], narrowed := true }
def CmdHexUptoSaid : Prop := cmdHexUptoRow.holds Tryd.pinned (OpenSpec.upto cmdHexSpec)

/-- 'dormouselaw38.CmdAll', WHERE WHAT IT READS IS OF BULK AT MOST 1048576: true; the input reads as it did. -/
def cmdAllUptoRow : OpenClaim := { program := "ytlejphdgfoejaaadoor", sum := "7e84b68f591e35107185a6577381bb608558dfcf053069b7e247ee003c5b09e0", func := "dormouse/dormouselaw38.CmdAll", spec := "cmdAll", inPlace := ["internal/bytealg.CountString", "internal/bytealg.IndexByteString", "internal/bytealg.IndexString", "internal/abi.NoEscape", "internal/bytealg.MakeNoZero"], unfollowed := true, recurses := true, named := ["unicode/utf8.first", "unicode/utf8.acceptRanges", "internal/bytealg.MaxLen"], apart := false, laid := [("unicode/utf8.acceptRanges", laid_unicode_utf8_acceptRanges), ("unicode/utf8.first", laid_unicode_utf8_first)], narrowed := true }
def CmdAllUptoSaid : Prop := cmdAllUptoRow.holds Tryd.pinned (OpenSpec.upto cmdAllSpec)

end Rows
end Go.Proofs.YtlejphdgfoejaaaDoor
