/-
  DERIVED. GIVEN WITH THE SEED: THE CARDS: each row of YtlejphdgfoejaaaDoorRows.lean that lists a variable, with what it lists TIED to the program's text (the seventh form; the later family's looks); each row that meets fmt, with fmt's text TOLD by the authors' own Lean function (tested against real Go, not proved from fmt's source: count such statements apart). THE CARD IS WHAT COUNTS. Prove the row's statement (the work); the ties are given (YtlejphdgfoejaaaDoorTie.lean); close each card by the builder's one call (the guide's Derived/Test/ToyasCard.lean, 'card_holds'). Laid BY PROGRAM, IN A SANDBOX (cutbox-door.mjs). By AI agents, Wed Nov 11 2026. No macro, syntax, notation, axiom, sorry.
-/
import Derived.Test.YtlejphdgfoejaaaDoorRows
import GoSem.ClaimSeven
namespace Go.Proofs.YtlejphdgfoejaaaDoor
namespace Rows

/-- THE TIED CARD OF 'dormouselaw39.ReplyTexts'. -/
def replyTextsCard : Claim7 := { stood := { row := replyTextsRow, standIns := [], harness := (true, "a7d258ae0b702be9d261bb6c8bd45ae7ef8974bff8ff2809bc8c206916b8e966"), looks := false }, kinds := [], alts := [], laidByText := true, laidKinds := [.data, .pinned], laidTests := true, laidLooks := .later }
def ReplyTextsCardSaid : Prop := Claim7.holds Tryd.pinned (.plain (OpenSpec.ofChange replyTextsSpec)) replyTextsCard

/-- THE TIED CARD OF 'dormouselaw39.ReplyReads'. -/
def replyReadsCard : Claim7 := { stood := { row := replyReadsRow, standIns := [], harness := (true, "a7d258ae0b702be9d261bb6c8bd45ae7ef8974bff8ff2809bc8c206916b8e966"), looks := false }, kinds := [], alts := [], laidByText := true, laidKinds := [.data, .pinned], laidTests := true, laidLooks := .later }
def ReplyReadsCardSaid : Prop := Claim7.holds Tryd.pinned (.plain (OpenSpec.ofChange replyReadsSpec)) replyReadsCard

/-- THE TIED CARD OF 'dormouselaw39.ReplyLogs'. -/
def replyLogsCard : Claim7 := { stood := { row := replyLogsRow, standIns := [], harness := (true, "a7d258ae0b702be9d261bb6c8bd45ae7ef8974bff8ff2809bc8c206916b8e966"), looks := false }, kinds := [], alts := [], laidByText := true, laidKinds := [.data, .pinned], laidTests := true, laidLooks := .later }
def ReplyLogsCardSaid : Prop := Claim7.holds Tryd.pinned (.plain (OpenSpec.ofChange replyLogsSpec)) replyLogsCard

/-- THE TIED CARD OF 'dormouselaw38.CmdTexts'. -/
def cmdTextsCard : Claim7 := { stood := { row := cmdTextsRow, standIns := [], harness := (true, "a7d258ae0b702be9d261bb6c8bd45ae7ef8974bff8ff2809bc8c206916b8e966"), looks := false }, kinds := [], alts := [], laidByText := true, laidKinds := [.data, .pinned], laidTests := true, laidLooks := .later }
def CmdTextsCardSaid : Prop := Claim7.holds Tryd.pinned (.plain (OpenSpec.ofChange cmdTextsSpec)) cmdTextsCard

/-- THE TIED CARD OF 'dormouselaw38.CmdParses'. -/
def cmdParsesCard : Claim7 := { stood := { row := cmdParsesRow, standIns := [], harness := (true, "a7d258ae0b702be9d261bb6c8bd45ae7ef8974bff8ff2809bc8c206916b8e966"), looks := false }, kinds := [], alts := [], laidByText := true, laidKinds := [.data, .pinned], laidTests := true, laidLooks := .later }
def CmdParsesCardSaid : Prop := Claim7.holds Tryd.pinned (.plain (OpenSpec.ofChange cmdParsesSpec)) cmdParsesCard

/-- THE TIED CARD OF 'dormouselaw38.CmdHex'. -/
def cmdHexCard : Claim7 := { stood := { row := cmdHexRow, standIns := [], harness := (true, "a7d258ae0b702be9d261bb6c8bd45ae7ef8974bff8ff2809bc8c206916b8e966"), looks := false }, kinds := [], alts := [], laidByText := true, laidKinds := [.data, .pinned], laidTests := true, laidLooks := .later }
def CmdHexCardSaid : Prop := Claim7.holds Tryd.pinned (.plain (OpenSpec.ofChange cmdHexSpec)) cmdHexCard

/-- THE TIED CARD OF 'dormouselaw38.CmdAll'. -/
def cmdAllCard : Claim7 := { stood := { row := cmdAllRow, standIns := [], harness := (true, "a7d258ae0b702be9d261bb6c8bd45ae7ef8974bff8ff2809bc8c206916b8e966"), looks := false }, kinds := [], alts := [], laidByText := true, laidKinds := [.data, .pinned], laidTests := true, laidLooks := .later }
def CmdAllCardSaid : Prop := Claim7.holds Tryd.pinned (.plain (OpenSpec.ofChange cmdAllSpec)) cmdAllCard

/-- THE SECOND FORM's CARD OF 'dormouselaw39.ReplyTexts'. -/
def replyTextsUptoCard : Claim7 := { stood := { row := replyTextsUptoRow, standIns := [], harness := (true, "a7d258ae0b702be9d261bb6c8bd45ae7ef8974bff8ff2809bc8c206916b8e966"), looks := false }, kinds := [], alts := [], laidByText := true, laidKinds := [.data, .pinned], laidTests := true, laidLooks := .later }
def ReplyTextsUptoCardSaid : Prop := Claim7.holds Tryd.pinned (.plain (OpenSpec.upto replyTextsSpec)) replyTextsUptoCard

/-- THE SECOND FORM's CARD OF 'dormouselaw39.ReplyReads'. -/
def replyReadsUptoCard : Claim7 := { stood := { row := replyReadsUptoRow, standIns := [], harness := (true, "a7d258ae0b702be9d261bb6c8bd45ae7ef8974bff8ff2809bc8c206916b8e966"), looks := false }, kinds := [], alts := [], laidByText := true, laidKinds := [.data, .pinned], laidTests := true, laidLooks := .later }
def ReplyReadsUptoCardSaid : Prop := Claim7.holds Tryd.pinned (.plain (OpenSpec.upto replyReadsSpec)) replyReadsUptoCard

/-- THE SECOND FORM's CARD OF 'dormouselaw39.ReplyLogs'. -/
def replyLogsUptoCard : Claim7 := { stood := { row := replyLogsUptoRow, standIns := [], harness := (true, "a7d258ae0b702be9d261bb6c8bd45ae7ef8974bff8ff2809bc8c206916b8e966"), looks := false }, kinds := [], alts := [], laidByText := true, laidKinds := [.data, .pinned], laidTests := true, laidLooks := .later }
def ReplyLogsUptoCardSaid : Prop := Claim7.holds Tryd.pinned (.plain (OpenSpec.upto replyLogsSpec)) replyLogsUptoCard

/-- THE SECOND FORM's CARD OF 'dormouselaw38.CmdTexts'. -/
def cmdTextsUptoCard : Claim7 := { stood := { row := cmdTextsUptoRow, standIns := [], harness := (true, "a7d258ae0b702be9d261bb6c8bd45ae7ef8974bff8ff2809bc8c206916b8e966"), looks := false }, kinds := [], alts := [], laidByText := true, laidKinds := [.data, .pinned], laidTests := true, laidLooks := .later }
def CmdTextsUptoCardSaid : Prop := Claim7.holds Tryd.pinned (.plain (OpenSpec.upto cmdTextsSpec)) cmdTextsUptoCard

/-- THE SECOND FORM's CARD OF 'dormouselaw38.CmdParses'. -/
def cmdParsesUptoCard : Claim7 := { stood := { row := cmdParsesUptoRow, standIns := [], harness := (true, "a7d258ae0b702be9d261bb6c8bd45ae7ef8974bff8ff2809bc8c206916b8e966"), looks := false }, kinds := [], alts := [], laidByText := true, laidKinds := [.data, .pinned], laidTests := true, laidLooks := .later }
def CmdParsesUptoCardSaid : Prop := Claim7.holds Tryd.pinned (.plain (OpenSpec.upto cmdParsesSpec)) cmdParsesUptoCard

/-- THE SECOND FORM's CARD OF 'dormouselaw38.CmdHex'. -/
def cmdHexUptoCard : Claim7 := { stood := { row := cmdHexUptoRow, standIns := [], harness := (true, "a7d258ae0b702be9d261bb6c8bd45ae7ef8974bff8ff2809bc8c206916b8e966"), looks := false }, kinds := [], alts := [], laidByText := true, laidKinds := [.data, .pinned], laidTests := true, laidLooks := .later }
def CmdHexUptoCardSaid : Prop := Claim7.holds Tryd.pinned (.plain (OpenSpec.upto cmdHexSpec)) cmdHexUptoCard

/-- THE SECOND FORM's CARD OF 'dormouselaw38.CmdAll'. -/
def cmdAllUptoCard : Claim7 := { stood := { row := cmdAllUptoRow, standIns := [], harness := (true, "a7d258ae0b702be9d261bb6c8bd45ae7ef8974bff8ff2809bc8c206916b8e966"), looks := false }, kinds := [], alts := [], laidByText := true, laidKinds := [.data, .pinned], laidTests := true, laidLooks := .later }
def CmdAllUptoCardSaid : Prop := Claim7.holds Tryd.pinned (.plain (OpenSpec.upto cmdAllSpec)) cmdAllUptoCard
end Rows
end Go.Proofs.YtlejphdgfoejaaaDoor
