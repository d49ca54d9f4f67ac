/-
  DERIVED. GIVEN WITH THE SEED: THE CARDS: each row of YtmfldcggbfcfbaaDoorRows.lean that lists a variable, with what it lists TIED to the program's text (the seventh form; the later family's looks); each row that meets fmt, with fmt's text TOLD by the authors' own Lean function (tested against real Go, not proved from fmt's source: count such statements apart). THE CARD IS WHAT COUNTS. Prove the row's statement (the work); the ties are given (YtmfldcggbfcfbaaDoorTie.lean); close each card by the builder's one call (the guide's Derived/Test/ToyasCard.lean, 'card_holds'). Laid BY PROGRAM, IN A SANDBOX (cutbox-door.mjs). By AI agents, Wed Nov 11 2026. No macro, syntax, notation, axiom, sorry.
-/
import Derived.Test.YtmfldcggbfcfbaaDoorRows
import GoSem.ClaimSeven
namespace Go.Proofs.YtmfldcggbfcfbaaDoor
namespace Rows

/-- THE TIED CARD OF 'dormouselaw40.TapeParses'. -/
def tapeParsesCard : Claim7 := { stood := { row := tapeParsesRow, standIns := [], harness := (true, "521ffeb49ba3d178d38c0a9f0d2d282dfb27837396b0bdd165259254d6925f5c"), looks := false }, kinds := [], alts := [], laidByText := true, laidKinds := [.data, .pinned], laidTests := true, laidLooks := .later }
def TapeParsesCardSaid : Prop := Claim7.holds Tryd.pinned (.plain (OpenSpec.ofChange tapeParsesSpec)) tapeParsesCard

/-- THE TIED CARD OF 'dormouselaw40.TapeNumbers'. -/
def tapeNumbersCard : Claim7 := { stood := { row := tapeNumbersRow, standIns := [], harness := (true, "521ffeb49ba3d178d38c0a9f0d2d282dfb27837396b0bdd165259254d6925f5c"), looks := false }, kinds := [], alts := [], laidByText := true, laidKinds := [.data, .pinned], laidTests := true, laidLooks := .later }
def TapeNumbersCardSaid : Prop := Claim7.holds Tryd.pinned (.plain (OpenSpec.ofChange tapeNumbersSpec)) tapeNumbersCard

/-- THE TIED CARD OF 'dormouselaw40.TapeTexts'. -/
def tapeTextsCard : Claim7 := { stood := { row := tapeTextsRow, standIns := [], harness := (true, "521ffeb49ba3d178d38c0a9f0d2d282dfb27837396b0bdd165259254d6925f5c"), looks := false }, kinds := [], alts := [], laidByText := true, laidKinds := [.data, .pinned], laidTests := true, laidLooks := .later }
def TapeTextsCardSaid : Prop := Claim7.holds Tryd.pinned (.plain (OpenSpec.ofChange tapeTextsSpec)) tapeTextsCard

/-- THE SECOND FORM's CARD OF 'dormouselaw40.TapeParses'. -/
def tapeParsesUptoCard : Claim7 := { stood := { row := tapeParsesUptoRow, standIns := [], harness := (true, "521ffeb49ba3d178d38c0a9f0d2d282dfb27837396b0bdd165259254d6925f5c"), looks := false }, kinds := [], alts := [], laidByText := true, laidKinds := [.data, .pinned], laidTests := true, laidLooks := .later }
def TapeParsesUptoCardSaid : Prop := Claim7.holds Tryd.pinned (.plain (OpenSpec.upto tapeParsesSpec)) tapeParsesUptoCard

/-- THE SECOND FORM's CARD OF 'dormouselaw40.TapeNumbers'. -/
def tapeNumbersUptoCard : Claim7 := { stood := { row := tapeNumbersUptoRow, standIns := [], harness := (true, "521ffeb49ba3d178d38c0a9f0d2d282dfb27837396b0bdd165259254d6925f5c"), looks := false }, kinds := [], alts := [], laidByText := true, laidKinds := [.data, .pinned], laidTests := true, laidLooks := .later }
def TapeNumbersUptoCardSaid : Prop := Claim7.holds Tryd.pinned (.plain (OpenSpec.upto tapeNumbersSpec)) tapeNumbersUptoCard

/-- THE SECOND FORM's CARD OF 'dormouselaw40.TapeTexts'. -/
def tapeTextsUptoCard : Claim7 := { stood := { row := tapeTextsUptoRow, standIns := [], harness := (true, "521ffeb49ba3d178d38c0a9f0d2d282dfb27837396b0bdd165259254d6925f5c"), looks := false }, kinds := [], alts := [], laidByText := true, laidKinds := [.data, .pinned], laidTests := true, laidLooks := .later }
def TapeTextsUptoCardSaid : Prop := Claim7.holds Tryd.pinned (.plain (OpenSpec.upto tapeTextsSpec)) tapeTextsUptoCard
end Rows
end Go.Proofs.YtmfldcggbfcfbaaDoor
