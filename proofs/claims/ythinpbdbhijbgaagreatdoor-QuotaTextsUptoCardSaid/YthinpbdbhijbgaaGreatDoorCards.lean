/-
  DERIVED. GIVEN WITH THE SEED: THE CARDS: each row of YthinpbdbhijbgaaGreatDoorRows.lean that lists a variable, with what it lists TIED to the program's text (the seventh form; the later family's looks); each row that meets fmt, with fmt's text TOLD by the authors' own Lean function (tested against real Go, not proved from fmt's source: count such statements apart). THE CARD IS WHAT COUNTS. Prove the row's statement (the work); the ties are given (YthinpbdbhijbgaaGreatDoorTie.lean); close each card by the builder's one call (the guide's Derived/Test/ToyasCard.lean, 'card_holds'). Laid BY PROGRAM, IN A SANDBOX (cutbox-door.mjs). By AI agents, Wed Nov 11 2026. No macro, syntax, notation, axiom, sorry.
-/
import Derived.Test.YthinpbdbhijbgaaGreatDoorRows
import GoSem.ClaimSeven
namespace Go.Proofs.YthinpbdbhijbgaaGreatDoor
namespace Rows

/-- THE TIED CARD OF 'arborlaw10.QuotaTexts'. -/
def quotaTextsCard : Claim7 := { stood := { row := quotaTextsRow, standIns := [], harness := (true, "fe834354c501976f6c63a88dc93c7fd20c62f31c248b20604e2cdc778687d223"), looks := true }, kinds := [], alts := [], laidByText := true, laidKinds := [.data, .data, .data, .data, .sentinel, .sentinel, .pinned], laidTests := true, laidLooks := .later }
def QuotaTextsCardSaid : Prop := Claim7.holds Tryz.pinned (.plain (OpenSpec.ofChange quotaTextsSpec)) quotaTextsCard

/-- THE TIED CARD OF 'arborlaw07.TreePlays'. -/
def treePlaysCard : Claim7 := { stood := { row := treePlaysRow, standIns := [], harness := (true, "fe834354c501976f6c63a88dc93c7fd20c62f31c248b20604e2cdc778687d223"), looks := true }, kinds := [], alts := [], laidByText := true, laidKinds := [.data, .pinned], laidTests := true, laidLooks := .later }
def TreePlaysCardSaid : Prop := Claim7.holds Tryz.pinned (.plain (OpenSpec.ofChange treePlaysSpec)) treePlaysCard

/-- THE TIED CARD OF 'arborlaw10.QuotaBooks'. -/
def quotaBooksCard : Claim7 := { stood := { row := quotaBooksRow, standIns := [], harness := (true, "fe834354c501976f6c63a88dc93c7fd20c62f31c248b20604e2cdc778687d223"), looks := true }, kinds := [], alts := [], laidByText := true, laidKinds := [.data, .pinned], laidTests := true, laidLooks := .later }
def QuotaBooksCardSaid : Prop := Claim7.holds Tryz.pinned (.plain (OpenSpec.ofChange quotaBooksSpec)) quotaBooksCard

/-- THE TIED CARD OF 'arborlaw09.DigestDiffs'. -/
def digestDiffsCard : Claim7 := { stood := { row := digestDiffsRow, standIns := [], harness := (true, "fe834354c501976f6c63a88dc93c7fd20c62f31c248b20604e2cdc778687d223"), looks := true }, kinds := [], alts := [], laidByText := true, laidKinds := [.data, .pinned], laidTests := true, laidLooks := .later }
def DigestDiffsCardSaid : Prop := Claim7.holds Tryz.pinned (.plain (OpenSpec.ofChange digestDiffsSpec)) digestDiffsCard

/-- THE TIED CARD OF 'arborlaw09.DigestFinds'. -/
def digestFindsCard : Claim7 := { stood := { row := digestFindsRow, standIns := [], harness := (true, "fe834354c501976f6c63a88dc93c7fd20c62f31c248b20604e2cdc778687d223"), looks := true }, kinds := [], alts := [], laidByText := true, laidKinds := [.data, .pinned], laidTests := true, laidLooks := .later }
def DigestFindsCardSaid : Prop := Claim7.holds Tryz.pinned (.plain (OpenSpec.ofChange digestFindsSpec)) digestFindsCard

/-- THE SECOND FORM's CARD OF 'arborlaw10.QuotaTexts'. -/
def quotaTextsUptoCard : Claim7 := { stood := { row := quotaTextsUptoRow, standIns := [], harness := (true, "fe834354c501976f6c63a88dc93c7fd20c62f31c248b20604e2cdc778687d223"), looks := true }, kinds := [], alts := [], laidByText := true, laidKinds := [.data, .data, .data, .data, .sentinel, .sentinel, .pinned], laidTests := true, laidLooks := .later }
def QuotaTextsUptoCardSaid : Prop := Claim7.holds Tryz.pinned (.plain (OpenSpec.upto quotaTextsSpec)) quotaTextsUptoCard

/-- THE SECOND FORM's CARD OF 'arborlaw07.TreePlays'. -/
def treePlaysUptoCard : Claim7 := { stood := { row := treePlaysUptoRow, standIns := [], harness := (true, "fe834354c501976f6c63a88dc93c7fd20c62f31c248b20604e2cdc778687d223"), looks := true }, kinds := [], alts := [], laidByText := true, laidKinds := [.data, .pinned], laidTests := true, laidLooks := .later }
def TreePlaysUptoCardSaid : Prop := Claim7.holds Tryz.pinned (.plain (OpenSpec.upto treePlaysSpec)) treePlaysUptoCard

/-- THE SECOND FORM's CARD OF 'arborlaw10.QuotaBooks'. -/
def quotaBooksUptoCard : Claim7 := { stood := { row := quotaBooksUptoRow, standIns := [], harness := (true, "fe834354c501976f6c63a88dc93c7fd20c62f31c248b20604e2cdc778687d223"), looks := true }, kinds := [], alts := [], laidByText := true, laidKinds := [.data, .pinned], laidTests := true, laidLooks := .later }
def QuotaBooksUptoCardSaid : Prop := Claim7.holds Tryz.pinned (.plain (OpenSpec.upto quotaBooksSpec)) quotaBooksUptoCard

/-- THE SECOND FORM's CARD OF 'arborlaw09.DigestDiffs'. -/
def digestDiffsUptoCard : Claim7 := { stood := { row := digestDiffsUptoRow, standIns := [], harness := (true, "fe834354c501976f6c63a88dc93c7fd20c62f31c248b20604e2cdc778687d223"), looks := true }, kinds := [], alts := [], laidByText := true, laidKinds := [.data, .pinned], laidTests := true, laidLooks := .later }
def DigestDiffsUptoCardSaid : Prop := Claim7.holds Tryz.pinned (.plain (OpenSpec.upto digestDiffsSpec)) digestDiffsUptoCard

/-- THE SECOND FORM's CARD OF 'arborlaw09.DigestFinds'. -/
def digestFindsUptoCard : Claim7 := { stood := { row := digestFindsUptoRow, standIns := [], harness := (true, "fe834354c501976f6c63a88dc93c7fd20c62f31c248b20604e2cdc778687d223"), looks := true }, kinds := [], alts := [], laidByText := true, laidKinds := [.data, .pinned], laidTests := true, laidLooks := .later }
def DigestFindsUptoCardSaid : Prop := Claim7.holds Tryz.pinned (.plain (OpenSpec.upto digestFindsSpec)) digestFindsUptoCard
end Rows
end Go.Proofs.YthinpbdbhijbgaaGreatDoor
