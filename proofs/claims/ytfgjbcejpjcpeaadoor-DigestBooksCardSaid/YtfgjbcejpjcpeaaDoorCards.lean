/-
  DERIVED. GIVEN WITH THE SEED: THE CARDS: each row of YtfgjbcejpjcpeaaDoorRows.lean that lists a variable, with what it lists TIED to the program's text (the seventh form; the later family's looks); each row that meets fmt, with fmt's text TOLD by the authors' own Lean function (tested against real Go, not proved from fmt's source: count such statements apart). THE CARD IS WHAT COUNTS. Prove the row's statement (the work); the ties are given (YtfgjbcejpjcpeaaDoorTie.lean); close each card by the builder's one call (the guide's Derived/Test/ToyasCard.lean, 'card_holds'). Laid BY PROGRAM, IN A SANDBOX (cutbox-door.mjs). By AI agents, Wed Nov 11 2026. No macro, syntax, notation, axiom, sorry.
-/
import Derived.Test.YtfgjbcejpjcpeaaDoorRows
import GoSem.ClaimSeven
namespace Go.Proofs.YtfgjbcejpjcpeaaDoor
namespace Rows

/-- THE TIED CARD OF 'arborlaw07.TreeWalks'. -/
def treeWalksCard : Claim7 := { stood := { row := treeWalksRow, standIns := [], harness := (true, "95100fb0ef604daede33ea785023af705ba10a555337ecc232925576f49029ec"), looks := false }, kinds := [], alts := [], laidByText := true, laidKinds := [.data, .pinned], laidTests := true, laidLooks := .later }
def TreeWalksCardSaid : Prop := Claim7.holds Tryd.pinned (.plain (OpenSpec.ofChange treeWalksSpec)) treeWalksCard

/-- THE TIED CARD OF 'arborlaw07.TreeAfter'. -/
def treeAfterCard : Claim7 := { stood := { row := treeAfterRow, standIns := [], harness := (true, "95100fb0ef604daede33ea785023af705ba10a555337ecc232925576f49029ec"), looks := false }, kinds := [], alts := [], laidByText := true, laidKinds := [.data, .pinned], laidTests := true, laidLooks := .later }
def TreeAfterCardSaid : Prop := Claim7.holds Tryd.pinned (.plain (OpenSpec.ofChange treeAfterSpec)) treeAfterCard

/-- THE TIED CARD OF 'arborlaw09.DigestSteps'. -/
def digestStepsCard : Claim7 := { stood := { row := digestStepsRow, standIns := [], harness := (true, "95100fb0ef604daede33ea785023af705ba10a555337ecc232925576f49029ec"), looks := false }, kinds := [], alts := [], laidByText := true, laidKinds := [.data, .pinned], laidTests := true, laidLooks := .later }
def DigestStepsCardSaid : Prop := Claim7.holds Tryd.pinned (.plain (OpenSpec.ofChange digestStepsSpec)) digestStepsCard

/-- THE TIED CARD OF 'arborlaw09.DigestBooks'. -/
def digestBooksCard : Claim7 := { stood := { row := digestBooksRow, standIns := [], harness := (true, "95100fb0ef604daede33ea785023af705ba10a555337ecc232925576f49029ec"), looks := false }, kinds := [], alts := [], laidByText := true, laidKinds := [.data, .pinned], laidTests := true, laidLooks := .later }
def DigestBooksCardSaid : Prop := Claim7.holds Tryd.pinned (.plain (OpenSpec.ofChange digestBooksSpec)) digestBooksCard

/-- THE TIED CARD OF 'arborlaw07.TreeSums'. -/
def treeSumsCard : Claim7 := { stood := { row := treeSumsRow, standIns := [], harness := (true, "95100fb0ef604daede33ea785023af705ba10a555337ecc232925576f49029ec"), looks := false }, kinds := [], alts := [], laidByText := true, laidKinds := [.data, .pinned], laidTests := true, laidLooks := .later }
def TreeSumsCardSaid : Prop := Claim7.holds Tryd.pinned (.plain (OpenSpec.ofChange treeSumsSpec)) treeSumsCard

/-- THE TIED CARD OF 'arborlaw07.TreeOrder'. -/
def treeOrderCard : Claim7 := { stood := { row := treeOrderRow, standIns := [], harness := (true, "95100fb0ef604daede33ea785023af705ba10a555337ecc232925576f49029ec"), looks := false }, kinds := [], alts := [], laidByText := true, laidKinds := [.data, .pinned], laidTests := true, laidLooks := .later }
def TreeOrderCardSaid : Prop := Claim7.holds Tryd.pinned (.plain (OpenSpec.ofChange treeOrderSpec)) treeOrderCard

/-- THE TIED CARD OF 'arborlaw09.DigestBack'. -/
def digestBackCard : Claim7 := { stood := { row := digestBackRow, standIns := [], harness := (true, "95100fb0ef604daede33ea785023af705ba10a555337ecc232925576f49029ec"), looks := false }, kinds := [], alts := [], laidByText := true, laidKinds := [.data, .pinned], laidTests := true, laidLooks := .later }
def DigestBackCardSaid : Prop := Claim7.holds Tryd.pinned (.plain (OpenSpec.ofChange digestBackSpec)) digestBackCard

/-- THE SECOND FORM's CARD OF 'arborlaw07.TreeWalks'. -/
def treeWalksUptoCard : Claim7 := { stood := { row := treeWalksUptoRow, standIns := [], harness := (true, "95100fb0ef604daede33ea785023af705ba10a555337ecc232925576f49029ec"), looks := false }, kinds := [], alts := [], laidByText := true, laidKinds := [.data, .pinned], laidTests := true, laidLooks := .later }
def TreeWalksUptoCardSaid : Prop := Claim7.holds Tryd.pinned (.plain (OpenSpec.upto treeWalksSpec)) treeWalksUptoCard

/-- THE SECOND FORM's CARD OF 'arborlaw07.TreeAfter'. -/
def treeAfterUptoCard : Claim7 := { stood := { row := treeAfterUptoRow, standIns := [], harness := (true, "95100fb0ef604daede33ea785023af705ba10a555337ecc232925576f49029ec"), looks := false }, kinds := [], alts := [], laidByText := true, laidKinds := [.data, .pinned], laidTests := true, laidLooks := .later }
def TreeAfterUptoCardSaid : Prop := Claim7.holds Tryd.pinned (.plain (OpenSpec.upto treeAfterSpec)) treeAfterUptoCard

/-- THE SECOND FORM's CARD OF 'arborlaw09.DigestSteps'. -/
def digestStepsUptoCard : Claim7 := { stood := { row := digestStepsUptoRow, standIns := [], harness := (true, "95100fb0ef604daede33ea785023af705ba10a555337ecc232925576f49029ec"), looks := false }, kinds := [], alts := [], laidByText := true, laidKinds := [.data, .pinned], laidTests := true, laidLooks := .later }
def DigestStepsUptoCardSaid : Prop := Claim7.holds Tryd.pinned (.plain (OpenSpec.upto digestStepsSpec)) digestStepsUptoCard

/-- THE SECOND FORM's CARD OF 'arborlaw09.DigestBooks'. -/
def digestBooksUptoCard : Claim7 := { stood := { row := digestBooksUptoRow, standIns := [], harness := (true, "95100fb0ef604daede33ea785023af705ba10a555337ecc232925576f49029ec"), looks := false }, kinds := [], alts := [], laidByText := true, laidKinds := [.data, .pinned], laidTests := true, laidLooks := .later }
def DigestBooksUptoCardSaid : Prop := Claim7.holds Tryd.pinned (.plain (OpenSpec.upto digestBooksSpec)) digestBooksUptoCard

/-- THE SECOND FORM's CARD OF 'arborlaw07.TreeSums'. -/
def treeSumsUptoCard : Claim7 := { stood := { row := treeSumsUptoRow, standIns := [], harness := (true, "95100fb0ef604daede33ea785023af705ba10a555337ecc232925576f49029ec"), looks := false }, kinds := [], alts := [], laidByText := true, laidKinds := [.data, .pinned], laidTests := true, laidLooks := .later }
def TreeSumsUptoCardSaid : Prop := Claim7.holds Tryd.pinned (.plain (OpenSpec.upto treeSumsSpec)) treeSumsUptoCard

/-- THE SECOND FORM's CARD OF 'arborlaw07.TreeOrder'. -/
def treeOrderUptoCard : Claim7 := { stood := { row := treeOrderUptoRow, standIns := [], harness := (true, "95100fb0ef604daede33ea785023af705ba10a555337ecc232925576f49029ec"), looks := false }, kinds := [], alts := [], laidByText := true, laidKinds := [.data, .pinned], laidTests := true, laidLooks := .later }
def TreeOrderUptoCardSaid : Prop := Claim7.holds Tryd.pinned (.plain (OpenSpec.upto treeOrderSpec)) treeOrderUptoCard

/-- THE SECOND FORM's CARD OF 'arborlaw09.DigestBack'. -/
def digestBackUptoCard : Claim7 := { stood := { row := digestBackUptoRow, standIns := [], harness := (true, "95100fb0ef604daede33ea785023af705ba10a555337ecc232925576f49029ec"), looks := false }, kinds := [], alts := [], laidByText := true, laidKinds := [.data, .pinned], laidTests := true, laidLooks := .later }
def DigestBackUptoCardSaid : Prop := Claim7.holds Tryd.pinned (.plain (OpenSpec.upto digestBackSpec)) digestBackUptoCard
end Rows
end Go.Proofs.YtfgjbcejpjcpeaaDoor
