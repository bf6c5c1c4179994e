/-
  DERIVED. GIVEN WITH THE SEED: THE CARDS: each row of YtamolbegmkngdaaGreatDoorRows.lean that lists a variable, with what it lists TIED to the program's text (the seventh form; the later family's looks); each row that meets fmt, with fmt's text TOLD by the authors' own Lean function (tested against real Go, not proved from fmt's source: count such statements apart). THE CARD IS WHAT COUNTS. Prove the row's statement (the work); the ties are given (YtamolbegmkngdaaGreatDoorTie.lean); close each card by the builder's one call (the guide's Derived/Test/ToyasCard.lean, 'card_holds'). Laid BY PROGRAM, IN A SANDBOX (cutbox-door.mjs). By AI agents, Wed Nov 11 2026. No macro, syntax, notation, axiom, sorry.
-/
import Derived.Test.YtamolbegmkngdaaGreatDoorRows
import GoSem.ClaimSeven
namespace Go.Proofs.YtamolbegmkngdaaGreatDoor
namespace Rows

/-- THE TIED CARD OF 'arborlaw09.DigestTrees'. -/
def digestTreesCard : Claim7 := { stood := { row := digestTreesRow, standIns := [], harness := (true, "bbffa696ce6a4a9d63dea859699235ec2e042f6318707a481e6a2d2db3e1f4fc"), looks := false }, kinds := [], alts := [], laidByText := true, laidKinds := [.data, .pinned], laidTests := true, laidLooks := .later }
def DigestTreesCardSaid : Prop := Claim7.holds Tryz.pinned (.plain (OpenSpec.ofChange digestTreesSpec)) digestTreesCard

/-- THE TIED CARD OF 'arborlaw10.QuotaMore'. -/
def quotaMoreCard : Claim7 := { stood := { row := quotaMoreRow, standIns := [], harness := (true, "bbffa696ce6a4a9d63dea859699235ec2e042f6318707a481e6a2d2db3e1f4fc"), looks := false }, kinds := [], alts := [], laidByText := true, laidKinds := [.data, .pinned], laidTests := true, laidLooks := .later }
def QuotaMoreCardSaid : Prop := Claim7.holds Tryz.pinned (.plain (OpenSpec.ofChange quotaMoreSpec)) quotaMoreCard

/-- THE TIED CARD OF 'arborlaw07.TreeMakes'. -/
def treeMakesCard : Claim7 := { stood := { row := treeMakesRow, standIns := [], harness := (true, "bbffa696ce6a4a9d63dea859699235ec2e042f6318707a481e6a2d2db3e1f4fc"), looks := false }, kinds := [], alts := [], laidByText := true, laidKinds := [.data, .pinned], laidTests := true, laidLooks := .later }
def TreeMakesCardSaid : Prop := Claim7.holds Tryz.pinned (.plain (OpenSpec.ofChange treeMakesSpec)) treeMakesCard

/-- THE TIED CARD OF 'arborlaw10.QuotaExceeds'. -/
def quotaExceedsCard : Claim7 := { stood := { row := quotaExceedsRow, standIns := [], harness := (true, "bbffa696ce6a4a9d63dea859699235ec2e042f6318707a481e6a2d2db3e1f4fc"), looks := false }, kinds := [], alts := [], laidByText := true, laidKinds := [.data, .pinned], laidTests := true, laidLooks := .later }
def QuotaExceedsCardSaid : Prop := Claim7.holds Tryz.pinned (.plain (OpenSpec.ofChange quotaExceedsSpec)) quotaExceedsCard

/-- THE TIED CARD OF 'arborlaw09.DigestRuns'. -/
def digestRunsCard : Claim7 := { stood := { row := digestRunsRow, standIns := [], harness := (true, "bbffa696ce6a4a9d63dea859699235ec2e042f6318707a481e6a2d2db3e1f4fc"), looks := false }, kinds := [], alts := [], laidByText := true, laidKinds := [.data, .pinned], laidTests := true, laidLooks := .later }
def DigestRunsCardSaid : Prop := Claim7.holds Tryz.pinned (.plain (OpenSpec.ofChange digestRunsSpec)) digestRunsCard

/-- THE TIED CARD OF 'arborlaw10.QuotaGrowth'. -/
def quotaGrowthCard : Claim7 := { stood := { row := quotaGrowthRow, standIns := [], harness := (true, "bbffa696ce6a4a9d63dea859699235ec2e042f6318707a481e6a2d2db3e1f4fc"), looks := false }, kinds := [], alts := [], laidByText := true, laidKinds := [.data, .pinned], laidTests := true, laidLooks := .later }
def QuotaGrowthCardSaid : Prop := Claim7.holds Tryz.pinned (.plain (OpenSpec.ofChange quotaGrowthSpec)) quotaGrowthCard

/-- THE TIED CARD OF 'arborlaw07.TreePlays'. -/
def treePlaysCard : Claim7 := { stood := { row := treePlaysRow, standIns := [], harness := (true, "bbffa696ce6a4a9d63dea859699235ec2e042f6318707a481e6a2d2db3e1f4fc"), looks := false }, kinds := [], alts := [], laidByText := true, laidKinds := [.data, .pinned], laidTests := true, laidLooks := .later }
def TreePlaysCardSaid : Prop := Claim7.holds Tryz.pinned (.plain (OpenSpec.ofChange treePlaysSpec)) treePlaysCard

/-- THE TIED CARD OF 'arborlaw07.TreeNils'. -/
def treeNilsCard : Claim7 := { stood := { row := treeNilsRow, standIns := [], harness := (true, "bbffa696ce6a4a9d63dea859699235ec2e042f6318707a481e6a2d2db3e1f4fc"), looks := false }, kinds := [], alts := [], laidByText := true, laidKinds := [.data, .pinned], laidTests := true, laidLooks := .later }
def TreeNilsCardSaid : Prop := Claim7.holds Tryz.pinned (.plain (OpenSpec.ofChange treeNilsSpec)) treeNilsCard

/-- THE TIED CARD OF 'arborlaw10.QuotaTurns'. -/
def quotaTurnsCard : Claim7 := { stood := { row := quotaTurnsRow, standIns := [], harness := (true, "bbffa696ce6a4a9d63dea859699235ec2e042f6318707a481e6a2d2db3e1f4fc"), looks := false }, kinds := [], alts := [], laidByText := true, laidKinds := [.data, .pinned], laidTests := true, laidLooks := .later }
def QuotaTurnsCardSaid : Prop := Claim7.holds Tryz.pinned (.plain (OpenSpec.ofChange quotaTurnsSpec)) quotaTurnsCard

/-- THE SECOND FORM's CARD OF 'arborlaw09.DigestTrees'. -/
def digestTreesUptoCard : Claim7 := { stood := { row := digestTreesUptoRow, standIns := [], harness := (true, "bbffa696ce6a4a9d63dea859699235ec2e042f6318707a481e6a2d2db3e1f4fc"), looks := false }, kinds := [], alts := [], laidByText := true, laidKinds := [.data, .pinned], laidTests := true, laidLooks := .later }
def DigestTreesUptoCardSaid : Prop := Claim7.holds Tryz.pinned (.plain (OpenSpec.upto digestTreesSpec)) digestTreesUptoCard

/-- THE SECOND FORM's CARD OF 'arborlaw10.QuotaMore'. -/
def quotaMoreUptoCard : Claim7 := { stood := { row := quotaMoreUptoRow, standIns := [], harness := (true, "bbffa696ce6a4a9d63dea859699235ec2e042f6318707a481e6a2d2db3e1f4fc"), looks := false }, kinds := [], alts := [], laidByText := true, laidKinds := [.data, .pinned], laidTests := true, laidLooks := .later }
def QuotaMoreUptoCardSaid : Prop := Claim7.holds Tryz.pinned (.plain (OpenSpec.upto quotaMoreSpec)) quotaMoreUptoCard

/-- THE SECOND FORM's CARD OF 'arborlaw07.TreeMakes'. -/
def treeMakesUptoCard : Claim7 := { stood := { row := treeMakesUptoRow, standIns := [], harness := (true, "bbffa696ce6a4a9d63dea859699235ec2e042f6318707a481e6a2d2db3e1f4fc"), looks := false }, kinds := [], alts := [], laidByText := true, laidKinds := [.data, .pinned], laidTests := true, laidLooks := .later }
def TreeMakesUptoCardSaid : Prop := Claim7.holds Tryz.pinned (.plain (OpenSpec.upto treeMakesSpec)) treeMakesUptoCard

/-- THE SECOND FORM's CARD OF 'arborlaw10.QuotaExceeds'. -/
def quotaExceedsUptoCard : Claim7 := { stood := { row := quotaExceedsUptoRow, standIns := [], harness := (true, "bbffa696ce6a4a9d63dea859699235ec2e042f6318707a481e6a2d2db3e1f4fc"), looks := false }, kinds := [], alts := [], laidByText := true, laidKinds := [.data, .pinned], laidTests := true, laidLooks := .later }
def QuotaExceedsUptoCardSaid : Prop := Claim7.holds Tryz.pinned (.plain (OpenSpec.upto quotaExceedsSpec)) quotaExceedsUptoCard

/-- THE SECOND FORM's CARD OF 'arborlaw09.DigestRuns'. -/
def digestRunsUptoCard : Claim7 := { stood := { row := digestRunsUptoRow, standIns := [], harness := (true, "bbffa696ce6a4a9d63dea859699235ec2e042f6318707a481e6a2d2db3e1f4fc"), looks := false }, kinds := [], alts := [], laidByText := true, laidKinds := [.data, .pinned], laidTests := true, laidLooks := .later }
def DigestRunsUptoCardSaid : Prop := Claim7.holds Tryz.pinned (.plain (OpenSpec.upto digestRunsSpec)) digestRunsUptoCard

/-- THE SECOND FORM's CARD OF 'arborlaw10.QuotaGrowth'. -/
def quotaGrowthUptoCard : Claim7 := { stood := { row := quotaGrowthUptoRow, standIns := [], harness := (true, "bbffa696ce6a4a9d63dea859699235ec2e042f6318707a481e6a2d2db3e1f4fc"), looks := false }, kinds := [], alts := [], laidByText := true, laidKinds := [.data, .pinned], laidTests := true, laidLooks := .later }
def QuotaGrowthUptoCardSaid : Prop := Claim7.holds Tryz.pinned (.plain (OpenSpec.upto quotaGrowthSpec)) quotaGrowthUptoCard

/-- THE SECOND FORM's CARD OF 'arborlaw07.TreePlays'. -/
def treePlaysUptoCard : Claim7 := { stood := { row := treePlaysUptoRow, standIns := [], harness := (true, "bbffa696ce6a4a9d63dea859699235ec2e042f6318707a481e6a2d2db3e1f4fc"), looks := false }, kinds := [], alts := [], laidByText := true, laidKinds := [.data, .pinned], laidTests := true, laidLooks := .later }
def TreePlaysUptoCardSaid : Prop := Claim7.holds Tryz.pinned (.plain (OpenSpec.upto treePlaysSpec)) treePlaysUptoCard

/-- THE SECOND FORM's CARD OF 'arborlaw07.TreeNils'. -/
def treeNilsUptoCard : Claim7 := { stood := { row := treeNilsUptoRow, standIns := [], harness := (true, "bbffa696ce6a4a9d63dea859699235ec2e042f6318707a481e6a2d2db3e1f4fc"), looks := false }, kinds := [], alts := [], laidByText := true, laidKinds := [.data, .pinned], laidTests := true, laidLooks := .later }
def TreeNilsUptoCardSaid : Prop := Claim7.holds Tryz.pinned (.plain (OpenSpec.upto treeNilsSpec)) treeNilsUptoCard

/-- THE SECOND FORM's CARD OF 'arborlaw10.QuotaTurns'. -/
def quotaTurnsUptoCard : Claim7 := { stood := { row := quotaTurnsUptoRow, standIns := [], harness := (true, "bbffa696ce6a4a9d63dea859699235ec2e042f6318707a481e6a2d2db3e1f4fc"), looks := false }, kinds := [], alts := [], laidByText := true, laidKinds := [.data, .pinned], laidTests := true, laidLooks := .later }
def QuotaTurnsUptoCardSaid : Prop := Claim7.holds Tryz.pinned (.plain (OpenSpec.upto quotaTurnsSpec)) quotaTurnsUptoCard
end Rows
end Go.Proofs.YtamolbegmkngdaaGreatDoor
