/-
  DERIVED. GIVEN WITH THE SEED: THE CARDS: each row of YtclekhjnnljjlaaGreatDoorRows.lean that lists a variable, with what it lists TIED to the program's text (the seventh form; the later family's looks); each row that meets fmt, with fmt's text TOLD by the authors' own Lean function (tested against real Go, not proved from fmt's source: count such statements apart). THE CARD IS WHAT COUNTS. Prove the row's statement (the work); the ties are given (YtclekhjnnljjlaaGreatDoorTie.lean); close each card by the builder's one call (the guide's Derived/Test/ToyasCard.lean, 'card_holds'). Laid BY PROGRAM, IN A SANDBOX (cutbox-door.mjs). By AI agents, Wed Nov 11 2026. No macro, syntax, notation, axiom, sorry.
-/
import Derived.Test.YtclekhjnnljjlaaGreatDoorRows
import GoSem.ClaimSeven
namespace Go.Proofs.YtclekhjnnljjlaaGreatDoor
namespace Rows

/-- THE TIED CARD OF 'arborlaw17.FuzzyWhole'. -/
def fuzzyWholeCard : Claim7 := { stood := { row := fuzzyWholeRow, standIns := [], harness := (true, "7167da73b86437de3474e85c2b469203ffd61c6336e537ad2efcc6ee40502e84"), looks := true }, kinds := [], alts := [], laidByText := true, laidKinds := [.data, .data, .data, .data, .sentinel, .sentinel, .pinned], laidTests := true, laidLooks := .later }
def FuzzyWholeCardSaid : Prop := Claim7.holds Tryz.pinned (.plain (OpenSpec.ofChange fuzzyWholeSpec)) fuzzyWholeCard

/-- THE SECOND FORM's CARD OF 'arborlaw17.FuzzyWhole'. -/
def fuzzyWholeUptoCard : Claim7 := { stood := { row := fuzzyWholeUptoRow, standIns := [], harness := (true, "7167da73b86437de3474e85c2b469203ffd61c6336e537ad2efcc6ee40502e84"), looks := true }, kinds := [], alts := [], laidByText := true, laidKinds := [.data, .data, .data, .data, .sentinel, .sentinel, .pinned], laidTests := true, laidLooks := .later }
def FuzzyWholeUptoCardSaid : Prop := Claim7.holds Tryz.pinned (.plain (OpenSpec.upto fuzzyWholeSpec)) fuzzyWholeUptoCard
end Rows
end Go.Proofs.YtclekhjnnljjlaaGreatDoor
