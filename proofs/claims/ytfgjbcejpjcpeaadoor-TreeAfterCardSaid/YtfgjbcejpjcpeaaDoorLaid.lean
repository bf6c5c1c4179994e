/- What the rows list, read; the program's own facts for the cards. -/
import Derived.Test.YtfgjbcejpjcpeaaDoorRows
import Derived.Test.YtfgjbcejpjcpeaaDoorOpen
import Derived.Test.YtfgjbcejpjcpeaaDoorPath
import Derived.ProofKit
import Derived.LaidMore
import Derived.OpenShut
import Derived.Stop.Joined
import Derived.Lib.LaidU8
import GoSem.PinnedTables
import Derived.Lay
import Derived.SevenTiedAt
namespace Go.Proofs.YtfgjbcejpjcpeaaDoor
open Go.ChangeShapes Go.WideShapes Go.ChangeAt Go.RowKit Go.Lib
set_option maxHeartbeats 2000000
set_option maxRecDepth 100000

theorem Tryd.own : ownKnob Tryd.prog.godebug = none := by kernel_rfl
theorem Tryd.laidOut : laidOutB Tryd.prog = true := by kernel_rfl

theorem utf8First_eq : Pinned.utf8First = firstData := by kernel_rfl

/-- What the rows list, as their own constants. -/
def laidU : List (String × DataW Unit) := [("unicode/utf8.acceptRanges", Rows.laid_unicode_utf8_acceptRanges), ("unicode/utf8.first", Rows.laid_unicode_utf8_first)]

/-- The two tables of the decoder, off what the row lists (by the laws of Derived/Lib/LaidU8.lean, at this program's numbers). -/
theorem tabs_of_reads {w : World} (h3 : VarReads Tryd.prog w "unicode/utf8.first" firstData) (h4 : VarReads Tryd.prog w "unicode/utf8.acceptRanges" acceptData) : Tabs w := by
  have X : U8Extra Tryd.prog Tryd.lays196_ren := ⟨by kernel_rfl, by kernel_rfl, by kernel_rfl, by kernel_rfl, by kernel_rfl, by kernel_rfl, by kernel_rfl⟩
  have L := Tryd.lays196
  unfold Tabs
  constructor
  · intro c hc
    obtain ⟨g, t, cs, fuel, p, hg, hty, hvar, hd⟩ := h3
    obtain rfl := Option.some.inj (X.n3.symm.trans hg)
    obtain rfl := Option.some.inj (X.y3.symm.trans hty)
    rw [World.var?_cell hg hvar c, ← Array.getElem?_toList, cells_of_tab L.t119 L.t5 X.c5 X.c119 hd]
    simp [firstTab, hc]
  · intro i hi
    obtain ⟨g, t, cs, fuel, p, hg, hty, hvar, hd⟩ := h4
    obtain rfl := Option.some.inj (X.n4.symm.trans hg)
    obtain rfl := Option.some.inj (X.y4.symm.trans hty)
    obtain ⟨_, d, q, hdi, he⟩ := array_elem L.t139 hd i hi
    simp only [List.getElem?_map, List.getElem?_range hi, Option.map_some, Option.some.injEq] at hdi
    subst hdi
    rw [X.c138] at he
    have hcs := ints_of_struct L.t138 (fun j f hj => by
      rcases j with _ | _ | j
      · simp at hj; subst hj; exact ⟨L.t5, rfl, X.c5⟩
      · simp at hj; subst hj; exact ⟨L.t5, rfl, X.c5⟩
      · simp at hj) (by rw [X.c138]; rfl) he
    have e0 := congrArg (·[0]?) hcs
    have e1 := congrArg (·[1]?) hcs
    simp only [List.getElem?_take, List.getElem?_drop] at e0 e1
    rw [World.var?_cell hg hvar (2 * i), World.var?_cell hg hvar (2 * i + 1), ← Array.getElem?_toList, ← Array.getElem?_toList]
    exact ⟨by simpa [Nat.mul_comm] using e0, by simpa [Nat.mul_comm] using e1⟩

theorem tabs_of_laid {W : World} (h : laidMetH Tryd.prog laidU W) : Tabs W := by
  rw [MakeChecks.laidMetH_plain _ _ _ (by kernel_rfl)] at h
  exact tabs_of_reads (utf8First_eq ▸ Lib.laidMet.reads h (.tail _ (.head _))) (Lib.laidMet.reads h (.head _))

end Go.Proofs.YtfgjbcejpjcpeaaDoor
