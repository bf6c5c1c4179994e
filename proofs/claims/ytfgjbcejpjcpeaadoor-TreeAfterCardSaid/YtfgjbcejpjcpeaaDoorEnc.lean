/- The walk of stat.Encode: a node's record. -/
import Derived.Test.YtfgjbcejpjcpeaaDoorRight2
namespace Go.Proofs.YtfgjbcejpjcpeaaDoor
open Go.RowKit
set_option maxHeartbeats 1000000
set_option maxRecDepth 100000

theorem steps_any (b : Nat) (w : World) : Calls Tryd.prog 88 #[.pointer (some ⟨b, 0, none⟩)] w fun e w' =>
    ∃ g1 g2 : Nat, e = .returned (.tuple #[.slice (some ⟨g1, 0, none⟩) 8 8, .slice (some ⟨g2, 0, none⟩) 3 3]) ∧ Below w.heap.size w w' ∧ w.heap.size ≤ g1 ∧ w.heap.size ≤ g2 ∧
      w'.heap[g1]? = some (.cells #[.pointer (some ⟨b, 3, none⟩), .pointer (some ⟨b, 4, none⟩), .pointer (some ⟨b, 5, none⟩), .pointer (some ⟨b, 6, none⟩), .pointer (some ⟨b, 7, none⟩), .pointer (some ⟨b, 8, none⟩), .pointer (some ⟨b, 9, none⟩), .pointer (some ⟨b, 10, none⟩)] 155 (0, 0)) ∧
      w'.heap[g2]? = some (.cells #[.pointer (some ⟨b, 11, none⟩), .pointer (some ⟨b, 12, none⟩), .pointer (some ⟨b, 13, none⟩)] 157 (0, 0)) := by
  go_enter Tryd.func88, Tryd.ntmps88
  go_wp2
  go_region
  all_goals go_wp2
  all_goals go_ret2
  all_goals first | refine ⟨w.heap.size, w.heap.size + 1, rfl, ?_, Nat.le_refl _, by omega, ?_, ?_⟩ | refine ⟨w.heap.size + 1, w.heap.size, rfl, ?_, by omega, Nat.le_refl _, ?_, ?_⟩
  all_goals first | exact (((Below.refl _ _).alloc (Nat.le_refl _) _).alloc (by simp) _).drew | exact heap_alloc2_old w _ _ | exact heap_alloc2_new w _ _
end Go.Proofs.YtfgjbcejpjcpeaaDoor
