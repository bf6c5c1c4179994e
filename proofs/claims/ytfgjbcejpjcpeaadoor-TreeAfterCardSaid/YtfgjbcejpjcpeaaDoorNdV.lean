/- A node's value in memory. -/
import Derived.Test.YtfgjbcejpjcpeaaDoorEnc3a
namespace Go.Proofs.YtfgjbcejpjcpeaaDoor
open Go.RowKit

/-- A node's value: its cells, the two slices' cells below a block number. -/
def NdV (B : Nat) (w : World) (v : Value) (n : Nd) : Prop :=
  ∃ da dc aa ac, v = .agg (ndC n (.slice da n.data.length dc) (.slice aa n.acl.length ac)) ∧ Cells B w da (n.data.map u8v) ∧ Cells B w aa (acCs n.acl)
def CloneN (n : Nd) (w : World) (e : Ending) (w' : World) : Prop := ∃ v, e = .returned v ∧ NdV w'.heap.size w' v n ∧ Below w.heap.size w w'

theorem cells_node (n : Nd) (d a : Option Addr) (k k' c c' : Nat) : (ndC n (.slice d k c) (.slice a k' c')).all (·.oneCell') = true := by
  simp [ndC, Value.oneCell']
/-- Bytes as a text. -/
theorem conv_string {B : Nat} {w : World} {a : Option Addr} {xs : List UInt8} (c : Nat) (h : Cells B w a (xs.map u8v)) : (convert 32 9 (.slice a xs.length c)).run Tryd.prog w = .ok (.string ⟨xs.toArray⟩) w := by
  cases a with
  | none =>
    have hx : xs = [] := by
      have := h.none
      simpa using this
    subst hx
    exact run_convert_bytes_nil w 32 5 Tryd.underlying32 Tryd.underlying5 0 c _ Tryd.underlying9
  | some p =>
    refine run_convert_bytes_back w _ _ 5 p c xs Tryd.underlying32 Tryd.underlying5 Tryd.underlying9 (fun j hj => ?_)
    obtain ⟨b, off, ha, _, hc⟩ := h j (u8v xs[j]) (by simp [List.getElem?_eq_getElem hj])
    obtain rfl : p = ⟨b, off, none⟩ := Option.some.inj ha
    rw [show (⟨b, off, none⟩ : Addr).add j = ⟨b, off + j, none⟩ from by unfold Addr.add; split <;> simp_all]
    exact hc
end Go.Proofs.YtfgjbcejpjcpeaaDoor
