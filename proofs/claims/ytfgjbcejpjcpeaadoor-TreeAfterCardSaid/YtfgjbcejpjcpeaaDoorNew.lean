/- The walk of tree.New. -/
import Derived.Test.YtfgjbcejpjcpeaaDoorLay
namespace Go.Proofs.YtfgjbcejpjcpeaaDoor
open Go.RowKit
set_option maxHeartbeats 2000000
set_option maxRecDepth 100000

/-- A tree without nodes, as New and From begin it. -/
def emptyW (w : World) : World := ((w.alloc (.map #[] 0)).alloc (.map #[] 0)).alloc (.cells (treeC w.heap.size (w.heap.size + 1)) 87)
theorem emptyW_size (w : World) : (emptyW w).heap.size = w.heap.size + 1 + 1 + 1 := by simp [emptyW]
theorem emptyW_ext (w : World) : Ext w (emptyW w) := ((Ext.alloc w _).trans (Ext.alloc _ _)).trans (Ext.alloc _ _)
theorem tree_empty (w : World) : TreeAt (fun k => w.heap.size ≤ k ∧ k < (emptyW w).heap.size) (emptyW w) (w.heap.size + 1 + 1) [] 0 := by
  have hz := emptyW_size w
  have h1 : SMap Tryd.prog 9 (emptyW w) w.heap.size [] := (SMap.made Tryd.prog 9 w).keep (by
    show (((w.alloc (.map #[] 0)).alloc (.map #[] 0)).alloc _).heap[w.heap.size]? = _
    rw [Below.heap_alloc _ _ _ (by simp; omega), Below.heap_alloc _ _ _ (by simp)])
  have h2 : SMap Tryd.prog 9 (emptyW w) (w.heap.size + 1) [] := by
    have h := SMap.made Tryd.prog 9 (w.alloc (.map #[] 0))
    rw [World.size_alloc] at h
    refine h.keep ?_
    show (((w.alloc (.map #[] 0)).alloc (.map #[] 0)).alloc _).heap[w.heap.size + 1]? = _
    rw [Below.heap_alloc _ _ _ (by simp)]
  refine ⟨w.heap.size, w.heap.size + 1, [], ⟨?_, ⟨by omega, by omega⟩, ⟨by omega, by omega⟩, ⟨by omega, by omega⟩, by omega, fun k hk => hk.2⟩, ⟨⟨[], h1, .nil⟩, MOk.nil, Nat.le_refl _⟩, ⟨h2, Nat.le_refl _, fun x hx => by simp at hx, List.Pairwise.nil, fun p _ => rfl⟩⟩
  have h := heap_alloc_new ((w.alloc (.map #[] 0)).alloc (.map #[] 0)) (.cells (treeC w.heap.size (w.heap.size + 1)) 87)
  simp only [World.size_alloc] at h
  exact h

def rootAc : Ac := ⟨31, ⟨#[119, 111, 114, 108, 100]⟩, ⟨#[97, 110, 121, 111, 110, 101]⟩⟩
def rootN : Nd := newN rootP [] [rootAc] 0 0 0
theorem rootN_right : rightN rootN = 0 := by decide +kernel

def NewOut (w : World) (e : Ending) (w' : World) : Prop := ∃ b, e = .returned (.pointer (some ⟨b, 0, none⟩)) ∧ TreeAt (fun k => w.heap.size ≤ k ∧ k < w'.heap.size) w' b [(keyN rootN, rootN)] 1 ∧ Ext w w'

theorem new_any (w : World) : Calls Tryd.prog 19 #[] w (NewOut w) := by
  have hz := emptyW_size w
  have hE := emptyW_ext w
  have hTr := tree_empty w
  obtain ⟨W1, hW1⟩ : ∃ W1, W1 = (emptyW w).alloc (.cells #[.int .i32 31, .string ⟨#[119, 111, 114, 108, 100]⟩, .string ⟨#[97, 110, 121, 111, 110, 101]⟩] 101) := ⟨_, rfl⟩
  have hE1 : Ext (emptyW w) W1 := by rw [hW1]; exact Ext.alloc _ _
  have hs1 : W1.heap.size = w.heap.size + 1 + 1 + 1 + 1 := by rw [hW1, World.size_alloc, hz]
  have hA : Cells W1.heap.size W1 (some ⟨w.heap.size + 1 + 1 + 1, 0, none⟩) (acCs [rootAc]) := fun j u hj => by
    refine ⟨_, 0, rfl, by omega, ?_⟩
    have h := heap_alloc_new (emptyW w) (.cells #[.int .i32 31, .string ⟨#[119, 111, 114, 108, 100]⟩, .string ⟨#[97, 110, 121, 111, 110, 101]⟩] 101)
    rw [hz, ← hW1] at h
    rw [Nat.zero_add, cell_of_row _ _ _ _ _ _ h]
    simpa [acCs, acC, rootAc] using hj
  have C1 := snew_nd rootP [] [rootAc] 0 0 0 none (some ⟨w.heap.size + 1 + 1 + 1, 0, none⟩) 0 1 W1 (right_fit rootN_right).1 (Cells.nil _ _ _) hA
  rw [hW1] at C1
  have HW1 := Lib.hid hW1
  unfold emptyW treeC rootP at C1
  unfold emptyW treeC at HW1
  have C1 := Lib.hid C1
  have hmm := @run_makeMap Tryd.prog
  clear hA hW1
  go_enter Tryd.func19, Tryd.ntmps19
  go_wp2_with fail
  refine C1.out.mono ?_
  rintro e w2 ⟨v, rfl, hN, hb2⟩
  rw [← HW1.out] at hb2 hN
  obtain ⟨va, vc, vb, vd, rfl, h1, h2⟩ := hN
  have hE2 : Ext (emptyW w) w2 := hE1.trans hb2
  have hT2 := hTr.ext hE2
  have C2 := lay_any _ w2 _ [] 0 hT2 rootN va vb vc vd rootN_right rfl (by omega) (h1.cells fun b hb => hb.2) (h2.cells fun b hb => hb.2)
  have C2 := Lib.hid C2
  have hEw := hE.trans hE2
  clear C1 h1 h2 HW1 hmm hTr hT2 hb2
  go_wp2_with fail
  refine C2.out.mono ?_
  rintro e w3 ⟨rfl, hT3, hM⟩
  have hz2 := hE2.size
  have hz3 := hM.size
  have hfin : NewOut w (.returned (.pointer (some ⟨w.heap.size + 1 + 1, 0, none⟩))) w3 :=
    ⟨_, rfl, hT3.keep (fun _ _ => rfl) (fun k hk => ⟨by rcases hk with h | h <;> omega, hT3.bound k hk⟩) (fun k hk => hk.2) (Nat.le_refl _), hEw.trans' (hM.below (B := w.heap.size) (fun k hk => hk.1) (by omega))⟩
  have HF := Lib.hid hfin
  clear hfin C2 hT3 hM hEw
  go_wp2
  go_ret
  exact HF.out
end Go.Proofs.YtfgjbcejpjcpeaaDoor
