/- The walk of stat.Encode. -/
import Derived.Test.YtfgjbcejpjcpeaaDoorEnc2
namespace Go.Proofs.YtfgjbcejpjcpeaaDoor
open Go.RowKit
set_option maxHeartbeats 2000000
set_option maxRecDepth 100000

/-- What a node's record answers. -/
def EncOut (n : Nd) (w : World) (e : Ending) (w' : World) : Prop :=
  Below w.heap.size w w' ∧ ((rightN n ≠ 0 ∧ e = .returned (.tuple #[.slice none 0 0, .int .i64 (rightN n)])) ∨
    (rightN n = 0 ∧ ∃ a c, e = .returned (.tuple #[.slice a (encN n).length c, .int .i64 0]) ∧ Cells w'.heap.size w' a ((encN n).map u8v)))

theorem right_sizes (n : Nd) (h : rightN n = 0) : n.path.size ≤ 4096 ∧ n.data.length ≤ 1048575 ∧ n.acl.length ≤ 16 ∧ ∀ x ∈ n.acl, x.scheme.size ≤ 256 ∧ x.id.size ≤ 256 := by
  unfold rightN at h
  by_cases h1 : vpath n.path = true
  · rw [if_neg (by simp [h1])] at h
    by_cases h2 : 1048575 < n.data.length ∨ 16 < n.acl.length ∨ n.acl.any bigAc = true
    · rw [if_pos h2] at h; omega
    · have hb : n.acl.any bigAc = false := by
        cases hh : n.acl.any bigAc
        · rfl
        · exact absurd (.inr (.inr hh)) h2
      refine ⟨?_, ?_, ?_, fun x hx => ?_⟩
      · simp [vpath] at h1; omega
      · exact Nat.le_of_not_lt fun h => h2 (.inl h)
      · exact Nat.le_of_not_lt fun h => h2 (.inr (.inl h))
      · have := List.any_eq_false.1 hb x hx
        simp [bigAc] at this; omega
  · rw [if_pos (by simp [h1])] at h; omega

theorem Wr.empty (w : World) : Wr w.heap.size (w.alloc (.cells #[.slice none 0 0] 144)) w.heap.size [] :=
  ⟨Nat.le_refl _, _, heap_alloc_new w _, World.ownsRow_nil _ _ _ _⟩
theorem Keeps.grow {B bb : Nat} {w w' : World} {l : List UInt8} (hw : Wr B w bb l) (hb : Below w.heap.size w w') : Keeps bb w w' :=
  ⟨hb.size, fun g hg ha => ⟨hb.block g hg, ha.1, fun v hv => ha.2 v (by rw [← hb.block bb hw.size]; exact hv)⟩⟩
theorem AwayBox.fresh {B bb g : Nat} {w w' : World} {l : List UInt8} {cs : Array Value} {e : TypeId} (hw : Wr B w bb l) (hb : Below w.heap.size w w') (hg : w.heap.size ≤ g) (hh : w'.heap[g]? = some (.cells cs e (0, 0))) : AwayBox bb w' g cs :=
  ⟨(Array.getElem?_eq_some_iff.1 hh).1, ⟨by have := hw.size; omega, fun v hv => (Apart.high hw g hg).2 v (by rw [← hb.block bb hw.size]; exact hv)⟩, fun j => cell_of_row w' g j cs e (0, 0) hh⟩

theorem longs_get (n : Nd) (k : Nat) (hk : k < 8) : ∃ x : Int, (longsN n)[k]? = some x ∧ ∀ d a, (ndC n d a)[3 + k]? = some (.int .i64 x) := by
  rcases (by omega : k = 0 ∨ k = 1 ∨ k = 2 ∨ k = 3 ∨ k = 4 ∨ k = 5 ∨ k = 6 ∨ k = 7) with rfl | rfl | rfl | rfl | rfl | rfl | rfl | rfl <;> exact ⟨_, rfl, fun _ _ => rfl⟩
theorem ints_get (n : Nd) (k : Nat) (hk : k < 3) : ∃ x : Int, (intsN n)[k]? = some x ∧ ∀ d a, (ndC n d a)[11 + k]? = some (.int .i32 x) := by
  rcases (by omega : k = 0 ∨ k = 1 ∨ k = 2) with rfl | rfl | rfl <;> exact ⟨_, rfl, fun _ _ => rfl⟩
def ptrs8 (b : Nat) : Array Value := #[.pointer (some ⟨b, 3, none⟩), .pointer (some ⟨b, 4, none⟩), .pointer (some ⟨b, 5, none⟩), .pointer (some ⟨b, 6, none⟩), .pointer (some ⟨b, 7, none⟩), .pointer (some ⟨b, 8, none⟩), .pointer (some ⟨b, 9, none⟩), .pointer (some ⟨b, 10, none⟩)]
def ptrs3 (b : Nat) : Array Value := #[.pointer (some ⟨b, 11, none⟩), .pointer (some ⟨b, 12, none⟩), .pointer (some ⟨b, 13, none⟩)]
theorem ptrs8_get (b k : Nat) (hk : k < 8) : (ptrs8 b)[k]? = some (.pointer (some ⟨b, 3 + k, none⟩)) := by
  rcases (by omega : k = 0 ∨ k = 1 ∨ k = 2 ∨ k = 3 ∨ k = 4 ∨ k = 5 ∨ k = 6 ∨ k = 7) with rfl | rfl | rfl | rfl | rfl | rfl | rfl | rfl <;> rfl
theorem ptrs3_get (b k : Nat) (hk : k < 3) : (ptrs3 b)[k]? = some (.pointer (some ⟨b, 11 + k, none⟩)) := by
  rcases (by omega : k = 0 ∨ k = 1 ∨ k = 2) with rfl | rfl | rfl <;> rfl

theorem sizeNd : (Tryd.prog.info? 37).map (·.size) = some 17 := by kernel_rfl

theorem encode_no (n : Nd) (da aa : Option Addr) (dc ac : Nat) (w : World) (hf : Fit n) (hT : Tabs w) (hA : Cells w.heap.size w aa (acCs n.acl)) (hr : rightN n ≠ 0) :
    Calls Tryd.prog 70 #[.agg (ndC n (.slice da n.data.length dc) (.slice aa n.acl.length ac))] w (EncOut n w) := by
  have hb0 : Below w.heap.size w (w.alloc (.cells (ndC n (.slice da n.data.length dc) (.slice aa n.acl.length ac)) 37)) := (Below.refl _ _).alloc (Nat.le_refl _) _
  have hA0 := hA.below hb0
  have hT0 := hT.below hb0 hT.size
  have CR := right_any n da aa dc ac (w.alloc (.cells (ndC n (.slice da n.data.length dc) (.slice aa n.acl.length ac)) 37)) hf hT0 (hA0.mono (by simp))
  unfold ndC at hb0 CR ⊢
  have hne : (rightN n != 0) = true := by simpa using hr
  have HR := Lib.hid hr
  have hh := heap_alloc_new w (.cells (ndC n (.slice da n.data.length dc) (.slice aa n.acl.length ac)) 37)
  unfold ndC at hh
  have HH := Lib.hid hh
  clear hA hA0 hT0 hr hh
  go_enter Tryd.func70, Tryd.ntmps70
  go_wp2_with (refine wpList_load_row rfl 37 (.tmp 1) rfl w.heap.size rfl 37 _ (0, 0) _ HH.out Tryd.underlying37 rfl sizeNd ?_)
  refine CR.mono ?_
  rintro e w1 ⟨rfl, hb1⟩
  have hb : Below w.heap.size w w1 := hb0.trans (hb1.mono (by simp))
  clear CR hb0 hb1
  go_wp2
  go_ret2
  exact ⟨hb, .inl ⟨HR.out, rfl⟩⟩

end Go.Proofs.YtfgjbcejpjcpeaaDoor
