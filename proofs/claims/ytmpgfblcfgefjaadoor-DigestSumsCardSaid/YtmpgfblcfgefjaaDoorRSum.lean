/- The walks of the reference's sum of bytes and of its record of a node. -/
import Derived.Test.YtmpgfblcfgefjaaDoorSum
import Derived.Test.YtmpgfblcfgefjaaDoorREnc3
namespace Go.Proofs.YtmpgfblcfgefjaaDoor
open Go.RowKit
set_option maxHeartbeats 2000000
set_option maxRecDepth 100000

theorem rsum_any (a : Option Addr) (c : Nat) (l : List UInt8) (w : World) (hc : Cells w.heap.size w a (l.map u8v)) (hl : l.length ≤ 9223372036854775800) :
    Calls Tryd.prog 6 #[.slice a l.length c] w fun e w' => e = .returned (.int .u64 (fnv l)) ∧ w = w' := by
  go_enter Tryd.func6, Tryd.ntmps6
  go_wp2
  go_loop [3, 4] (fun h i => ∃ k : Nat, k ≤ l.length ∧ i = .int .i64 k ∧ h = .int .u64 (fnv (l.take k))) (fun _ i => l.length - (intOf i).toNat)
  case atStart => exact ⟨0, Nat.zero_le _, rfl, rfl⟩
  case round =>
    obtain ⟨k, hk, rfl, rfl⟩ := hrel
    by_cases hlt : k < l.length
    · obtain ⟨b, off, rfl, hb, c0⟩ := byteCell hc k hlt
      have H := Lib.hid (fnv_take l k hlt)
      generalize fnv (l.take k) = h0 at *
      go_wp2
      go_round
      case rel => exact ⟨k + 1, by omega, by go_num, by rw [H.out]; rfl⟩
      case measure => simp [intOf]; omega
    · obtain rfl : k = l.length := by omega
      rw [List.take_length]
      clear hc
      go_wp2
      go_ret
      exact ⟨rfl, rfl⟩

theorem rencode_any (n : Nd) (da aa : Option Addr) (dc ac : Nat) (w : World) (hf : Fit n) (hT : Tabs w) (hD : Cells w.heap.size w da (n.data.map u8v)) (hA : Cells w.heap.size w aa (acCs n.acl)) :
    Calls Tryd.prog 11 #[.agg (ndC n (.slice da n.data.length dc) (.slice aa n.acl.length ac))] w (EncOut n w) := by
  have hbox := Box.alloc w (ndC n (.slice da n.data.length dc) (.slice aa n.acl.length ac)) 27
  have hb0 : Below w.heap.size w (w.alloc (.cells (ndC n (.slice da n.data.length dc) (.slice aa n.acl.length ac)) 27)) := (Below.refl _ _).alloc (Nat.le_refl _) _
  have hD0 := hD.below hb0
  have hA0 := hA.below hb0
  have hT0 := hT.below hb0 hT.size
  have CR := rright_any n da aa dc ac (w.alloc (.cells (ndC n (.slice da n.data.length dc) (.slice aa n.acl.length ac)) 27)) hf hT0 (hA0.mono (by simp))
  have hh := heap_alloc_new w (.cells (ndC n (.slice da n.data.length dc) (.slice aa n.acl.length ac)) 27)
  have hput := fun (w1 : World) (hD : Cells w1.heap.size w1 da (n.data.map u8v)) (hA : Cells w1.heap.size w1 aa (acCs n.acl)) (hr : rightN n = 0) => rnput_any w1.heap.size (.slice none 0 0) [] n da aa dc ac w1 (World.ownsRow_nil _ _ _ _) (Nat.le_refl _) hD hA hr (by simp)
  unfold ndC at hbox hb0 CR hh hput ⊢
  have HH := Lib.hid hh
  have HP := Lib.hid hput
  clear hh hD hA hT0 hput
  by_cases hr : rightN n = 0
  · rw [hr] at CR
    have HR := Lib.hid hr
    clear hr
    go_enter Tryd.func11, Tryd.ntmps11
    go_wp2_with (refine wpList_load_row rfl 27 (.tmp 1) rfl w.heap.size rfl 27 _ (0, 0) _ HH.out Tryd.underlying27 rfl sizeNd ?_)
    refine CR.mono ?_
    rintro e w1 ⟨rfl, hb1⟩
    have hh1 := Lib.hid ((hb1.block w.heap.size (by simp)).trans HH.out)
    have hb : Below w.heap.size w w1 := hb0.trans (hb1.mono (by simp))
    have hD1 := (hD0.below (hb1.mono (by simp))).mono hb.size
    have hA1 := (hA0.below (hb1.mono (by simp))).mono hb.size
    clear CR hbox hb0 hb1 hD0 hA0 HH
    go_wp2_with (refine wpList_load_row rfl 27 (.tmp 1) rfl w.heap.size rfl 27 _ (0, 0) _ hh1.out Tryd.underlying27 rfl sizeNd ?_)
    refine (HP.out w1 hD1 hA1 HR.out).mono ?_
    rintro e w2 ⟨v2, rfl, k1, k2, k3⟩
    obtain ⟨a, c, rfl, hcs⟩ := ownsRow_cells k1
    have hbb := hb.trans (k2.mono hb.size)
    clear HP hb hD1 hA1 k1 k2 k3 hh1
    go_wp2
    go_ret2
    exact ⟨hbb, .inr ⟨HR.out, a, c, rfl, hcs⟩⟩
  · have hne : (rightN n != 0) = true := by simpa using hr
    have HR := Lib.hid hr
    clear hr
    go_enter Tryd.func11, Tryd.ntmps11
    go_wp2_with (refine wpList_load_row rfl 27 (.tmp 1) rfl w.heap.size rfl 27 _ (0, 0) _ HH.out Tryd.underlying27 rfl sizeNd ?_)
    refine CR.mono ?_
    rintro e w1 ⟨rfl, hb1⟩
    have hb : Below w.heap.size w w1 := hb0.trans (hb1.mono (by simp))
    clear CR hb0 hb1 hbox hD0 hA0 HH HP
    go_wp2
    go_ret2
    exact ⟨hb, .inl ⟨HR.out, rfl⟩⟩
end Go.Proofs.YtmpgfblcfgefjaaDoor
