/- The walk of stat.Encode, where the node may be. -/
import Derived.Test.YtmpgfblcfgefjaaDoorEnc3a
namespace Go.Proofs.YtmpgfblcfgefjaaDoor
open Go.RowKit
set_option maxHeartbeats 4000000
set_option maxRecDepth 100000

theorem Cells.away' {B bb : Nat} {w : World} {a : Option Addr} {xs : List Value} {l : List UInt8} (hw : Wr B w bb l) (h : Cells B w a xs) : Away bb w a xs := Cells.away hw h

theorem encode_yes (n : Nd) (da aa : Option Addr) (dc ac : Nat) (w : World) (hf : Fit n) (hT : Tabs w) (hD : Cells w.heap.size w da (n.data.map u8v)) (hA : Cells w.heap.size w aa (acCs n.acl)) (hr : rightN n = 0) :
    Calls Tryd.prog 10 #[.agg (ndC n (.slice da n.data.length dc) (.slice aa n.acl.length ac))] w (EncOut n w) := by
  have hrs := right_sizes n hr
  have hs1 := hrs.1
  have hs2 := hrs.2.1
  have hs3 := hrs.2.2.1
  have HS4 := Lib.hid hrs.2.2.2
  clear hrs
  have hbox := Box.alloc w (ndC n (.slice da n.data.length dc) (.slice aa n.acl.length ac)) 27
  have hb0 : Below w.heap.size w (w.alloc (.cells (ndC n (.slice da n.data.length dc) (.slice aa n.acl.length ac)) 27)) := (Below.refl _ _).alloc (Nat.le_refl _) _
  have hD0 := hD.below hb0
  have hA0 := hA.below hb0
  have hT0 := hT.below hb0 hT.size
  have CR := right_any n da aa dc ac (w.alloc (.cells (ndC n (.slice da n.data.length dc) (.slice aa n.acl.length ac)) 27)) hf hT0 (hA0.mono (by simp))
  rw [hr] at CR
  have hh := heap_alloc_new w (.cells (ndC n (.slice da n.data.length dc) (.slice aa n.acl.length ac)) 27)
  have HR := Lib.hid hr
  have hne : (rightN n != 0) = false := by simp [hr]
  clear hD hA hT0 hr hne
  unfold ndC at hbox hb0 hD0 hA0 CR hh ⊢
  have HH := Lib.hid hh
  clear hh
  go_enter Tryd.func10, Tryd.ntmps10
  go_wp2_with (refine wpList_load_row rfl 27 (.tmp 1) rfl w.heap.size rfl 27 _ (0, 0) _ HH.out Tryd.underlying27 rfl sizeNd ?_)
  refine CR.mono ?_
  rintro e w1 ⟨rfl, hb1⟩
  have hsz1 : w.heap.size < w1.heap.size := by have := hb1.size; simp at this; omega
  have hx1 := hbox.below hb1 (by simp)
  have hb : Below w.heap.size w w1 := hb0.trans (hb1.mono (by simp))
  have hD1 := (hD0.below (hb1.mono (by simp)))
  have hA1 := (hA0.below (hb1.mono (by simp)))
  clear CR hbox hb0 hb1 hD0 hA0 HH
  have hw2 := Wr.empty w1
  have hb2 : Below w1.heap.size w1 (w1.alloc (.cells #[.slice none 0 0] 43)) := (Below.refl _ _).alloc (Nat.le_refl _) _
  have hx2 := hx1.below hb2 hsz1
  have hD2 := (hD1.mono (Nat.le_of_lt hsz1)).below hb2
  have hA2 := (hA1.mono (Nat.le_of_lt hsz1)).below hb2
  have hbw2 : Below w.heap.size w (w1.alloc (.cells #[.slice none 0 0] 43)) := hb.trans (hb2.mono (Nat.le_of_lt hsz1))
  clear hx1 hD1 hA1 hb hb2
  have hq := hx2
  unfold Box at hq
  go_wp2_with fail
  have HB := Lib.hid hsz1
  generalize w1.alloc (.cells #[.slice none 0 0] 43) = w2 at hw2 hx2 hD2 hA2 hbw2 hq ⊢
  generalize w1.heap.size = B at hw2 hD2 hA2 HB hsz1 ⊢
  refine (text_any B B [] n.path w2 hw2 (by omega) (by simp; omega)).mono ?_
  rintro e w3 ⟨rfl, k1, k2, k3⟩
  clear hq
  have hx3 := hx2.below k2 HB.out
  have hq := hx3
  unfold Box at hq
  go_wp2_with fail
  refine (buffer_any B B _ da _ dc n.data w3 k1 (Cells.away k1 (hD2.below k2)) rfl (by omega) (by simp [be_length]; omega)).mono ?_
  rintro e w4 ⟨rfl, m1, m2, m3⟩
  have hbw4 := k2.trans m2
  clear hq k1 k3 hx3 m3
  have hx4 := hx2.below hbw4 HB.out
  have hq := hx4
  unfold Box at hq
  go_wp2_with fail
  refine (list_any B B _ aa ac n.acl w4 m1 (hA2.below hbw4) hs3 HS4.out (by simp [be_length]; omega)).mono ?_
  rintro e w5 ⟨rfl, n1, n2, n3⟩
  have hbw5 := hbw4.trans n2
  clear hq m1 n3 hx4 k2 m2 hbw4 n2
  obtain ⟨l5, hl5, he5, n1⟩ : Exists fun l5 => l5.length ≤ 2000000 ∧ Hid (l5 = txt n.path ++ (be n.data.length 4 ++ n.data) ++ (be n.acl.length 4 ++ acBs n.acl)) ∧ Wr B w5 B l5 := by
    refine ⟨_, ?_, rfl, by simpa [txt, List.append_assoc] using n1⟩
    have := acBs_le n.acl HS4.out n.acl.length (Nat.le_refl _)
    rw [List.take_length] at this
    simp [txt_length, be_length]; omega
  have hx5 := hx2.below hbw5 HB.out
  have hq := hx5
  unfold Box at hq
  go_wp2_with fail
  refine (steps_any w.heap.size w5).mono ?_
  rintro e w6 ⟨g1, g2, rfl, p1, p2, p3, p4, p5⟩
  have hB5 : B ≤ w5.heap.size := Nat.le_of_lt n1.size
  have hw6 := n1.below (fun g _ hg => p1.block g hg)
  have hG1 := AwayBox.fresh n1 p1 p2 p4
  have hG2 := AwayBox.fresh n1 p1 p3 p5
  have hbw6 := hbw5.trans (p1.mono hB5)
  clear hq hx5 hbw5 n1 p1 p2 p3 p4 p5 hB5
  go_wp2
  go_loopw [37] (fun i wr => ∃ k : Nat, k ≤ 8 ∧ i = .int .i64 k ∧ Wr B wr B (l5 ++ longsB ((longsN n).take k)) ∧ Below B w6 wr ∧ Keeps B w6 wr) (fun i _ => 8 - (intOf i).toNat)
  case atStart => exact ⟨0, by omega, rfl, by simpa [longsB] using hw6, Below.refl _ _, Keeps.refl _ _⟩
  case round =>
    obtain ⟨k, hk, rfl, q1, q2, q3⟩ := hrel
    by_cases hlt : k < 8
    · obtain ⟨x, x1, x2⟩ := longs_get n k hlt
      have c1 : wr.cell? ⟨g1, k, none⟩ = some (.pointer (some ⟨w.heap.size, 3 + k, none⟩)) := ((hG1.keeps q3).2.2 k).trans (ptrs8_get w.heap.size k hlt)
      have c2 : wr.cell? ⟨w.heap.size, 3 + k, none⟩ = some (.int .i64 x) := ((hx2.below (hbw6.trans q2) HB.out) (3 + k)).trans (x2 _ _)
      have htk : Hid (longsB ((longsN n).take (k + 1)) = longsB ((longsN n).take k) ++ be (IntKind.u64.wrap x) 8) := by
        have hl : k < (longsN n).length := hlt
        unfold Hid
        rw [longsB_take _ k hl]
        rw [List.getElem?_eq_getElem hl] at x1
        rw [Option.some.inj x1]
      clear x1 x2
      go_wp2_with fail
      refine (long_any B B _ x wr q1 (by simp [longsB_length]; omega)).mono ?_
      rintro e w' ⟨rfl, r1, r2, r3⟩
      rw [List.append_assoc, ← htk.out] at r1
      have hB' := q2.trans r2
      have hK' := q3.trans r3
      clear c1 c2 q1 q2 q3 r2 r3
      go_wp2
      go_roundw
      case rel => exact ⟨k + 1, by omega, by go_num, r1, hB', hK'⟩
      case measure => simp [intOf]; omega
    · obtain rfl : k = 8 := by omega
      have q1 : Wr B wr B (l5 ++ longsB (longsN n)) := q1
      have hG2' := hG2.keeps q3
      have hbw7 := hbw6.trans q2
      clear q2 q3 hG1 hG2 hw6 hbw6
      obtain ⟨wo, rfl⟩ : ∃ wo : World, wo = wr := ⟨_, rfl⟩
      rw [show ((8 : Nat) : Int) = 8 from rfl]
      go_wp2
      go_loopw [49] (fun i wr => ∃ k : Nat, k ≤ 3 ∧ i = .int .i64 k ∧ Wr B wr B (l5 ++ longsB (longsN n) ++ intsB ((intsN n).take k)) ∧ Below B wo wr ∧ Keeps B wo wr) (fun i _ => 3 - (intOf i).toNat)
      case atStart => exact ⟨0, by omega, rfl, by simpa [intsB] using q1, Below.refl _ _, Keeps.refl _ _⟩
      case round =>
        obtain ⟨k, hk, rfl, s1, s2, s3⟩ := hrel
        by_cases hlt : k < 3
        · obtain ⟨x, x1, x2⟩ := ints_get n k hlt
          have c1 : wr.cell? ⟨g2, k, none⟩ = some (.pointer (some ⟨w.heap.size, 11 + k, none⟩)) := ((hG2'.keeps s3).2.2 k).trans (ptrs3_get w.heap.size k hlt)
          have c2 : wr.cell? ⟨w.heap.size, 11 + k, none⟩ = some (.int .i32 x) := ((hx2.below (hbw7.trans s2) HB.out) (11 + k)).trans (x2 _ _)
          have htk : Hid (intsB ((intsN n).take (k + 1)) = intsB ((intsN n).take k) ++ be (x % 4294967296) 4) := by
            have hl : k < (intsN n).length := hlt
            unfold Hid
            rw [intsB_take _ k hl]
            rw [List.getElem?_eq_getElem hl] at x1
            rw [Option.some.inj x1]
          have hll : (longsB (longsN n)).length = 64 := by rw [longsB_length]; rfl
          clear x1 x2
          go_wp2_with fail
          refine (int_any B B _ x wr s1 (by simp [intsB_length]; omega)).mono ?_
          rintro e w' ⟨rfl, r1, r2, r3⟩
          rw [List.append_assoc, ← htk.out] at r1
          have hB' := s2.trans r2
          have hK' := s3.trans r3
          clear c1 c2 s1 s2 s3 r2 r3
          go_wp2
          go_roundw
          case rel => exact ⟨k + 1, by omega, by go_num, r1, hB', hK'⟩
          case measure => simp [intOf]; omega
        · obtain rfl : k = 3 := by omega
          have s1 : Wr B wr B (l5 ++ longsB (longsN n) ++ intsB (intsN n)) := s1
          have hbw8 := hbw7.trans s2
          have hx8 := hx2.below hbw8 HB.out
          have hq := hx8
          have hl1 : (longsB (longsN n)).length = 64 := by rw [longsB_length]; rfl
          have hl2 : (intsB (intsN n)).length = 12 := by rw [intsB_length]; rfl
          have HL1 := Lib.hid hl1
          have HL2 := Lib.hid hl2
          clear s2 s3 hbw7 hG2' hl1 hl2
          unfold Box at hq
          go_wp2_with fail
          refine (bool_any B B _ n.has wr s1 (by have := HL1.out; have := HL2.out; simp; omega)).mono ?_
          rintro e w9 ⟨rfl, a1, a2, a3⟩
          have hbw9 := hbw8.trans a2
          have hx9 := hx2.below hbw9 HB.out
          clear hq hx8 s1 hbw8 a2 a3
          have hq := hx9
          unfold Box at hq
          go_wp2_with fail
          refine (long_any B B _ n.count w9 a1 (by have := HL1.out; have := HL2.out; simp; omega)).mono ?_
          rintro e w10 ⟨rfl, b1, b2, b3⟩
          have hbw10 := hbw9.trans b2
          have hx10 := hx2.below hbw10 HB.out
          clear hq hx9 a1 hbw9 b2 b3
          have hq := hx10
          unfold Box at hq
          go_wp2_with fail
          refine (long_any B B _ n.bytes w10 b1 (by have := HL1.out; have := HL2.out; simp [be_length]; omega)).mono ?_
          rintro e w11 ⟨rfl, d1, d2, d3⟩
          have hbw11 := hbw10.trans d2
          clear hq hx10 b1 hbw10 d2 d3
          go_wp2_with fail
          refine (bytes_any B B _ w11 d1 (by have := HL1.out; have := HL2.out; simp [be_length]; omega)).mono ?_
          rintro e w12 ⟨a', c', rfl, f1, f2⟩
          have hfin : Below w.heap.size w w12 := hbw2.trans ((hbw11.mono (Nat.le_of_lt HB.out)).trans (f2.mono (by have := hbw11.size; have := hw2.size; have := HB.out; omega)))
          have he : Hid (l5 ++ longsB (longsN n) ++ intsB (intsN n) ++ [if n.has then 1 else 0] ++ be (IntKind.u64.wrap n.count) 8 ++ be (IntKind.u64.wrap n.bytes) 8 = encN n) := by
            unfold Hid encN; rw [he5.out]
          rw [he.out] at f1 d1 ⊢
          clear hbw11 f2 d1
          go_wp2
          go_ret2
          exact ⟨hfin, .inr ⟨HR.out, a', c', rfl, f1⟩⟩

theorem encode_any (n : Nd) (da aa : Option Addr) (dc ac : Nat) (w : World) (hf : Fit n) (hT : Tabs w) (hD : Cells w.heap.size w da (n.data.map u8v)) (hA : Cells w.heap.size w aa (acCs n.acl)) :
    Calls Tryd.prog 10 #[.agg (ndC n (.slice da n.data.length dc) (.slice aa n.acl.length ac))] w (EncOut n w) := by
  by_cases hr : rightN n = 0
  · exact encode_yes n da aa dc ac w hf hT hD hA hr
  · exact encode_no n da aa dc ac w hf hT hA hr
end Go.Proofs.YtmpgfblcfgefjaaDoor
