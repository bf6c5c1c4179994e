/- The walk of stat.Encode, where the node may be. The walk of the sum of bytes; a node's number. The walk of a node's number. The walk of the tree's number: a range over the tree's nodes. The walks of Turn and Value: a number that is carried along. -/
import Derived.Test.YtfgjbcejpjcpeaaDoorJDigestBooks2
import Derived.Test.YtfgjbcejpjcpeaaDoorJDigestBooks8
namespace Go.Proofs.YtfgjbcejpjcpeaaDoor
open Go.RowKit
set_option maxHeartbeats 4000000
set_option maxRecDepth 100000

theorem Cells.away' {B bb : Nat} {w : World} {a : Option Addr} {xs : List Value} {l : List UInt8} (hw : Wr B w bb l) (h : Cells B w a xs) : Away bb w a xs := Cells.away hw h

theorem encode_yes (n : Nd) (da aa : Option Addr) (dc ac : Nat) (w : World) (hf : Fit n) (hT : Tabs w) (hD : Cells w.heap.size w da (n.data.map u8v)) (hA : Cells w.heap.size w aa (acCs n.acl)) (hr : rightN n = 0) :
    Calls Tryd.prog 70 #[.agg (ndC n (.slice da n.data.length dc) (.slice aa n.acl.length ac))] w (EncOut n w) := by
  have hrs := right_sizes n hr
  have hs1 := hrs.1
  have hs2 := hrs.2.1
  have hs3 := hrs.2.2.1
  have HS4 := Lib.hid hrs.2.2.2
  clear hrs
  have hbox := Box.alloc w (ndC n (.slice da n.data.length dc) (.slice aa n.acl.length ac)) 37
  have hb0 : Below w.heap.size w (w.alloc (.cells (ndC n (.slice da n.data.length dc) (.slice aa n.acl.length ac)) 37)) := (Below.refl _ _).alloc (Nat.le_refl _) _
  have hD0 := hD.below hb0
  have hA0 := hA.below hb0
  have hT0 := hT.below hb0 hT.size
  have CR := right_any n da aa dc ac (w.alloc (.cells (ndC n (.slice da n.data.length dc) (.slice aa n.acl.length ac)) 37)) hf hT0 (hA0.mono (by simp))
  rw [hr] at CR
  have hh := heap_alloc_new w (.cells (ndC n (.slice da n.data.length dc) (.slice aa n.acl.length ac)) 37)
  have HR := Lib.hid hr
  have hne : (rightN n != 0) = false := by simp [hr]
  clear hD hA hT0 hr hne
  unfold ndC at hbox hb0 hD0 hA0 CR hh ⊢
  have HH := Lib.hid hh
  clear hh
  go_enter Tryd.func70, Tryd.ntmps70
  go_wp2_with (refine wpList_load_row rfl 37 (.tmp 1) rfl w.heap.size rfl 37 _ (0, 0) _ HH.out Tryd.underlying37 rfl sizeNd ?_)
  refine CR.mono ?_
  rintro e w1 ⟨rfl, hb1⟩
  have hsz1 : w.heap.size < w1.heap.size := by have := hb1.size; simp at this; omega
  have hx1 := hbox.below hb1 (by simp)
  have hb : Below w.heap.size w w1 := hb0.trans (hb1.mono (by simp))
  have hD1 := (hD0.below (hb1.mono (by simp)))
  have hA1 := (hA0.below (hb1.mono (by simp)))
  clear CR hbox hb0 hb1 hD0 hA0 HH
  have hw2 := Wr.empty w1
  have hb2 : Below w1.heap.size w1 (w1.alloc (.cells #[.slice none 0 0] 144)) := (Below.refl _ _).alloc (Nat.le_refl _) _
  have hx2 := hx1.below hb2 hsz1
  have hD2 := (hD1.mono (Nat.le_of_lt hsz1)).below hb2
  have hA2 := (hA1.mono (Nat.le_of_lt hsz1)).below hb2
  have hbw2 : Below w.heap.size w (w1.alloc (.cells #[.slice none 0 0] 144)) := hb.trans (hb2.mono (Nat.le_of_lt hsz1))
  clear hx1 hD1 hA1 hb hb2
  have hq := hx2
  unfold Box at hq
  go_wp2_with fail
  have HB := Lib.hid hsz1
  generalize w1.alloc (.cells #[.slice none 0 0] 144) = w2 at hw2 hx2 hD2 hA2 hbw2 hq ⊢
  generalize w1.heap.size = B at hw2 hD2 hA2 HB hsz1 ⊢
  refine (text_any B B [] n.path w2 hw2 (by omega) (by simp; omega)).mono ?_
  rintro e w3 ⟨rfl, k1, k2, k3⟩
  clear hq
  have hx3 := hx2.below k2 HB.out
  have hq := hx3
  unfold Box at hq
  go_wp2_with fail
  refine (buffer_any B B _ da _ dc n.data w3 k1 (Cells.away k1 (hD2.below k2)) rfl (by omega) (by simp [be_length]; omega)).mono ?_
  rintro e w4 ⟨rfl, m1, m2, m3⟩
  have hbw4 := k2.trans m2
  clear hq k1 k3 hx3 m3
  have hx4 := hx2.below hbw4 HB.out
  have hq := hx4
  unfold Box at hq
  go_wp2_with fail
  refine (list_any B B _ aa ac n.acl w4 m1 (hA2.below hbw4) hs3 HS4.out (by simp [be_length]; omega)).mono ?_
  rintro e w5 ⟨rfl, n1, n2, n3⟩
  have hbw5 := hbw4.trans n2
  clear hq m1 n3 hx4 k2 m2 hbw4 n2
  obtain ⟨l5, hl5, he5, n1⟩ : Exists fun l5 => l5.length ≤ 2000000 ∧ Hid (l5 = txt n.path ++ (be n.data.length 4 ++ n.data) ++ (be n.acl.length 4 ++ acBs n.acl)) ∧ Wr B w5 B l5 := by
    refine ⟨_, ?_, rfl, by simpa [txt, List.append_assoc] using n1⟩
    have := acBs_le n.acl HS4.out n.acl.length (Nat.le_refl _)
    rw [List.take_length] at this
    simp [txt_length, be_length]; omega
  have hx5 := hx2.below hbw5 HB.out
  have hq := hx5
  unfold Box at hq
  go_wp2_with fail
  refine (steps_any w.heap.size w5).mono ?_
  rintro e w6 ⟨g1, g2, rfl, p1, p2, p3, p4, p5⟩
  have hB5 : B ≤ w5.heap.size := Nat.le_of_lt n1.size
  have hw6 := n1.below (fun g _ hg => p1.block g hg)
  have hG1 := AwayBox.fresh n1 p1 p2 p4
  have hG2 := AwayBox.fresh n1 p1 p3 p5
  have hbw6 := hbw5.trans (p1.mono hB5)
  clear hq hx5 hbw5 n1 p1 p2 p3 p4 p5 hB5
  go_wp2
  go_loopw [37] (fun i wr => ∃ k : Nat, k ≤ 8 ∧ i = .int .i64 k ∧ Wr B wr B (l5 ++ longsB ((longsN n).take k)) ∧ Below B w6 wr ∧ Keeps B w6 wr) (fun i _ => 8 - (intOf i).toNat)
  case atStart => exact ⟨0, by omega, rfl, by simpa [longsB] using hw6, Below.refl _ _, Keeps.refl _ _⟩
  case round =>
    obtain ⟨k, hk, rfl, q1, q2, q3⟩ := hrel
    by_cases hlt : k < 8
    · obtain ⟨x, x1, x2⟩ := longs_get n k hlt
      have c1 : wr.cell? ⟨g1, k, none⟩ = some (.pointer (some ⟨w.heap.size, 3 + k, none⟩)) := ((hG1.keeps q3).2.2 k).trans (ptrs8_get w.heap.size k hlt)
      have c2 : wr.cell? ⟨w.heap.size, 3 + k, none⟩ = some (.int .i64 x) := ((hx2.below (hbw6.trans q2) HB.out) (3 + k)).trans (x2 _ _)
      have htk : Hid (longsB ((longsN n).take (k + 1)) = longsB ((longsN n).take k) ++ be (IntKind.u64.wrap x) 8) := by
        have hl : k < (longsN n).length := hlt
        unfold Hid
        rw [longsB_take _ k hl]
        rw [List.getElem?_eq_getElem hl] at x1
        rw [Option.some.inj x1]
      clear x1 x2
      go_wp2_with fail
      refine (long_any B B _ x wr q1 (by simp [longsB_length]; omega)).mono ?_
      rintro e w' ⟨rfl, r1, r2, r3⟩
      rw [List.append_assoc, ← htk.out] at r1
      have hB' := q2.trans r2
      have hK' := q3.trans r3
      clear c1 c2 q1 q2 q3 r2 r3
      go_wp2
      go_roundw
      case rel => exact ⟨k + 1, by omega, by go_num, r1, hB', hK'⟩
      case measure => simp [intOf]; omega
    · obtain rfl : k = 8 := by omega
      have q1 : Wr B wr B (l5 ++ longsB (longsN n)) := q1
      have hG2' := hG2.keeps q3
      have hbw7 := hbw6.trans q2
      clear q2 q3 hG1 hG2 hw6 hbw6
      obtain ⟨wo, rfl⟩ : ∃ wo : World, wo = wr := ⟨_, rfl⟩
      rw [show ((8 : Nat) : Int) = 8 from rfl]
      go_wp2
      go_loopw [49] (fun i wr => ∃ k : Nat, k ≤ 3 ∧ i = .int .i64 k ∧ Wr B wr B (l5 ++ longsB (longsN n) ++ intsB ((intsN n).take k)) ∧ Below B wo wr ∧ Keeps B wo wr) (fun i _ => 3 - (intOf i).toNat)
      case atStart => exact ⟨0, by omega, rfl, by simpa [intsB] using q1, Below.refl _ _, Keeps.refl _ _⟩
      case round =>
        obtain ⟨k, hk, rfl, s1, s2, s3⟩ := hrel
        by_cases hlt : k < 3
        · obtain ⟨x, x1, x2⟩ := ints_get n k hlt
          have c1 : wr.cell? ⟨g2, k, none⟩ = some (.pointer (some ⟨w.heap.size, 11 + k, none⟩)) := ((hG2'.keeps s3).2.2 k).trans (ptrs3_get w.heap.size k hlt)
          have c2 : wr.cell? ⟨w.heap.size, 11 + k, none⟩ = some (.int .i32 x) := ((hx2.below (hbw7.trans s2) HB.out) (11 + k)).trans (x2 _ _)
          have htk : Hid (intsB ((intsN n).take (k + 1)) = intsB ((intsN n).take k) ++ be (x % 4294967296) 4) := by
            have hl : k < (intsN n).length := hlt
            unfold Hid
            rw [intsB_take _ k hl]
            rw [List.getElem?_eq_getElem hl] at x1
            rw [Option.some.inj x1]
          have hll : (longsB (longsN n)).length = 64 := by rw [longsB_length]; rfl
          clear x1 x2
          go_wp2_with fail
          refine (int_any B B _ x wr s1 (by simp [intsB_length]; omega)).mono ?_
          rintro e w' ⟨rfl, r1, r2, r3⟩
          rw [List.append_assoc, ← htk.out] at r1
          have hB' := s2.trans r2
          have hK' := s3.trans r3
          clear c1 c2 s1 s2 s3 r2 r3
          go_wp2
          go_roundw
          case rel => exact ⟨k + 1, by omega, by go_num, r1, hB', hK'⟩
          case measure => simp [intOf]; omega
        · obtain rfl : k = 3 := by omega
          have s1 : Wr B wr B (l5 ++ longsB (longsN n) ++ intsB (intsN n)) := s1
          have hbw8 := hbw7.trans s2
          have hx8 := hx2.below hbw8 HB.out
          have hq := hx8
          have hl1 : (longsB (longsN n)).length = 64 := by rw [longsB_length]; rfl
          have hl2 : (intsB (intsN n)).length = 12 := by rw [intsB_length]; rfl
          have HL1 := Lib.hid hl1
          have HL2 := Lib.hid hl2
          clear s2 s3 hbw7 hG2' hl1 hl2
          unfold Box at hq
          go_wp2_with fail
          refine (bool_any B B _ n.has wr s1 (by have := HL1.out; have := HL2.out; simp; omega)).mono ?_
          rintro e w9 ⟨rfl, a1, a2, a3⟩
          have hbw9 := hbw8.trans a2
          have hx9 := hx2.below hbw9 HB.out
          clear hq hx8 s1 hbw8 a2 a3
          have hq := hx9
          unfold Box at hq
          go_wp2_with fail
          refine (long_any B B _ n.count w9 a1 (by have := HL1.out; have := HL2.out; simp; omega)).mono ?_
          rintro e w10 ⟨rfl, b1, b2, b3⟩
          have hbw10 := hbw9.trans b2
          have hx10 := hx2.below hbw10 HB.out
          clear hq hx9 a1 hbw9 b2 b3
          have hq := hx10
          unfold Box at hq
          go_wp2_with fail
          refine (long_any B B _ n.bytes w10 b1 (by have := HL1.out; have := HL2.out; simp [be_length]; omega)).mono ?_
          rintro e w11 ⟨rfl, d1, d2, d3⟩
          have hbw11 := hbw10.trans d2
          clear hq hx10 b1 hbw10 d2 d3
          go_wp2_with fail
          refine (bytes_any B B _ w11 d1 (by have := HL1.out; have := HL2.out; simp [be_length]; omega)).mono ?_
          rintro e w12 ⟨a', c', rfl, f1, f2⟩
          have hfin : Below w.heap.size w w12 := hbw2.trans ((hbw11.mono (Nat.le_of_lt HB.out)).trans (f2.mono (by have := hbw11.size; have := hw2.size; have := HB.out; omega)))
          have he : Hid (l5 ++ longsB (longsN n) ++ intsB (intsN n) ++ [if n.has then 1 else 0] ++ be (IntKind.u64.wrap n.count) 8 ++ be (IntKind.u64.wrap n.bytes) 8 = encN n) := by
            unfold Hid encN; rw [he5.out]
          rw [he.out] at f1 d1 ⊢
          clear hbw11 f2 d1
          go_wp2
          go_ret2
          exact ⟨hfin, .inr ⟨HR.out, a', c', rfl, f1⟩⟩

theorem encode_any (n : Nd) (da aa : Option Addr) (dc ac : Nat) (w : World) (hf : Fit n) (hT : Tabs w) (hD : Cells w.heap.size w da (n.data.map u8v)) (hA : Cells w.heap.size w aa (acCs n.acl)) :
    Calls Tryd.prog 70 #[.agg (ndC n (.slice da n.data.length dc) (.slice aa n.acl.length ac))] w (EncOut n w) := by
  by_cases hr : rightN n = 0
  · exact encode_yes n da aa dc ac w hf hT hD hA hr
  · exact encode_no n da aa dc ac w hf hT hA hr
end Go.Proofs.YtfgjbcejpjcpeaaDoor
namespace Go.Proofs.YtfgjbcejpjcpeaaDoor
open Go.RowKit
set_option maxHeartbeats 2000000
set_option maxRecDepth 100000

def fnvStep (h : Int) (c : UInt8) : Int := IntKind.u64.wrap (bits .xor .u64 h (IntKind.u64.wrap c.toNat) * 1099511628211)
def fnv0 : Int := 14695981039346656037
def fnv (l : List UInt8) : Int := l.foldl fnvStep fnv0
theorem fnv_take (l : List UInt8) (k : Nat) (h : k < l.length) : fnv (l.take (k + 1)) = fnvStep (fnv (l.take k)) l[k] := by
  unfold fnv; rw [List.take_succ_eq_append_getElem h, List.foldl_append]; rfl

theorem byteCell {B : Nat} {w : World} {a : Option Addr} {l : List UInt8} (h : Cells B w a (l.map u8v)) (k : Nat) (hk : k < l.length) : ∃ b off, a = some ⟨b, off, none⟩ ∧ b < B ∧ w.cell? ⟨b, off + k, none⟩ = some (.int .u8 l[k].toNat) := by
  obtain ⟨b, off, h1, h2, h3⟩ := h k (u8v l[k]) (by simp [List.getElem?_eq_getElem hk])
  exact ⟨b, off, h1, h2, h3⟩

theorem sum_any (a : Option Addr) (c : Nat) (l : List UInt8) (w : World) (hc : Cells w.heap.size w a (l.map u8v)) (hl : l.length ≤ 9223372036854775800) :
    Calls Tryd.prog 50 #[.slice a l.length c] w fun e w' => e = .returned (.int .u64 (fnv l)) ∧ w = w' := by
  go_enter Tryd.func50, Tryd.ntmps50
  go_wp2
  go_loop [3, 8] (fun h i => ∃ k : Nat, k ≤ l.length ∧ i = .int .i64 k ∧ h = .int .u64 (fnv (l.take k))) (fun _ i => l.length - (intOf i).toNat)
  case atStart => exact ⟨0, Nat.zero_le _, rfl, rfl⟩
  case round =>
    obtain ⟨k, hk, rfl, rfl⟩ := hrel
    by_cases hlt : k < l.length
    · obtain ⟨b, off, rfl, hb, c0⟩ := byteCell hc k hlt
      have H := Lib.hid (fnv_take l k hlt)
      generalize fnv (l.take k) = h0 at *
      go_wp2
      go_round
      case rel => exact ⟨k + 1, by omega, by go_num, by rw [H.out]; rfl⟩
      case measure => simp [intOf]; omega
    · obtain rfl : k = l.length := by omega
      rw [List.take_length]
      clear hc
      go_wp2
      go_ret
      exact ⟨rfl, rfl⟩

/-- A node's number. -/
def nodeN (n : Nd) : Int := if rightN n = 0 then fnv (encN n) else 0
def NodeOut (n : Nd) (w : World) (e : Ending) (w' : World) : Prop := e = .returned (.int .u64 (nodeN n)) ∧ Below w.heap.size w w'

theorem encN_length (n : Nd) (hr : rightN n = 0) : (encN n).length ≤ 2000000 := by
  have hrs := right_sizes n hr
  have h1 := acBs_le n.acl hrs.2.2.2 n.acl.length (Nat.le_refl _)
  rw [List.take_length] at h1
  have e1 : (longsN n).length = 8 := rfl
  have e2 : (intsN n).length = 3 := rfl
  simp only [encN, List.length_append, txt_length, be_length, longsB_length, intsB_length, e1, e2, List.length_cons, List.length_nil]
  omega
end Go.Proofs.YtfgjbcejpjcpeaaDoor
namespace Go.Proofs.YtfgjbcejpjcpeaaDoor
open Go.RowKit
set_option maxHeartbeats 2000000
set_option maxRecDepth 100000

theorem node_any (n : Nd) (da aa : Option Addr) (dc ac : Nat) (w : World) (hf : Fit n) (hT : Tabs w) (hD : Cells w.heap.size w da (n.data.map u8v)) (hA : Cells w.heap.size w aa (acCs n.acl)) :
    Calls Tryd.prog 52 #[.agg (ndC n (.slice da n.data.length dc) (.slice aa n.acl.length ac))] w (NodeOut n w) := by
  have hb0 : Below w.heap.size w (w.alloc (.cells (ndC n (.slice da n.data.length dc) (.slice aa n.acl.length ac)) 37)) := (Below.refl _ _).alloc (Nat.le_refl _) _
  have CR := encode_any n da aa dc ac (w.alloc (.cells (ndC n (.slice da n.data.length dc) (.slice aa n.acl.length ac)) 37)) hf (hT.below hb0 hT.size) ((hD.below hb0).mono (by simp)) ((hA.below hb0).mono (by simp))
  have hh := heap_alloc_new w (.cells (ndC n (.slice da n.data.length dc) (.slice aa n.acl.length ac)) 37)
  unfold ndC at hb0 CR hh ⊢
  have HH := Lib.hid hh
  have CR := Lib.hid CR
  clear hh hD hA hT
  by_cases hr : rightN n = 0
  · have HL := Lib.hid (encN_length n hr)
    have HN : Hid (nodeN n = fnv (encN n)) := by unfold Hid nodeN; rw [if_pos hr]
    have HR := Lib.hid hr
    clear hr
    go_enter Tryd.func52, Tryd.ntmps52
    go_wp2_with (refine wpList_load_row rfl 37 (.tmp 1) rfl w.heap.size rfl 37 _ (0, 0) _ HH.out Tryd.underlying37 rfl sizeNd ?_)
    refine CR.out.mono ?_
    rintro e w1 ⟨hb1, h⟩
    rcases h with ⟨h, _⟩ | ⟨_, a, c, rfl, hcs⟩
    · exact absurd HR.out h
    have hb : Below w.heap.size w w1 := hb0.trans (hb1.mono (by simp))
    clear CR hb0 hb1 HH
    go_wp2_with fail
    refine (sum_any a c (encN n) w1 hcs (by have := HL.out; omega)).mono ?_
    rintro e w2 ⟨rfl, rfl⟩
    clear hcs
    go_wp2
    go_ret
    exact ⟨by rw [HN.out]; rfl, hb⟩
  · have hne : (rightN n != 0) = true := by simpa using hr
    have HN : Hid (nodeN n = 0) := by unfold Hid nodeN; rw [if_neg hr]
    have HR := Lib.hid hr
    clear hr
    go_enter Tryd.func52, Tryd.ntmps52
    go_wp2_with (refine wpList_load_row rfl 37 (.tmp 1) rfl w.heap.size rfl 37 _ (0, 0) _ HH.out Tryd.underlying37 rfl sizeNd ?_)
    refine CR.out.mono ?_
    rintro e w1 ⟨hb1, h⟩
    have h := h.resolve_right (fun h => HR.out h.1)
    obtain ⟨_, rfl⟩ := h
    have hb : Below w.heap.size w w1 := hb0.trans (hb1.mono (by simp))
    clear CR hb0 hb1 HH
    go_wp2
    go_ret
    exact ⟨by rw [HN.out]; rfl, hb⟩
end Go.Proofs.YtfgjbcejpjcpeaaDoor
namespace Go.Proofs.YtfgjbcejpjcpeaaDoor
open Go.RowKit Go.Sort
set_option maxHeartbeats 4000000
set_option maxRecDepth 100000
attribute [local go_sem] Oper.semAt_some

/-- The numbers of nodes, added to and taken off a number, round. -/
def addN (s : Int) (ns : List Nd) : Int := ns.foldl (fun s n => IntKind.u64.wrap (s + nodeN n)) s
def subN (s : Int) (ns : List Nd) : Int := ns.foldl (fun s n => IntKind.u64.wrap (s - nodeN n)) s
theorem addN_snoc (s : Int) (ns : List Nd) (n : Nd) : addN s (ns ++ [n]) = IntKind.u64.wrap (addN s ns + nodeN n) := by unfold addN; rw [List.foldl_append]; rfl
theorem subN_snoc (s : Int) (ns : List Nd) (n : Nd) : subN s (ns ++ [n]) = IntKind.u64.wrap (subN s ns - nodeN n) := by unfold subN; rw [List.foldl_append]; rfl
theorem infoU64 : (Tryd.prog.info? 49).map (·.size) = some 1 := by kernel_rfl

structure OfI (w W7 : World) (pre : List (Value × Nd)) (W : World) : Prop where
  box : W.heap[w.heap.size]? = some (.cells #[.int .u64 (addN 0 (pre.map (·.2)))] 49 (0, 0))
  size : W7.heap.size ≤ W.heap.size
  keep : Below w.heap.size w W

theorem MOk.keys_le {M : List (Key × Nd)} (hok : MOk M) : ∀ k ∈ M.map (·.1), k.length ≤ maxLen := fun k hk => by
  obtain ⟨x, hx, rfl⟩ := List.mem_map.1 hk
  rw [hok.key x hx]
  unfold keyN
  rw [size_list]
  have := (vpath_facts (right_vpath (hok.right x hx))).2.1
  unfold maxLen; omega

theorem dof_any (S : Nat → Prop) (w : World) (bt : Nat) (M : List (Key × Nd)) (N : Nat) (hT : TreeAt S w bt M N) (hTb : Tabs w) (hks : M.length * 168 ≤ 140737488355328) :
    Calls Tryd.prog 38 #[.pointer (some ⟨bt, 0, none⟩)] w fun e w' => e = .returned (.int .u64 (addN 0 (M.map (·.2)))) ∧ Ext w w' := by
  obtain ⟨W0, hW0⟩ : ∃ W0, W0 = w.alloc (.cells #[.int .u64 0] 49) := ⟨_, rfl⟩
  have hE0 : Ext w W0 := by rw [hW0]; exact Ext.alloc _ _
  have hz0 : W0.heap.size = w.heap.size + 1 := by rw [hW0]; simp
  have hg0 : W0.heap[w.heap.size]? = some (.cells #[.int .u64 0] 49 (0, 0)) := by rw [hW0]; exact heap_alloc_new w _
  have C1 := Lib.hid (tall_any bt W0)
  have HW0 := Lib.hid hW0
  have HT := Lib.hid hT
  have HE0 := Lib.hid hE0
  have HG0 := Lib.hid hg0
  have HTb := Lib.hid hTb
  have hzT := hTb.size
  clear hT hW0 hE0 hg0 hTb
  refine (callsIn_wide (n := 6)).1 (callsIn_of_wp_marks Tryd.func38 rfl trivial ?_)
  simp only [Tryd.ntmps38, List.size_toArray, List.length_cons, List.length_nil, Nat.reduceAdd, Nat.reduceSub, Array.replicate_succ, Array.replicate_zero, List.push_toArray, List.append_toArray, List.nil_append, List.cons_append]
  gi_wp2_with fail
  rw [← HW0.out]
  refine ⟨trivial, (callsIn_wide.2 C1.out).mono ?_⟩
  rintro e W1 ⟨bw, btb, rfl, hcw, hct, hE1⟩
  have hz1 := hE1.size
  have hE01 := HE0.out.trans hE1
  have hT1 := HT.out.ext hE01
  have hbd := HT.out.bound
  have hok := HT.out.ok
  have hs1 : ∀ k, S k → k ≠ w.heap.size := fun k hk => by have := hbd k hk; omega
  have hg1 := (hE1.block _ (Array.getElem?_eq_some_iff.1 HG0.out).1).trans HG0.out
  have TT := told_tells (fun _ k => k ≠ w.heap.size) S W1 bt M N hT1 hs1 bw btb 46 #[.pointer (some ⟨bt, 0, none⟩)] #[] hcw hct (enters_of Tryd.func46 (by kernel_rfl) rfl) (M.map (·.1))
    (fun W hW => by simpa using tsorted_any S W bt M N (hT1.ext hW) (by omega)) (by simpa using hks) hok.keys_le
  rw [nodesOf_vals hok.sorted] at TT
  have hI0 : OfI w W1 [] W1 := ⟨hg1, Nat.le_refl _, hE01⟩
  have hnn := told_not_nil #[.pointer (some ⟨bw, 0, none⟩), .pointer (some ⟨btb, 0, none⟩)] W1
  have TT := Lib.hid TT
  have HI0 := Lib.hid hI0
  have HTB1 := Lib.hid (HTb.out.below hE01 hzT)
  have HOK := Lib.hid hok
  clear hcw hct hE1 hE01 hT1 hs1 hg1 hI0 C1 hok
  gi_wp2
  refine wpIn_tells_nd (Safe := fun _ k => k ≠ w.heap.size) (by omega) (gf := 66) (lb := #[.pointer (some ⟨bw, 0, none⟩), .pointer (some ⟨btb, 0, none⟩)]) rfl (enters_of Tryd.func66 (by kernel_rfl) rfl) TT.out (show 7 < 13 by decide) (show 4 < 13 by decide) (by decide)
    (OfI w W1) (fun _ _ _ => False) (fun _ _ _ _ h => h) ?hI ?hIx HI0.out ?body ?done ?stop
  case hI =>
    rintro pre X Y ⟨h1, h2, h3⟩ hTn
    exact ⟨⟨hTn.cells h1, Nat.le_trans h2 hTn.size, h3.trans (hTn.below (by omega) h3.size)⟩, fun k hk => by omega⟩
  case hIx => exact fun _ _ _ _ h _ => h
  case stop => exact fun _ _ _ _ _ _ h => h.elim
  case body =>
    rintro l pre n da dc aa ac bl W hl0 hrec ⟨rest, hSp⟩ ⟨hbx, hsz, hEw⟩ hG hbl
    simp only [List.setIfInBounds_toArray, List.set_cons_succ, List.set_cons_zero]
    have hs : W.cell? ⟨w.heap.size, 0, none⟩ = some (.int .u64 (addN 0 (pre.map (·.2)))) := cell_of_row _ _ _ _ _ _ hbx
    obtain ⟨hDW, hAW⟩ := nds_parts hG
    have hDW := hDW.cells fun b hb => hb.2
    have hAW := hAW.cells fun b hb => hb.2
    have hTW : Tabs W := HTb.out.below hEw hzT
    have hmem : n ∈ M.map (·.2) := by
      have : n ∈ (pre ++ [(Value.agg (ndC n (.slice da n.data.length dc) (.slice aa n.acl.length ac)), n)]).map (·.2) ++ rest := by simp
      rw [hSp] at this; exact this
    obtain ⟨x, hx, hxe⟩ := List.mem_map.1 hmem
    have hfit : Fit n := by rw [← hxe]; exact (right_fit (HOK.out.right x hx)).1
    have HS := Lib.hid (addN_snoc 0 (pre.map (·.2)) n)
    have HBX := Lib.hid hbx
    have HEW := Lib.hid hEw
    clear hbx hEw hmem hx hSp
    generalize addN 0 (pre.map (·.2)) = s at *
    refine wpIn_block ?_
    refine wpIn_region_P l (by kernel_rfl) (by rfl) (region_store_vals 13 [.int .u64 s, .agg (ndC n (.slice da n.data.length dc) (.slice aa n.acl.length ac)), .int .u64 (nodeN n), .int .u64 (IntKind.u64.wrap (s + nodeN n))] 4 _ rfl rfl rfl rfl rfl (by decide) rfl ?duties ?last)
    case duties =>
      refine ⟨?_, ?_, ?_, ?_, trivial⟩
      · refine duty_free rfl fun a w' hE hF hA => ?_
        have x1 := hF.slot 3 _ (by decide) rfl
        exact wp_value (ex_cell rfl _ _ x1 ((hE.cell (World.block_lt_of_cell? _ _ hs)).trans hs) rfl Tryd.underlying49) ⟨_, rfl, rfl, Ext.refl _⟩
      · refine duty_free rfl fun a w' hE hF hA => ?_
        have x1 := hF.slot 4 _ (by decide) rfl
        exact wp_value (ex_load_row rfl _ x1 37 _ (0, 0) _ ((hE.block _ (Array.getElem?_eq_some_iff.1 hbl).1).trans hbl) Tryd.underlying37 rfl sizeNd) ⟨_, rfl, rfl, Ext.refl _⟩
      · refine duty_free rfl fun a w' hE hF hA => ?_
        have x1 := hA.val 1 9 rfl rfl ⟨⟨1, .data⟩, by simp, rfl, rfl⟩ rfl
        refine wp_enter (ex_call rfl (enters_f Tryd.func52 (by kernel_rfl) rfl)) (by simp only [List.map_toArray, List.map_cons, List.map_nil, x1]; exact node_any n da aa dc ac w' hfit (hTW.below hE hTW.size) (hDW.ext hE) (hAW.ext hE)) ?_
        rintro e w4 ⟨rfl, hb⟩
        exact ⟨_, rfl, _, rfl, rfl, hb⟩
      · refine duty_free rfl fun a w' hE hF hA => ?_
        have x1 := hA.val 0 8 rfl rfl ⟨⟨0, .data⟩, by simp, rfl, rfl⟩ rfl
        have x2 := hA.val 2 10 rfl rfl ⟨⟨2, .data⟩, by simp, rfl, rfl⟩ rfl
        exact wp_value (w' := w') (v := .int .u64 (IntKind.u64.wrap (s + nodeN n))) (by simp only [execOp, x1, x2]; simp [go_sem]) ⟨_, rfl, rfl, Ext.refl _⟩
    case last =>
      intro W8 hE8
      have hbx8 := (hE8.block _ (Array.getElem?_eq_some_iff.1 HBX.out).1).trans HBX.out
      simp only [filled, List.take_succ_cons, List.take_zero, List.zip_cons_cons, List.zip_nil_left, List.foldl_cons, List.foldl_nil, Act.put, List.setIfInBounds_toArray, List.set_cons_succ, List.set_cons_zero]
      refine wp_skipped (w' := W8.setRow w.heap.size #[.int .u64 (IntKind.u64.wrap (s + nodeN n))]) (by refine run_store_one 49 (.tmp 3) (.tmp 11) ?_ w.heap.size (.int .u64 (IntKind.u64.wrap (s + nodeN n))) ?_ ?_ ?_ 49 (.int .u64 s) hbx8 infoU64 <;> rfl) ?_
      have hKp := (Kp.ext (B := W1.heap.size) (ga := w.heap.size) hE8).trans (Kp.set W8 #[.int .u64 (IntKind.u64.wrap (s + nodeN n))] (by omega))
      have hB8 : Below w.heap.size w (W8.setRow w.heap.size #[.int .u64 (IntKind.u64.wrap (s + nodeN n))]) := (HEW.out.trans (hE8.mono HEW.out.size)).trans ⟨rfl, rfl, rfl, by simp, fun k hk => setRow_other _ _ _ _ (by omega)⟩
      have hz8 := hE8.size
      simp only [Exit.inBlock, Act.put, tellPost]
      refine ⟨hKp.recs, hKp.cells, ?_, by simp; omega, hB8⟩
      simp only [List.map_append, List.map_cons, List.map_nil]
      rw [HS.out]
      exact setRow_heap _ _ _ _ _ _ hbx8
  case done =>
    rintro D xs W hD hS ⟨hbx, hsz, hEw⟩ hK
    have hfin : Ext w (W.putObj D (.deferred none)) := hEw.trans ((Turn.putObj (B := W1.heap.size) (.deferred none) hD hK rfl).below (by omega) hEw.size)
    have hv : W.cell? ⟨w.heap.size, 0, none⟩ = some (.int .u64 (addN 0 (xs.map (·.2)))) := cell_of_row _ _ _ _ _ _ hbx
    rw [hS] at hv
    have HFIN := Lib.hid hfin
    have HK := Lib.hid hK
    clear hfin hK hS TT HI0 hbx
    gi_wp2
    refine ⟨by simp, .inl ⟨_, _, rfl, run_takeDeferred HK.out, ?_⟩⟩
    refine ⟨_, results_tmp rfl _ _ _, ?_⟩
    exact ⟨rfl, HFIN.out⟩
end Go.Proofs.YtfgjbcejpjcpeaaDoor
namespace Go.Proofs.YtfgjbcejpjcpeaaDoor
open Go.RowKit Go.Sort
set_option maxHeartbeats 4000000
set_option maxRecDepth 100000

/-- A running number in memory. -/
def RunAt (w : World) (br : Nat) (v : Int) : Prop := w.heap[br]? = some (.cells #[.int .u64 v] 103 (0, 0))

/-- All is as it was, but for one block. -/
structure But (r : Nat) (w w' : World) : Prop where
  os : w'.os = w.os
  tape : w'.tape = w.tape
  output : w'.output = w.output
  size : w.heap.size ≤ w'.heap.size
  same : ∀ k, k < w.heap.size → k ≠ r → w'.heap[k]? = w.heap[k]?
theorem But.refl (r : Nat) (w : World) : But r w w := ⟨rfl, rfl, rfl, Nat.le_refl _, fun _ _ _ => rfl⟩
theorem But.trans {r : Nat} {a b c : World} (h : But r a b) (k : But r b c) : But r a c :=
  ⟨k.os.trans h.os, k.tape.trans h.tape, k.output.trans h.output, Nat.le_trans h.size k.size, fun i hi hn => (k.same i (Nat.lt_of_lt_of_le hi h.size) hn).trans (h.same i hi hn)⟩
theorem But.of_ext {r : Nat} {a b : World} (h : Ext a b) : But r a b := ⟨h.os, h.tape, h.output, h.size, fun k hk _ => h.block k hk⟩
theorem But.set (r : Nat) (w : World) (cs : Array Value) : But r w (w.setRow r cs) := ⟨rfl, rfl, rfl, by simp, fun _ _ hn => setRow_other _ _ _ _ hn⟩
theorem But.below {r B : Nat} {w w' : World} (h : But r w w') (hB : B ≤ r) (hs : B ≤ w.heap.size) : Below B w w' :=
  ⟨h.os, h.tape, h.output, h.size, fun k hk => h.same k (by omega) (by omega)⟩
theorem But.run {r q : Nat} {w w' : World} (h : But r w w') {v : Int} (hq : RunAt w q v) (hn : q ≠ r) : RunAt w' q v := (h.same q (Array.getElem?_eq_some_iff.1 hq).1 hn).trans hq

theorem value_any (br : Nat) (v : Int) (w : World) (hr : RunAt w br v) : Calls Tryd.prog 22 #[.pointer (some ⟨br, 0, none⟩)] w fun e w' => e = .returned (.int .u64 v) ∧ w = w' := by
  have hc : w.cell? ⟨br, 0, none⟩ = some (.int .u64 v) := cell_of_row _ _ _ _ _ _ hr
  clear hr
  go_enter Tryd.func22, Tryd.ntmps22
  go_wp2
  go_ret
  exact ⟨rfl, rfl⟩

def BeginOut (v : Int) (w : World) (e : Ending) (w' : World) : Prop := ∃ b, e = .returned (.pointer (some ⟨b, 0, none⟩)) ∧ w.heap.size ≤ b ∧ RunAt w' b v ∧ Ext w w'
theorem begin_any (S : Nat → Prop) (w : World) (bt : Nat) (M : List (Key × Nd)) (N : Nat) (hT : TreeAt S w bt M N) (hTb : Tabs w) (hks : M.length * 168 ≤ 140737488355328) :
    Calls Tryd.prog 20 #[.pointer (some ⟨bt, 0, none⟩)] w (BeginOut (addN 0 (M.map (·.2))) w) := by
  have C1 := Lib.hid (dof_any S w bt M N hT hTb hks)
  clear hT hTb
  go_enter Tryd.func20, Tryd.ntmps20
  go_wp2_with fail
  refine C1.out.mono ?_
  rintro e W1 ⟨rfl, hE1⟩
  have hfin : BeginOut (addN 0 (M.map (·.2))) w (.returned (.pointer (some ⟨W1.heap.size, 0, none⟩))) (W1.alloc (.cells #[.int .u64 (addN 0 (M.map (·.2)))] 103)) := ⟨W1.heap.size, rfl, hE1.size, heap_alloc_new _ _, hE1.trans (Ext.alloc _ _)⟩
  have HFIN := Lib.hid hfin
  clear hfin hE1 C1
  go_wp2
  go_ret
  exact HFIN.out

def TurnOut (br : Nat) (v : Int) (w : World) (e : Ending) (w' : World) : Prop := e = .returned (.tuple #[]) ∧ RunAt w' br v ∧ But br w w'

theorem addN_take (s : Int) (l : List Nd) (k : Nat) (h : k < l.length) : addN s (l.take (k + 1)) = IntKind.u64.wrap (addN s (l.take k) + nodeN l[k]) := by
  rw [List.take_succ_eq_append_getElem h, addN_snoc]
theorem subN_take (s : Int) (l : List Nd) (k : Nat) (h : k < l.length) : subN s (l.take (k + 1)) = IntKind.u64.wrap (subN s (l.take k) - nodeN l[k]) := by
  rw [List.take_succ_eq_append_getElem h, subN_snoc]

theorem turn_any (br : Nat) (v : Int) (A B : List Nd) (aA aB : Option Addr) (cA cB B0 : Nat) (w : World) (hr : RunAt w br v) (hT : Tabs w) (hA : NdsAt B0 w aA A) (hB : NdsAt B0 w aB B) (hfA : ∀ n ∈ A, Fit n) (hfB : ∀ n ∈ B, Fit n) (h2 : 2 ≤ B0) (hB0 : B0 ≤ br) (hB1 : B0 ≤ w.heap.size)
    (hlA : A.length ≤ 9223372036854775807) (hlB : B.length ≤ 9223372036854775807) :
    Calls Tryd.prog 21 #[.pointer (some ⟨br, 0, none⟩), .slice aA A.length cA, .slice aB B.length cB] w (TurnOut br (addN (subN v A) B) w) := by
  have HA := Lib.hid hA
  have HB := Lib.hid hB
  have HFA := Lib.hid hfA
  have HFB := Lib.hid hfB
  have HT := Lib.hid hT
  clear hA hB hfA hfB hT
  go_enter Tryd.func21, Tryd.ntmps21
  go_wp2
  go_loopw [14] (fun i wr => ∃ k : Nat, k ≤ A.length ∧ i = .int .i64 k ∧ RunAt wr br (subN (v) (A.take k)) ∧ But br w wr) (fun i _ => A.length - (intOf i).toNat)
  case atStart => exact ⟨0, Nat.zero_le _, rfl, by simpa [subN] using hr, But.refl _ _⟩
  case round =>
    obtain ⟨k, hk, rfl, hR, hU⟩ := hrel
    by_cases hlt : k < A.length
    · have hLk : A[k]? = some A[k] := List.getElem?_eq_getElem hlt
      have hfk := HFA.out A[k] (List.getElem_mem hlt)
      have HS := Lib.hid (subN_take (v) A k hlt)
      obtain ⟨b, off, vv, rfl, hb, hv, hc⟩ := HA.out k A[k] hLk
      generalize A[k] = n at *
      obtain ⟨da, dc, aa, ac, rfl, hD, hAc⟩ := hv
      have hBl : Below B0 w wr := hU.below hB0 hB1
      have hcw : ∀ j u, (ndC n (.slice da n.data.length dc) (.slice aa n.acl.length ac))[j]? = some u → wr.cell? ((⟨b, off + k * 17, none⟩ : Addr).add j) = some u := fun j u hj => by
        rw [addr_add, hBl.cell (p := ⟨b, off + k * 17 + j, none⟩) hb]
        exact hc j u hj
      have hwz : B0 ≤ wr.heap.size := Nat.le_trans hB1 hU.size
      obtain ⟨W2, hW2⟩ : ∃ W2, W2 = wr.alloc (.cells (ndC n (.slice da n.data.length dc) (.slice aa n.acl.length ac)) 37) := ⟨_, rfl⟩
      have he2 : Ext wr W2 := by rw [hW2]; exact Ext.alloc _ _
      have hDW := ((hD.below hBl).mono hwz).ext he2
      have hAW := ((hAc.below hBl).mono hwz).ext he2
      have hTW : Tabs W2 := HT.out.below (hBl.trans (he2.mono hwz)) h2
      have hU2 : But br w W2 := hU.trans (But.of_ext he2)
      have hR2 : RunAt W2 br (subN (v) (A.take k)) := (he2.block br (Array.getElem?_eq_some_iff.1 hR).1).trans hR
      have hbl : W2.heap[wr.heap.size]? = some (.cells (ndC n (.slice da n.data.length dc) (.slice aa n.acl.length ac)) 37 (0, 0)) := by rw [hW2]; exact heap_alloc_new wr _
      generalize subN (v) (A.take k) = s at *
      have hs : W2.cell? ⟨br, 0, none⟩ = some (.int .u64 s) := cell_of_row _ _ _ _ _ _ hR2
      have HSET := Lib.hid ((setRow_alloc wr zeroNd (ndC n (.slice da n.data.length dc) (.slice aa n.acl.length ac)) 37).trans hW2.symm)
      have HNew := Lib.hid (heap_alloc_new wr (.cells zeroNd 37))
      have HC := Lib.hid hcw
      have HBL := Lib.hid hbl
      have HSs := Lib.hid hs
      have HDW := Lib.hid hDW
      have HAW := Lib.hid hAW
      have HTW := Lib.hid hTW
      have HU2 := Lib.hid hU2
      have HR2 := Lib.hid hR2
      unfold ndC at HSET HC
      unfold zeroNd at HSET HNew
      clear hcw hbl hs hDW hAW hTW hU2 hR2 hW2 he2 hR hU hBl hc hD hAc hLk
      go_wp2_with (first | (refine wpList_load_at rfl 37 (.tmp 16) rfl _ rfl _ _ HC.out Tryd.underlying37 rfl sizeNd ?_) | (refine wpList_store_row rfl 37 (.tmp 7) (.tmp 17) rfl wr.heap.size _ rfl rfl 37 _ HNew.out sizeNd rfl (cells_node n da aa _ _ dc ac) ?_; rw [HSET.out]))
      have hbl := HBL.out
      have hs := HSs.out
      have hDW := HDW.out
      have hAW := HAW.out
      have hTW := HTW.out
      refine wp_region_P (by kernel_rfl) (region_store_vals 44 [.pointer (some ⟨br, 0, none⟩), .pointer (some ⟨br, 0, none⟩), .pointer (some ⟨br, 0, none⟩), .int .u64 s, .agg (ndC n (.slice da n.data.length dc) (.slice aa n.acl.length ac)), .int .u64 (nodeN n), .int .u64 (IntKind.u64.wrap (s - nodeN n)), .pointer (some ⟨br, 0, none⟩), .pointer (some ⟨br, 0, none⟩)] 9 _ rfl rfl rfl rfl rfl (by decide) rfl ?duties ?last)
      case duties =>
            refine ⟨?_, ?_, ?_, ?_, ?_, ?_, ?_, ?_, ?_, trivial⟩
            · refine duty_free rfl fun a w' hE hF hA => ?_
              have x1 := hF.slot 0 _ (by decide) rfl
              exact wp_value (w' := w') (v := .pointer (some ⟨br, 0, none⟩)) (by simp only [execOp, x1]; simp [go_sem]) ⟨_, rfl, rfl, Ext.refl _⟩
            · refine duty_free rfl fun a w' hE hF hA => ?_
              have x1 := hA.val 0 18 rfl rfl ⟨⟨0, .data⟩, by simp, rfl, rfl⟩ rfl
              exact wp_value (w' := w') (v := .pointer (some ⟨br, 0, none⟩)) (by simp only [execOp, x1]; simp [go_sem]) ⟨_, rfl, rfl, Ext.refl _⟩
            · refine duty_free rfl fun a w' hE hF hA => ?_
              have x1 := hA.val 1 19 rfl rfl ⟨⟨1, .data⟩, by simp, rfl, rfl⟩ rfl
              exact wp_value (w' := w') (v := .pointer (some ⟨br, 0, none⟩)) (by simp only [execOp, x1]; simp [go_sem]) ⟨_, rfl, rfl, Ext.refl _⟩
            · refine duty_free rfl fun a w' hE hF hA => ?_
              have x1 := hA.val 2 20 rfl rfl ⟨⟨2, .data⟩, by simp, rfl, rfl⟩ rfl
              exact wp_value (ex_cell rfl _ _ x1 ((hE.cell (World.block_lt_of_cell? _ _ hs)).trans hs) rfl Tryd.underlying49) ⟨_, rfl, rfl, Ext.refl _⟩
            · refine duty_free rfl fun a w' hE hF hA => ?_
              have x1 := hF.slot 7 _ (by decide) rfl
              exact wp_value (ex_load_row rfl _ x1 37 _ (0, 0) _ ((hE.block _ (Array.getElem?_eq_some_iff.1 hbl).1).trans hbl) Tryd.underlying37 rfl sizeNd) ⟨_, rfl, rfl, Ext.refl _⟩
            · refine duty_free rfl fun a w' hE hF hA => ?_
              have x1 := hA.val 4 22 rfl rfl ⟨⟨4, .data⟩, by simp, rfl, rfl⟩ rfl
              refine wp_enter (ex_call rfl (enters_f Tryd.func52 (by kernel_rfl) rfl)) (by simp only [List.map_toArray, List.map_cons, List.map_nil, x1]; exact node_any n da aa dc ac w' hfk (hTW.below hE hTW.size) (hDW.ext hE) (hAW.ext hE)) ?_
              rintro e w4 ⟨rfl, hb⟩
              exact ⟨_, rfl, _, rfl, rfl, hb⟩
            · refine duty_free rfl fun a w' hE hF hA => ?_
              have x1 := hA.val 3 21 rfl rfl ⟨⟨3, .data⟩, by simp, rfl, rfl⟩ rfl
              have x2 := hA.val 5 23 rfl rfl ⟨⟨5, .data⟩, by simp, rfl, rfl⟩ rfl
              exact wp_value (w' := w') (v := .int .u64 (IntKind.u64.wrap (s - nodeN n))) (by simp only [execOp, x1, x2]; simp [go_sem]) ⟨_, rfl, rfl, Ext.refl _⟩
            · refine duty_free rfl fun a w' hE hF hA => ?_
              have x1 := hA.val 0 18 rfl rfl ⟨⟨0, .data⟩, by simp, rfl, rfl⟩ rfl
              exact wp_value (w' := w') (v := .pointer (some ⟨br, 0, none⟩)) (by simp only [execOp, x1]; simp [go_sem]) ⟨_, rfl, rfl, Ext.refl _⟩
            · refine duty_free rfl fun a w' hE hF hA => ?_
              have x1 := hA.val 7 25 rfl rfl ⟨⟨7, .data⟩, by simp, rfl, rfl⟩ rfl
              exact wp_value (w' := w') (v := .pointer (some ⟨br, 0, none⟩)) (by simp only [execOp, x1]; simp [go_sem]) ⟨_, rfl, rfl, Ext.refl _⟩
      case last =>
        intro W8 hE8
        have hR8 : RunAt W8 br s := (hE8.block br (Array.getElem?_eq_some_iff.1 HR2.out).1).trans HR2.out
        have hU8 := (HU2.out.trans (But.of_ext hE8)).trans (But.set br W8 #[.int .u64 (IntKind.u64.wrap (s - nodeN n))])
        have hR9 : RunAt (W8.setRow br #[.int .u64 (IntKind.u64.wrap (s - nodeN n))]) br (IntKind.u64.wrap (s - nodeN n)) := setRow_heap _ _ _ _ _ _ hR8
        have HR9 := Lib.hid hR9
        have HU8 := Lib.hid hU8
        have HR8 := Lib.hid hR8
        clear hbl hs hDW hAW hTW hR9 hU8 hR8 HBL HSs HDW HAW HTW HU2 HR2 HC HSET HNew
        simp only [filled, List.take_succ_cons, List.take_zero, List.zip_cons_cons, List.zip_nil_left, List.foldl_cons, List.foldl_nil, Act.put, List.setIfInBounds_toArray, List.set_cons_succ, List.set_cons_zero]
        refine wp_skipped (w' := W8.setRow br #[.int .u64 (IntKind.u64.wrap (s - nodeN n))]) (by refine run_store_one 49 (.tmp 26) (.tmp 24) ?_ br (.int .u64 (IntKind.u64.wrap (s - nodeN n))) ?_ ?_ ?_ 103 (.int .u64 s) HR8.out infoU64 <;> rfl) ?_
        simp only [Exit.inBlock, Exit.then, Act.put]
        rename_i hK
        refine hK _ _ ?_
        go_wp2
        go_roundw
        case rel => exact ⟨k + 1, by omega, by go_num, by rw [HS.out]; exact HR9.out, HU8.out⟩
        case measure => simp [intOf]; omega
    · obtain rfl : k = A.length := by omega
      rw [List.take_length] at hR
      go_wp2
      go_loopw [30] (fun i wr => ∃ k : Nat, k ≤ B.length ∧ i = .int .i64 k ∧ RunAt wr br (addN (subN v A) (B.take k)) ∧ But br w wr) (fun i _ => B.length - (intOf i).toNat)
      case atStart => exact ⟨0, Nat.zero_le _, rfl, by simpa [addN] using hR, hU⟩
      case round =>
        obtain ⟨k, hk, rfl, hR, hU⟩ := hrel
        by_cases hlt : k < B.length
        · have hLk : B[k]? = some B[k] := List.getElem?_eq_getElem hlt
          have hfk := HFB.out B[k] (List.getElem_mem hlt)
          have HS := Lib.hid (addN_take (subN v A) B k hlt)
          obtain ⟨b, off, vv, rfl, hb, hv, hc⟩ := HB.out k B[k] hLk
          generalize B[k] = n at *
          obtain ⟨da, dc, aa, ac, rfl, hD, hAc⟩ := hv
          have hBl : Below B0 w wr := hU.below hB0 hB1
          have hcw : ∀ j u, (ndC n (.slice da n.data.length dc) (.slice aa n.acl.length ac))[j]? = some u → wr.cell? ((⟨b, off + k * 17, none⟩ : Addr).add j) = some u := fun j u hj => by
            rw [addr_add, hBl.cell (p := ⟨b, off + k * 17 + j, none⟩) hb]
            exact hc j u hj
          have hwz : B0 ≤ wr.heap.size := Nat.le_trans hB1 hU.size
          obtain ⟨W2, hW2⟩ : ∃ W2, W2 = wr.alloc (.cells (ndC n (.slice da n.data.length dc) (.slice aa n.acl.length ac)) 37) := ⟨_, rfl⟩
          have he2 : Ext wr W2 := by rw [hW2]; exact Ext.alloc _ _
          have hDW := ((hD.below hBl).mono hwz).ext he2
          have hAW := ((hAc.below hBl).mono hwz).ext he2
          have hTW : Tabs W2 := HT.out.below (hBl.trans (he2.mono hwz)) h2
          have hU2 : But br w W2 := hU.trans (But.of_ext he2)
          have hR2 : RunAt W2 br (addN (subN v A) (B.take k)) := (he2.block br (Array.getElem?_eq_some_iff.1 hR).1).trans hR
          have hbl : W2.heap[wr.heap.size]? = some (.cells (ndC n (.slice da n.data.length dc) (.slice aa n.acl.length ac)) 37 (0, 0)) := by rw [hW2]; exact heap_alloc_new wr _
          generalize addN (subN v A) (B.take k) = s at *
          have hs : W2.cell? ⟨br, 0, none⟩ = some (.int .u64 s) := cell_of_row _ _ _ _ _ _ hR2
          have HSET := Lib.hid ((setRow_alloc wr zeroNd (ndC n (.slice da n.data.length dc) (.slice aa n.acl.length ac)) 37).trans hW2.symm)
          have HNew := Lib.hid (heap_alloc_new wr (.cells zeroNd 37))
          have HC := Lib.hid hcw
          have HBL := Lib.hid hbl
          have HSs := Lib.hid hs
          have HDW := Lib.hid hDW
          have HAW := Lib.hid hAW
          have HTW := Lib.hid hTW
          have HU2 := Lib.hid hU2
          have HR2 := Lib.hid hR2
          unfold ndC at HSET HC
          unfold zeroNd at HSET HNew
          clear hcw hbl hs hDW hAW hTW hU2 hR2 hW2 he2 hR hU hBl hc hD hAc hLk
          go_wp2_with (first | (refine wpList_load_at rfl 37 (.tmp 32) rfl _ rfl _ _ HC.out Tryd.underlying37 rfl sizeNd ?_) | (refine wpList_store_row rfl 37 (.tmp 9) (.tmp 33) rfl wr.heap.size _ rfl rfl 37 _ HNew.out sizeNd rfl (cells_node n da aa _ _ dc ac) ?_; rw [HSET.out]))
          have hbl := HBL.out
          have hs := HSs.out
          have hDW := HDW.out
          have hAW := HAW.out
          have hTW := HTW.out
          refine wp_region_P (by kernel_rfl) (region_store_vals 44 [.pointer (some ⟨br, 0, none⟩), .pointer (some ⟨br, 0, none⟩), .pointer (some ⟨br, 0, none⟩), .int .u64 s, .agg (ndC n (.slice da n.data.length dc) (.slice aa n.acl.length ac)), .int .u64 (nodeN n), .int .u64 (IntKind.u64.wrap (s + nodeN n)), .pointer (some ⟨br, 0, none⟩), .pointer (some ⟨br, 0, none⟩)] 9 _ rfl rfl rfl rfl rfl (by decide) rfl ?duties ?last)
          case duties =>
                refine ⟨?_, ?_, ?_, ?_, ?_, ?_, ?_, ?_, ?_, trivial⟩
                · refine duty_free rfl fun a w' hE hF hA => ?_
                  have x1 := hF.slot 0 _ (by decide) rfl
                  exact wp_value (w' := w') (v := .pointer (some ⟨br, 0, none⟩)) (by simp only [execOp, x1]; simp [go_sem]) ⟨_, rfl, rfl, Ext.refl _⟩
                · refine duty_free rfl fun a w' hE hF hA => ?_
                  have x1 := hA.val 0 34 rfl rfl ⟨⟨0, .data⟩, by simp, rfl, rfl⟩ rfl
                  exact wp_value (w' := w') (v := .pointer (some ⟨br, 0, none⟩)) (by simp only [execOp, x1]; simp [go_sem]) ⟨_, rfl, rfl, Ext.refl _⟩
                · refine duty_free rfl fun a w' hE hF hA => ?_
                  have x1 := hA.val 1 35 rfl rfl ⟨⟨1, .data⟩, by simp, rfl, rfl⟩ rfl
                  exact wp_value (w' := w') (v := .pointer (some ⟨br, 0, none⟩)) (by simp only [execOp, x1]; simp [go_sem]) ⟨_, rfl, rfl, Ext.refl _⟩
                · refine duty_free rfl fun a w' hE hF hA => ?_
                  have x1 := hA.val 2 36 rfl rfl ⟨⟨2, .data⟩, by simp, rfl, rfl⟩ rfl
                  exact wp_value (ex_cell rfl _ _ x1 ((hE.cell (World.block_lt_of_cell? _ _ hs)).trans hs) rfl Tryd.underlying49) ⟨_, rfl, rfl, Ext.refl _⟩
                · refine duty_free rfl fun a w' hE hF hA => ?_
                  have x1 := hF.slot 9 _ (by decide) rfl
                  exact wp_value (ex_load_row rfl _ x1 37 _ (0, 0) _ ((hE.block _ (Array.getElem?_eq_some_iff.1 hbl).1).trans hbl) Tryd.underlying37 rfl sizeNd) ⟨_, rfl, rfl, Ext.refl _⟩
                · refine duty_free rfl fun a w' hE hF hA => ?_
                  have x1 := hA.val 4 38 rfl rfl ⟨⟨4, .data⟩, by simp, rfl, rfl⟩ rfl
                  refine wp_enter (ex_call rfl (enters_f Tryd.func52 (by kernel_rfl) rfl)) (by simp only [List.map_toArray, List.map_cons, List.map_nil, x1]; exact node_any n da aa dc ac w' hfk (hTW.below hE hTW.size) (hDW.ext hE) (hAW.ext hE)) ?_
                  rintro e w4 ⟨rfl, hb⟩
                  exact ⟨_, rfl, _, rfl, rfl, hb⟩
                · refine duty_free rfl fun a w' hE hF hA => ?_
                  have x1 := hA.val 3 37 rfl rfl ⟨⟨3, .data⟩, by simp, rfl, rfl⟩ rfl
                  have x2 := hA.val 5 39 rfl rfl ⟨⟨5, .data⟩, by simp, rfl, rfl⟩ rfl
                  exact wp_value (w' := w') (v := .int .u64 (IntKind.u64.wrap (s + nodeN n))) (by simp only [execOp, x1, x2]; simp [go_sem]) ⟨_, rfl, rfl, Ext.refl _⟩
                · refine duty_free rfl fun a w' hE hF hA => ?_
                  have x1 := hA.val 0 34 rfl rfl ⟨⟨0, .data⟩, by simp, rfl, rfl⟩ rfl
                  exact wp_value (w' := w') (v := .pointer (some ⟨br, 0, none⟩)) (by simp only [execOp, x1]; simp [go_sem]) ⟨_, rfl, rfl, Ext.refl _⟩
                · refine duty_free rfl fun a w' hE hF hA => ?_
                  have x1 := hA.val 7 41 rfl rfl ⟨⟨7, .data⟩, by simp, rfl, rfl⟩ rfl
                  exact wp_value (w' := w') (v := .pointer (some ⟨br, 0, none⟩)) (by simp only [execOp, x1]; simp [go_sem]) ⟨_, rfl, rfl, Ext.refl _⟩
          case last =>
            intro W8 hE8
            have hR8 : RunAt W8 br s := (hE8.block br (Array.getElem?_eq_some_iff.1 HR2.out).1).trans HR2.out
            have hU8 := (HU2.out.trans (But.of_ext hE8)).trans (But.set br W8 #[.int .u64 (IntKind.u64.wrap (s + nodeN n))])
            have hR9 : RunAt (W8.setRow br #[.int .u64 (IntKind.u64.wrap (s + nodeN n))]) br (IntKind.u64.wrap (s + nodeN n)) := setRow_heap _ _ _ _ _ _ hR8
            have HR9 := Lib.hid hR9
            have HU8 := Lib.hid hU8
            have HR8 := Lib.hid hR8
            clear hbl hs hDW hAW hTW hR9 hU8 hR8 HBL HSs HDW HAW HTW HU2 HR2 HC HSET HNew
            simp only [filled, List.take_succ_cons, List.take_zero, List.zip_cons_cons, List.zip_nil_left, List.foldl_cons, List.foldl_nil, Act.put, List.setIfInBounds_toArray, List.set_cons_succ, List.set_cons_zero]
            refine wp_skipped (w' := W8.setRow br #[.int .u64 (IntKind.u64.wrap (s + nodeN n))]) (by refine run_store_one 49 (.tmp 42) (.tmp 40) ?_ br (.int .u64 (IntKind.u64.wrap (s + nodeN n))) ?_ ?_ ?_ 103 (.int .u64 s) HR8.out infoU64 <;> rfl) ?_
            simp only [Exit.inBlock, Exit.then, Act.put]
            rename_i hK
            refine hK _ _ ?_
            go_wp2
            go_roundw
            case rel => exact ⟨k + 1, by omega, by go_num, by rw [HS.out]; exact HR9.out, HU8.out⟩
            case measure => simp [intOf]; omega
        · obtain rfl : k = B.length := by omega
          rw [List.take_length] at hR
          have hfin : TurnOut br (addN (subN v A) B) w (.returned (.tuple #[])) wr := ⟨rfl, hR, hU⟩
          have HFIN := Lib.hid hfin
          clear hfin hR hU
          go_wp2
          exact ⟨rfl, _, results_none rfl _ _ _, HFIN.out⟩


end Go.Proofs.YtfgjbcejpjcpeaaDoor
