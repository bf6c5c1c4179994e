/- The walk of the reference's record of a node. The walks of the reference's sum of bytes and of its record of a node. The walk of a node's number, as the reference has it. Laws of sums of nodes' numbers; a number counted round. The walks of arborlaw09's list and sum. The document's tree, plainly: a list of nodes in order; where a path stands in it. The walk of arborref03.Order. The document's tree in memory; where a path stands in it (arborref07's Find). The walk of a node's copy, as the reference has it. -/
import Derived.Test.YtamolbegmkngdaaGreatDoorJDigestRuns10
import Derived.Test.YtamolbegmkngdaaGreatDoorJDigestRuns8
import Derived.Test.YtamolbegmkngdaaGreatDoorJDigestRuns9
import Derived.BigQuiet
import Derived.Test.YtamolbegmkngdaaGreatDoorJDigestRuns2
import Derived.Test.YtamolbegmkngdaaGreatDoorJDigestRuns3
namespace Go.Proofs.YtamolbegmkngdaaGreatDoor
open Go.RowKit
set_option maxHeartbeats 2000000
set_option maxRecDepth 100000

def AwR (v : Value) (w : World) (g : Nat) (cs : Array Value) : Prop := g < w.heap.size ∧ v.ownBlock ≠ some g ∧ Box w g cs
theorem AwR.keep {v v' : Value} {w w' : World} {g : Nat} {cs : Array Value} (h : AwR v w g cs) (hk : RowKeep v v' w w') : AwR v' w' g cs :=
  ⟨Nat.lt_of_lt_of_le h.1 hk.1, (hk.2 g h.1 h.2.1).2, fun j => (World.cell?_of_block (hk.2 g h.1 h.2.1).1).trans (h.2.2 j)⟩
theorem AwR.new {B : Nat} {v : Value} {w : World} {l : List UInt8} (hv : OwnB B w v l) (cs : Array Value) (e : TypeId) : AwR v (w.alloc (.cells cs e)) w.heap.size cs :=
  ⟨by simp, fun h => by have := (hv.lt _ h).1; omega, Box.alloc w cs e⟩

theorem rnput_any (B : Nat) (v : Value) (l : List UInt8) (n : Nd) (da aa : Option Addr) (dc ac : Nat) (w : World) (hv : OwnB B w v l) (hB : B ≤ w.heap.size) (hD : Cells B w da (n.data.map u8v)) (hA : Cells B w aa (acCs n.acl)) (hr : rightN n = 0) (hlen : l.length ≤ 70368700000000) :
    Calls Tryz.prog 177 #[v, .agg (ndC n (.slice da n.data.length dc) (.slice aa n.acl.length ac))] w (PutR B v (l ++ encN n) w) := by
  have hrs := right_sizes n hr
  have hs1 := hrs.1
  have hs2 := hrs.2.1
  have hs3 := hrs.2.2.1
  have HS4 := Lib.hid hrs.2.2.2
  clear hrs hr
  have hbx := AwR.new hv (ndC n (.slice da n.data.length dc) (.slice aa n.acl.length ac)) 47
  have hv1 := hv.alloc (.cells (ndC n (.slice da n.data.length dc) (.slice aa n.acl.length ac)) 47)
  have hb1 : Below B w (w.alloc (.cells (ndC n (.slice da n.data.length dc) (.slice aa n.acl.length ac)) 47)) := (Below.refl _ _).alloc hB _
  have hk1 := RowKeep.alloc v w (.cells (ndC n (.slice da n.data.length dc) (.slice aa n.acl.length ac)) 47)
  unfold ndC at hbx hv1 hb1 hk1 ⊢
  go_enter Tryz.func177, Tryz.ntmps177
  have hq := hbx.2.2
  unfold Box at hq
  go_wp2_with fail
  refine (rtext_any B v l n.path _ hv1 (by simp; omega) (by omega) (by omega)).mono ?_
  rintro e w2 ⟨v2, rfl, k1, k2, k3⟩
  have hx2 := hbx.keep k3
  have hb2 := hb1.trans k2
  have hK2 := hk1.trans k3
  have hz2 := hb2.size
  clear hq hbx hb1 hk1 hv1 k2 k3
  have hq := hx2.2.2
  unfold Box at hq
  have hcv := fun c => conv_string c (hD.below hb2)
  go_wp2_with fail
  refine (rtext_any B v2 _ ⟨n.data.toArray⟩ w2 k1 (by omega) (by show n.data.toArray.size < _; simp; omega) (by show _ + n.data.toArray.size + 4 ≤ _; simp [txt_length]; omega)).mono ?_
  rintro e w3 ⟨v3, rfl, m1, m2, m3⟩
  rw [txt_list n.data] at m1
  have hx3 := hx2.keep m3
  have hb3 := hb2.trans m2
  have hK3 := hK2.trans m3
  have hz3 := hb3.size
  clear hq hcv hx2 hb2 hK2 k1 m2 m3
  have hq := hx3.2.2
  unfold Box at hq
  go_wp2_with fail
  refine (racl_any B v3 _ aa ac n.acl w3 m1 (by omega) (hA.below hb3) hs3 HS4.out (by simp [txt_length, be_length]; omega)).mono ?_
  rintro e w4 ⟨v4, rfl, n1, n2, n3⟩
  have hx4 := hx3.keep n3
  have hb4 := hb3.trans n2
  have hK4 := hK3.trans n3
  have hz4 := hb4.size
  clear hq hx3 hb3 hK3 m1 n2 n3
  have hq := hx4.2.2
  unfold Box at hq
  obtain ⟨l4, hl4, he4, n1⟩ : Exists fun l4 => l4.length ≤ 70368720000000 ∧ Hid (l4 = l ++ (txt n.path ++ (be n.data.length 4 ++ n.data) ++ (be n.acl.length 4 ++ acBs n.acl))) ∧ OwnB B w4 v4 l4 := by
    refine ⟨_, ?_, rfl, by simpa [List.append_assoc] using n1⟩
    have := acBs_le n.acl HS4.out n.acl.length (Nat.le_refl _)
    rw [List.take_length] at this
    simp [txt_length, be_length]; omega
  have hv5 := n1.alloc (.cells (longsN n |>.map (Value.int .i64)).toArray 255)
  have hG1 := AwR.new n1 (longsN n |>.map (Value.int .i64)).toArray 255
  have hkA := RowKeep.alloc v4 w4 (.cells (longsN n |>.map (Value.int .i64)).toArray 255)
  have hx5 := hx4.keep hkA
  have hb5 : Below B w (w4.alloc (.cells (longsN n |>.map (Value.int .i64)).toArray 255)) := hb4.alloc (by omega) _
  have hK5 := hK4.trans hkA
  have hl8 : (longsN n).map (Value.int .i64) = [.int .i64 n.owner, .int .i64 n.czxid, .int .i64 n.mzxid, .int .i64 n.pzxid, .int .i64 n.azxid, .int .i64 n.qzxid, .int .i64 n.ctime, .int .i64 n.mtime] := rfl
  rw [hl8] at hv5 hG1 hx5 hb5 hK5
  clear hkA hx4 hb4 hK4 n1
  have HG : Hid (∀ k, (h : k < 8) → ∃ x : Int, (longsN n)[k]? = some x ∧ ([.int .i64 n.owner, .int .i64 n.czxid, .int .i64 n.mzxid, .int .i64 n.pzxid, .int .i64 n.azxid, .int .i64 n.qzxid, .int .i64 n.ctime, .int .i64 n.mtime] : List Value).toArray[k]? = some (.int .i64 x)) := by
    intro k hk
    rcases (by omega : k = 0 ∨ k = 1 ∨ k = 2 ∨ k = 3 ∨ k = 4 ∨ k = 5 ∨ k = 6 ∨ k = 7) with rfl | rfl | rfl | rfl | rfl | rfl | rfl | rfl <;> exact ⟨_, rfl, rfl⟩
  clear hl8
  go_wp2
  obtain ⟨w5, hw5⟩ : ∃ w5, w5 = w4.alloc (.cells #[.int .i64 n.owner, .int .i64 n.czxid, .int .i64 n.mzxid, .int .i64 n.pzxid, .int .i64 n.azxid, .int .i64 n.qzxid, .int .i64 n.ctime, .int .i64 n.mtime] 255) := ⟨_, rfl⟩
  generalize hw5' : w4.alloc (.cells #[.int .i64 n.owner, .int .i64 n.czxid, .int .i64 n.mzxid, .int .i64 n.pzxid, .int .i64 n.azxid, .int .i64 n.qzxid, .int .i64 n.ctime, .int .i64 n.mtime] 255) = w5 at hv5 hG1 hx5 hb5 hK5 ⊢
  generalize w4.heap.size = g1 at hG1 ⊢
  clear hw5 hw5' hq
  go_loopw [0, 6] (fun vb i wr => ∃ k : Nat, k ≤ 8 ∧ i = .int .i64 k ∧ OwnB B wr vb (l4 ++ longsB ((longsN n).take k)) ∧ Below B w wr ∧ RowKeep v vb w wr ∧ RowKeep v4 vb w5 wr) (fun _ i _ => 8 - (intOf i).toNat)
  case atStart => exact ⟨0, by omega, rfl, by simpa [longsB] using hv5, hb5, hK5, RowKeep.refl _ _⟩
  case round =>
    obtain ⟨k, hk, rfl, q1, q2, q3, q4⟩ := hrel
    have hszr := q2.size
    by_cases hlt : k < 8
    · obtain ⟨x, x1, x2⟩ := HG.out k hlt
      have c1 : wr.cell? ⟨g1, k, none⟩ = some (.int .i64 x) := ((hG1.keep q4).2.2 k).trans x2
      have hwr := wrap_u64 x
      have htk : Hid (longsB ((longsN n).take (k + 1)) = longsB ((longsN n).take k) ++ be (IntKind.u64.wrap x) 8) := by
        have hl : k < (longsN n).length := hlt
        unfold Hid
        rw [longsB_take _ k hl]
        rw [List.getElem?_eq_getElem hl] at x1
        rw [Option.some.inj x1]
      clear x1 x2
      go_wp2_with fail
      refine (rput_any B _ _ (IntKind.u64.wrap x) 8 _ wr rfl hwr.1 hwr.2 (by omega) q1 (by omega) (by simp [longsB_length]; omega)).mono ?_
      rintro e w' ⟨v', rfl, r1, r2, r3⟩
      rw [List.append_assoc, ← htk.out] at r1
      have hB' := q2.trans r2
      have hK' := q3.trans r3
      have hK'' := q4.trans r3
      clear c1 q1 q2 q3 q4 r2 r3 htk hwr
      go_wp2
      go_roundw
      case rel => exact ⟨k + 1, by omega, by go_num, r1, hB', hK', hK''⟩
      case measure => simp [intOf]; omega
    · obtain rfl : k = 8 := by omega
      have q1 : OwnB B wr _ (l4 ++ longsB (longsN n)) := q1
      have hx6 := hx5.keep q4
      have hq := hx6.2.2
      unfold Box at hq
      obtain ⟨wo, rfl⟩ : ∃ wo : World, wo = wr := ⟨_, rfl⟩
      rw [show ((8 : Nat) : Int) = 8 from rfl]
      clear hG1 HG q4 hv5 hb5 hK5 hx5
      obtain ⟨vo, rfl⟩ : ∃ vo : Value, vo = u0 := ⟨_, rfl⟩
      have hv5 := q1.alloc (.cells #[.int .i32 n.version, .int .i32 n.creates, .int .i32 n.aversion] 257)
      have hG1 := AwR.new q1 #[.int .i32 n.version, .int .i32 n.creates, .int .i32 n.aversion] 257
      have hkA := RowKeep.alloc vo wo (.cells #[.int .i32 n.version, .int .i32 n.creates, .int .i32 n.aversion] 257)
      have hx7 := hx6.keep hkA
      have hb7 : Below B w (wo.alloc (.cells #[.int .i32 n.version, .int .i32 n.creates, .int .i32 n.aversion] 257)) := q2.alloc (by omega) _
      have hK7 := q3.trans hkA
      have HG : Hid (∀ k, (h : k < 3) → ∃ x : Int, (intsN n)[k]? = some x ∧ (#[.int .i32 n.version, .int .i32 n.creates, .int .i32 n.aversion] : Array Value)[k]? = some (.int .i32 x)) := by
        intro k hk
        rcases (by omega : k = 0 ∨ k = 1 ∨ k = 2) with rfl | rfl | rfl <;> exact ⟨_, rfl, rfl⟩
      clear hkA hx6 q1 q2 q3
      go_wp2
      generalize wo.alloc (.cells #[.int .i32 n.version, .int .i32 n.creates, .int .i32 n.aversion] 257) = w7 at hv5 hG1 hx7 hb7 hK7 ⊢
      generalize wo.heap.size = g2 at hG1 hszr ⊢
      clear hq
      go_loopw [0, 8] (fun vb i wr => ∃ k : Nat, k ≤ 3 ∧ i = .int .i64 k ∧ OwnB B wr vb (l4 ++ longsB (longsN n) ++ intsB ((intsN n).take k)) ∧ Below B w wr ∧ RowKeep v vb w wr ∧ RowKeep vo vb w7 wr) (fun _ i _ => 3 - (intOf i).toNat)
      case atStart => exact ⟨0, by omega, rfl, by simpa [intsB] using hv5, hb7, hK7, RowKeep.refl _ _⟩
      case round =>
        obtain ⟨k, hk, rfl, q1, q2, q3, q4⟩ := hrel
        have hszr := q2.size
        have hll : (longsB (longsN n)).length = 64 := by rw [longsB_length]; rfl
        by_cases hlt : k < 3
        · obtain ⟨x, x1, x2⟩ := HG.out k hlt
          have c1 : wr.cell? ⟨g2, k, none⟩ = some (.int .i32 x) := ((hG1.keep q4).2.2 k).trans x2
          have htk : Hid (intsB ((intsN n).take (k + 1)) = intsB ((intsN n).take k) ++ be (x % 4294967296) 4) := by
            have hl : k < (intsN n).length := hlt
            unfold Hid
            rw [intsB_take _ k hl]
            rw [List.getElem?_eq_getElem hl] at x1
            rw [Option.some.inj x1]
          have HLL := Lib.hid hll
          clear x1 x2 hll
          go_wp2_with fail
          refine (rput_any B _ _ (x % 4294967296) 4 _ wr rfl (by omega) (by omega) (by omega) q1 (by omega) (by have := HLL.out; simp [intsB_length]; omega)).mono ?_
          rintro e w' ⟨v', rfl, r1, r2, r3⟩
          rw [List.append_assoc, ← htk.out] at r1
          have hB' := q2.trans r2
          have hK' := q3.trans r3
          have hK'' := q4.trans r3
          clear c1 q1 q2 q3 q4 r2 r3 htk
          go_wp2
          go_roundw
          case rel => exact ⟨k + 1, by omega, by go_num, r1, hB', hK', hK''⟩
          case measure => simp [intOf]; omega
        · obtain rfl : k = 3 := by omega
          have q1 : OwnB B wr u0 (l4 ++ longsB (longsN n) ++ intsB (intsN n)) := q1
          have hl2 : (intsB (intsN n)).length = 12 := by rw [intsB_length]; rfl
          have HL1 := Lib.hid hll
          have HL2 := Lib.hid hl2
          have hx8 := hx7.keep q4
          have hq := hx8.2.2
          unfold Box at hq
          clear hG1 HG q4 hv5 hb7 hK7 hx7 hll hl2
          cases hh : n.has
          · skip
            rw [hh] at hq
            have HE : Hid (encN n = txt n.path ++ (be n.data.length 4 ++ n.data) ++ (be n.acl.length 4 ++ acBs n.acl) ++ longsB (longsN n) ++ intsB (intsN n) ++ be 0 1 ++ be (IntKind.u64.wrap n.count) 8 ++ be (IntKind.u64.wrap n.bytes) 8) := by
              unfold Hid encN; rw [hh]; rfl
            have hwc := wrap_u64 n.count
            have hwb := wrap_u64 n.bytes
            have hq14 : ∀ w', RowKeep u0 u0 wr w' → True := fun _ _ => trivial
            clear hh hq14
            go_wp2_with fail
            refine (rput_any B _ _ 0 1 _ wr rfl (by omega) (by omega) (by omega) q1 (by omega) (by have := HL1.out; have := HL2.out; simp; omega)).mono ?_
            rintro e w9 ⟨v9, rfl, r1, r2, r3⟩
            have hx9 := hx8.keep r3
            have hb9 := q2.trans r2
            have hK9 := q3.trans r3
            have hz9 := hb9.size
            clear hq q1 q2 q3 r2 r3
            have hq := hx9.2.2
            unfold Box at hq
            go_wp2_with fail
            refine (rput_any B _ _ (IntKind.u64.wrap n.count) 8 _ w9 rfl hwc.1 hwc.2 (by omega) r1 (by omega) (by have := HL1.out; have := HL2.out; simp [be_length]; omega)).mono ?_
            rintro e w10 ⟨v10, rfl, s1, s2, s3⟩
            have hx10 := hx9.keep s3
            have hb10 := hb9.trans s2
            have hK10 := hK9.trans s3
            have hz10 := hb10.size
            clear hq r1 hb9 hK9 s2 s3
            have hq := hx10.2.2
            unfold Box at hq
            go_wp2_with fail
            refine (rput_any B _ _ (IntKind.u64.wrap n.bytes) 8 _ w10 rfl hwb.1 hwb.2 (by omega) s1 (by omega) (by have := HL1.out; have := HL2.out; simp [be_length]; omega)).mono ?_
            rintro e w11 ⟨v11, rfl, t1, t2, t3⟩
            have hb11 := hb10.trans t2
            have hK11 := hK10.trans t3
            have ho : OwnB B w11 v11 (l ++ encN n) := by rw [HE.out]; rw [he4.out] at t1; simpa [List.append_assoc] using t1
            clear hq s1 hb10 hK10 t1 t2 t3
            go_wp2
            go_ret
            exact ⟨v11, rfl, ho, hb11, hK11⟩
          · skip
            rw [hh] at hq
            have HE : Hid (encN n = txt n.path ++ (be n.data.length 4 ++ n.data) ++ (be n.acl.length 4 ++ acBs n.acl) ++ longsB (longsN n) ++ intsB (intsN n) ++ be 1 1 ++ be (IntKind.u64.wrap n.count) 8 ++ be (IntKind.u64.wrap n.bytes) 8) := by
              unfold Hid encN; rw [hh]; rfl
            have hwc := wrap_u64 n.count
            have hwb := wrap_u64 n.bytes
            have hq14 : ∀ w', RowKeep u0 u0 wr w' → True := fun _ _ => trivial
            clear hh hq14
            go_wp2_with fail
            refine (rput_any B _ _ 1 1 _ wr rfl (by omega) (by omega) (by omega) q1 (by omega) (by have := HL1.out; have := HL2.out; simp; omega)).mono ?_
            rintro e w9 ⟨v9, rfl, r1, r2, r3⟩
            have hx9 := hx8.keep r3
            have hb9 := q2.trans r2
            have hK9 := q3.trans r3
            have hz9 := hb9.size
            clear hq q1 q2 q3 r2 r3
            have hq := hx9.2.2
            unfold Box at hq
            go_wp2_with fail
            refine (rput_any B _ _ (IntKind.u64.wrap n.count) 8 _ w9 rfl hwc.1 hwc.2 (by omega) r1 (by omega) (by have := HL1.out; have := HL2.out; simp [be_length]; omega)).mono ?_
            rintro e w10 ⟨v10, rfl, s1, s2, s3⟩
            have hx10 := hx9.keep s3
            have hb10 := hb9.trans s2
            have hK10 := hK9.trans s3
            have hz10 := hb10.size
            clear hq r1 hb9 hK9 s2 s3
            have hq := hx10.2.2
            unfold Box at hq
            go_wp2_with fail
            refine (rput_any B _ _ (IntKind.u64.wrap n.bytes) 8 _ w10 rfl hwb.1 hwb.2 (by omega) s1 (by omega) (by have := HL1.out; have := HL2.out; simp [be_length]; omega)).mono ?_
            rintro e w11 ⟨v11, rfl, t1, t2, t3⟩
            have hb11 := hb10.trans t2
            have hK11 := hK10.trans t3
            have ho : OwnB B w11 v11 (l ++ encN n) := by rw [HE.out]; rw [he4.out] at t1; simpa [List.append_assoc] using t1
            clear hq s1 hb10 hK10 t1 t2 t3
            go_wp2
            go_ret
            exact ⟨v11, rfl, ho, hb11, hK11⟩
end Go.Proofs.YtamolbegmkngdaaGreatDoor
namespace Go.Proofs.YtamolbegmkngdaaGreatDoor
open Go.RowKit
set_option maxHeartbeats 2000000
set_option maxRecDepth 100000

theorem rsum_any (a : Option Addr) (c : Nat) (l : List UInt8) (w : World) (hc : Cells w.heap.size w a (l.map u8v)) (hl : l.length ≤ 9223372036854775800) :
    Calls Tryz.prog 140 #[.slice a l.length c] w fun e w' => e = .returned (.int .u64 (fnv l)) ∧ w = w' := by
  go_enter Tryz.func140, Tryz.ntmps140
  go_wp2
  go_loop [3, 4] (fun h i => ∃ k : Nat, k ≤ l.length ∧ i = .int .i64 k ∧ h = .int .u64 (fnv (l.take k))) (fun _ i => l.length - (intOf i).toNat)
  case atStart => exact ⟨0, Nat.zero_le _, rfl, rfl⟩
  case round =>
    obtain ⟨k, hk, rfl, rfl⟩ := hrel
    by_cases hlt : k < l.length
    · obtain ⟨b, off, rfl, hb, c0⟩ := byteCell hc k hlt
      have H := Lib.hid (fnv_take l k hlt)
      generalize fnv (l.take k) = h0 at *
      go_wp2
      go_round
      case rel => exact ⟨k + 1, by omega, by go_num, by rw [H.out]; rfl⟩
      case measure => simp [intOf]; omega
    · obtain rfl : k = l.length := by omega
      rw [List.take_length]
      clear hc
      go_wp2
      go_ret
      exact ⟨rfl, rfl⟩

theorem rencode_any (n : Nd) (da aa : Option Addr) (dc ac : Nat) (w : World) (hf : Fit n) (hT : Tabs w) (hD : Cells w.heap.size w da (n.data.map u8v)) (hA : Cells w.heap.size w aa (acCs n.acl)) :
    Calls Tryz.prog 139 #[.agg (ndC n (.slice da n.data.length dc) (.slice aa n.acl.length ac))] w (EncOut n w) := by
  have hbox := Box.alloc w (ndC n (.slice da n.data.length dc) (.slice aa n.acl.length ac)) 47
  have hb0 : Below w.heap.size w (w.alloc (.cells (ndC n (.slice da n.data.length dc) (.slice aa n.acl.length ac)) 47)) := (Below.refl _ _).alloc (Nat.le_refl _) _
  have hD0 := hD.below hb0
  have hA0 := hA.below hb0
  have hT0 := hT.below hb0 hT.size
  have CR := rright_any n da aa dc ac (w.alloc (.cells (ndC n (.slice da n.data.length dc) (.slice aa n.acl.length ac)) 47)) hf hT0 (hA0.mono (by simp))
  have hh := heap_alloc_new w (.cells (ndC n (.slice da n.data.length dc) (.slice aa n.acl.length ac)) 47)
  have hput := fun (w1 : World) (hD : Cells w1.heap.size w1 da (n.data.map u8v)) (hA : Cells w1.heap.size w1 aa (acCs n.acl)) (hr : rightN n = 0) => rnput_any w1.heap.size (.slice none 0 0) [] n da aa dc ac w1 (World.ownsRow_nil _ _ _ _) (Nat.le_refl _) hD hA hr (by simp)
  unfold ndC at hbox hb0 CR hh hput ⊢
  have HH := Lib.hid hh
  have HP := Lib.hid hput
  clear hh hD hA hT0 hput
  by_cases hr : rightN n = 0
  · rw [hr] at CR
    have HR := Lib.hid hr
    clear hr
    go_enter Tryz.func139, Tryz.ntmps139
    go_wp2_with (refine wpList_load_row rfl 47 (.tmp 1) rfl w.heap.size rfl 47 _ (0, 0) _ HH.out Tryz.underlying47 rfl sizeNd ?_)
    refine CR.mono ?_
    rintro e w1 ⟨rfl, hb1⟩
    have hh1 := Lib.hid ((hb1.block w.heap.size (by simp)).trans HH.out)
    have hb : Below w.heap.size w w1 := hb0.trans (hb1.mono (by simp))
    have hD1 := (hD0.below (hb1.mono (by simp))).mono hb.size
    have hA1 := (hA0.below (hb1.mono (by simp))).mono hb.size
    clear CR hbox hb0 hb1 hD0 hA0 HH
    go_wp2_with (refine wpList_load_row rfl 47 (.tmp 1) rfl w.heap.size rfl 47 _ (0, 0) _ hh1.out Tryz.underlying47 rfl sizeNd ?_)
    refine (HP.out w1 hD1 hA1 HR.out).mono ?_
    rintro e w2 ⟨v2, rfl, k1, k2, k3⟩
    obtain ⟨a, c, rfl, hcs⟩ := ownsRow_cells k1
    have hbb := hb.trans (k2.mono hb.size)
    clear HP hb hD1 hA1 k1 k2 k3 hh1
    go_wp2
    go_ret2
    exact ⟨hbb, .inr ⟨HR.out, a, c, rfl, hcs⟩⟩
  · have hne : (rightN n != 0) = true := by simpa using hr
    have HR := Lib.hid hr
    clear hr
    go_enter Tryz.func139, Tryz.ntmps139
    go_wp2_with (refine wpList_load_row rfl 47 (.tmp 1) rfl w.heap.size rfl 47 _ (0, 0) _ HH.out Tryz.underlying47 rfl sizeNd ?_)
    refine CR.mono ?_
    rintro e w1 ⟨rfl, hb1⟩
    have hb : Below w.heap.size w w1 := hb0.trans (hb1.mono (by simp))
    clear CR hb0 hb1 hbox hD0 hA0 HH HP
    go_wp2
    go_ret2
    exact ⟨hb, .inl ⟨HR.out, rfl⟩⟩
end Go.Proofs.YtamolbegmkngdaaGreatDoor
namespace Go.Proofs.YtamolbegmkngdaaGreatDoor
open Go.RowKit
set_option maxHeartbeats 2000000
set_option maxRecDepth 100000

theorem rnode_any (n : Nd) (da aa : Option Addr) (dc ac : Nat) (w : World) (hf : Fit n) (hT : Tabs w) (hD : Cells w.heap.size w da (n.data.map u8v)) (hA : Cells w.heap.size w aa (acCs n.acl)) :
    Calls Tryz.prog 78 #[.agg (ndC n (.slice da n.data.length dc) (.slice aa n.acl.length ac))] w (NodeOut n w) := by
  have hb0 : Below w.heap.size w (w.alloc (.cells (ndC n (.slice da n.data.length dc) (.slice aa n.acl.length ac)) 47)) := (Below.refl _ _).alloc (Nat.le_refl _) _
  have CR := rencode_any n da aa dc ac (w.alloc (.cells (ndC n (.slice da n.data.length dc) (.slice aa n.acl.length ac)) 47)) hf (hT.below hb0 hT.size) ((hD.below hb0).mono (by simp)) ((hA.below hb0).mono (by simp))
  have hh := heap_alloc_new w (.cells (ndC n (.slice da n.data.length dc) (.slice aa n.acl.length ac)) 47)
  unfold ndC at hb0 CR hh ⊢
  have HH := Lib.hid hh
  have CR := Lib.hid CR
  clear hh hD hA hT
  by_cases hr : rightN n = 0
  · have HL := Lib.hid (encN_length n hr)
    have HN : Hid (nodeN n = fnv (encN n)) := by unfold Hid nodeN; rw [if_pos hr]
    have HR := Lib.hid hr
    clear hr
    go_enter Tryz.func78, Tryz.ntmps78
    go_wp2_with (refine wpList_load_row rfl 47 (.tmp 1) rfl w.heap.size rfl 47 _ (0, 0) _ HH.out Tryz.underlying47 rfl sizeNd ?_)
    refine CR.out.mono ?_
    rintro e w1 ⟨hb1, h⟩
    rcases h with ⟨h, _⟩ | ⟨_, a, c, rfl, hcs⟩
    · exact absurd HR.out h
    have hb : Below w.heap.size w w1 := hb0.trans (hb1.mono (by simp))
    clear CR hb0 hb1 HH
    go_wp2_with fail
    refine (rsum_any a c (encN n) w1 hcs (by have := HL.out; omega)).mono ?_
    rintro e w2 ⟨rfl, rfl⟩
    clear hcs
    go_wp2
    go_ret
    exact ⟨by rw [HN.out]; rfl, hb⟩
  · have hne : (rightN n != 0) = true := by simpa using hr
    have HN : Hid (nodeN n = 0) := by unfold Hid nodeN; rw [if_neg hr]
    have HR := Lib.hid hr
    clear hr
    go_enter Tryz.func78, Tryz.ntmps78
    go_wp2_with (refine wpList_load_row rfl 47 (.tmp 1) rfl w.heap.size rfl 47 _ (0, 0) _ HH.out Tryz.underlying47 rfl sizeNd ?_)
    refine CR.out.mono ?_
    rintro e w1 ⟨hb1, h⟩
    have h := h.resolve_right (fun h => HR.out h.1)
    obtain ⟨_, rfl⟩ := h
    have hb : Below w.heap.size w w1 := hb0.trans (hb1.mono (by simp))
    clear CR hb0 hb1 HH
    go_wp2
    go_ret
    exact ⟨by rw [HN.out]; rfl, hb⟩

end Go.Proofs.YtamolbegmkngdaaGreatDoor
namespace Go.Proofs.YtamolbegmkngdaaGreatDoor
open Go.RowKit
set_option maxHeartbeats 2000000

def sumI : List Nd → Int
  | [] => 0
  | n :: l => nodeN n + sumI l
theorem u64_wrap (n : Int) : IntKind.u64.wrap n = n % 18446744073709551616 := IntKind.wrap_u64 n
theorem addN_mod : ∀ (l : List Nd) (s : Int), 0 ≤ s → s < 18446744073709551616 → addN s l = (s + sumI l) % 18446744073709551616
  | [], s, h0, h1 => by show s = _; unfold sumI; omega
  | n :: l, s, h0, h1 => by
    have := addN_mod l (IntKind.u64.wrap (s + nodeN n)) (by rw [u64_wrap]; omega) (by rw [u64_wrap]; omega)
    rw [u64_wrap] at this
    show addN (IntKind.u64.wrap (s + nodeN n)) l = (s + (nodeN n + sumI l)) % 18446744073709551616
    rw [u64_wrap, this]
    omega
theorem subN_mod : ∀ (l : List Nd) (s : Int), 0 ≤ s → s < 18446744073709551616 → subN s l = (s - sumI l) % 18446744073709551616
  | [], s, h0, h1 => by show s = _; unfold sumI; omega
  | n :: l, s, h0, h1 => by
    have := subN_mod l (IntKind.u64.wrap (s - nodeN n)) (by rw [u64_wrap]; omega) (by rw [u64_wrap]; omega)
    rw [u64_wrap] at this
    show subN (IntKind.u64.wrap (s - nodeN n)) l = (s - (nodeN n + sumI l)) % 18446744073709551616
    rw [u64_wrap, this]
    omega
theorem addN_in (l : List Nd) (s : Int) (h0 : 0 ≤ s) (h1 : s < 18446744073709551616) : 0 ≤ addN s l ∧ addN s l < 18446744073709551616 := by rw [addN_mod l s h0 h1]; omega
theorem subN_in (l : List Nd) (s : Int) (h0 : 0 ≤ s) (h1 : s < 18446744073709551616) : 0 ≤ subN s l ∧ subN s l < 18446744073709551616 := by rw [subN_mod l s h0 h1]; omega

/-- Turns one by one, and all at once, and in the other order, come to one number. -/
theorem steps_law (d : Int) (h0 : 0 ≤ d) (h1 : d < 18446744073709551616) (A B : List Nd) : addN (subN d A) B = subN (addN d B) A ∧ subN (addN d B) A = addN (subN (subN (addN d B) A) A) A := by
  have a1 := addN_in B d h0 h1
  have a2 := subN_in A d h0 h1
  have a3 := subN_in A _ a1.1 a1.2
  have a4 := subN_in A _ a3.1 a3.2
  have e1 := addN_mod B _ a2.1 a2.2
  have e2 := subN_mod A d h0 h1
  have e3 := addN_mod B d h0 h1
  have e4 := subN_mod A _ a1.1 a1.2
  have e5 := subN_mod A _ a3.1 a3.2
  have e6 := addN_mod A _ a4.1 a4.2
  constructor <;> omega

theorem tmod_small (t n : Int) (hn : 0 < n) : -n < Int.tmod t n ∧ Int.tmod t n < n := by
  have h1 := Int.tmod_lt_of_pos t hn
  have h2 : -(Int.tmod t n) < n := by
    rw [← Int.neg_tmod]
    exact Int.tmod_lt_of_pos (-t) hn
  omega
theorem tmod_nat (x : Int) (n : Nat) (hx : 0 ≤ x) (hn : 0 < n) : ∃ k : Nat, k < n ∧ Int.tmod x n = k := by
  obtain ⟨m, rfl⟩ := Int.eq_ofNat_of_zero_le hx
  exact ⟨m % n, Nat.mod_lt _ hn, by rw [Int.ofNat_tmod]⟩

end Go.Proofs.YtamolbegmkngdaaGreatDoor
namespace Go.Proofs.YtamolbegmkngdaaGreatDoor
open Go.RowKit Go.Sort
set_option maxHeartbeats 4000000
set_option maxRecDepth 100000

/-- The place that a number means, counted round. -/
def atI (n : Nat) (t : Int) : Nat := ((t.tmod (n : Int) + (n : Int)).tmod (n : Int)).toNat
/-- Nodes by numbers, counted round. -/
def pickL (L : List Nd) (A : List Int) : List Nd := A.map fun t => L[atI L.length t]?.getD zeroN

theorem atI_spec {n : Nat} (t : Int) (h0 : 0 < n) (hn : n ≤ 837723144972) : atI n t < n ∧ wrap64 (t.tmod (n : Int) + (n : Int)) = t.tmod (n : Int) + (n : Int) ∧ (t.tmod (n : Int) + (n : Int)).tmod (n : Int) = (atI n t : Int) := by
  have htm := tmod_small t n (by omega)
  obtain ⟨k, hkn, hk⟩ := tmod_nat (t.tmod (n : Int) + (n : Int)) n (by omega) (by omega)
  refine ⟨by unfold atI; rw [hk]; omega, by unfold wrap64; omega, by unfold atI; rw [hk]; simp⟩

def ListOut (B : Nat) (L : List Nd) (w : World) (e : Ending) (w' : World) : Prop := ∃ a c vs, e = .returned (.slice a L.length c) ∧ RowsOf (fun k => k < B ∨ (w.heap.size ≤ k ∧ k < w'.heap.size)) w' a vs L ∧ Ext w w'

theorem pickL_take (L : List Nd) (A : List Int) (k : Nat) (hk : k < A.length) (n : Nd) (hn : L[atI L.length A[k]]? = some n) : pickL L (A.take (k + 1)) = pickL L (A.take k) ++ [n] := by
  unfold pickL
  rw [List.take_succ_eq_append_getElem hk, List.map_append, List.map_cons, List.map_nil, hn]; rfl

theorem pickL_fit (L : List Nd) (A : List Int) (h : ∀ n ∈ L, Fit n) : ∀ n ∈ (if L = [] then [] else pickL L A), Fit n := fun n hn => by
  split at hn
  · simp at hn
  · rename_i hL
    obtain ⟨t, ht, rfl⟩ := List.mem_map.1 hn
    have hk : atI L.length t < L.length := by
      have hp : 0 < L.length := List.length_pos_iff.2 hL
      obtain ⟨k, hkn, hk⟩ := tmod_nat (t.tmod (L.length : Int) + (L.length : Int)) L.length (by have := tmod_small t L.length (by omega); omega) hp
      unfold atI; rw [hk]; omega
    rw [List.getElem?_eq_getElem hk]
    exact h _ (List.getElem_mem hk)
theorem pickL_len (L : List Nd) (A : List Int) : (if L = [] then [] else pickL L A).length ≤ A.length := by
  split
  · simp
  · exact Nat.le_of_eq (List.length_map _)

theorem dlist_nil (B : Nat) (a : Option Addr) (c : Nat) (A : List Int) (ia : Option Addr) (ic : Nat) (w : World) :
    Calls Tryz.prog 35 #[.slice a 0 c, .slice ia A.length ic] w (ListOut B [] w) := by
  have hfin : ListOut B [] w (.returned (.slice none 0 0)) w := ⟨none, 0, [], rfl, ⟨rfl, fun j u h => by simp at h, fun j cs h => by simp at h⟩, Ext.refl _⟩
  have HFIN := Lib.hid hfin
  clear hfin
  go_enter Tryz.func35, Tryz.ntmps35
  go_wp2
  go_loopw [5, 6] (fun mv i wr => mv = .slice none 0 0 ∧ i = .int .i64 0 ∧ wr = w) (fun _ _ _ => 0)
  case atStart => exact ⟨rfl, rfl, rfl⟩
  case round =>
    obtain ⟨rfl, rfl, rfl⟩ := hrel
    by_cases hA0 : 0 < A.length
    · go_wp2
      go_ret
      exact HFIN.out
    · go_wp2
      go_ret
      exact HFIN.out

theorem dlist_some (B : Nat) (L : List Nd) (a : Option Addr) (c : Nat) (A : List Int) (ia : Option Addr) (ic : Nat) (w : World) (hL : NdsAt B w a L) (hB : B ≤ w.heap.size) (hA : Cells w.heap.size w ia (A.map (Value.int .i64 ·))) (hl : L.length ≤ 837723144972) (hL0 : L ≠ []) (hlA : A.length * 168 ≤ 140737488355328) :
    Calls Tryz.prog 35 #[.slice a L.length c, .slice ia A.length ic] w (ListOut B (pickL L A) w) := by
  have hLp : 0 < L.length := List.length_pos_iff.2 hL0
  have hn0 : ¬ (L.length : Int) = 0 := by omega
  have hn1 : ((L.length : Int) == 0) = false := by simpa using hn0
  have HL := Lib.hid hL
  have HA := Lib.hid hA
  clear hL hA
  go_enter Tryz.func35, Tryz.ntmps35
  go_wp2
  go_loopw [5, 6] (fun mv i wr => ∃ (j : Nat) (ws : List (Array Value)), j ≤ A.length ∧ i = .int .i64 j ∧ wr.ownsRow w.heap.size 47 17 mv j (ws.flatMap Array.toList) ∧ Hid (EachN (fun b => b < B) w ws (pickL L (A.take j))) ∧ Ext w wr) (fun _ i _ => A.length - (intOf i).toNat)
  case atStart => exact ⟨0, [], Nat.zero_le _, rfl, World.ownsRow_nil _ _ _ _, ⟨rfl, fun j cs h => by simp at h⟩, Ext.refl _⟩
  case round =>
    obtain ⟨j, ws, hjn, rfl, hown, HEach, hE⟩ := hrel
    by_cases hj : j < A.length
    · obtain ⟨t, htn, hwr, hti⟩ : ∃ t, t < L.length ∧ wrap64 (A[j].tmod (L.length : Int) + (L.length : Int)) = A[j].tmod (L.length : Int) + (L.length : Int) ∧ (A[j].tmod (L.length : Int) + (L.length : Int)).tmod (L.length : Int) = (t : Int) ∧ t = atI L.length A[j] := by
        obtain ⟨h1, h2, h3⟩ := atI_spec A[j] hLp hl
        exact ⟨_, h1, h2, h3, rfl⟩
      obtain ⟨hti, htA⟩ := hti
      have hai : (A.map (Value.int .i64 ·))[j]? = some (.int .i64 A[j]) := by rw [List.getElem?_map, List.getElem?_eq_getElem hj]; rfl
      obtain ⟨ib, ioff, rfl, hib, hic⟩ := HA.out j _ hai
      have hcA : wr.cell? ⟨ib, ioff + j, none⟩ = some (.int .i64 A[j]) := by rw [hE.cell (p := ⟨ib, ioff + j, none⟩) hib]; exact hic
      obtain ⟨n, htM⟩ : ∃ n, L[t]? = some n := ⟨_, List.getElem?_eq_getElem htn⟩
      have hrs := pickL_take L A j hj n (by rw [← htA]; exact htM)
      generalize A[j] = tv at *
      obtain ⟨b, off, vv, rfl, hSb, ⟨da, dc, aa, ac, rfl, hD, hAc⟩, hc⟩ := HL.out t n htM
      have hcw : ∀ r u, (ndC n (.slice da n.data.length dc) (.slice aa n.acl.length ac))[r]? = some u → wr.cell? ((⟨b, off + t * 17, none⟩ : Addr).add r) = some u := fun r u hr => by
        rw [addr_add, hE.cell (p := ⟨b, off + t * 17 + r, none⟩) (Nat.lt_of_lt_of_le hSb hB)]; exact hc r u hr
      have hs17 : Cells (wr.alloc (.cells (ndC n (.slice da n.data.length dc) (.slice aa n.acl.length ac)) 47)).heap.size (wr.alloc (.cells (ndC n (.slice da n.data.length dc) (.slice aa n.acl.length ac)) 47)) (some ⟨wr.heap.size, 0, none⟩) (ndC n (.slice da n.data.length dc) (.slice aa n.acl.length ac)).toList := fun j u hj => by
        refine ⟨_, 0, rfl, by simp, ?_⟩
        rw [Nat.zero_add, cell_of_row _ _ _ _ _ _ (heap_alloc_new wr _)]
        simpa using hj
      have hsrc : Src Tryz.prog 17 22 (.slice (some ⟨wr.heap.size, 0, none⟩) 1 1) 1 (ndC n (.slice da n.data.length dc) (.slice aa n.acl.length ac)).toList (wr.alloc (.cells (ndC n (.slice da n.data.length dc) (.slice aa n.acl.length ac)) 47)) :=
        hs17.src Tryz.underlying22 1 1 (by simp [ndC]) (fun u hu => by
          have := cells_node n da aa n.data.length n.acl.length dc ac
          rw [← Array.all_toList] at this
          exact List.all_eq_true.1 this u hu)
      obtain ⟨i0, hi, hz0, hz1', hz2⟩ := info_parts infoNd
      have hownA := hown.alloc (.cells (ndC n (.slice da n.data.length dc) (.slice aa n.acl.length ac)) 47)
      have hE2 : Ext w (wr.alloc (.cells (ndC n (.slice da n.data.length dc) (.slice aa n.acl.length ac)) 47)) := hE.trans (Ext.alloc _ _)
      have hnd : NdS (fun b => b < B) w (.agg (ndC n (.slice da n.data.length dc) (.slice aa n.acl.length ac))) n := ⟨da, dc, aa, ac, rfl, fun j u hj => hD j u hj, fun j u hj => hAc j u hj⟩
      have HEach2 : Hid (EachN (fun b => b < B) w (ws ++ [ndC n (.slice da n.data.length dc) (.slice aa n.acl.length ac)]) (pickL L (A.take (j + 1)))) := by
        unfold Hid; rw [hrs]; exact EachN.append HEach.out (EachN.one hnd)
      have HC := Lib.hid hcw
      have HE2 := Lib.hid hE2
      have HOWN := Lib.hid hown
      have hzr := hE.size
      unfold ndC at HC hownA hsrc
      clear hcw hc hD hAc hs17 hnd hE hE2 hown HEach hrs htM hic hai htA
      go_wp2_with (first | (refine wpList_load_at rfl 47 (.tmp 33) rfl _ rfl _ _ HC.out Tryz.underlying47 rfl sizeNd ?_) | (at_builtin; refine wpList_append_src _ rfl (.tmp 18) (.tmp 35) 22 22 rfl w.heap.size 47 i0 (.agg zeroNd) 17 168 Tryz.underlying22 hi hz0 hz1' hz2 rfl (by decide) _ j _ rfl hownA _ 1 _ rfl hsrc ?c1 ?c2 ?c3 ?_))
      case c1 => unfold maxLen; omega
      case c2 => omega
      case c3 => first | omega | (simp; omega)
      intro v' w5 hown5 hg5 _ _
      rw [show [Value.string n.path, .slice da n.data.length dc, .slice aa n.acl.length ac, .int .i64 n.owner, .int .i64 n.czxid, .int .i64 n.mzxid, .int .i64 n.pzxid, .int .i64 n.azxid, .int .i64 n.qzxid, .int .i64 n.ctime, .int .i64 n.mtime, .int .i32 n.version, .int .i32 n.creates, .int .i32 n.aversion, .bool n.has, .int .i64 n.count, .int .i64 n.bytes] = (ndC n (.slice da n.data.length dc) (.slice aa n.acl.length ac)).toList from rfl] at hown5
      have hfl : ws.flatMap Array.toList ++ (ndC n (.slice da n.data.length dc) (.slice aa n.acl.length ac)).toList = (ws ++ [ndC n (.slice da n.data.length dc) (.slice aa n.acl.length ac)]).flatMap Array.toList := by simp
      rw [hfl] at hown5
      have hE5 : Ext w w5 := HE2.out.trans' ⟨hg5.os, hg5.tape, hg5.output, hg5.size, fun i hi => hg5.block i (Nat.lt_of_lt_of_le hi HE2.out.size) (fun e => by
        have := (HOWN.out.lt i e.symm).1
        omega)⟩
      have HO5 := Lib.hid hown5
      have HE5 := Lib.hid hE5
      clear hown5 hE5 hg5 hfl hownA hsrc HOWN
      go_wp2
      go_roundw
      case rel => exact ⟨j + 1, _, by omega, by go_num, HO5.out, HEach2, HE5.out⟩
      case measure => simp [intOf]; omega
    · obtain rfl : j = A.length := by omega
      rw [List.take_length] at HEach
      have hrl : (pickL L A).length = A.length := List.length_map _
      have heach : EachN (fun k => k < B ∨ (w.heap.size ≤ k ∧ k < wr.heap.size)) wr ws (pickL L A) := by
        refine ⟨HEach.out.1, fun j cs h => ?_⟩
        obtain ⟨n, hn, hN⟩ := HEach.out.2 j cs h
        exact ⟨n, hn, NdS.imp hN (fun b hb => .inl hb) fun b o u hb hu => (hE.cell (p := ⟨b, o, none⟩) (Nat.lt_of_lt_of_le hb hB)).trans hu⟩
      obtain ⟨ma, mc, rfl, _, _, hRm, _⟩ := RowsOf.of_own (S := fun k => k < B ∨ (w.heap.size ≤ k ∧ k < wr.heap.size)) hown hrl.symm heach.1 (fun b h1 h2 => .inr ⟨h1, h2⟩) heach.2
      have hfin : ListOut B (pickL L A) w (.returned (.slice ma A.length mc)) wr := ⟨ma, mc, ws, by rw [hrl], hRm, hE⟩
      have HFIN := Lib.hid hfin
      clear hfin hRm heach HEach hown hE
      go_wp2
      go_ret
      exact HFIN.out

theorem dlist_any (B : Nat) (L : List Nd) (a : Option Addr) (c : Nat) (A : List Int) (ia : Option Addr) (ic : Nat) (w : World) (hL : NdsAt B w a L) (hB : B ≤ w.heap.size) (hA : Cells w.heap.size w ia (A.map (Value.int .i64 ·))) (hl : L.length ≤ 837723144972) (hlA : A.length * 168 ≤ 140737488355328) :
    Calls Tryz.prog 35 #[.slice a L.length c, .slice ia A.length ic] w (ListOut B (if L = [] then [] else pickL L A) w) := by
  by_cases hL0 : L = []
  · subst hL0
    exact dlist_nil B a c A ia ic w
  · rw [if_neg hL0]
    exact dlist_some B L a c A ia ic w hL hB hA hl hL0 hlA

theorem dsum_any (L : List Nd) (a : Option Addr) (c : Nat) (w : World) (hL : NdsAt w.heap.size w a L) (hf : ∀ n ∈ L, Fit n) (hT : Tabs w) (hl : L.length ≤ 9223372036854775807) :
    Calls Tryz.prog 37 #[.slice a L.length c] w fun e w' => e = .returned (.int .u64 (addN 0 L)) ∧ Ext w w' := by
  have hsz := hT.size
  have HL := Lib.hid hL
  have HF := Lib.hid hf
  have HT := Lib.hid hT
  clear hL hf hT
  go_enter Tryz.func37, Tryz.ntmps37
  go_wp2
  go_loopw [3, 4] (fun sm i wr => ∃ k : Nat, k ≤ L.length ∧ i = .int .i64 k ∧ sm = .int .u64 (addN 0 (L.take k)) ∧ Ext w wr) (fun _ i _ => L.length - (intOf i).toNat)
  case atStart => exact ⟨0, Nat.zero_le _, rfl, rfl, Ext.refl _⟩
  case round =>
    obtain ⟨k, hk, rfl, rfl, hE⟩ := hrel
    by_cases hlt : k < L.length
    · obtain ⟨b, off, vv, rfl, hSb, ⟨da, dc, aa, ac, rfl, hD, hA⟩, hc⟩ := HL.out k _ (List.getElem?_eq_getElem hlt)
      have hfit := HF.out L[k] (List.getElem_mem hlt)
      have hsn := addN_take 0 L k hlt
      generalize L[k] = n at *
      have hcw : ∀ j u, (ndC n (.slice da n.data.length dc) (.slice aa n.acl.length ac))[j]? = some u → wr.cell? ((⟨b, off + k * 17, none⟩ : Addr).add j) = some u := fun j u hj => by
        rw [addr_add, hE.cell (p := ⟨b, off + k * 17 + j, none⟩) hSb]
        exact hc j u hj
      have CN := Lib.hid (rnode_any n da aa dc ac wr hfit (HT.out.below hE hsz) (hD.ext hE) (hA.ext hE))
      have HC := Lib.hid hcw
      have HE := Lib.hid hE
      have HSN := Lib.hid hsn
      generalize addN 0 (L.take k) = s at *
      unfold ndC at HC
      clear hcw hc hE hD hA hsn
      go_wp2_with (refine wpList_load_at rfl 47 (.tmp 14) rfl _ rfl _ _ HC.out Tryz.underlying47 rfl sizeNd ?_)
      refine CN.out.mono ?_
      rintro e w2 ⟨rfl, hE2⟩
      have HE2 := Lib.hid (HE.out.trans hE2)
      clear CN hE2 HC
      go_wp2
      go_roundw
      case rel => exact ⟨k + 1, by omega, by go_num, by rw [HSN.out], HE2.out⟩
      case measure => simp [intOf]; omega
    · obtain rfl : k = L.length := by omega
      rw [List.take_length]
      have HE := Lib.hid hE
      clear hE
      go_wp2
      go_ret
      exact ⟨rfl, HE.out⟩
end Go.Proofs.YtamolbegmkngdaaGreatDoor
namespace Go.Proofs.YtamolbegmkngdaaGreatDoor
open Go.RowKit
set_option maxHeartbeats 1000000

/-- Two texts, byte by byte. -/
def ordL : List UInt8 → List UInt8 → Int
  | [], [] => 0
  | [], _ :: _ => -1
  | _ :: _, [] => 1
  | x :: a, y :: b => if x.toNat < y.toNat then -1 else if y.toNat < x.toNat then 1 else ordL a b
theorem ordL_eq : ∀ a b : List UInt8, ordL a b = if a = b then 0 else if bytesBefore a b = true then -1 else 1
  | [], [] => by simp [ordL]
  | [], y :: b => by simp [ordL, bytesBefore]
  | x :: a, [] => by simp [ordL, bytesBefore]
  | x :: a, y :: b => by
    simp only [ordL, ordL_eq a b, bytesBefore, Bool.or_eq_true, decide_eq_true_eq, Bool.and_eq_true, beq_iff_eq, List.cons.injEq, UInt8.lt_iff_toNat_lt]
    by_cases h1 : x.toNat < y.toNat
    · have hne : x ≠ y := fun e => by rw [e] at h1; omega
      rw [if_pos h1, if_neg (fun h => hne h.1), if_pos (.inl h1)]
    · by_cases h2 : y.toNat < x.toNat
      · have hne : x ≠ y := fun e => by rw [e] at h2; omega
        rw [if_neg h1, if_pos h2, if_neg (fun h => hne h.1), if_neg (fun h => h.elim h1 fun h => hne h.1)]
      · have he : x = y := UInt8.toNat_inj.1 (by omega)
        subst he
        rw [if_neg h1, if_neg h2]
        by_cases h3 : a = b
        · rw [if_pos h3, if_pos ⟨rfl, h3⟩]
        · have e1 : ¬ (x = x ∧ a = b) := fun h => h3 h.2
          rw [if_neg h3, if_neg e1]
          by_cases h4 : bytesBefore a b = true
          · rw [if_pos h4, if_pos (.inr ⟨rfl, h4⟩)]
          · have e2 : ¬ (x.toNat < x.toNat ∨ x = x ∧ bytesBefore a b = true) := fun h => h.elim h1 fun h => h4 h.2
            rw [if_neg h4, if_neg e2]

/-- The nodes alone. -/
def nds (M : List (Key × Nd)) : List Nd := M.map (·.2)
theorem nds_length (M : List (Key × Nd)) : (nds M).length = M.length := List.length_map _
/-- The place of a path; is it there? -/
def rfind : List Nd → ByteArray → Nat × Bool
  | [], _ => (0, false)
  | n :: r, s => if ordL n.path.data.toList s.data.toList = 0 then (0, true) else if 0 < ordL n.path.data.toList s.data.toList then (0, false) else ((rfind r s).1 + 1, (rfind r s).2)
theorem rfind_le : ∀ (L : List Nd) (s : ByteArray), (rfind L s).1 ≤ L.length
  | [], _ => Nat.zero_le _
  | n :: r, s => by
    have := rfind_le r s
    unfold rfind
    split
    · exact Nat.zero_le _
    split
    · exact Nat.zero_le _
    · simp only [List.length_cons]; omega
theorem rfind_lt : ∀ (L : List Nd) (s : ByteArray), (rfind L s).2 = true → ∃ n, L[(rfind L s).1]? = some n ∧ n.path = s
  | [], _, h => by cases h
  | n :: r, s, h => by
    unfold rfind at h ⊢
    split at h
    · rename_i h0
      rw [if_pos h0]
      refine ⟨n, rfl, ?_⟩
      rw [ordL_eq] at h0
      split at h0
      · rename_i e; exact ba_ext e
      · split at h0 <;> simp at h0
    split at h
    · cases h
    · rename_i h0 h1
      rw [if_neg h0, if_neg h1]
      obtain ⟨m, hm, e⟩ := rfind_lt r s h
      exact ⟨m, by simpa using hm, e⟩

theorem rfind_there : ∀ {M : List (Key × Nd)}, MSorted M → (∀ x ∈ M, x.1 = keyN x.2) → ∀ s : ByteArray, (rfind (nds M) s).2 = (mget M s.data.toList).isSome
  | [], _, _, _ => rfl
  | y :: r, hs, hk, s => by
    obtain ⟨h1, h2⟩ := List.pairwise_cons.1 hs
    have ih := rfind_there h2 (fun x hx => hk x (List.mem_cons_of_mem _ hx)) s
    have hy : y.1 = y.2.path.data.toList := hk y (List.mem_cons_self ..)
    show (rfind (y.2 :: nds r) s).2 = _
    unfold rfind
    rw [ordL_eq, ← hy]
    by_cases e : y.1 = s.data.toList
    · rw [if_pos e, if_pos rfl]
      have : mget (y :: r) s.data.toList = some y.2 := mget_of_mem hs (by rw [← e]; exact List.mem_cons_self ..)
      rw [this]; rfl
    · have hg : mget (y :: r) s.data.toList = mget r s.data.toList := by
        unfold mget
        rw [List.find?_cons_of_neg (by simpa using e)]
      rw [if_neg e, hg]
      by_cases hb : bytesBefore y.1 s.data.toList = true
      · rw [if_pos hb, if_neg (by decide), if_neg (by decide)]
        exact ih
      · rw [if_neg hb, if_neg (by decide), if_pos (by decide)]
        have hsy : bytesBefore s.data.toList y.1 = true := by
          rcases WideAt.bytes_total _ _ e with h | h
          · exact absurd h hb
          · exact h
        have : mget r s.data.toList = none := mget_none_of fun x hx e' => by
          have := h1 x hx
          rw [e'] at this
          exact before_asymm this hsy
        rw [this]; rfl

theorem mdel_none {M : List (Key × Nd)} {k : Key} (h : ∀ x ∈ M, x.1 ≠ k) : mdel M k = M := by
  unfold mdel
  exact List.filter_eq_self.2 fun x hx => by simpa using h x hx
theorem rfind_ins' : ∀ {M : List (Key × Nd)}, (∀ x ∈ M, x.1 = keyN x.2) → ∀ n : Nd, (∀ x ∈ M, x.1 ≠ keyN n) → nds (mins (keyN n, n) M) = (nds M).take (rfind (nds M) n.path).1 ++ n :: (nds M).drop (rfind (nds M) n.path).1
  | [], _, _, _ => rfl
  | y :: r, hk, n, hn => by
    have ih := rfind_ins' (fun x hx => hk x (List.mem_cons_of_mem _ hx)) n (fun x hx => hn x (List.mem_cons_of_mem _ hx))
    have hy : y.1 = y.2.path.data.toList := hk y (List.mem_cons_self ..)
    have he : ¬ y.1 = n.path.data.toList := hn y (List.mem_cons_self ..)
    show nds (mins (keyN n, n) (y :: r)) = (y.2 :: nds r).take (rfind (y.2 :: nds r) n.path).1 ++ n :: (y.2 :: nds r).drop (rfind (y.2 :: nds r) n.path).1
    unfold rfind mins
    rw [ordL_eq, ← hy, if_neg he]
    by_cases hb : bytesBefore y.1 n.path.data.toList = true
    · have hnb : ¬ bytesBefore (keyN n, n).1 y.1 = true := fun h => before_asymm h hb
      rw [if_pos hb, if_neg hnb, if_neg (show ¬ ((-1 : Int) = 0) by decide), if_neg (show ¬ ((0 : Int) < -1) by decide)]
      simp only [List.take_succ_cons, List.drop_succ_cons, List.cons_append]
      rw [← ih]; rfl
    · have hnb : bytesBefore (keyN n, n).1 y.1 = true := by
        rcases WideAt.bytes_total _ _ he with h | h
        · exact absurd h hb
        · exact h
      rw [if_neg hb, if_pos hnb, if_neg (show ¬ ((1 : Int) = 0) by decide), if_pos (show (0 : Int) < 1 by decide)]
      rfl
theorem rfind_ins {M : List (Key × Nd)} (hM : MOk M) (n : Nd) (hn : mget M (keyN n) = none) : nds (mput M (keyN n) n) = (nds M).take (rfind (nds M) n.path).1 ++ n :: (nds M).drop (rfind (nds M) n.path).1 := by
  have h := mget_none hn
  unfold mput
  rw [mdel_none h]
  exact rfind_ins' hM.key n h
end Go.Proofs.YtamolbegmkngdaaGreatDoor
namespace Go.Proofs.YtamolbegmkngdaaGreatDoor
open Go.RowKit
set_option maxHeartbeats 2000000
set_option maxRecDepth 100000

theorem ordL_drop (a b : ByteArray) (q : Nat) (h : q < a.size) (h' : q < b.size) : ordL (a.data.toList.drop q) (b.data.toList.drop q) = if a[q].toNat < b[q].toNat then -1 else if b[q].toNat < a[q].toNat then 1 else ordL (a.data.toList.drop (q + 1)) (b.data.toList.drop (q + 1)) := by
  have e1 : a.data.toList.drop q = a[q] :: a.data.toList.drop (q + 1) := by
    rw [List.drop_eq_getElem_cons (by rw [size_list]; exact h)]; rfl
  have e2 : b.data.toList.drop q = b[q] :: b.data.toList.drop (q + 1) := by
    rw [List.drop_eq_getElem_cons (by rw [size_list]; exact h')]; rfl
  rw [e1, e2, ordL]
theorem ordL_end (a b : ByteArray) (q : Nat) (h1 : q ≤ a.size) (h2 : q ≤ b.size) (h : q = a.size ∨ q = b.size) : ordL (a.data.toList.drop q) (b.data.toList.drop q) = if a.size < b.size then -1 else if b.size < a.size then 1 else 0 := by
  have la := size_list a
  have lb := size_list b
  by_cases ha : q = a.size
  · have e1 : a.data.toList.drop q = [] := List.drop_eq_nil_of_le (by omega)
    rw [e1]
    by_cases hb : q = b.size
    · have e2 : b.data.toList.drop q = [] := List.drop_eq_nil_of_le (by omega)
      rw [e2, if_neg (by omega), if_neg (by omega)]; rfl
    · rw [if_pos (by omega)]
      cases hd : b.data.toList.drop q with
      | nil => have := congrArg List.length hd; rw [List.length_drop] at this; simp at this; omega
      | cons x l => rfl
  · have hb : q = b.size := h.resolve_left ha
    have e2 : b.data.toList.drop q = [] := List.drop_eq_nil_of_le (by omega)
    rw [e2, if_neg (by omega), if_pos (by omega)]
    cases hd : a.data.toList.drop q with
    | nil => have := congrArg List.length hd; rw [List.length_drop] at this; simp at this; omega
    | cons x l => rfl

theorem order_any (a b : ByteArray) (w : World) (ha : a.size ≤ 9223372036854775800) (hb : b.size ≤ 9223372036854775800) : Calls Tryz.prog 136 #[.string a, .string b] w fun e w' => e = .returned (.int .i64 (ordL a.data.toList b.data.toList)) ∧ Below w.heap.size w w' := by
  go_enter Tryz.func136, Tryz.ntmps136
  go_wp2
  go_loopw [5] (fun i wr => ∃ q n : Nat, q ≤ a.size ∧ q ≤ b.size ∧ i = .int .i64 q ∧ wr = w.drewN n ∧ Hid (ordL a.data.toList b.data.toList = ordL (a.data.toList.drop q) (b.data.toList.drop q))) (fun i _ => a.size - (intOf i).toNat)
  case atStart => exact ⟨0, 0, Nat.zero_le _, Nat.zero_le _, rfl, rfl, rfl⟩
  case round =>
    obtain ⟨q, n, hqa, hqb, rfl, rfl, HQ⟩ := hrel
    by_cases hl : q < a.size ∧ q < b.size
    · obtain ⟨hla, hlb⟩ := hl
      have hd := ordL_drop a b q hla hlb
      have c1 : (q : Int) < a.size := by omega
      have c2 : (q : Int) < b.size := by omega
      have c0 : (0 : Int) ≤ q := by omega
      by_cases h1 : a[q].toNat < b[q].toNat
      · have H1 : Hid (ordL a.data.toList b.data.toList = -1) := by unfold Hid; rw [HQ.out, hd, if_pos h1]
        have k1 : (a[q].toNat : Int) < (b[q].toNat : Int) := by omega
        clear hd h1
        go_wp2
        go_quiet (fail)
        go_wp2
        go_ret
        exact ⟨by rw [H1.out]; rfl, below_drewN (below_drewN (Below.refl _ _) _) _⟩
      · have k1 : ¬ (a[q].toNat : Int) < (b[q].toNat : Int) := by omega
        by_cases h2 : b[q].toNat < a[q].toNat
        · have H1 : Hid (ordL a.data.toList b.data.toList = 1) := by unfold Hid; rw [HQ.out, hd, if_neg h1, if_pos h2]
          have k2 : (b[q].toNat : Int) < (a[q].toNat : Int) := by omega
          clear hd h1 h2
          go_wp2
          go_quiet (fail)
          go_wp2
          go_quiet (fail)
          go_wp2
          go_ret
          exact ⟨by rw [H1.out]; rfl, below_drewN (below_drewN (below_drewN (Below.refl _ _) _) _) _⟩
        · have H1 : Hid (ordL a.data.toList b.data.toList = ordL (a.data.toList.drop (q + 1)) (b.data.toList.drop (q + 1))) := by unfold Hid; rw [HQ.out, hd, if_neg h1, if_neg h2]
          have k2 : ¬ (b[q].toNat : Int) < (a[q].toNat : Int) := by omega
          clear hd h1 h2
          go_wp2
          go_quiet (fail)
          go_wp2
          go_quiet (fail)
          go_wp2
          go_roundw
          case rel => exact ⟨q + 1, _, by omega, by omega, by go_num, rfl, H1⟩
          case measure => simp [intOf]; omega
    · have hd := ordL_end a b q hqa hqb (by omega)
      have H1 : Hid (ordL a.data.toList b.data.toList = if a.size < b.size then -1 else if b.size < a.size then 1 else 0) := by unfold Hid; rw [HQ.out, hd]
      have hE := below_drewN (Below.refl w.heap.size w) n
      clear hd
      by_cases ha' : q < a.size
      · have hb' : ¬ (q : Int) < b.size := by omega
        have ha2 : (q : Int) < a.size := by omega
        have s1 : ¬ (a.size : Int) < b.size := by omega
        have s2 : (b.size : Int) < a.size := by omega
        have H2 : Hid (ordL a.data.toList b.data.toList = 1) := by unfold Hid; rw [H1.out, if_neg (by omega), if_pos (by omega)]
        clear hl
        go_wp2
        go_ret
        exact ⟨by rw [H2.out]; rfl, hE⟩
      · have ha2 : ¬ (q : Int) < a.size := by omega
        by_cases hs : a.size < b.size
        · have s1 : (a.size : Int) < b.size := by omega
          have H2 : Hid (ordL a.data.toList b.data.toList = -1) := by unfold Hid; rw [H1.out, if_pos hs]
          clear hl hs
          go_wp2
          go_ret
          exact ⟨by rw [H2.out]; rfl, hE⟩
        · have s1 : ¬ (a.size : Int) < b.size := by omega
          have s2 : ¬ (b.size : Int) < a.size := by omega
          have H2 : Hid (ordL a.data.toList b.data.toList = 0) := by unfold Hid; rw [H1.out, if_neg hs, if_neg (by omega)]
          clear hl hs
          go_wp2
          go_ret
          exact ⟨by rw [H2.out]; rfl, hE⟩
end Go.Proofs.YtamolbegmkngdaaGreatDoor
namespace Go.Proofs.YtamolbegmkngdaaGreatDoor
open Go.RowKit
set_option maxHeartbeats 2000000
set_option maxRecDepth 100000

/-- The document's tree: a list of nodes. -/
def RTree (S : Nat → Prop) (w : World) (b : Nat) (L : List Nd) : Prop :=
  ∃ (a : Option Addr) (cap : Nat) (vs : List (Array Value)), w.heap[b]? = some (.cells #[.slice a L.length cap] 53 (0, 0)) ∧ L.length ≤ cap ∧ cap ≤ maxLen ∧ (∀ k, S k → k < w.heap.size ∧ k ≠ b) ∧ RowsOf S w a vs L ∧ PlainA a cap

theorem RTree.keep {S S' : Nat → Prop} {w w' : World} {b : Nat} {L : List Nd} (h : RTree S w b L) (hS : ∀ k, S k → S' k) (hb : w'.heap[b]? = w.heap[b]?) (hw : ∀ k, S k → w'.heap[k]? = w.heap[k]?) (hS' : ∀ k, S' k → k < w'.heap.size ∧ k ≠ b) : RTree S' w' b L := by
  obtain ⟨a, cap, vs, h1, h2, h3, h4, h5, h6⟩ := h
  exact ⟨a, cap, vs, hb.trans h1, h2, h3, hS', h5.imp hS hw, h6⟩
theorem RTree.lt {S : Nat → Prop} {w : World} {b : Nat} {L : List Nd} (h : RTree S w b L) : b < w.heap.size := by
  obtain ⟨a, cap, vs, h1, _⟩ := h
  exact (Array.getElem?_eq_some_iff.1 h1).1
theorem RTree.bound {S : Nat → Prop} {w : World} {b : Nat} {L : List Nd} (h : RTree S w b L) : ∀ k, S k → k < w.heap.size ∧ k ≠ b := by
  obtain ⟨a, cap, vs, _, _, _, h4, _, _⟩ := h
  exact h4
theorem RTree.ext {S : Nat → Prop} {w w' : World} {b : Nat} {L : List Nd} (h : RTree S w b L) (he : Ext w w') : RTree S w' b L :=
  h.keep (fun _ h => h) (he.block b h.lt) (fun k hk => he.block k (h.bound k hk).1) fun k hk => ⟨Nat.lt_of_lt_of_le (h.bound k hk).1 he.size, (h.bound k hk).2⟩

theorem find_step (L : List Nd) (s : ByteArray) : ∀ (k : Nat) (n : Nd), L[k]? = some n → (∀ (j : Nat) (m : Nd), j < k → L[j]? = some m → ordL m.path.data.toList s.data.toList < 0) →
    (ordL n.path.data.toList s.data.toList = 0 → rfind L s = (k, true)) ∧ (0 < ordL n.path.data.toList s.data.toList → rfind L s = (k, false)) := by
  induction L with
  | nil => intro k n h; simp at h
  | cons x r ih =>
    intro k n hk hlt
    cases k with
    | zero =>
      simp at hk
      subst hk
      refine ⟨fun h0 => by unfold rfind; rw [if_pos h0], fun h0 => by unfold rfind; rw [if_neg (by omega), if_pos h0]⟩
    | succ k =>
      have hx := hlt 0 x (by omega) rfl
      obtain ⟨h1, h2⟩ := ih k n (by simpa using hk) (fun j m hj hm => hlt (j + 1) m (by omega) (by simpa using hm))
      refine ⟨fun h0 => ?_, fun h0 => ?_⟩
      · unfold rfind
        rw [if_neg (by omega), if_neg (by omega), h1 h0]
      · unfold rfind
        rw [if_neg (by omega), if_neg (by omega), h2 h0]
theorem find_end (L : List Nd) (s : ByteArray) (h : ∀ (j : Nat) (m : Nd), L[j]? = some m → ordL m.path.data.toList s.data.toList < 0) : rfind L s = (L.length, false) := by
  induction L with
  | nil => rfl
  | cons x r ih =>
    have hx := h 0 x rfl
    unfold rfind
    rw [if_neg (by omega), if_neg (by omega), ih fun j m hm => h (j + 1) m (by simpa using hm)]
    rfl

theorem rfind_any (S : Nat → Prop) (w : World) (b : Nat) (L : List Nd) (hR : RTree S w b L) (hf : ∀ n ∈ L, Fit n) (s : ByteArray) (hs : s.size ≤ 9223372036854775800) :
    Calls Tryz.prog 74 #[.pointer (some ⟨b, 0, none⟩), .string s] w fun e w' => e = .returned (.tuple #[.int .i64 (rfind L s).1, .bool (rfind L s).2]) ∧ Ext w w' := by
  obtain ⟨a, cap, vs, hb, hl, hcm, hS, hrows, _⟩ := hR
  have hcb : w.cell? ⟨b, 0, none⟩ = some (.slice a L.length cap) := cell_of_row _ _ _ _ _ _ hb
  have hbl := (Array.getElem?_eq_some_iff.1 hb).1
  have hl64 : L.length ≤ 9223372036854775807 := by unfold maxLen at hcm; omega
  have HROWS := Lib.hid hrows
  have HS := Lib.hid hS
  have HF := Lib.hid hf
  clear hb hrows hS hf
  go_enter Tryz.func74, Tryz.ntmps74
  go_wp2
  go_loopw [6] (fun i wr => ∃ k : Nat, k ≤ L.length ∧ i = .int .i64 k ∧ Ext w wr ∧ Hid (∀ (j : Nat) (m : Nd), j < k → L[j]? = some m → ordL m.path.data.toList s.data.toList < 0)) (fun i _ => L.length - (intOf i).toNat)
  case atStart => exact ⟨0, Nat.zero_le _, rfl, Ext.refl _, fun j m hj => by omega⟩
  case round =>
    obtain ⟨k, hk, rfl, hE, HLT⟩ := hrel
    have hcr : wr.cell? ⟨b, 0, none⟩ = some (.slice a L.length cap) := (hE.cell (p := ⟨b, 0, none⟩) hbl).trans hcb
    by_cases hlt : k < L.length
    · obtain ⟨bl, off, da, dc, aa, ac, ea, hSb, hc, _⟩ := HROWS.out.row (List.getElem?_eq_getElem hlt)
      subst ea
      have hfit := HF.out L[k] (List.getElem_mem hlt)
      obtain ⟨h1, h2⟩ := find_step L s k L[k] (List.getElem?_eq_getElem hlt) HLT.out
      have hnext : ordL (L[k]'hlt).path.data.toList s.data.toList < 0 → ∀ (j : Nat) (m : Nd), j < k + 1 → L[j]? = some m → ordL m.path.data.toList s.data.toList < 0 := fun h0 j m hj hm => by
        by_cases e : j = k
        · subst e
          rw [List.getElem?_eq_getElem hlt] at hm
          rw [← Option.some.inj hm]; exact h0
        · exact HLT.out j m (by omega) hm
      generalize L[k] = n at *
      have c0 : wr.cell? ⟨bl, off + k * 17, none⟩ = some (.string n.path) := (hE.cell (p := ⟨bl, off + k * 17, none⟩) (HS.out bl hSb).1).trans (hc 0 _ rfl)
      have CO := Lib.hid (order_any n.path s wr hfit.path hs)
      have hbS : bl ≠ b := (HS.out bl hSb).2
      have HE := Lib.hid hE
      have HN := Lib.hid hnext
      clear hc hE hnext
      generalize hO : ordL n.path.data.toList s.data.toList = o at *
      rcases Int.lt_trichotomy o 0 with ho | ho | ho
      · have HN2 := Lib.hid (HN.out ho)
        have o1 : (o == 0) = false := by simp; omega
        have o2 : ¬ o = 0 := by omega
        have o3 : ¬ 0 < o := by omega
        clear h1 h2 hO HN
        go_wp2_with fail
        refine CO.out.mono ?_
        rintro e w2 ⟨rfl, hE2⟩
        have HE2 := Lib.hid (HE.out.trans hE2)
        clear CO hE2 hcr hcb c0
        go_wp2
        go_roundw
        case rel => exact ⟨k + 1, by omega, by go_num, HE2.out, HN2.out⟩
        case measure => simp [intOf]; omega
      · subst ho
        have HR := Lib.hid (h1 rfl)
        clear h1 h2 hO HN
        go_wp2_with fail
        refine CO.out.mono ?_
        rintro e w2 ⟨rfl, hE2⟩
        have HE2 := Lib.hid (HE.out.trans hE2)
        clear CO hE2 hcr hcb c0
        go_wp2
        go_ret2
        exact ⟨by rw [HR.out]; rfl, HE2.out⟩
      · have HR := Lib.hid (h2 ho)
        have o1 : (o == 0) = false := by simp; omega
        have o2 : ¬ o = 0 := by omega
        clear h1 h2 hO HN
        go_wp2_with fail
        refine CO.out.mono ?_
        rintro e w2 ⟨rfl, hE2⟩
        have HE2 := Lib.hid (HE.out.trans hE2)
        clear CO hE2 hcr hcb c0
        go_wp2
        go_ret2
        exact ⟨by rw [HR.out]; rfl, HE2.out⟩
    · obtain rfl : k = L.length := by omega
      have HR := Lib.hid (find_end L s fun j m hm => HLT.out j m (List.getElem?_eq_some_iff.1 hm).1 hm)
      have HE := Lib.hid hE
      clear hE hcb
      go_wp2
      go_ret2
      exact ⟨by rw [HR.out]; rfl, HE.out⟩
end Go.Proofs.YtamolbegmkngdaaGreatDoor
namespace Go.Proofs.YtamolbegmkngdaaGreatDoor
open Go.RowKit
set_option maxHeartbeats 2000000
set_option maxRecDepth 100000

/-- The copy's cells are new. -/
def CloneNew (n : Nd) (w : World) (e : Ending) (w' : World) : Prop := ∃ v, e = .returned v ∧ NdS (fun k => w.heap.size ≤ k ∧ k < w'.heap.size) w' v n ∧ Below w.heap.size w w'

theorem rclone_new (n : Nd) (da aa : Option Addr) (dc ac : Nat) (w : World) (hf : Fit n) (hD : Cells w.heap.size w da (n.data.map u8v)) (hA : Cells w.heap.size w aa (acCs n.acl)) :
    Calls Tryz.prog 21 #[.agg (ndC n (.slice da n.data.length dc) (.slice aa n.acl.length ac))] w (CloneNew n w) := by
  obtain ⟨i0, hi, hz0, hz1, hz2⟩ := info_parts infoU8
  obtain ⟨i1, hi', hz0', hz1', hz2'⟩ := info_parts infoAc
  have hfd := hf.data
  have hfa := hf.acl
  obtain ⟨W2, hW2⟩ : ∃ W2, W2 = (w.alloc (.cells (ndC n (.slice da n.data.length dc) (.slice aa n.acl.length ac)) 47)).alloc (.cells #[.string ⟨#[]⟩, .slice none 0 0, .slice none 0 0, .int .i64 0, .int .i64 0, .int .i64 0, .int .i64 0, .int .i64 0, .int .i64 0, .int .i64 0, .int .i64 0, .int .i32 0, .int .i32 0, .int .i32 0, .bool false, .int .i64 0, .int .i64 0] 47) := ⟨_, rfl⟩
  have hs2 : W2.heap.size = w.heap.size + 1 + 1 := by rw [hW2]; simp
  have hb2 : Below w.heap.size w W2 := by rw [hW2]; exact ((Below.refl _ _).alloc (Nat.le_refl _) _).alloc (by simp) _
  have hA2 : W2.heap[w.heap.size]? = some (.cells (ndC n (.slice da n.data.length dc) (.slice aa n.acl.length ac)) 47 (0, 0)) := by rw [hW2]; exact heap_alloc2_old w _ _
  have hR2 : W2.heap[w.heap.size + 1]? = some (.cells #[.string ⟨#[]⟩, .slice none 0 0, .slice none 0 0, .int .i64 0, .int .i64 0, .int .i64 0, .int .i64 0, .int .i64 0, .int .i64 0, .int .i64 0, .int .i64 0, .int .i32 0, .int .i32 0, .int .i32 0, .bool false, .int .i64 0, .int .i64 0] 47 (0, 0)) := by rw [hW2]; exact heap_alloc2_new w _ _
  have hown1 := ownsRow_empty W2 5 1
  rw [hs2] at hown1
  have hsrc1 : Src Tryz.prog 1 42 (.slice da n.data.length dc) n.data.length (n.data.map u8v) (W2.alloc (.cells #[] 5)) := ((hD.below hb2).below ((Below.refl w.heap.size W2).alloc (by omega) _)).src Tryz.underlying42 _ _ (by simp) (one_u8 _)
  have hz3 : (W2.alloc (.cells #[] 5)).heap.size = w.heap.size + 1 + 1 + 1 := by simp [hs2]
  have hZ3 := Lib.hid hz3
  have HW2 := Lib.hid hW2
  rw [hW2] at hown1 hsrc1
  unfold ndC at hown1 hsrc1 hA2 HW2 ⊢
  clear hW2 hz3 hs2
  go_enter Tryz.func21, Tryz.ntmps21
  go_wp2_with (at_builtin; refine wpList_append_src _ rfl (.tmp 3) (.tmp 5) 42 42 rfl (w.heap.size + 1 + 1) 5 i0 (.int .u8 0) 1 1 Tryz.underlying42 hi hz0 hz1 hz2 rfl (by decide) _ 0 _ rfl hown1 _ _ _ rfl hsrc1 ?c1 ?c2 ?c3 ?_)
  case c1 => simp only [maxLen]; omega
  case c2 => omega
  case c3 => simp
  intro v1 w4 ho1 hg1 _ hob1
  rw [← HW2.out] at hg1
  have hZ := hZ3.out
  have nb3 : w.heap.size < (W2.alloc (.cells #[] 5)).heap.size := by omega
  have hA4 : w4.heap[w.heap.size]? = some (.cells (ndC n (.slice da n.data.length dc) (.slice aa n.acl.length ac)) 47 (0, 0)) := by
    rw [hg1.block w.heap.size nb3 (by simp only [Value.ownBlock, ne_eq, Option.some.injEq]; omega), Below.heap_alloc W2 _ w.heap.size (by have := (Array.getElem?_eq_some_iff.1 hA2).1; exact this)]; exact hA2
  have hR4 : ∃ old, w4.heap[w.heap.size + 1]? = some (.cells old 47 (0, 0)) ∧ old.size = 17 := by
    have h := (hg1.block (w.heap.size + 1) (by omega) (by simp only [Value.ownBlock, ne_eq, Option.some.injEq]; omega)).trans ((Below.heap_alloc W2 (.cells #[] 5) (w.heap.size + 1) (by have := (Array.getElem?_eq_some_iff.1 hR2).1; exact this)).trans hR2)
    exact ⟨_, h, rfl⟩
  obtain ⟨old, hR4, hold⟩ := hR4
  have hb4 : Below w.heap.size w w4 := (hb2.alloc (by have := hb2.size; omega) _).grown hg1 (by omega) (fun k hk => by simp only [Value.ownBlock, Option.some.injEq] at hk; omega)
  obtain ⟨va, vc, rfl, hD4⟩ := ownsRow_cells ho1
  have hvb : ∀ b off, va = some ⟨b, off, none⟩ → w.heap.size + 1 + 1 ≤ b := by
    intro b off h
    subst h
    rcases ho1.2 with ⟨h, _⟩ | ⟨g, cap, cur, h, k1, _⟩
    · cases h
    · simp only [Value.slice.injEq, Option.some.injEq, Addr.mk.injEq] at h; omega
  have hz4 := hg1.size
  clear ho1 hg1 hob1 hR2 hb2 hD hZ3
  have hcell : w4.cell? ⟨w.heap.size, 1, none⟩ = some (.slice da n.data.length dc) := by rw [cell_of_row w4 w.heap.size 1 _ _ _ hA4]; rfl
  have hfr : w4.frozen? ⟨w.heap.size, 1, none⟩ = false := frozen_of_row w4 w.heap.size 1 _ _ hA4
  obtain ⟨W5, hW5⟩ : ∃ W5, W5 = w4.setCell ⟨w.heap.size, 1, none⟩ (.slice va n.data.length vc) := ⟨_, rfl⟩
  have hs5 : W5.heap.size = w4.heap.size := by rw [hW5]; simp [World.setCell]
  have hA5 : W5.heap[w.heap.size]? = some (.cells (ndC n (.slice va n.data.length vc) (.slice aa n.acl.length ac)) 47 (0, 0)) := by
    rw [hW5, heap_setCell_same w4 w.heap.size 1 _ _ _ hA4]; rfl
  have hR5 : W5.heap[w.heap.size + 1]? = some (.cells old 47 (0, 0)) := by rw [hW5, Below.heap_setCell _ _ _ _ (by simp)]; exact hR4
  have hb5 : Below w.heap.size w W5 := by rw [hW5]; exact hb4.setCell (p := ⟨w.heap.size, 1, none⟩) (Nat.le_refl _) _
  have hD5 : Cells W5.heap.size W5 va (n.data.map u8v) := fun j u hj => by
    obtain ⟨b, off, h1, h2, h3⟩ := hD4 j u hj
    have := hvb b off h1
    refine ⟨b, off, h1, by omega, ?_⟩
    rw [hW5, World.cell?_of_block (w := w4) (Below.heap_setCell _ _ _ _ (by simp; omega))]
    exact h3
  have hown2 := ownsRow_empty W5 166 3
  rw [hs5] at hown2
  have hsrc2 : Src Tryz.prog 3 43 (.slice aa n.acl.length ac) n.acl.length (acCs n.acl) (W5.alloc (.cells #[] 166)) := ((hA.below hb5).below ((Below.refl w.heap.size W5).alloc (by omega) _)).src Tryz.underlying43 _ _ (acCs_length _) (one_ac _)
  have HW5 := Lib.hid hW5
  have hcell2 : (w4.setCell ⟨w.heap.size, 1, none⟩ (.slice va n.data.length vc)).cell? ⟨w.heap.size, 2, none⟩ = some (.slice aa n.acl.length ac) := by rw [← hW5, cell_of_row W5 w.heap.size 2 _ _ _ hA5]; rfl
  rw [hW5] at hown2 hsrc2
  have HS5 := Lib.hid hs5
  have hnb4 : w.heap.size < w4.heap.size := by omega
  have hnb5 : w.heap.size + 1 < w4.heap.size := by omega
  clear hW5 hs5 hA4 hR4 hb4 hD4 hA2 HW2 hA
  go_wp2_with (at_builtin; refine wpList_append_src _ rfl (.tmp 8) (.tmp 10) 43 43 rfl w4.heap.size 166 i1 (.agg #[.int .i32 0, .string ⟨#[]⟩, .string ⟨#[]⟩]) 3 40 Tryz.underlying43 hi' hz0' hz1' hz2' rfl (by decide) _ 0 _ rfl hown2 _ _ _ rfl hsrc2 ?d1 ?d2 ?d3 ?_)
  case d1 => simp only [maxLen]; omega
  case d2 => omega
  case d3 => simp
  intro v2 w6 ho2 hg2 _ hob2
  rw [← HW5.out] at hg2
  have hs5 := HS5.out
  have hA6 : w6.heap[w.heap.size]? = some (.cells (ndC n (.slice va n.data.length vc) (.slice aa n.acl.length ac)) 47 (0, 0)) :=
    (hg2.block w.heap.size (by simp; omega) (by simp only [Value.ownBlock, ne_eq, Option.some.injEq]; omega)).trans ((Below.heap_alloc W5 _ w.heap.size (by omega)).trans hA5)
  have hR6 : w6.heap[w.heap.size + 1]? = some (.cells old 47 (0, 0)) :=
    (hg2.block (w.heap.size + 1) (by simp; omega) (by simp only [Value.ownBlock, ne_eq, Option.some.injEq]; omega)).trans ((Below.heap_alloc W5 _ (w.heap.size + 1) (by omega)).trans hR5)
  have hb6 : Below w.heap.size w w6 := (hb5.alloc (by omega) _).grown hg2 (by simp; omega) (fun k hk => by simp only [Value.ownBlock, Option.some.injEq] at hk; omega)
  have hz6 := hg2.size
  have hD6 : Cells W5.heap.size w6 va (n.data.map u8v) := fun j u hj => by
    obtain ⟨b, off, h1, h2, h3⟩ := hD5 j u hj
    refine ⟨b, off, h1, h2, (World.cell?_of_block (hg2.block b (by simp; omega) (by simp only [Value.ownBlock, ne_eq, Option.some.injEq]; omega))).trans ?_⟩
    exact (World.cell?_of_block (w := W5) (Below.heap_alloc W5 _ b h2)).trans h3
  obtain ⟨vb, vd, rfl, hE6⟩ := ownsRow_cells ho2
  have hvb2 : ∀ b off, vb = some ⟨b, off, none⟩ → w.heap.size + 1 + 1 ≤ b := by
    intro b off h
    subst h
    rcases ho2.2 with ⟨h, _⟩ | ⟨g, cap, cur, h, k1, _⟩
    · cases h
    · simp only [Value.slice.injEq, Option.some.injEq, Addr.mk.injEq] at h; omega
  clear ho2 hg2 hob2 hA5 hR5 hb5 hD5 hown2 hsrc2 hcell hfr hcell2
  have hcell : w6.cell? ⟨w.heap.size, 2, none⟩ = some (.slice aa n.acl.length ac) := by rw [cell_of_row w6 w.heap.size 2 _ _ _ hA6]; rfl
  have hfr : w6.frozen? ⟨w.heap.size, 2, none⟩ = false := frozen_of_row w6 w.heap.size 2 _ _ hA6
  have hA7 : (w6.setCell ⟨w.heap.size, 2, none⟩ (.slice vb n.acl.length vd)).heap[w.heap.size]? = some (.cells (ndC n (.slice va n.data.length vc) (.slice vb n.acl.length vd)) 47 (0, 0)) := by
    rw [heap_setCell_same w6 w.heap.size 2 _ _ _ hA6]; rfl
  have hR7 : (w6.setCell ⟨w.heap.size, 2, none⟩ (.slice vb n.acl.length vd)).heap[w.heap.size + 1]? = some (.cells old 47 (0, 0)) := by rw [Below.heap_setCell _ _ _ _ (by simp)]; exact hR6
  have HA7 := Lib.hid hA7
  have HR7 := Lib.hid hR7
  clear hA7 hR7 hA6 hR6
  go_wp2_with (first | (refine wpList_load_row rfl 47 (.tmp 1) rfl w.heap.size rfl 47 _ (0, 0) _ HA7.out Tryz.underlying47 rfl sizeNd ?_) | (refine wpList_store_row rfl 47 (.tmp 2) (.tmp 13) rfl (w.heap.size + 1) _ rfl rfl 47 old HR7.out sizeNd hold (cells_node n va vb _ _ vc vd) ?_))
  obtain ⟨W7, hW7⟩ : ∃ W7, W7 = w6.setCell ⟨w.heap.size, 2, none⟩ (.slice vb n.acl.length vd) := ⟨_, rfl⟩
  have hA7 := HA7.out
  have hR7 := HR7.out
  rw [← hW7] at hA7 hR7 ⊢
  have hs7 : W7.heap.size = w6.heap.size := by rw [hW7]; simp [World.setCell]
  have hb7 : Below w.heap.size w W7 := by rw [hW7]; exact hb6.setCell (p := ⟨w.heap.size, 2, none⟩) (Nat.le_refl _) _
  have ho7 : ∀ b, w.heap.size + 1 + 1 ≤ b → W7.heap[b]? = w6.heap[b]? := fun b hb => by rw [hW7]; exact Below.heap_setCell _ _ _ _ (by simp; omega)
  obtain ⟨cs, hcs⟩ : ∃ cs, cs = ndC n (.slice va n.data.length vc) (.slice vb n.acl.length vd) := ⟨_, rfl⟩
  rw [← hcs] at hA7 ⊢
  have hR8 := setRow_heap W7 (w.heap.size + 1) old cs 47 (0, 0) hR7
  have hs8 : (W7.setRow (w.heap.size + 1) cs).heap.size = W7.heap.size := by simp [World.setRow]
  have hb8 : Below w.heap.size w (W7.setRow (w.heap.size + 1) cs) :=
    hb7.trans ⟨rfl, rfl, rfl, by rw [hs8]; exact Nat.le_refl _, fun k hk => setRow_other _ _ _ _ (by omega)⟩
  have ho8 : ∀ b, w.heap.size + 1 + 1 ≤ b → (W7.setRow (w.heap.size + 1) cs).heap[b]? = w6.heap[b]? := fun b hb => (setRow_other _ _ _ _ (by omega)).trans (ho7 b hb)
  have hz := HS5.out
  have hzz : W5.heap.size ≤ w6.heap.size := by have := hz6; simp at this; omega
  have cD : CellsS (fun k => w.heap.size ≤ k ∧ k < (W7.setRow (w.heap.size + 1) cs).heap.size) (W7.setRow (w.heap.size + 1) cs) va (n.data.map u8v) := fun j u hj => by
    obtain ⟨b, off, h1, h2, h3⟩ := hD6 j u hj
    have h4 := hvb b off h1
    exact ⟨b, off, h1, ⟨by omega, by omega⟩, (World.cell?_of_block (ho8 b h4)).trans h3⟩
  have cA : CellsS (fun k => w.heap.size ≤ k ∧ k < (W7.setRow (w.heap.size + 1) cs).heap.size) (W7.setRow (w.heap.size + 1) cs) vb (acCs n.acl) := fun j u hj => by
    obtain ⟨b, off, h1, h2, h3⟩ := hE6 j u hj
    have h4 := hvb2 b off h1
    exact ⟨b, off, h1, ⟨by omega, by omega⟩, (World.cell?_of_block (ho8 b h4)).trans h3⟩
  have hsz17 : (Tryz.prog.info? 47).map (·.size) = some cs.size := by rw [hcs]; exact sizeNd
  refine bodyPost_ret (v := .agg cs) ?_ rfl ⟨_, rfl, ⟨va, vc, vb, vd, by rw [hcs], cD, cA⟩, hb8⟩
  exact results_cell_row (p := 2) (ty := 47) rfl _ _ (w.heap.size + 1) 47 cs (0, 0) _ rfl hR8 Tryz.underlying47 rfl hsz17

theorem rclone_any (n : Nd) (da aa : Option Addr) (dc ac : Nat) (w : World) (hf : Fit n) (hD : Cells w.heap.size w da (n.data.map u8v)) (hA : Cells w.heap.size w aa (acCs n.acl)) :
    Calls Tryz.prog 21 #[.agg (ndC n (.slice da n.data.length dc) (.slice aa n.acl.length ac))] w (CloneN n w) :=
  (rclone_new n da aa dc ac w hf hD hA).mono fun e w' h => by
    obtain ⟨v, rfl, ⟨va, vc, vb, vd, rfl, h1, h2⟩, hb⟩ := h
    exact ⟨_, rfl, ⟨va, vc, vb, vd, rfl, h1.cells fun _ hb => hb.2, h2.cells fun _ hb => hb.2⟩, hb⟩
end Go.Proofs.YtamolbegmkngdaaGreatDoor
