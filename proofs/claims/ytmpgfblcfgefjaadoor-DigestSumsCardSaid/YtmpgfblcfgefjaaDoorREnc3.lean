/- The walk of the reference's record of a node. -/
import Derived.Test.YtmpgfblcfgefjaaDoorREnc2
namespace Go.Proofs.YtmpgfblcfgefjaaDoor
open Go.RowKit
set_option maxHeartbeats 2000000
set_option maxRecDepth 100000

def AwR (v : Value) (w : World) (g : Nat) (cs : Array Value) : Prop := g < w.heap.size ∧ v.ownBlock ≠ some g ∧ Box w g cs
theorem AwR.keep {v v' : Value} {w w' : World} {g : Nat} {cs : Array Value} (h : AwR v w g cs) (hk : RowKeep v v' w w') : AwR v' w' g cs :=
  ⟨Nat.lt_of_lt_of_le h.1 hk.1, (hk.2 g h.1 h.2.1).2, fun j => (World.cell?_of_block (hk.2 g h.1 h.2.1).1).trans (h.2.2 j)⟩
theorem AwR.new {B : Nat} {v : Value} {w : World} {l : List UInt8} (hv : OwnB B w v l) (cs : Array Value) (e : TypeId) : AwR v (w.alloc (.cells cs e)) w.heap.size cs :=
  ⟨by simp, fun h => by have := (hv.lt _ h).1; omega, Box.alloc w cs e⟩

theorem rnput_any (B : Nat) (v : Value) (l : List UInt8) (n : Nd) (da aa : Option Addr) (dc ac : Nat) (w : World) (hv : OwnB B w v l) (hB : B ≤ w.heap.size) (hD : Cells B w da (n.data.map u8v)) (hA : Cells B w aa (acCs n.acl)) (hr : rightN n = 0) (hlen : l.length ≤ 70368700000000) :
    Calls Tryd.prog 24 #[v, .agg (ndC n (.slice da n.data.length dc) (.slice aa n.acl.length ac))] w (PutR B v (l ++ encN n) w) := by
  have hrs := right_sizes n hr
  have hs1 := hrs.1
  have hs2 := hrs.2.1
  have hs3 := hrs.2.2.1
  have HS4 := Lib.hid hrs.2.2.2
  clear hrs hr
  have hbx := AwR.new hv (ndC n (.slice da n.data.length dc) (.slice aa n.acl.length ac)) 27
  have hv1 := hv.alloc (.cells (ndC n (.slice da n.data.length dc) (.slice aa n.acl.length ac)) 27)
  have hb1 : Below B w (w.alloc (.cells (ndC n (.slice da n.data.length dc) (.slice aa n.acl.length ac)) 27)) := (Below.refl _ _).alloc hB _
  have hk1 := RowKeep.alloc v w (.cells (ndC n (.slice da n.data.length dc) (.slice aa n.acl.length ac)) 27)
  unfold ndC at hbx hv1 hb1 hk1 ⊢
  go_enter Tryd.func24, Tryd.ntmps24
  have hq := hbx.2.2
  unfold Box at hq
  go_wp2_with fail
  refine (rtext_any B v l n.path _ hv1 (by simp; omega) (by omega) (by omega)).mono ?_
  rintro e w2 ⟨v2, rfl, k1, k2, k3⟩
  have hx2 := hbx.keep k3
  have hb2 := hb1.trans k2
  have hK2 := hk1.trans k3
  have hz2 := hb2.size
  clear hq hbx hb1 hk1 hv1 k2 k3
  have hq := hx2.2.2
  unfold Box at hq
  have hcv := fun c => conv_string c (hD.below hb2)
  go_wp2_with fail
  refine (rtext_any B v2 _ ⟨n.data.toArray⟩ w2 k1 (by omega) (by show n.data.toArray.size < _; simp; omega) (by show _ + n.data.toArray.size + 4 ≤ _; simp [txt_length]; omega)).mono ?_
  rintro e w3 ⟨v3, rfl, m1, m2, m3⟩
  rw [txt_list n.data] at m1
  have hx3 := hx2.keep m3
  have hb3 := hb2.trans m2
  have hK3 := hK2.trans m3
  have hz3 := hb3.size
  clear hq hcv hx2 hb2 hK2 k1 m2 m3
  have hq := hx3.2.2
  unfold Box at hq
  go_wp2_with fail
  refine (racl_any B v3 _ aa ac n.acl w3 m1 (by omega) (hA.below hb3) hs3 HS4.out (by simp [txt_length, be_length]; omega)).mono ?_
  rintro e w4 ⟨v4, rfl, n1, n2, n3⟩
  have hx4 := hx3.keep n3
  have hb4 := hb3.trans n2
  have hK4 := hK3.trans n3
  have hz4 := hb4.size
  clear hq hx3 hb3 hK3 m1 n2 n3
  have hq := hx4.2.2
  unfold Box at hq
  obtain ⟨l4, hl4, he4, n1⟩ : Exists fun l4 => l4.length ≤ 70368720000000 ∧ Hid (l4 = l ++ (txt n.path ++ (be n.data.length 4 ++ n.data) ++ (be n.acl.length 4 ++ acBs n.acl))) ∧ OwnB B w4 v4 l4 := by
    refine ⟨_, ?_, rfl, by simpa [List.append_assoc] using n1⟩
    have := acBs_le n.acl HS4.out n.acl.length (Nat.le_refl _)
    rw [List.take_length] at this
    simp [txt_length, be_length]; omega
  have hv5 := n1.alloc (.cells (longsN n |>.map (Value.int .i64)).toArray 76)
  have hG1 := AwR.new n1 (longsN n |>.map (Value.int .i64)).toArray 76
  have hkA := RowKeep.alloc v4 w4 (.cells (longsN n |>.map (Value.int .i64)).toArray 76)
  have hx5 := hx4.keep hkA
  have hb5 : Below B w (w4.alloc (.cells (longsN n |>.map (Value.int .i64)).toArray 76)) := hb4.alloc (by omega) _
  have hK5 := hK4.trans hkA
  have hl8 : (longsN n).map (Value.int .i64) = [.int .i64 n.owner, .int .i64 n.czxid, .int .i64 n.mzxid, .int .i64 n.pzxid, .int .i64 n.azxid, .int .i64 n.qzxid, .int .i64 n.ctime, .int .i64 n.mtime] := rfl
  rw [hl8] at hv5 hG1 hx5 hb5 hK5
  clear hkA hx4 hb4 hK4 n1
  have HG : Hid (∀ k, (h : k < 8) → ∃ x : Int, (longsN n)[k]? = some x ∧ ([.int .i64 n.owner, .int .i64 n.czxid, .int .i64 n.mzxid, .int .i64 n.pzxid, .int .i64 n.azxid, .int .i64 n.qzxid, .int .i64 n.ctime, .int .i64 n.mtime] : List Value).toArray[k]? = some (.int .i64 x)) := by
    intro k hk
    rcases (by omega : k = 0 ∨ k = 1 ∨ k = 2 ∨ k = 3 ∨ k = 4 ∨ k = 5 ∨ k = 6 ∨ k = 7) with rfl | rfl | rfl | rfl | rfl | rfl | rfl | rfl <;> exact ⟨_, rfl, rfl⟩
  clear hl8
  go_wp2
  obtain ⟨w5, hw5⟩ : ∃ w5, w5 = w4.alloc (.cells #[.int .i64 n.owner, .int .i64 n.czxid, .int .i64 n.mzxid, .int .i64 n.pzxid, .int .i64 n.azxid, .int .i64 n.qzxid, .int .i64 n.ctime, .int .i64 n.mtime] 76) := ⟨_, rfl⟩
  generalize hw5' : w4.alloc (.cells #[.int .i64 n.owner, .int .i64 n.czxid, .int .i64 n.mzxid, .int .i64 n.pzxid, .int .i64 n.azxid, .int .i64 n.qzxid, .int .i64 n.ctime, .int .i64 n.mtime] 76) = w5 at hv5 hG1 hx5 hb5 hK5 ⊢
  generalize w4.heap.size = g1 at hG1 ⊢
  clear hw5 hw5' hq
  go_loopw [0, 6] (fun vb i wr => ∃ k : Nat, k ≤ 8 ∧ i = .int .i64 k ∧ OwnB B wr vb (l4 ++ longsB ((longsN n).take k)) ∧ Below B w wr ∧ RowKeep v vb w wr ∧ RowKeep v4 vb w5 wr) (fun _ i _ => 8 - (intOf i).toNat)
  case atStart => exact ⟨0, by omega, rfl, by simpa [longsB] using hv5, hb5, hK5, RowKeep.refl _ _⟩
  case round =>
    obtain ⟨k, hk, rfl, q1, q2, q3, q4⟩ := hrel
    have hszr := q2.size
    by_cases hlt : k < 8
    · obtain ⟨x, x1, x2⟩ := HG.out k hlt
      have c1 : wr.cell? ⟨g1, k, none⟩ = some (.int .i64 x) := ((hG1.keep q4).2.2 k).trans x2
      have hwr := wrap_u64 x
      have htk : Hid (longsB ((longsN n).take (k + 1)) = longsB ((longsN n).take k) ++ be (IntKind.u64.wrap x) 8) := by
        have hl : k < (longsN n).length := hlt
        unfold Hid
        rw [longsB_take _ k hl]
        rw [List.getElem?_eq_getElem hl] at x1
        rw [Option.some.inj x1]
      clear x1 x2
      go_wp2_with fail
      refine (rput_any B _ _ (IntKind.u64.wrap x) 8 _ wr rfl hwr.1 hwr.2 (by omega) q1 (by omega) (by simp [longsB_length]; omega)).mono ?_
      rintro e w' ⟨v', rfl, r1, r2, r3⟩
      rw [List.append_assoc, ← htk.out] at r1
      have hB' := q2.trans r2
      have hK' := q3.trans r3
      have hK'' := q4.trans r3
      clear c1 q1 q2 q3 q4 r2 r3 htk hwr
      go_wp2
      go_roundw
      case rel => exact ⟨k + 1, by omega, by go_num, r1, hB', hK', hK''⟩
      case measure => simp [intOf]; omega
    · obtain rfl : k = 8 := by omega
      have q1 : OwnB B wr _ (l4 ++ longsB (longsN n)) := q1
      have hx6 := hx5.keep q4
      have hq := hx6.2.2
      unfold Box at hq
      obtain ⟨wo, rfl⟩ : ∃ wo : World, wo = wr := ⟨_, rfl⟩
      rw [show ((8 : Nat) : Int) = 8 from rfl]
      clear hG1 HG q4 hv5 hb5 hK5 hx5
      obtain ⟨vo, rfl⟩ : ∃ vo : Value, vo = u0 := ⟨_, rfl⟩
      have hv5 := q1.alloc (.cells #[.int .i32 n.version, .int .i32 n.creates, .int .i32 n.aversion] 78)
      have hG1 := AwR.new q1 #[.int .i32 n.version, .int .i32 n.creates, .int .i32 n.aversion] 78
      have hkA := RowKeep.alloc vo wo (.cells #[.int .i32 n.version, .int .i32 n.creates, .int .i32 n.aversion] 78)
      have hx7 := hx6.keep hkA
      have hb7 : Below B w (wo.alloc (.cells #[.int .i32 n.version, .int .i32 n.creates, .int .i32 n.aversion] 78)) := q2.alloc (by omega) _
      have hK7 := q3.trans hkA
      have HG : Hid (∀ k, (h : k < 3) → ∃ x : Int, (intsN n)[k]? = some x ∧ (#[.int .i32 n.version, .int .i32 n.creates, .int .i32 n.aversion] : Array Value)[k]? = some (.int .i32 x)) := by
        intro k hk
        rcases (by omega : k = 0 ∨ k = 1 ∨ k = 2) with rfl | rfl | rfl <;> exact ⟨_, rfl, rfl⟩
      clear hkA hx6 q1 q2 q3
      go_wp2
      generalize wo.alloc (.cells #[.int .i32 n.version, .int .i32 n.creates, .int .i32 n.aversion] 78) = w7 at hv5 hG1 hx7 hb7 hK7 ⊢
      generalize wo.heap.size = g2 at hG1 hszr ⊢
      clear hq
      go_loopw [0, 8] (fun vb i wr => ∃ k : Nat, k ≤ 3 ∧ i = .int .i64 k ∧ OwnB B wr vb (l4 ++ longsB (longsN n) ++ intsB ((intsN n).take k)) ∧ Below B w wr ∧ RowKeep v vb w wr ∧ RowKeep vo vb w7 wr) (fun _ i _ => 3 - (intOf i).toNat)
      case atStart => exact ⟨0, by omega, rfl, by simpa [intsB] using hv5, hb7, hK7, RowKeep.refl _ _⟩
      case round =>
        obtain ⟨k, hk, rfl, q1, q2, q3, q4⟩ := hrel
        have hszr := q2.size
        have hll : (longsB (longsN n)).length = 64 := by rw [longsB_length]; rfl
        by_cases hlt : k < 3
        · obtain ⟨x, x1, x2⟩ := HG.out k hlt
          have c1 : wr.cell? ⟨g2, k, none⟩ = some (.int .i32 x) := ((hG1.keep q4).2.2 k).trans x2
          have htk : Hid (intsB ((intsN n).take (k + 1)) = intsB ((intsN n).take k) ++ be (x % 4294967296) 4) := by
            have hl : k < (intsN n).length := hlt
            unfold Hid
            rw [intsB_take _ k hl]
            rw [List.getElem?_eq_getElem hl] at x1
            rw [Option.some.inj x1]
          have HLL := Lib.hid hll
          clear x1 x2 hll
          go_wp2_with fail
          refine (rput_any B _ _ (x % 4294967296) 4 _ wr rfl (by omega) (by omega) (by omega) q1 (by omega) (by have := HLL.out; simp [intsB_length]; omega)).mono ?_
          rintro e w' ⟨v', rfl, r1, r2, r3⟩
          rw [List.append_assoc, ← htk.out] at r1
          have hB' := q2.trans r2
          have hK' := q3.trans r3
          have hK'' := q4.trans r3
          clear c1 q1 q2 q3 q4 r2 r3 htk
          go_wp2
          go_roundw
          case rel => exact ⟨k + 1, by omega, by go_num, r1, hB', hK', hK''⟩
          case measure => simp [intOf]; omega
        · obtain rfl : k = 3 := by omega
          have q1 : OwnB B wr u0 (l4 ++ longsB (longsN n) ++ intsB (intsN n)) := q1
          have hl2 : (intsB (intsN n)).length = 12 := by rw [intsB_length]; rfl
          have HL1 := Lib.hid hll
          have HL2 := Lib.hid hl2
          have hx8 := hx7.keep q4
          have hq := hx8.2.2
          unfold Box at hq
          clear hG1 HG q4 hv5 hb7 hK7 hx7 hll hl2
          cases hh : n.has
          · skip
            rw [hh] at hq
            have HE : Hid (encN n = txt n.path ++ (be n.data.length 4 ++ n.data) ++ (be n.acl.length 4 ++ acBs n.acl) ++ longsB (longsN n) ++ intsB (intsN n) ++ be 0 1 ++ be (IntKind.u64.wrap n.count) 8 ++ be (IntKind.u64.wrap n.bytes) 8) := by
              unfold Hid encN; rw [hh]; rfl
            have hwc := wrap_u64 n.count
            have hwb := wrap_u64 n.bytes
            have hq14 : ∀ w', RowKeep u0 u0 wr w' → True := fun _ _ => trivial
            clear hh hq14
            go_wp2_with fail
            refine (rput_any B _ _ 0 1 _ wr rfl (by omega) (by omega) (by omega) q1 (by omega) (by have := HL1.out; have := HL2.out; simp; omega)).mono ?_
            rintro e w9 ⟨v9, rfl, r1, r2, r3⟩
            have hx9 := hx8.keep r3
            have hb9 := q2.trans r2
            have hK9 := q3.trans r3
            have hz9 := hb9.size
            clear hq q1 q2 q3 r2 r3
            have hq := hx9.2.2
            unfold Box at hq
            go_wp2_with fail
            refine (rput_any B _ _ (IntKind.u64.wrap n.count) 8 _ w9 rfl hwc.1 hwc.2 (by omega) r1 (by omega) (by have := HL1.out; have := HL2.out; simp [be_length]; omega)).mono ?_
            rintro e w10 ⟨v10, rfl, s1, s2, s3⟩
            have hx10 := hx9.keep s3
            have hb10 := hb9.trans s2
            have hK10 := hK9.trans s3
            have hz10 := hb10.size
            clear hq r1 hb9 hK9 s2 s3
            have hq := hx10.2.2
            unfold Box at hq
            go_wp2_with fail
            refine (rput_any B _ _ (IntKind.u64.wrap n.bytes) 8 _ w10 rfl hwb.1 hwb.2 (by omega) s1 (by omega) (by have := HL1.out; have := HL2.out; simp [be_length]; omega)).mono ?_
            rintro e w11 ⟨v11, rfl, t1, t2, t3⟩
            have hb11 := hb10.trans t2
            have hK11 := hK10.trans t3
            have ho : OwnB B w11 v11 (l ++ encN n) := by rw [HE.out]; rw [he4.out] at t1; simpa [List.append_assoc] using t1
            clear hq s1 hb10 hK10 t1 t2 t3
            go_wp2
            go_ret
            exact ⟨v11, rfl, ho, hb11, hK11⟩
          · skip
            rw [hh] at hq
            have HE : Hid (encN n = txt n.path ++ (be n.data.length 4 ++ n.data) ++ (be n.acl.length 4 ++ acBs n.acl) ++ longsB (longsN n) ++ intsB (intsN n) ++ be 1 1 ++ be (IntKind.u64.wrap n.count) 8 ++ be (IntKind.u64.wrap n.bytes) 8) := by
              unfold Hid encN; rw [hh]; rfl
            have hwc := wrap_u64 n.count
            have hwb := wrap_u64 n.bytes
            have hq14 : ∀ w', RowKeep u0 u0 wr w' → True := fun _ _ => trivial
            clear hh hq14
            go_wp2_with fail
            refine (rput_any B _ _ 1 1 _ wr rfl (by omega) (by omega) (by omega) q1 (by omega) (by have := HL1.out; have := HL2.out; simp; omega)).mono ?_
            rintro e w9 ⟨v9, rfl, r1, r2, r3⟩
            have hx9 := hx8.keep r3
            have hb9 := q2.trans r2
            have hK9 := q3.trans r3
            have hz9 := hb9.size
            clear hq q1 q2 q3 r2 r3
            have hq := hx9.2.2
            unfold Box at hq
            go_wp2_with fail
            refine (rput_any B _ _ (IntKind.u64.wrap n.count) 8 _ w9 rfl hwc.1 hwc.2 (by omega) r1 (by omega) (by have := HL1.out; have := HL2.out; simp [be_length]; omega)).mono ?_
            rintro e w10 ⟨v10, rfl, s1, s2, s3⟩
            have hx10 := hx9.keep s3
            have hb10 := hb9.trans s2
            have hK10 := hK9.trans s3
            have hz10 := hb10.size
            clear hq r1 hb9 hK9 s2 s3
            have hq := hx10.2.2
            unfold Box at hq
            go_wp2_with fail
            refine (rput_any B _ _ (IntKind.u64.wrap n.bytes) 8 _ w10 rfl hwb.1 hwb.2 (by omega) s1 (by omega) (by have := HL1.out; have := HL2.out; simp [be_length]; omega)).mono ?_
            rintro e w11 ⟨v11, rfl, t1, t2, t3⟩
            have hb11 := hb10.trans t2
            have hK11 := hK10.trans t3
            have ho : OwnB B w11 v11 (l ++ encN n) := by rw [HE.out]; rw [he4.out] at t1; simpa [List.append_assoc] using t1
            clear hq s1 hb10 hK10 t1 t2 t3
            go_wp2
            go_ret
            exact ⟨v11, rfl, ho, hb11, hK11⟩
end Go.Proofs.YtmpgfblcfgefjaaDoor
