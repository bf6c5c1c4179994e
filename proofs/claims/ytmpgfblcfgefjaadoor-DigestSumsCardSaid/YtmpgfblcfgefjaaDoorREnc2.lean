/- The walks of the reference's record of a node, whole. -/
import Derived.Test.YtmpgfblcfgefjaaDoorREnc
import Derived.Test.YtmpgfblcfgefjaaDoorNdV
namespace Go.Proofs.YtmpgfblcfgefjaaDoor
open Go.RowKit
set_option maxHeartbeats 2000000
set_option maxRecDepth 100000

theorem racl_any (B : Nat) (v : Value) (l : List UInt8) (a : Option Addr) (c : Nat) (xs : List Ac) (w : World) (hv : OwnB B w v l) (hB : B ≤ w.heap.size) (hc : Cells B w a (acCs xs)) (hn : xs.length ≤ 16) (hx : ∀ x ∈ xs, x.scheme.size ≤ 256 ∧ x.id.size ≤ 256) (hlen : l.length ≤ 70368744000000) :
    Calls Tryd.prog 37 #[v, .slice a xs.length c] w (PutR B v (l ++ be xs.length 4 ++ acBs xs) w) := by
  have HX := Lib.hid hx
  have HLE := Lib.hid (acBs_le xs hx)
  clear hx
  go_enter Tryd.func37, Tryd.ntmps37
  go_wp2_with fail
  refine (rput_any B v l xs.length 4 _ w rfl (by omega) (by omega) (by omega) hv hB (by omega)).mono ?_
  rintro e w1 ⟨v1, rfl, k1, k2, k3⟩
  have hsz1 := k2.size
  go_wp2
  go_loopw [0, 5] (fun vb i wr => ∃ k : Nat, k ≤ xs.length ∧ i = .int .i64 k ∧ OwnB B wr vb (l ++ be xs.length 4 ++ acBs (xs.take k)) ∧ Below B w wr ∧ RowKeep v vb w wr) (fun _ i _ => xs.length - (intOf i).toNat)
  case atStart => exact ⟨0, Nat.zero_le _, rfl, by simpa [acBs] using k1, k2, k3⟩
  case round =>
    obtain ⟨k, hk, rfl, m1, m2, m3⟩ := hrel
    by_cases hlt : k < xs.length
    · obtain ⟨b, off, rfl, hb, c0, c1, c2⟩ := acCells (hc.below m2) k hlt
      have hx2 := HX.out xs[k] (List.getElem_mem hlt)
      have hle := HLE.out k (by omega)
      have htk := Lib.hid (acBs_take xs k hlt)
      have hszr := m2.size
      have keep : ∀ w' o, Below B wr w' → w'.cell? ⟨b, o, none⟩ = wr.cell? ⟨b, o, none⟩ := fun w' o h => h.cell (p := ⟨b, o, none⟩) hb
      have KEEP := Lib.hid keep
      have HLL : Hid ((l ++ be xs.length 4 ++ acBs (xs.take k)).length = l.length + 4 + (acBs (xs.take k)).length) := by simp [Hid, be_length]; omega
      clear keep
      go_wp2_with fail
      refine (rput_any B _ _ (xs[k].perms % 4294967296) 4 _ wr rfl (by omega) (by omega) (by omega) m1 (by omega) (by have := HLL.out; omega)).mono ?_
      rintro e w2 ⟨v2, rfl, p1, p2, p3⟩
      have d1 : w2.cell? ⟨b, off + k * 3 + 1, none⟩ = some (.string xs[k].scheme) := (KEEP.out w2 _ p2).trans c1
      have hsz2 := p2.size
      clear c0
      go_wp2_with fail
      refine (rtext_any B _ _ xs[k].scheme w2 p1 (by omega) (by omega) (by have := HLL.out; simp only [List.length_append, be_length] at *; omega)).mono ?_
      rintro e w3 ⟨v3, rfl, q1, q2, q3⟩
      have d2 : w3.cell? ⟨b, off + k * 3 + 2, none⟩ = some (.string xs[k].id) := (KEEP.out w3 _ (p2.trans q2)).trans c2
      have hsz3 := q2.size
      clear d1 c1
      go_wp2_with fail
      refine (rtext_any B _ _ xs[k].id w3 q1 (by omega) (by omega) (by have := HLL.out; simp only [List.length_append, be_length, txt_length] at *; omega)).mono ?_
      rintro e w4 ⟨v4, rfl, r1, r2, r3⟩
      have hbw := m2.trans (p2.trans (q2.trans r2))
      have hkw := m3.trans (p3.trans (q3.trans r3))
      have r1 : OwnB B w4 v4 (l ++ be xs.length 4 ++ acBs (xs.take (k + 1))) := by rw [htk.out]; simpa [acB, List.append_assoc] using r1
      clear d2 c2 p1 p2 p3 q1 q2 q3 r2 r3 m1 m2 m3 hle htk HLL
      go_wp2
      go_roundw
      case rel => exact ⟨k + 1, by omega, by go_num, r1, hbw, hkw⟩
      case measure => simp [intOf]; omega
    · obtain rfl : k = xs.length := by omega
      rw [List.take_length] at m1
      clear hc
      go_wp2
      go_ret
      exact ⟨_, rfl, by simpa using m1, m2, m3⟩

theorem txt_list (xs : List UInt8) : txt ⟨xs.toArray⟩ = be xs.length 4 ++ xs := by
  simp [txt]
  rfl
end Go.Proofs.YtmpgfblcfgefjaaDoor
