/- The walk of the sum of bytes; a node's number. -/
import Derived.Test.YtmpgfblcfgefjaaDoorEnc3
namespace Go.Proofs.YtmpgfblcfgefjaaDoor
open Go.RowKit
set_option maxHeartbeats 2000000
set_option maxRecDepth 100000

def fnvStep (h : Int) (c : UInt8) : Int := IntKind.u64.wrap (bits .xor .u64 h (IntKind.u64.wrap c.toNat) * 1099511628211)
def fnv0 : Int := 14695981039346656037
def fnv (l : List UInt8) : Int := l.foldl fnvStep fnv0
theorem fnv_take (l : List UInt8) (k : Nat) (h : k < l.length) : fnv (l.take (k + 1)) = fnvStep (fnv (l.take k)) l[k] := by
  unfold fnv; rw [List.take_succ_eq_append_getElem h, List.foldl_append]; rfl

theorem byteCell {B : Nat} {w : World} {a : Option Addr} {l : List UInt8} (h : Cells B w a (l.map u8v)) (k : Nat) (hk : k < l.length) : ∃ b off, a = some ⟨b, off, none⟩ ∧ b < B ∧ w.cell? ⟨b, off + k, none⟩ = some (.int .u8 l[k].toNat) := by
  obtain ⟨b, off, h1, h2, h3⟩ := h k (u8v l[k]) (by simp [List.getElem?_eq_getElem hk])
  exact ⟨b, off, h1, h2, h3⟩

theorem sum_any (a : Option Addr) (c : Nat) (l : List UInt8) (w : World) (hc : Cells w.heap.size w a (l.map u8v)) (hl : l.length ≤ 9223372036854775800) :
    Calls Tryd.prog 5 #[.slice a l.length c] w fun e w' => e = .returned (.int .u64 (fnv l)) ∧ w = w' := by
  go_enter Tryd.func5, Tryd.ntmps5
  go_wp2
  go_loop [3, 8] (fun h i => ∃ k : Nat, k ≤ l.length ∧ i = .int .i64 k ∧ h = .int .u64 (fnv (l.take k))) (fun _ i => l.length - (intOf i).toNat)
  case atStart => exact ⟨0, Nat.zero_le _, rfl, rfl⟩
  case round =>
    obtain ⟨k, hk, rfl, rfl⟩ := hrel
    by_cases hlt : k < l.length
    · obtain ⟨b, off, rfl, hb, c0⟩ := byteCell hc k hlt
      have H := Lib.hid (fnv_take l k hlt)
      generalize fnv (l.take k) = h0 at *
      go_wp2
      go_round
      case rel => exact ⟨k + 1, by omega, by go_num, by rw [H.out]; rfl⟩
      case measure => simp [intOf]; omega
    · obtain rfl : k = l.length := by omega
      rw [List.take_length]
      clear hc
      go_wp2
      go_ret
      exact ⟨rfl, rfl⟩

/-- A node's number. -/
def nodeN (n : Nd) : Int := if rightN n = 0 then fnv (encN n) else 0
def NodeOut (n : Nd) (w : World) (e : Ending) (w' : World) : Prop := e = .returned (.int .u64 (nodeN n)) ∧ Below w.heap.size w w'

theorem encN_length (n : Nd) (hr : rightN n = 0) : (encN n).length ≤ 2000000 := by
  have hrs := right_sizes n hr
  have h1 := acBs_le n.acl hrs.2.2.2 n.acl.length (Nat.le_refl _)
  rw [List.take_length] at h1
  have e1 : (longsN n).length = 8 := rfl
  have e2 : (intsN n).length = 3 := rfl
  simp only [encN, List.length_append, txt_length, be_length, longsB_length, intsB_length, e1, e2, List.length_cons, List.length_nil]
  omega
end Go.Proofs.YtmpgfblcfgefjaaDoor
