/- Plain laws: a character read by hand, as the document's reference reads it, is the model's decoding. -/
import Derived.Test.YtfgjbcejpjcpeaaDoorPl
namespace Go.Proofs.YtfgjbcejpjcpeaaDoor
open Go.RowKit

def contOk (s : ByteArray) (i : Nat) : Prop := i < s.size ∧ 128 ≤ bat s i ∧ bat s i < 192

/-- The number read of a lead and k bytes behind it. -/
def acc (s : ByteArray) (p : Nat) (r0 : Int) : Nat → Int
  | 0 => r0
  | k + 1 => 64 * acc s p r0 k + bat s (p + (k + 1)) - 128

theorem acc_bd (s : ByteArray) (p : Nat) (r0 : Int) (h0 : 0 ≤ r0) (h1 : r0 < 32) : ∀ k, (∀ j, 1 ≤ j → j ≤ k → contOk s (p + j)) → 0 ≤ acc s p r0 k ∧ acc s p r0 k < 32 * (64 ^ k : Nat)
  | 0, _ => by simp [acc]; omega
  | k + 1, h => by
    have ih := acc_bd s p r0 h0 h1 k (fun j a b => h j a (by omega))
    have hc := (h (k + 1) (by omega) (by omega)).2
    simp only [acc]
    have : (64 ^ (k + 1) : Nat) = 64 * 64 ^ k := by rw [Nat.pow_succ, Nat.mul_comm]
    rw [this]
    generalize (64 ^ k : Nat) = q at *
    omega

theorem acc_le (s : ByteArray) (p : Nat) (r0 : Int) (h0 : 0 ≤ r0) (h1 : r0 < 32) (k : Nat) (hk : k ≤ 3) (h : ∀ j, 1 ≤ j → j ≤ k → contOk s (p + j)) : 0 ≤ acc s p r0 k ∧ acc s p r0 k ≤ 8388608 := by
  have := acc_bd s p r0 h0 h1 k h
  rcases (by omega : k = 0 ∨ k = 1 ∨ k = 2 ∨ k = 3) with rfl | rfl | rfl | rfl <;> simp at this ⊢ <;> omega

/-- What leads so many bytes: their number, what the lead takes off, the least number. -/
def Lead (s : ByteArray) (p n : Nat) (off least : Int) : Prop :=
  (n = 2 ∧ off = 192 ∧ least = 128 ∧ 192 ≤ bat s p ∧ bat s p < 224) ∨ (n = 3 ∧ off = 224 ∧ least = 2048 ∧ 224 ≤ bat s p ∧ bat s p < 240) ∨ (n = 4 ∧ off = 240 ∧ least = 65536 ∧ 240 ≤ bat s p ∧ bat s p < 248)

theorem not_cont (s : ByteArray) (i : Nat) (h : ¬ contOk s i) : (decide (i < s.size) && bat s i / 64 == 2) = false := by
  unfold contOk at h
  rw [Bool.and_eq_false_iff]
  by_cases hi : i < s.size
  · right; rw [beq_eq_false_iff_ne]; have := bat_lt s i; omega
  · left; simpa using hi
theorem is_cont (s : ByteArray) (i : Nat) (h : contOk s i) : (decide (i < s.size) && bat s i / 64 == 2) = true := by
  unfold contOk at h
  rw [Bool.and_eq_true, decide_eq_true_eq, beq_iff_eq]
  exact ⟨h.1, by omega⟩

theorem dec_bad (s : ByteArray) (p n : Nat) (off least : Int) (hl : Lead s p n off least) (k : Nat) (h1 : 1 ≤ k) (hk : k < n) (hc : ¬ contOk s (p + k)) : Utf8.decode s p = (65533, 1) := by
  rw [dec_eq]
  have hn := not_cont s (p + k) hc
  rcases hl with ⟨rfl, _, _, a, b⟩ | ⟨rfl, _, _, a, b⟩ | ⟨rfl, _, _, a, b⟩
  · obtain rfl : k = 1 := by omega
    rw [if_neg (by omega), if_neg (by simp only [hn]; simp), if_neg (by simp; omega), if_neg (by simp; omega)]
  · rw [if_neg (by omega), if_neg (by simp; omega), if_neg (by rcases (by omega : k = 1 ∨ k = 2) with rfl | rfl <;> simp only [hn] <;> simp), if_neg (by simp; omega)]
  · rw [if_neg (by omega), if_neg (by simp; omega), if_neg (by simp; omega), if_neg (by rcases (by omega : k = 1 ∨ k = 2 ∨ k = 3) with rfl | rfl | rfl <;> simp only [hn] <;> simp)]

theorem dec_lone (s : ByteArray) (p : Nat) (h : 128 ≤ bat s p) (h' : bat s p < 192 ∨ 248 ≤ bat s p) : Utf8.decode s p = (65533, 1) := by
  have := bat_lt s p
  rw [dec_eq, if_neg (by omega), if_neg (by simp; omega), if_neg (by simp; omega), if_neg (by simp; omega)]

def badRune (r least : Int) : Prop := r < least ∨ 1114111 < r ∨ (55296 ≤ r ∧ r ≤ 57343)

theorem dec_full (s : ByteArray) (p n : Nat) (off least : Int) (hl : Lead s p n off least) (hc : ∀ j, 1 ≤ j → j < n → contOk s (p + j)) :
    (badRune (acc s p (bat s p - off) (n - 1)) least → Utf8.decode s p = (65533, 1)) ∧
    (¬ badRune (acc s p (bat s p - off) (n - 1)) least → Utf8.decode s p = ((acc s p (bat s p - off) (n - 1)).toNat, n)) := by
  rw [dec_eq]
  unfold badRune
  rcases hl with ⟨rfl, rfl, rfl, a, b⟩ | ⟨rfl, rfl, rfl, a, b⟩ | ⟨rfl, rfl, rfl, a, b⟩
  · have c1 := hc 1 (by omega) (by omega)
    have k1 := is_cont _ _ c1
    have q1 := c1.2
    simp only [acc, Nat.zero_add, show (2 : Nat) - 1 = 1 from rfl]
    rw [if_neg (by omega), if_pos (by simp only [k1]; simp; omega)]
    generalize bat s (p + 1) = b1 at *
    generalize bat s p = b0 at *
    constructor
    · intro h; rw [if_neg (by omega)]
    · intro h; rw [if_pos (by omega)]; simp; omega
  · have c1 := hc 1 (by omega) (by omega)
    have c2 := hc 2 (by omega) (by omega)
    have k1 := is_cont _ _ c1
    have k2 := is_cont _ _ c2
    have q1 := c1.2
    have q2 := c2.2
    simp only [acc, Nat.zero_add, show (3 : Nat) - 1 = 2 from rfl, show (1 : Nat) + 1 = 2 from rfl]
    rw [if_neg (by omega), if_neg (by simp; omega), if_pos (by simp only [k1, k2]; simp; omega)]
    generalize bat s (p + 1) = b1 at *
    generalize bat s (p + 2) = b2 at *
    generalize bat s p = b0 at *
    constructor
    · intro h; rw [if_neg (by simp only [Utf8.valid]; simp; omega)]
    · intro h; rw [if_pos (by simp only [Utf8.valid]; simp; omega)]; simp; omega
  · have c1 := hc 1 (by omega) (by omega)
    have c2 := hc 2 (by omega) (by omega)
    have c3 := hc 3 (by omega) (by omega)
    have k1 := is_cont _ _ c1
    have k2 := is_cont _ _ c2
    have k3 := is_cont _ _ c3
    have q1 := c1.2
    have q2 := c2.2
    have q3 := c3.2
    simp only [acc, Nat.zero_add, show (4 : Nat) - 1 = 3 from rfl, show (1 : Nat) + 1 = 2 from rfl, show (2 : Nat) + 1 = 3 from rfl]
    rw [if_neg (by omega), if_neg (by simp; omega), if_neg (by simp; omega), if_pos (by simp only [k1, k2, k3]; simp; omega)]
    generalize bat s (p + 1) = b1 at *
    generalize bat s (p + 2) = b2 at *
    generalize bat s (p + 3) = b3 at *
    generalize bat s p = b0 at *
    constructor
    · intro h; rw [if_neg (by simp only [Utf8.valid]; simp; omega)]
    · intro h; rw [if_pos (by simp only [Utf8.valid]; simp; omega)]; simp; omega

/-- What reading by hand may answer: the number and the width, if a path may have the character; else a number that is none such. -/
def HandR (s : ByteArray) (p : Nat) (r n : Int) : Prop :=
  ((0 ≤ r ∧ pl r.toNat = true) ↔ pl (Utf8.decode s p).1 = true) ∧ (pl (Utf8.decode s p).1 = true → r = (Utf8.decode s p).1 ∧ n = (Utf8.decode s p).2)

theorem handR_bad (s : ByteArray) (p : Nat) (h : Utf8.decode s p = (65533, 1)) : HandR s p (-1) 1 := by
  unfold HandR
  rw [h]
  have : pl 65533 = false := by decide
  simp [this]
theorem handR_good (s : ByteArray) (p : Nat) (r : Int) (n : Nat) (h0 : 0 ≤ r) (h : Utf8.decode s p = (r.toNat, n)) : HandR s p r n := by
  unfold HandR
  rw [h]
  exact ⟨⟨fun h => h.2, fun h => ⟨h0, h⟩⟩, fun _ => ⟨by simp; omega, rfl⟩⟩
end Go.Proofs.YtfgjbcejpjcpeaaDoor
