/- Plain laws on characters and paths: which bytes are a path. No program in sight. -/
import Derived.Laws.RangeAny
import Derived.RowKit
namespace Go.Proofs.YtfgjbcejpjcpeaaDoor
open Go.RowKit

/-- A character that a path may have. -/
def pl (r : Nat) : Bool := (32 ≤ r && r ≤ 126) || (160 ≤ r && r < 55296) || (63744 ≤ r && r < 65520)

/-- The byte at a place, 0 behind the end. -/
def bat (s : ByteArray) (i : Nat) : Nat := (s.get! i).toNat

theorem bat_lt (s : ByteArray) (i : Nat) : bat s i < 256 := UInt8.toNat_lt _

theorem bat_get (s : ByteArray) (i : Nat) (h : i < s.size) : bat s i = (s[i]'h).toNat := by
  have := Go.get_at s i h; simp only [Nat.add_zero] at this; unfold bat; rw [this]

theorem bat_out (s : ByteArray) (i : Nat) (h : s.size ≤ i) : bat s i = 0 := by
  have e : s.get! i = default := by
    cases s with | mk a => exact getElem!_neg a i (by simpa [ByteArray.size] using h)
  unfold bat; rw [e]; rfl

theorem dec_eq (s : ByteArray) (i : Nat) : Utf8.decode s i =
  let cont (k : Nat) : Bool := i + k < s.size && bat s (i + k) / 64 == 2
  if bat s i < 0x80 then (bat s i, 1)
  else if bat s i / 32 == 6 && cont 1 then
    let c := (bat s i % 32) * 64 + bat s (i + 1) % 64
    if c ≥ 0x80 then (c, 2) else (65533, 1)
  else if bat s i / 16 == 14 && cont 1 && cont 2 then
    let c := (bat s i % 16) * 4096 + (bat s (i + 1) % 64) * 64 + bat s (i + 2) % 64
    if c ≥ 0x800 && Utf8.valid c then (c, 3) else (65533, 1)
  else if bat s i / 8 == 30 && cont 1 && cont 2 && cont 3 then
    let c := (bat s i % 8) * 262144 + (bat s (i + 1) % 64) * 4096 + (bat s (i + 2) % 64) * 64 + bat s (i + 3) % 64
    if c ≥ 0x10000 && Utf8.valid c then (c, 4) else (65533, 1)
  else (65533, 1) := rfl

/-- What a decoding says of its place. -/
structure Dec (s : ByteArray) (p : Nat) : Prop where
  pos : 1 ≤ (Utf8.decode s p).2
  fits : p + (Utf8.decode s p).2 ≤ s.size
  tail : ∀ k, 0 < k → k < (Utf8.decode s p).2 → 128 ≤ bat s (p + k)
  one : (Utf8.decode s p).2 = 1 → (Utf8.decode s p).1 ≠ 65533 → (Utf8.decode s p).1 = bat s p ∧ bat s p < 128
  more : (Utf8.decode s p).2 ≠ 1 → 128 ≤ (Utf8.decode s p).1 ∧ 128 ≤ bat s p
  ascii : bat s p < 128 → Utf8.decode s p = (bat s p, 1)

theorem dec (s : ByteArray) (p : Nat) (h : p < s.size) : Dec s p := by
  have e := dec_eq s p
  simp only [] at e
  have asc : bat s p < 128 → Utf8.decode s p = (bat s p, 1) := fun h => by rw [e, if_pos h]
  by_cases h0 : bat s p < 128
  · have := asc h0
    exact ⟨by rw [this]; simp, by rw [this]; simp; omega, by rw [this]; intro k h1 h2; simp at h2; omega, by rw [this]; simp [h0], by rw [this]; simp, asc⟩
  · rw [if_neg h0] at e
    have b1 := bat_lt s (p+1); have b2 := bat_lt s (p+2); have b3 := bat_lt s (p+3); have b0 := bat_lt s p
    split at e
    · rename_i h1
      simp only [Bool.and_eq_true, beq_iff_eq, decide_eq_true_eq] at h1
      split at e <;> (refine ⟨by rw [e]; simp, by rw [e]; simp; omega, ?_, by rw [e]; simp, by rw [e]; simp; try omega, asc⟩; rw [e]; intro k k1 k2; simp at k2; try omega)
      · obtain rfl : k = 1 := by omega
        omega
    · split at e
      · rename_i h1
        simp only [Bool.and_eq_true, beq_iff_eq, decide_eq_true_eq] at h1
        split at e
        · rename_i h2
          simp only [Bool.and_eq_true, decide_eq_true_eq] at h2
          refine ⟨by rw [e]; simp, by rw [e]; simp; omega, ?_, by rw [e]; simp, by rw [e]; simp; omega, asc⟩
          rw [e]; intro k k1 k2; simp at k2
          rcases (by omega : k = 1 ∨ k = 2) with rfl | rfl <;> omega
        · refine ⟨by rw [e]; simp, by rw [e]; simp; omega, ?_, by rw [e]; simp, by rw [e]; simp, asc⟩
          rw [e]; intro k k1 k2; simp at k2; omega
      · split at e
        · rename_i h1
          simp only [Bool.and_eq_true, beq_iff_eq, decide_eq_true_eq] at h1
          split at e
          · rename_i h2
            simp only [Bool.and_eq_true, decide_eq_true_eq] at h2
            refine ⟨by rw [e]; simp, by rw [e]; simp; omega, ?_, by rw [e]; simp, by rw [e]; simp; omega, asc⟩
            rw [e]; intro k k1 k2; simp at k2
            rcases (by omega : k = 1 ∨ k = 2 ∨ k = 3) with rfl | rfl | rfl <;> omega
          · refine ⟨by rw [e]; simp, by rw [e]; simp; omega, ?_, by rw [e]; simp, by rw [e]; simp, asc⟩
            rw [e]; intro k k1 k2; simp at k2; omega
        · refine ⟨by rw [e]; simp, by rw [e]; simp; omega, ?_, by rw [e]; simp, by rw [e]; simp, asc⟩
          rw [e]; intro k k1 k2; simp at k2; omega

/-- The first character, from a place on, that no path may have; -1: none. -/
def fb (s : ByteArray) : Nat → Nat → Int
  | 0, _ => -1
  | f + 1, p => if p < s.size then (if pl (Utf8.decode s p).1 then fb s f (p + (Utf8.decode s p).2) else p) else -1

/-- The part that begins at a place. -/
def partL (s : ByteArray) (p : Nat) : List UInt8 := (s.data.toList.drop p).takeWhile (· != 47)

/-- The part that begins at a place is one or two dots. -/
def dots (s : ByteArray) (p : Nat) : Bool := partL s p == [46] || partL s p == [46, 46]

/-- What must be so at a slash. -/
def sep (s : ByteArray) (p : Nat) : Bool := bat s p != 47 || (!(0 < p && bat s (p - 1) == 47) && !dots s (p + 1))

/-- From a place on all characters are good, and all slashes. -/
def scan (s : ByteArray) : Nat → Nat → Bool
  | 0, _ => true
  | f + 1, p => if p < s.size then pl (Utf8.decode s p).1 && sep s p && scan s f (p + (Utf8.decode s p).2) else true

/-- A path. -/
def vpath (s : ByteArray) : Bool :=
  s.size != 0 && s.size ≤ 4096 && bat s 0 == 47 && (s.size == 1 || (bat s (s.size - 1) != 47 && scan s s.size 0))

theorem fb_none_of_scan (s : ByteArray) : ∀ (f g p : Nat), s.size ≤ p + g → scan s f p = true → s.size ≤ p + f → fb s g p = -1
  | f, 0, p, hg, _, _ => rfl
  | 0, g + 1, p, _, _, hf => by
    have : ¬ p < s.size := by omega
    simp only [fb, if_neg this]
  | f + 1, g + 1, p, hg, h, hf => by
    simp only [scan] at h
    simp only [fb]
    by_cases hp : p < s.size
    · have d := dec s p hp
      rw [if_pos hp] at h ⊢
      simp only [Bool.and_eq_true] at h
      rw [if_pos h.1.1]
      have := d.pos
      exact fb_none_of_scan s f g _ (by omega) h.2 (by omega)
    · rw [if_neg hp]

/-- fuel does not matter -/
theorem scan_fuel (s : ByteArray) : ∀ (f g p : Nat), s.size ≤ p + f → s.size ≤ p + g → scan s f p = scan s g p
  | 0, 0, p, _, _ => rfl
  | 0, g + 1, p, hf, _ => by
    have : ¬ p < s.size := by omega
    simp only [scan, if_neg this]
  | f + 1, 0, p, _, hg => by
    have : ¬ p < s.size := by omega
    simp only [scan, if_neg this]
  | f + 1, g + 1, p, hf, hg => by
    simp only [scan]
    by_cases hp : p < s.size
    · have d := (dec s p hp).pos
      rw [if_pos hp, if_pos hp, scan_fuel s f g _ (by omega) (by omega)]
    · rw [if_neg hp, if_neg hp]

theorem fb_fuel (s : ByteArray) : ∀ (f g p : Nat), s.size ≤ p + f → s.size ≤ p + g → fb s f p = fb s g p
  | 0, 0, p, _, _ => rfl
  | 0, g + 1, p, hf, _ => by
    have : ¬ p < s.size := by omega
    simp only [fb, if_neg this]
  | f + 1, 0, p, _, hg => by
    have : ¬ p < s.size := by omega
    simp only [fb, if_neg this]
  | f + 1, g + 1, p, hf, hg => by
    simp only [fb]
    by_cases hp : p < s.size
    · have d := (dec s p hp).pos
      rw [if_pos hp, if_pos hp, fb_fuel s f g _ (by omega) (by omega)]
    · rw [if_neg hp, if_neg hp]

/-- The scan from a place on, with fuel enough. -/
def scanAt (s : ByteArray) (p : Nat) : Bool := scan s s.size p
def fbAt (s : ByteArray) (p : Nat) : Int := fb s s.size p

theorem scanAt_step (s : ByteArray) (p : Nat) (h : p < s.size) : scanAt s p = (pl (Utf8.decode s p).1 && sep s p && scanAt s (p + (Utf8.decode s p).2)) := by
  have d := (dec s p h).pos
  unfold scanAt
  rw [scan_fuel s s.size (s.size + 1) p (by omega) (by omega)]
  simp only [scan, if_pos h]
theorem scanAt_end (s : ByteArray) (p : Nat) (h : s.size ≤ p) : scanAt s p = true := by
  unfold scanAt
  rw [scan_fuel s s.size 0 p (by omega) (by omega)]; rfl
theorem fbAt_step (s : ByteArray) (p : Nat) (h : p < s.size) : fbAt s p = if pl (Utf8.decode s p).1 then fbAt s (p + (Utf8.decode s p).2) else p := by
  have d := (dec s p h).pos
  unfold fbAt
  rw [fb_fuel s s.size (s.size + 1) p (by omega) (by omega)]
  simp only [fb, if_pos h]
theorem fbAt_end (s : ByteArray) (p : Nat) (h : s.size ≤ p) : fbAt s p = -1 := by
  unfold fbAt
  rw [fb_fuel s s.size 0 p (by omega) (by omega)]; rfl
theorem fbAt_ge (s : ByteArray) (p : Nat) : fbAt s p = -1 ∨ (p : Int) ≤ fbAt s p := by
  generalize hn : s.size - p = n
  induction n using Nat.strongRecOn generalizing p with
  | ind n ih =>
    by_cases h : p < s.size
    · rw [fbAt_step s p h]
      have d := (dec s p h).pos
      split
      · rcases ih (s.size - (p + (Utf8.decode s p).2)) (by omega) _ rfl with h1 | h1
        · exact .inl h1
        · right; omega
      · right; omega
    · left; exact fbAt_end s p (by omega)
end Go.Proofs.YtfgjbcejpjcpeaaDoor
