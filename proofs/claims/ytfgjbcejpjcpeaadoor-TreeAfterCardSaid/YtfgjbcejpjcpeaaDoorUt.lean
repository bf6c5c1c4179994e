/- Plain laws: texts that are UTF-8, as the reference looks at them byte by byte. -/
import Derived.Test.YtfgjbcejpjcpeaaDoorPl2
import Derived.Lib.ValidLaws
namespace Go.Proofs.YtfgjbcejpjcpeaaDoor
open Go.RowKit

theorem bat_drop (s : ByteArray) (i k : Nat) : bat ⟨(s.data.toList.drop i).toArray⟩ k = bat s (i + k) := by
  by_cases h : i + k < s.size
  · have h1 : k < (ByteArray.mk (s.data.toList.drop i).toArray).size := by
      show k < (s.data.toList.drop i).toArray.size
      have : s.size = s.data.size := rfl
      simp; omega
    rw [bat_get _ k h1, bat_get s (i + k) h]
    congr 1
    show (s.data.toList.drop i).toArray[k] = s.data[i + k]
    simp
  · rw [bat_out _ k (by show (s.data.toList.drop i).toArray.size ≤ k; have : s.size = s.data.size := rfl; simp; omega), bat_out s _ (by omega)]

theorem decodeL_drop (s : ByteArray) (i : Nat) (hi : i ≤ s.size) : Lib.decodeL (s.data.toList.drop i) = Utf8.decode s i := by
  unfold Lib.decodeL
  have hs : ∀ k, (k < (ByteArray.mk (s.data.toList.drop i).toArray).size) = (i + k < s.size) := fun k => by
    have e : (ByteArray.mk (s.data.toList.drop i).toArray).size = s.size - i := by
      show (s.data.toList.drop i).toArray.size = _
      have : s.size = s.data.size := rfl
      simp <;> omega
    rw [e]; apply propext; omega
  rw [dec_eq, dec_eq]
  simp only [Nat.zero_add, bat_drop, hs, Nat.add_zero]

def validAt (s : ByteArray) (i : Nat) : Bool := Lib.validD (s.data.toList.drop i)
theorem validAt_zero (s : ByteArray) : validAt s 0 = Lib.validD s.data.toList := by simp [validAt]
theorem validAt_end (s : ByteArray) (i : Nat) (h : s.size ≤ i) : validAt s i = true := by
  unfold validAt
  rw [List.drop_eq_nil_of_le (by have : s.size = s.data.size := rfl; simp; omega)]
  rfl
theorem validAt_bad (s : ByteArray) (i : Nat) (h : i < s.size) (hd : Utf8.decode s i = (65533, 1)) : validAt s i = false := by
  have hsz : s.size = s.data.size := rfl
  unfold validAt
  rw [Lib.validD_step _ (by intro e; have := congrArg List.length e; simp at this; omega), decodeL_drop s i (by omega), hd]
  simp
theorem validAt_good (s : ByteArray) (i : Nat) (h : i < s.size) (hd : Utf8.decode s i ≠ (65533, 1)) : validAt s i = validAt s (i + (Utf8.decode s i).2) := by
  have hsz : s.size = s.data.size := rfl
  unfold validAt
  rw [Lib.validD_step _ (by intro e; have := congrArg List.length e; simp at this; omega), decodeL_drop s i (by omega)]
  rw [if_neg (fun h => hd (Prod.ext h.1 h.2)), List.drop_drop]

/-- How many bytes stand behind a lead, and the range of the first of them. -/
def moreF (b : Nat) : Int × Int × Int :=
  if b < 128 then (0, 0, 0) else if 194 ≤ b ∧ b ≤ 223 then (1, 128, 191) else if b = 224 then (2, 160, 191) else if b = 237 then (2, 128, 159) else if 225 ≤ b ∧ b ≤ 239 then (2, 128, 191)
  else if b = 240 then (3, 144, 191) else if b = 244 then (3, 128, 143) else if 241 ≤ b ∧ b ≤ 243 then (3, 128, 191) else (-1, 0, 0)

def okAt (s : ByteArray) (i : Nat) (lo hi : Int) (j : Nat) : Prop := if j = 1 then lo ≤ bat s (i + 1) ∧ (bat s (i + 1) : Int) ≤ hi else 128 ≤ bat s (i + j) ∧ bat s (i + j) ≤ 191

/-- The eight kinds of a lead. -/
theorem moreF_cases (b : Nat) (hb : b < 256) : (moreF b = (0, 0, 0) ∧ b < 128) ∨ (moreF b = (1, 128, 191) ∧ 194 ≤ b ∧ b ≤ 223) ∨ (moreF b = (2, 160, 191) ∧ b = 224) ∨ (moreF b = (2, 128, 159) ∧ b = 237) ∨ (moreF b = (2, 128, 191) ∧ 225 ≤ b ∧ b ≤ 239 ∧ b ≠ 237) ∨
    (moreF b = (3, 144, 191) ∧ b = 240) ∨ (moreF b = (3, 128, 143) ∧ b = 244) ∨ (moreF b = (3, 128, 191) ∧ 241 ≤ b ∧ b ≤ 243) ∨ (moreF b = (-1, 0, 0) ∧ 128 ≤ b ∧ (b < 194 ∨ 244 < b)) := by
  unfold moreF
  repeat' split
  all_goals (simp <;> omega)

theorem ut_dec (s : ByteArray) (i : Nat) (hi : i < s.size) (n : Nat) (lo h : Int) (hm : moreF (bat s i) = ((n : Int), lo, h)) :
    ((n = 0 ∨ i + n < s.size) → (∀ j, 1 ≤ j → j ≤ n → okAt s i lo h j) → Utf8.decode s i ≠ (65533, 1) ∧ (Utf8.decode s i).2 = n + 1) ∧
    (0 < n → s.size ≤ i + n → Utf8.decode s i = (65533, 1)) ∧
    (∀ j, 1 ≤ j → j ≤ n → i + n < s.size → ¬ okAt s i lo h j → Utf8.decode s i = (65533, 1)) := by
  have b0 := bat_lt s i
  have e := dec_eq s i
  simp only [] at e
  rcases moreF_cases (bat s i) b0 with ⟨k, hb⟩ | ⟨k, hb⟩ | ⟨k, hb⟩ | ⟨k, hb⟩ | ⟨k, hb⟩ | ⟨k, hb⟩ | ⟨k, hb⟩ | ⟨k, hb⟩ | ⟨k, hb⟩
  all_goals
    rw [k] at hm
    simp only [Prod.mk.injEq] at hm
    obtain ⟨hn, rfl, rfl⟩ := hm
    have b1 := bat_lt s (i + 1)
    have b2 := bat_lt s (i + 2)
    have b3 := bat_lt s (i + 3)
  · obtain rfl : n = 0 := by omega
    rw [if_pos hb] at e
    refine ⟨fun _ _ => by rw [e]; simp <;> omega, fun h => by omega, fun j h1 h2 => by omega⟩
  all_goals first
    | (exfalso; omega)
    | skip
  · obtain rfl : n = 1 := by omega
    rw [if_neg (by omega)] at e
    refine ⟨fun h1 h2 => ?_, fun _ h => ?_, fun j h1 h2 h3 h4 => ?_⟩
    · have o1 := h2 1 (by omega) (by omega)
      simp only [okAt, if_true] at o1
      rw [if_pos (by simp; omega), if_pos (by omega)] at e
      rw [e]; simp <;> omega
    · rw [if_neg (by simp; omega), if_neg (by simp; omega), if_neg (by simp; omega)] at e
      exact e
    · obtain rfl : j = 1 := by omega
      simp only [okAt, if_true] at h4
      rw [if_neg (by simp; omega), if_neg (by simp; omega), if_neg (by simp; omega)] at e
      exact e
  iterate 3
    · obtain rfl : n = 2 := by omega
      rw [if_neg (by omega), if_neg (by simp; omega)] at e
      refine ⟨fun h1 h2 => ?_, fun _ h => ?_, fun j h1 h2 h3 h4 => ?_⟩
      · have o1 := h2 1 (by omega) (by omega)
        have o2 := h2 2 (by omega) (by omega)
        simp only [okAt, if_true] at o1
        simp only [okAt, show ¬ (2 : Nat) = 1 from by omega, if_false] at o2
        rw [if_pos (by simp; omega), if_pos (by simp only [Utf8.valid]; simp; omega)] at e
        rw [e]; simp <;> omega
      · rw [if_neg (by simp; omega), if_neg (by simp; omega)] at e
        exact e
      · have hj : ¬ (128 ≤ bat s (i + 1) ∧ bat s (i + 1) ≤ 191 ∧ 128 ≤ bat s (i + 2) ∧ bat s (i + 2) ≤ 191) ∨ (bat s i = 224 ∧ bat s (i + 1) < 160) ∨ (bat s i = 237 ∧ 159 < bat s (i + 1)) := by
          rcases (by omega : j = 1 ∨ j = 2) with rfl | rfl
          · simp only [okAt, if_true] at h4; omega
          · simp only [okAt, show ¬ (2 : Nat) = 1 from by omega, if_false] at h4; omega
        by_cases hc : 128 ≤ bat s (i + 1) ∧ bat s (i + 1) ≤ 191 ∧ 128 ≤ bat s (i + 2) ∧ bat s (i + 2) ≤ 191
        · rw [if_pos (by simp; omega), if_neg (by simp only [Utf8.valid]; simp; omega)] at e
          exact e
        · rw [if_neg (by simp; omega), if_neg (by simp; omega)] at e
          exact e
  all_goals
    obtain rfl : n = 3 := by omega
    rw [if_neg (by omega), if_neg (by simp; omega), if_neg (by simp; omega)] at e
    refine ⟨fun h1 h2 => ?_, fun _ h => ?_, fun j h1 h2 h3 h4 => ?_⟩
    · have o1 := h2 1 (by omega) (by omega)
      have o2 := h2 2 (by omega) (by omega)
      have o3 := h2 3 (by omega) (by omega)
      simp only [okAt, if_true] at o1
      simp only [okAt, show ¬ (2 : Nat) = 1 from by omega, if_false] at o2
      simp only [okAt, show ¬ (3 : Nat) = 1 from by omega, if_false] at o3
      rw [if_pos (by simp; omega), if_pos (by simp only [Utf8.valid]; simp; omega)] at e
      rw [e]; simp <;> omega
    · rw [if_neg (by simp; omega)] at e
      exact e
    · have hj : ¬ (128 ≤ bat s (i + 1) ∧ bat s (i + 1) ≤ 191 ∧ 128 ≤ bat s (i + 2) ∧ bat s (i + 2) ≤ 191 ∧ 128 ≤ bat s (i + 3) ∧ bat s (i + 3) ≤ 191) ∨ (bat s i = 240 ∧ bat s (i + 1) < 144) ∨ (bat s i = 244 ∧ 143 < bat s (i + 1)) := by
        rcases (by omega : j = 1 ∨ j = 2 ∨ j = 3) with rfl | rfl | rfl
        · simp only [okAt, if_true] at h4; omega
        · simp only [okAt, show ¬ (2 : Nat) = 1 from by omega, if_false] at h4; omega
        · simp only [okAt, show ¬ (3 : Nat) = 1 from by omega, if_false] at h4; omega
      by_cases hc : 128 ≤ bat s (i + 1) ∧ bat s (i + 1) ≤ 191 ∧ 128 ≤ bat s (i + 2) ∧ bat s (i + 2) ≤ 191 ∧ 128 ≤ bat s (i + 3) ∧ bat s (i + 3) ≤ 191
      · rw [if_pos (by simp; omega), if_neg (by simp only [Utf8.valid]; simp; omega)] at e
        exact e
      · rw [if_neg (by simp; omega)] at e
        exact e

theorem ut_none (s : ByteArray) (i : Nat) (lo h : Int) (hm : moreF (bat s i) = (-1, lo, h)) : Utf8.decode s i = (65533, 1) := by
  have b0 := bat_lt s i
  have b1 := bat_lt s (i + 1)
  have b2 := bat_lt s (i + 2)
  have b3 := bat_lt s (i + 3)
  have e := dec_eq s i
  simp only [] at e
  rcases moreF_cases (bat s i) b0 with ⟨k, hb⟩ | ⟨k, hb⟩ | ⟨k, hb⟩ | ⟨k, hb⟩ | ⟨k, hb⟩ | ⟨k, hb⟩ | ⟨k, hb⟩ | ⟨k, hb⟩ | ⟨k, hb⟩
  iterate 8 (· rw [k] at hm; simp at hm)
  rw [e, if_neg (by omega)]
  rcases hb.2 with h2 | h2
  · by_cases h3 : 192 ≤ bat s i
    · by_cases h4 : (decide (i + 1 < s.size) && bat s (i + 1) / 64 == 2) = true
      · rw [if_pos (by simp at h4 ⊢; omega), if_neg (by omega)]
      · rw [if_neg (by simp at h4 ⊢; omega), if_neg (by simp; omega), if_neg (by simp; omega)]
    · rw [if_neg (by simp; omega), if_neg (by simp; omega), if_neg (by simp; omega)]
  · rw [if_neg (by simp; omega), if_neg (by simp; omega)]
    split
    · rename_i hh
      simp at hh
      rw [if_neg (by simp only [Utf8.valid]; simp; omega)]
    · rfl
end Go.Proofs.YtfgjbcejpjcpeaaDoor
