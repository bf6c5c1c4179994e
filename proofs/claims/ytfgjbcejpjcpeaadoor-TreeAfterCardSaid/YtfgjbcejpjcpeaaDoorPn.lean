/- Plain laws on the parent and the last part of a path. No program in sight. -/
import Derived.Test.YtfgjbcejpjcpeaaDoorPl
import Derived.Lib.LastIndexByte
import Derived.WideAt
namespace Go.Proofs.YtfgjbcejpjcpeaaDoor
open Go.RowKit

theorem vpath_facts {s : ByteArray} (h : vpath s = true) : 1 ≤ s.size ∧ s.size ≤ 4096 ∧ bat s 0 = 47 ∧ (s.size = 1 ∨ (bat s (s.size - 1) ≠ 47 ∧ scanAt s 0 = true)) := by
  unfold vpath at h
  simp only [Bool.and_eq_true, Bool.or_eq_true, bne_iff_ne, beq_iff_eq, decide_eq_true_eq, ne_eq] at h
  obtain ⟨⟨⟨h1, h2⟩, h3⟩, h4⟩ := h
  exact ⟨by omega, h2, h3, h4.imp id fun h => ⟨h.1, h.2⟩⟩

theorem scan_sep (s : ByteArray) : ∀ (f p : Nat), s.size ≤ p + f → scanAt s p = true → ∀ i, p ≤ i → i < s.size → bat s i = 47 → sep s i = true
  | 0, p, hf, _, i, h1, h2, _ => by omega
  | f + 1, p, hf, h, i, h1, h2, h3 => by
    have hp : p < s.size := by omega
    have d := dec s p hp
    rw [scanAt_step s p hp] at h
    simp only [Bool.and_eq_true] at h
    by_cases e : i = p
    · subst e; exact h.1.2
    · by_cases hlt : i < p + (Utf8.decode s p).2
      · have := d.tail (i - p) (by omega) (by omega)
        rw [show p + (i - p) = i by omega] at this
        omega
      · have := d.pos
        exact scan_sep s f _ (by omega) h.2 i (by omega) h2 h3

theorem vpath_noadj {s : ByteArray} (h : vpath s = true) (i : Nat) (hi : i + 1 < s.size) (h47 : bat s i = 47) : bat s (i + 1) ≠ 47 := by
  obtain ⟨h1, h2, h3, h4⟩ := vpath_facts h
  rcases h4 with h4 | ⟨_, h4⟩
  · omega
  · intro e
    have := scan_sep s s.size 0 (by omega) h4 (i + 1) (by omega) hi e
    unfold sep at this
    rw [e] at this
    simp [h47] at this

/-- The place of the last slash. -/
def lastS (s : ByteArray) : Int := Lib.lastIndexByte s 47
def parentB (s : ByteArray) : ByteArray := s.extract 0 (max (lastS s) 1).toNat
def nameB (s : ByteArray) : ByteArray := s.extract (lastS s + 1).toNat s.size

theorem bat_data (s : ByteArray) (i : Nat) : bat s i = (s.data[i]!).toNat := rfl

theorem lastS_spec {s : ByteArray} (h : vpath s = true) : ∃ i : Nat, lastS s = i ∧ i < s.size ∧ bat s i = 47 ∧ ∀ j, i < j → j < s.size → bat s j ≠ 47 := by
  obtain ⟨h1, _, h3, _⟩ := vpath_facts h
  rcases Lib.lastIndexByte_spec s 47 with ⟨_, hn⟩ | ⟨i, hi, e, hc, hn⟩
  · have := hn 0 (by omega)
    rw [bat_data] at h3
    omega
  · exact ⟨i, e, hi, by rw [bat_data]; omega, fun j h1 h2 h3 => hn j h1 h2 (by rw [bat_data] at h3; omega)⟩

theorem extract_list (s : ByteArray) (i j : Nat) : (s.extract i j).data.toList = (s.data.toList.take j).drop i := by
  rw [ByteArray.data_extract, Array.toList_extract]
  simp [List.extract, List.drop_take]

/-- What stands ahead of a name under a path. -/
def preL (p : ByteArray) : List UInt8 := if p.size = 1 then p.data.toList else p.data.toList ++ [47]

theorem size_list (s : ByteArray) : s.data.toList.length = s.size := Array.length_toList
theorem bat_toList (s : ByteArray) (i : Nat) (h : i < s.size) : s.data.toList[i]'(by simpa using h) = 47 ↔ bat s i = 47 := by
  rw [bat_get s i h, Array.getElem_toList]
  show s[i] = 47 ↔ _
  constructor
  · intro e; rw [e]; rfl
  · intro e; exact UInt8.toNat_inj.1 e

theorem drop_at_slash {s : ByteArray} {i : Nat} (h : i < s.size) (h47 : bat s i = 47) : s.data.toList.drop i = 47 :: s.data.toList.drop (i + 1) := by
  rw [List.drop_eq_getElem_cons (by rw [size_list]; exact h), (bat_toList s i h).2 h47]

/-- A path that is not the root, in its two parts. -/
theorem path_split {s : ByteArray} (h : vpath s = true) (h1 : s.size ≠ 1) : s.data.toList = preL (parentB s) ++ (nameB s).data.toList ∧ (nameB s).size ≠ 0 ∧ (parentB s).size < s.size ∧ ¬ (47 : UInt8) ∈ (nameB s).data.toList := by
  obtain ⟨i, e, hi, h47, hn⟩ := lastS_spec h
  obtain ⟨g1, g2, g3, g4⟩ := vpath_facts h
  have hlast : bat s (s.size - 1) ≠ 47 := by rcases g4 with g4 | g4; exact absurd g4 h1; exact g4.1
  have hil : i + 1 < s.size := by
    rcases Nat.lt_or_ge (i + 1) s.size with h | h
    · exact h
    · exact absurd (show bat s (s.size - 1) = 47 by rw [show s.size - 1 = i by omega]; exact h47) hlast
  have eN : (nameB s).data.toList = s.data.toList.drop (i + 1) := by
    unfold nameB
    rw [extract_list, e, show ((i : Int) + 1).toNat = i + 1 by omega, List.take_of_length_le (by rw [size_list]; exact Nat.le_refl _)]
  have hns : (nameB s).size = s.size - (i + 1) := by rw [← size_list, eN]; simp
  have hnot : ¬ (47 : UInt8) ∈ (nameB s).data.toList := by
    rw [eN]
    intro hm
    obtain ⟨j, hj, ej⟩ := List.getElem_of_mem hm
    simp only [List.length_drop, size_list] at hj
    rw [List.getElem_drop] at ej
    exact hn (i + 1 + j) (by omega) (by omega) ((bat_toList s _ (by omega)).1 ej)
  by_cases h0 : i = 0
  · subst h0
    have eP : (parentB s).data.toList = [47] := by
      unfold parentB
      rw [extract_list, e, show (max ((0 : Nat) : Int) 1).toNat = 1 by omega]
      have := drop_at_slash hi h47
      rw [List.drop_zero] at this ⊢
      rw [this]; rfl
    have hps : (parentB s).size = 1 := by rw [← size_list, eP]; rfl
    refine ⟨?_, by omega, by omega, hnot⟩
    unfold preL
    rw [if_pos hps, eP, eN]
    have := drop_at_slash hi h47
    rw [List.drop_zero] at this
    rw [this]; rfl
  · have eP : (parentB s).data.toList = s.data.toList.take i := by
      unfold parentB
      rw [extract_list, e, show (max (i : Int) 1).toNat = i by omega, List.drop_zero]
    have hps : (parentB s).size = i := by rw [← size_list, eP]; simp; omega
    have hi1 : i ≠ 1 := by
      intro e1
      subst e1
      exact vpath_noadj h 0 (by omega) g3 h47
    refine ⟨?_, by omega, by omega, hnot⟩
    unfold preL
    rw [if_neg (by omega), eP, eN]
    have := drop_at_slash hi h47
    rw [List.append_assoc, List.singleton_append, ← this, List.take_append_drop]

theorem bytes_append (x a b : List UInt8) : bytesBefore (x ++ a) (x ++ b) = bytesBefore a b := by
  induction x with
  | nil => rfl
  | cons c l ih => simp [bytesBefore, ih]

theorem ba_ext {a b : ByteArray} (h : a.data.toList = b.data.toList) : a = b := by
  cases a; cases b
  simp only at h
  rw [Array.toList_inj.1 h]

/-- Of two children of one path the paths are in order as the names are. -/
theorem child_before {a b : ByteArray} (ha : vpath a = true) (ha1 : a.size ≠ 1) (hb : vpath b = true) (hb1 : b.size ≠ 1) (h : parentB a = parentB b) : bytesBefore a.data.toList b.data.toList = bytesBefore (nameB a).data.toList (nameB b).data.toList := by
  rw [(path_split ha ha1).1, (path_split hb hb1).1, h, bytes_append]
theorem child_inj {a b : ByteArray} (ha : vpath a = true) (ha1 : a.size ≠ 1) (hb : vpath b = true) (hb1 : b.size ≠ 1) (h : parentB a = parentB b) (hn : nameB a = nameB b) : a = b := by
  apply ba_ext
  rw [(path_split ha ha1).1, (path_split hb hb1).1, h, hn]
end Go.Proofs.YtfgjbcejpjcpeaaDoor
