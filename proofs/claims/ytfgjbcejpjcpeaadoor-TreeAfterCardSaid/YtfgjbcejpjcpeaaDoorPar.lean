/- The walks of paths.Parent and paths.Name. -/
import Derived.Test.YtfgjbcejpjcpeaaDoorPath
import Derived.Test.YtfgjbcejpjcpeaaDoorPn
namespace Go.Proofs.YtfgjbcejpjcpeaaDoor
open Go.RowKit
set_option maxHeartbeats 1000000
set_option maxRecDepth 100000

def rootP : ByteArray := ⟨#[47]⟩
/-- What Parent and Name hand back. -/
def parV (s : ByteArray) : Value := if vpath s = true ∧ s.size ≠ 1 then .tuple #[.string (parentB s), .int .i64 0] else .tuple #[.string ⟨#[]⟩, .int .i64 30]
def namV (s : ByteArray) : Value := if vpath s = true then .tuple #[.string (nameB s), .int .i64 0] else .tuple #[.string ⟨#[]⟩, .int .i64 30]

theorem root_iff {s : ByteArray} (h : vpath s = true) : s.size = 1 ↔ s.data.toList = [47] := by
  obtain ⟨h1, _, h3, _⟩ := vpath_facts h
  constructor
  · intro e
    have := drop_at_slash (s := s) (i := 0) (by omega) h3
    rw [List.drop_zero] at this
    rw [this, List.drop_eq_nil_of_le (by rw [size_list]; omega)]
  · intro e; rw [← size_list, e]; rfl

theorem parent_any (s : ByteArray) (w : World) (hs : s.size ≤ 9223372036854775800) : Calls Tryd.prog 44 #[.string s] w fun e w' => e = .returned (parV s) ∧ Below w.heap.size w w' := by
  have C1 := valid_any s w (by omega)
  by_cases hv : vpath s = true
  · have hroot := root_iff hv
    have hf := vpath_facts hv
    rw [hv] at C1
    by_cases h1 : s.size = 1
    · have e1 : (s.toList == [47]) = true := by rw [ByteArray.toList_eq]; simpa using hroot.1 h1
      have e2 : s.toList = [47] := by simpa using e1
      have R : Hid (parV s = .tuple #[.string ⟨#[]⟩, .int .i64 30]) := by unfold Hid parV; rw [if_neg (by simp [h1])]
      have C1 := Lib.hid C1
      clear h1 hroot hf hv
      go_enter Tryd.func44, Tryd.ntmps44
      go_wp2_with fail
      refine C1.out.mono ?_
      rintro e w1 ⟨rfl, hb1⟩
      clear C1
      go_wp2
      go_ret2
      exact ⟨by rw [R.out]; rfl, hb1⟩
    · have e1 : (s.toList == [47]) = false := by rw [ByteArray.toList_eq]; simpa using fun h => h1 (hroot.2 h)
      have e2 : ¬ s.toList = [47] := by simpa using e1
      have R : Hid (parV s = .tuple #[.string (s.extract 0 (max (lastS s) 1).toNat), .int .i64 0]) := by unfold Hid parV parentB; rw [if_pos ⟨hv, h1⟩]
      have C1 := Lib.hid C1
      have C2 := fun w => Tryd.strings_LastIndexByte s 47 (by omega) w
      obtain ⟨i, e, hi, _, _⟩ := lastS_spec hv
      have hm1 : (1 : Int) ≤ max (i : Int) 1 := by omega
      have hm2 : max (i : Int) 1 ≤ (s.size : Int) := by omega
      change ∀ w, Calls _ _ _ w (fun e w' => e = .returned (.int .i64 (lastS s)) ∧ w' = w) at C2
      rw [e] at C2 R
      have C2 := Lib.hid C2
      clear hroot hf hv h1 e
      go_enter Tryd.func44, Tryd.ntmps44
      go_wp2_with fail
      refine C1.out.mono ?_
      rintro e w1 ⟨rfl, hb1⟩
      clear C1
      go_wp2_with fail
      refine (C2.out _).mono ?_
      rintro e w2 ⟨rfl, rfl⟩
      clear C2
      go_wp2
      go_ret2
      exact ⟨by rw [R.out]; rfl, hb1⟩
  · have hv' : vpath s = false := by simpa using hv
    have R : Hid (parV s = .tuple #[.string ⟨#[]⟩, .int .i64 30]) := by unfold Hid parV; rw [if_neg (by simp [hv'])]
    rw [hv'] at C1
    have C1 := Lib.hid C1
    clear hv hv'
    go_enter Tryd.func44, Tryd.ntmps44
    go_wp2_with fail
    refine C1.out.mono ?_
    rintro e w1 ⟨rfl, hb1⟩
    clear C1
    go_wp2
    go_ret2
    exact ⟨by rw [R.out]; rfl, hb1⟩

theorem name_any (s : ByteArray) (w : World) (hs : s.size ≤ 9223372036854775800) : Calls Tryd.prog 48 #[.string s] w fun e w' => e = .returned (namV s) ∧ Below w.heap.size w w' := by
  have C1 := valid_any s w (by omega)
  by_cases hv : vpath s = true
  · have hf := vpath_facts hv
    rw [hv] at C1
    have R : Hid (namV s = .tuple #[.string (s.extract (lastS s + 1).toNat s.size), .int .i64 0]) := by unfold Hid namV nameB; rw [if_pos hv]
    have C1 := Lib.hid C1
    have C2 := fun w => Tryd.strings_LastIndexByte s 47 (by omega) w
    obtain ⟨i, e, hi, _, _⟩ := lastS_spec hv
    change ∀ w, Calls _ _ _ w (fun e w' => e = .returned (.int .i64 (lastS s)) ∧ w' = w) at C2
    rw [e] at C2 R
    have C2 := Lib.hid C2
    clear hf hv e
    go_enter Tryd.func48, Tryd.ntmps48
    go_wp2_with fail
    refine C1.out.mono ?_
    rintro e w1 ⟨rfl, hb1⟩
    clear C1
    go_wp2_with fail
    refine (C2.out _).mono ?_
    rintro e w2 ⟨rfl, rfl⟩
    clear C2
    go_wp2
    go_ret2
    exact ⟨by rw [R.out]; rfl, hb1⟩
  · have hv' : vpath s = false := by simpa using hv
    have R : Hid (namV s = .tuple #[.string ⟨#[]⟩, .int .i64 30]) := by unfold Hid namV; rw [if_neg (by simp [hv'])]
    rw [hv'] at C1
    have C1 := Lib.hid C1
    clear hv hv'
    go_enter Tryd.func48, Tryd.ntmps48
    go_wp2_with fail
    refine C1.out.mono ?_
    rintro e w1 ⟨rfl, hb1⟩
    clear C1
    go_wp2
    go_ret2
    exact ⟨by rw [R.out]; rfl, hb1⟩
end Go.Proofs.YtfgjbcejpjcpeaaDoor
