/- The walks of package runes: the kind of a character; the first one that no path may have. -/
import Derived.Test.YtfgjbcejpjcpeaaDoorPl
import Derived.Test.YtfgjbcejpjcpeaaDoorShelf
import Derived.WalkKit
import Derived.WalkSpells
import Derived.WalkLawsBesides
import Derived.Lib.Hide
import Derived.Deep.Light
namespace Go.Proofs.YtfgjbcejpjcpeaaDoor
open Go.RowKit
set_option maxHeartbeats 400000
set_option maxRecDepth 100000

/-- The kind of a character, as runes.Kind has it. -/
def kindN (r : Int) : Int :=
  if r < 0 ∨ 1114111 < r then 0 else if r = 0 then 2 else if r ≤ 31 ∨ (127 ≤ r ∧ r ≤ 159) then 3 else if 55296 ≤ r ∧ r ≤ 57343 then 4
  else if 57344 ≤ r ∧ r ≤ 63743 then 5 else if 65520 ≤ r ∧ r ≤ 65535 then 6 else if 65536 ≤ r then 7 else 1

theorem kindN_pl (r : Nat) : kindN r = 1 ↔ pl r = true := by
  simp only [kindN, pl, Bool.or_eq_true, Bool.and_eq_true, decide_eq_true_eq]
  repeat' split
  all_goals omega

theorem ret_int {k : IntKind} {a b : Int} (h : a = b) : Ending.returned (.int k a) = .returned (.int k b) := by rw [h]

theorem kind_any (r : Int) (w : World) : Calls Tryd.prog 127 #[.int .i32 r] w fun e w' => e = .returned (.int .i64 (kindN r)) ∧ w = w' := by
  go_enter Tryd.func127, Tryd.ntmps127
  go_wp2
  all_goals (try go_ret)
  all_goals (refine ⟨ret_int ?_, rfl⟩; go_light; (try simp only [beq_iff_eq, beq_eq_false_iff_ne, ne_eq] at *); unfold kindN; repeat' split)
  all_goals (first | rfl | (exfalso; omega))

theorem of_any (s : ByteArray) (at' r : Nat) (w : World) (h : at' ≤ s.size) : Calls Tryd.prog 116 #[.string s, .int .i64 at', .int .i32 r] w fun e w' => ∃ k : Int, e = .returned (.int .i64 k) ∧ (k = 1 ↔ pl r = true) ∧ w = w' := by
  by_cases h1 : r = 65533
  · subst h1
    go_enter Tryd.func116, Tryd.ntmps116
    go_wp2_with (first | (go_at_call 126; refine (Tryd.strings_HasPrefix _ _ _).mono ?_; rintro e w' ⟨rfl, rfl⟩) | (go_at_call 127; refine (kind_any _ _).mono ?_; rintro e w' ⟨rfl, rfl⟩))
    · go_ret
      exact ⟨_, rfl, by decide, rfl⟩
    · go_ret
      exact ⟨_, rfl, kindN_pl 65533, rfl⟩
  · have h2 : ((r : Int) == 65533) = false := by simp; omega
    go_enter Tryd.func116, Tryd.ntmps116
    go_wp2_with (go_at_call 127; refine (kind_any _ _).mono ?_; rintro e w' ⟨rfl, rfl⟩)
    go_ret
    exact ⟨_, rfl, kindN_pl r, rfl⟩
theorem first_any (s : ByteArray) (w : World) : Calls Tryd.prog 97 #[.string s] w fun e w' => ∃ (k : Int) (pos : Nat), e = .returned (.tuple #[.int .i64 (fbAt s 0), .int .i64 k]) ∧ w' = w.iter s pos := by
  go_enter Tryd.func97, Tryd.ntmps97
  go_wp2
  go_loopw [4] (fun _ wr => ∃ pos : Nat, wr = w.iter s pos ∧ pos ≤ s.size ∧ Hid (fbAt s pos = fbAt s 0)) (fun _ wr => s.size - wr.iterPos w.heap.size)
  case atStart => exact ⟨0, rfl, Nat.zero_le _, rfl⟩
  case round =>
    obtain ⟨pos, rfl, hpos, H⟩ := hrel
    by_cases hlt : pos < s.size
    · have hs := fbAt_step s pos hlt
      have d := dec s pos hlt
      have hd1 := d.pos
      have hd2 := d.fits
      clear d
      have hn := run_next_any (P := Tryd.prog) w s pos
      by_cases hpl : pl (Utf8.decode s pos).1 = true
      · rw [if_pos hpl] at hs
        have H2 : Hid (fbAt s (pos + (Utf8.decode s pos).2) = fbAt s 0) := hs.symm.trans H
        clear hs H
        go_wp2_with fail
        refine (of_any s pos (Utf8.decode s pos).1 _ hpos).mono ?_
        rintro e w' ⟨k, rfl, hk, rfl⟩
        obtain rfl : k = 1 := hk.2 hpl
        clear hk
        go_wp2
        go_roundw
        case rel => exact ⟨_, rfl, hd2, H2⟩
        case measure => simp; omega
      · rw [if_neg hpl] at hs
        have H2 : Hid (fbAt s 0 = (pos : Int)) := (H.symm.trans hs)
        clear hs H
        go_wp2_with fail
        refine (of_any s pos (Utf8.decode s pos).1 _ hpos).mono ?_
        rintro e w' ⟨k, rfl, hk, rfl⟩
        have hk1 : (k != 1) = true := by simp; intro h; exact hpl (hk.1 h)
        clear hk
        go_wp2
        go_ret2
        exact ⟨k, pos + (Utf8.decode s pos).2, by rw [H2.out]; rfl, rfl⟩
    · have H2 : Hid (fbAt s 0 = -1) := H.symm.trans (fbAt_end s pos (by omega))
      have hn := run_next_end (P := Tryd.prog) w s pos
      go_wp2
      go_ret2
      exact ⟨1, pos, by rw [H2.out]; rfl, rfl⟩
end Go.Proofs.YtfgjbcejpjcpeaaDoor
