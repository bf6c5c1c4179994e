/- The walks of the reference of paths up to Valid. -/
import Derived.Test.YtmpgfblcfgefjaaDoorRef1
namespace Go.Proofs.YtmpgfblcfgefjaaDoor
open Go.RowKit
set_option maxHeartbeats 400000
set_option maxRecDepth 100000

theorem takeWhile_upto : ∀ (l : List UInt8) (q : Nat), q ≤ l.length → (∀ j, (h : j < l.length) → j < q → l[j] ≠ 47) → (q = l.length ∨ ∃ h : q < l.length, l[q] = 47) → l.takeWhile (· != 47) = l.take q
  | [], q, _, _, _ => by simp
  | b :: l, 0, _, _, h2 => by
    rcases h2 with h2 | ⟨_, h2⟩
    · simp at h2
    · simp at h2; subst h2; simp
  | b :: l, q + 1, hq, h1, h2 => by
    have hb : b ≠ 47 := h1 0 (by simp) (by omega)
    rw [List.takeWhile_cons_of_pos (by simpa using hb), List.take_succ_cons]
    congr 1
    refine takeWhile_upto l q (by simpa using hq) (fun j h hj => h1 (j + 1) (by simpa using h) (by omega)) ?_
    rcases h2 with h2 | ⟨h, h2⟩
    · left; simpa using h2
    · right; exact ⟨by simpa using h, by simpa using h2⟩

theorem bat_list (s : ByteArray) (i : Nat) (h : i < s.size) : s.data.toList[i]'(by simpa using h) = 47 ↔ bat s i = 47 := by
  rw [bat_get s i h]
  constructor
  · intro e; rw [show s[i] = s.data.toList[i]'(by simpa using h) from rfl, e]; rfl
  · intro e; exact UInt8.toNat_inj.1 (e.trans rfl)

theorem partL_upto (s : ByteArray) (p q : Nat) (hp : p ≤ q) (hq : q ≤ s.size) (h1 : ∀ j, p ≤ j → j < q → bat s j ≠ 47) (h2 : q = s.size ∨ bat s q = 47) : (s.extract p q).toList = partL s p := by
  have e : (s.extract p q).toList = (s.data.toList.drop p).take (q - p) := by
    rw [ByteArray.toList_eq, Lib.extract_data]
  rw [e, partL, takeWhile_upto (s.data.toList.drop p) (q - p) (by simp; omega)]
  · intro j h hj
    simp only [List.getElem_drop]
    intro e
    have hl : p + j < s.size := by simp at h; omega
    exact h1 (p + j) (by omega) (by omega) ((bat_list s (p + j) hl).1 e)
  · by_cases hqs : q = s.size
    · left; simp; omega
    · right
      have hl : q < s.size := by omega
      refine ⟨by simp; omega, ?_⟩
      simp only [List.getElem_drop]
      have := (bat_list s q hl).2 (h2.resolve_left hqs)
      simpa [show p + (q - p) = q from by omega] using this

theorem part_any (s : ByteArray) (p : Nat) (w : World) (hp : p ≤ s.size) (hs : s.size ≤ 9223372036854775800) : Calls Tryd.prog 46 #[.string s, .int .i64 p] w fun e w' =>
    ∃ t : ByteArray, e = .returned (.string t) ∧ Hid (t.toList = partL s p) ∧ w = w' := by
  go_enter Tryd.func46, Tryd.ntmps46
  go_wp2
  go_loop [5] (fun i => ∃ q : Nat, p ≤ q ∧ q ≤ s.size ∧ i = .int .i64 q ∧ Hid (∀ j, p ≤ j → j < q → bat s j ≠ 47)) (fun i => s.size - (intOf i).toNat)
  case atStart => exact ⟨p, Nat.le_refl _, hp, rfl, fun j h1 h2 => by omega⟩
  case round =>
    obtain ⟨q, hq1, hq2, rfl, HQ⟩ := hrel
    by_cases hlt : q < s.size
    · have e2 := bat_get s q hlt
      by_cases h47 : bat s q = 47
      · have H := Lib.hid (partL_upto s p q hq1 hq2 HQ.out (.inr h47))
        rw [e2] at h47
        have h47' : ((s[q].toNat : Int) != 47) = false := by simp; omega
        clear e2 h47
        go_wp2
        go_ret
        exact ⟨_, rfl, H, rfl⟩
      · have HN : Hid (∀ j, p ≤ j → j < q + 1 → bat s j ≠ 47) := fun j h1 h2 => by
          by_cases e : j = q
          · rw [e]; exact h47
          · exact HQ.out j h1 (by omega)
        rw [e2] at h47
        have h47' : ((s[q].toNat : Int) != 47) = true := by simp; omega
        clear e2 h47
        go_wp2
        go_round
        case rel => exact ⟨q + 1, by omega, by omega, by go_num, HN⟩
        case measure => simp [intOf]; omega
    · obtain rfl : q = s.size := by omega
      have H := Lib.hid (partL_upto s p s.size hq1 hq2 HQ.out (.inl rfl))
      go_wp2
      go_ret
      exact ⟨_, rfl, H, rfl⟩

theorem part_at (s : ByteArray) (p : Nat) (a : Int) (w : World) (ha : a = (p : Int)) (hp : p ≤ s.size) (hs : s.size ≤ 9223372036854775800) : Calls Tryd.prog 46 #[.string s, .int .i64 a] w fun e w' =>
    ∃ t : ByteArray, e = .returned (.string t) ∧ Hid (t.toList = partL s p) ∧ w = w' := by subst ha; exact part_any s p w hp hs

theorem scan_pl (s : ByteArray) (p : Nat) (h : p < s.size) (hp : ¬ pl (Utf8.decode s p).1 = true) : scanAt s p = false := by
  rw [scanAt_step s p h]; simp [hp]
theorem scan_void (s : ByteArray) (p : Nat) (h : p < s.size) (h47 : bat s p = 47) (h0 : 0 < p) (h1 : bat s (p - 1) = 47) : scanAt s p = false := by
  rw [scanAt_step s p h, sep_slash s p h47]; simp [h0, h1]
theorem scan_dots (s : ByteArray) (p : Nat) (h : p < s.size) (h47 : bat s p = 47) (h1 : dots s (p + 1) = true) : scanAt s p = false := by
  rw [scanAt_step s p h, sep_slash s p h47]; simp [h1]
theorem scan_plain (s : ByteArray) (p : Nat) (h : p < s.size) (h47 : bat s p ≠ 47) (hp : pl (Utf8.decode s p).1 = true) : scanAt s p = scanAt s (p + (Utf8.decode s p).2) := by
  rw [scanAt_step s p h, sep_ok s p h47]; simp [hp]
theorem scan_slash (s : ByteArray) (p : Nat) (h : p < s.size) (h47 : bat s p = 47) (h1 : ¬ (0 < p ∧ bat s (p - 1) = 47)) (h2 : dots s (p + 1) = false) : scanAt s p = scanAt s (p + (Utf8.decode s p).2) := by
  have hd := dec_one s p h47 (dec s p h).ascii
  rw [scanAt_step s p h, sep_slash s p h47, hd]
  have : (decide (0 < p) && bat s (p - 1) == 47) = false := by
    rw [Bool.and_eq_false_iff]
    by_cases hz : 0 < p
    · right; simp; exact fun e => h1 ⟨hz, e⟩
    · left; simpa using hz
  rw [this, h2]; simp [pl]

/-- What checking a text may answer: no fault just if it is a path. -/
def ChkOut (s : ByteArray) (w : World) (e : Ending) (w' : World) : Prop :=
  ∃ f a : Int, e = .returned (.tuple #[.int .i64 f, .int .i64 a]) ∧ Hid (f = 0 ↔ vpath s = true) ∧ Below w.heap.size w w'

set_option maxHeartbeats 1000000 in
theorem rcheck_any (s : ByteArray) (w : World) (hs : s.size ≤ 9223372036854775800) : Calls Tryd.prog 42 #[.string s] w (ChkOut s w) := by
  have he := isEmpty_size s
  by_cases h0 : s.size = 0
  · have hv := Lib.hid (vpath_empty s h0)
    have he' : s.toList.isEmpty = true := by rw [he]; simp [h0]
    clear he h0
    go_enter Tryd.func42, Tryd.ntmps42
    go_wp2
    go_ret2
    exact ⟨1, 0, rfl, by unfold Hid; rw [hv.out]; simp, Below.refl _ _⟩
  have he' : s.toList.isEmpty = false := by rw [he]; simp [h0]
  have hp : 0 < s.size := by omega
  clear he
  by_cases h1 : 4096 < s.size
  · have hv := Lib.hid (vpath_big s h1)
    go_enter Tryd.func42, Tryd.ntmps42
    go_wp2
    go_ret2
    exact ⟨2, 4096, rfl, by unfold Hid; rw [hv.out]; simp, Below.refl _ _⟩
  by_cases h2 : bat s 0 ≠ 47
  · have hv := Lib.hid (vpath_start s h2)
    have h2' : ((s[0].toNat : Int) != 47) = true := by rw [← bat_get s 0 hp]; simp; omega
    go_enter Tryd.func42, Tryd.ntmps42
    go_wp2
    go_ret2
    exact ⟨3, 0, rfl, by unfold Hid; rw [hv.out]; simp, Below.refl _ _⟩
  have h2 : bat s 0 = 47 := by omega
  have h2' : ((s[0].toNat : Int) != 47) = false := by rw [← bat_get s 0 hp]; simp; omega
  have hr := root_size s hp h2
  by_cases h3 : s.size = 1
  · have hv := Lib.hid (vpath_root s h3 h2)
    have hr' : (s.toList == [47]) = true := by rw [hr]; simp [h3]
    clear hr h3 h2
    go_enter Tryd.func42, Tryd.ntmps42
    go_wp2
    go_ret2
    exact ⟨0, -1, rfl, by unfold Hid; rw [hv.out]; simp, Below.refl _ _⟩
  have hr' : (s.toList == [47]) = false := by rw [hr]; simp [h3]
  clear hr
  have hb1 : 1 ≤ (s.size : Int) ∧ (s.size : Int) - 1 < s.size := by omega
  by_cases h4 : bat s (s.size - 1) = 47
  · have hv := Lib.hid (vpath_end s h3 h4)
    have h4' : ((s[s.size - 1].toNat : Int) == 47) = true := by rw [← bat_get s (s.size - 1) (by omega)]; simp; omega
    clear h4 h2
    go_enter Tryd.func42, Tryd.ntmps42
    go_wp2
    go_ret2
    exact ⟨4, _, rfl, by unfold Hid; rw [hv.out]; simp, Below.refl _ _⟩
  have h4' : ((s[s.size - 1].toNat : Int) == 47) = false := by rw [← bat_get s (s.size - 1) (by omega)]; simp; omega
  have hv := Lib.hid (vpath_scan s h3 h0 (by omega) h2 h4)
  clear h4 h2
  go_enter Tryd.func42, Tryd.ntmps42
  go_wp2
  clear h4' hr' he' h2'
  go_loop [4] (fun i => ∃ pos : Nat, i = .int .i64 pos ∧ pos ≤ s.size ∧ Hid (scanAt s 0 = scanAt s pos)) (fun i => s.size - (intOf i).toNat)
  case atStart => exact ⟨0, rfl, Nat.zero_le _, rfl⟩
  case round =>
    obtain ⟨pos, rfl, hpos, Hs⟩ := hrel
    by_cases hlt : pos < s.size
    · have d := dec s pos hlt
      have hd1 := d.pos
      have hd2 := d.fits
      clear d
      have hbg := bat_get s pos hlt
      have HC : ∀ w, Calls Tryd.prog 47 #[.string s, .int .i64 pos] w fun e w' => ∃ r n : Int, e = .returned (.tuple #[.int .i64 r, .int .i64 n]) ∧ Hid (HandR s pos r n) ∧ w = w' := fun w => char_any s pos w hlt (by omega)
      by_cases h47 : bat s pos = 47
      · have h47' : ((s[pos].toNat : Int) == 47) = true := by rw [← hbg]; simp; omega
        by_cases hv2 : 0 < pos ∧ bat s (pos - 1) = 47
        · have H1 := Lib.hid (Hs.out.trans (scan_void s pos hlt h47 hv2.1 hv2.2))
          obtain ⟨hz, hv3⟩ := hv2
          have e2 := bat_get s (pos - 1) (by omega)
          have hq : ((s[pos - 1].toNat : Int) == 47) = true := by rw [← e2]; simp; omega
          have hi : 1 ≤ (pos : Int) ∧ (pos : Int) - 1 < s.size := by omega
          clear hv3 e2 h47 hbg Hs
          go_wp2
          go_ret2
          exact ⟨5, _, rfl, by unfold Hid; rw [hv.out, H1.out]; simp, Below.refl _ _⟩
        · have hbz : ¬ (0 < pos) ∨ (∃ _ : 0 < pos, ((s[pos - 1].toNat : Int) == 47) = false) := by
            by_cases hz : 0 < pos
            · right; refine ⟨hz, ?_⟩
              have e2 := bat_get s (pos - 1) (by omega)
              rw [← e2]; simp; intro e; exact hv2 ⟨hz, by omega⟩
            · exact .inl hz
          by_cases hdt : dots s (pos + 1) = true
          · have H1 := Lib.hid (Hs.out.trans (scan_dots s pos hlt h47 hdt))
            have HD := Lib.hid hdt
            clear hdt hv2 h47 hbg Hs
            rcases hbz with hbz | ⟨hz, hbz⟩
            all_goals
              go_wp2_with fail
              refine (part_at s (pos + 1) _ _ (by omega) (by omega) (by omega)).mono ?_
              rintro e w' ⟨t, rfl, HT, rfl⟩
              have hd : t.toList = [46] ∨ (¬ t.toList = [46] ∧ (t.toList == [46]) = false ∧ (t.toList == [46, 46]) = true) := by
                have h := HD.out
                unfold dots at h
                rw [← HT.out] at h
                by_cases e : t.toList = [46]
                · exact .inl e
                · right; simp [e] at h; simp [h]
              rcases hd with hd | ⟨hd, hd1, hd2⟩
              all_goals
                go_wp2
                go_ret2
                exact ⟨6, _, rfl, by unfold Hid; rw [hv.out, H1.out]; simp, Below.refl _ _⟩
          · have hdt' : dots s (pos + 1) = false := by simpa using hdt
            have H1 := Lib.hid (Hs.out.trans (scan_slash s pos hlt h47 hv2 hdt'))
            have hda := dec_one s pos h47 (dec s pos hlt).ascii
            have hpl : pl (Utf8.decode s pos).1 = true := by rw [hda]; rfl
            have hk : (kindR (Utf8.decode s pos).1 != 1) = false := by simp; exact (kindR_pl _).2 ⟨by omega, by simpa using hpl⟩
            have HD := Lib.hid hdt'
            have HP := Lib.hid hpl
            clear hdt hdt' hv2 h47 hbg Hs hda hpl
            rcases hbz with hbz | ⟨hz, hbz⟩
            all_goals
              go_wp2_with fail
              refine (part_at s (pos + 1) _ _ (by omega) (by omega) (by omega)).mono ?_
              rintro e w' ⟨t, rfl, HT, rfl⟩
              have hd : ¬ t.toList = [46] ∧ (t.toList == [46]) = false ∧ (t.toList == [46, 46]) = false := by
                have h := HD.out
                unfold dots at h
                rw [← HT.out] at h
                simp at h
                simp [h]
              obtain ⟨h1, h2, h3⟩ := hd
              go_wp2_with fail
              refine (HC _).mono ?_
              rintro e w' ⟨r, n, rfl, HR, rfl⟩
              obtain ⟨rfl, rfl⟩ := HR.out.2 HP.out
              go_wp2_with (go_at_call 48; refine (rof_any _ _).mono ?_; rintro e w' ⟨rfl, rfl⟩)
              go_round
              case rel => exact ⟨_, by go_num, hd2, H1⟩
              case measure => simp [intOf]; omega
      · have h47' : ((s[pos].toNat : Int) == 47) = false := by rw [← hbg]; simp; omega
        by_cases hpl : pl (Utf8.decode s pos).1 = true
        · have H1 := Lib.hid (Hs.out.trans (scan_plain s pos hlt h47 hpl))
          have hk : (kindR (Utf8.decode s pos).1 != 1) = false := by simp; exact (kindR_pl _).2 ⟨by omega, by simpa using hpl⟩
          have HP := Lib.hid hpl
          clear h47 hbg Hs hpl
          go_wp2_with fail
          refine (HC _).mono ?_
          rintro e w' ⟨r, n, rfl, HR, rfl⟩
          obtain ⟨rfl, rfl⟩ := HR.out.2 HP.out
          go_wp2_with (go_at_call 48; refine (rof_any _ _).mono ?_; rintro e w' ⟨rfl, rfl⟩)
          go_round
          case rel => exact ⟨_, by go_num, hd2, H1⟩
          case measure => simp [intOf]; omega
        · have H1 := Lib.hid (Hs.out.trans (scan_pl s pos hlt hpl))
          have HP := Lib.hid hpl
          clear h47 hbg Hs hpl
          go_wp2_with fail
          refine (HC _).mono ?_
          rintro e w' ⟨r, n, rfl, HR, rfl⟩
          have hk : (kindR r != 1) = true := by
            simp; intro e; exact HP.out (HR.out.1.1 ((kindR_pl _).1 e))
          go_wp2_with (go_at_call 48; refine (rof_any _ _).mono ?_; rintro e w' ⟨rfl, rfl⟩)
          go_ret2
          exact ⟨7, _, rfl, by unfold Hid; rw [hv.out, H1.out]; simp, Below.refl _ _⟩
    · have H1 : Hid (scanAt s 0 = true) := by unfold Hid; rw [Hs.out]; exact scanAt_end s pos (by omega)
      clear Hs
      go_wp2
      go_ret2
      exact ⟨0, -1, rfl, by unfold Hid; rw [hv.out, H1.out]; simp, Below.refl _ _⟩

theorem rvalid_any (s : ByteArray) (w : World) (hs : s.size ≤ 9223372036854775800) : Calls Tryd.prog 34 #[.string s] w fun e w' =>
    e = .returned (.bool (vpath s)) ∧ Below w.heap.size w w' := by
  by_cases hv : vpath s = true
  · go_enter Tryd.func34, Tryd.ntmps34
    go_wp2_with fail
    refine (rcheck_any s w hs).mono ?_
    rintro e w' ⟨f, a, rfl, hf, hB⟩
    obtain rfl : f = 0 := hf.out.2 hv
    go_wp2
    go_ret
    exact ⟨by rw [hv]; rfl, hB⟩
  · go_enter Tryd.func34, Tryd.ntmps34
    go_wp2_with fail
    refine (rcheck_any s w hs).mono ?_
    rintro e w' ⟨f, a, rfl, hf, hB⟩
    have hf0 : (f == 0) = false := by simp; intro h; exact hv (hf.out.1 h)
    have hv' : vpath s = false := by simpa using hv
    clear hf hv
    go_wp2
    go_ret
    exact ⟨by rw [hv']; rfl, hB⟩
end Go.Proofs.YtmpgfblcfgefjaaDoor
