/- The walks of package paths up to Valid: whether a text is a path. -/
import Derived.Test.YtfgjbcejpjcpeaaDoorRun
import Derived.Lib.IndexLaws
import Derived.Deep.QuietTactic
import Derived.BigQuiet
namespace Go.Proofs.YtfgjbcejpjcpeaaDoor
open Go.RowKit
set_option maxHeartbeats 400000
set_option maxRecDepth 100000

/-- What stands ahead of the first slash. -/
def cutB (t : ByteArray) : ByteArray := if 0 ≤ Lib.indexByte t.data.toList 47 then t.extract 0 (Lib.indexByte t.data.toList 47).toNat else t

theorem indexByte_lt (t : ByteArray) (h : 0 ≤ Lib.indexByte t.data.toList 47) : (Lib.indexByte t.data.toList 47).toNat < t.size := by
  obtain ⟨o, ho⟩ := Int.eq_ofNat_of_zero_le h
  obtain ⟨h1, _⟩ := Lib.indexByte_some ho
  have := (List.getElem?_eq_some_iff.1 h1).1
  rw [ho]; simpa using this

theorem cut_any (t : ByteArray) (w : World) (ht : t.size ≤ 9223372036854775806) : Calls Tryd.prog 117 #[.string t, .string ⟨#[47]⟩] w fun e w' =>
    ∃ (b : ByteArray) (f : Bool) (n : Nat), e = .returned (.tuple #[.string (cutB t), .string b, .bool f]) ∧ w' = w.drewN n := by
  have hge := Lib.indexByte_ge t.data.toList 47
  have HC := Tryd.stringslite_Index_one t 47 w
  by_cases h : 0 ≤ Lib.indexByte t.data.toList 47
  · have hl := indexByte_lt t h
    have e1 : cutB t = t.extract 0 (Lib.indexByte t.data.toList 47).toNat := by unfold cutB; rw [if_pos h]
    have E1 := Lib.hid e1
    clear e1
    generalize Lib.indexByte t.data.toList 47 = i at *
    obtain ⟨i, rfl⟩ := Int.eq_ofNat_of_zero_le h
    simp only [Int.toNat_natCast] at *
    have hl2 : (i : Int) + 1 ≤ t.size := by omega
    go_enter Tryd.func117, Tryd.ntmps117
    go_wp2_with fail
    refine HC.mono ?_
    rintro e w' ⟨rfl, rfl⟩
    clear HC
    go_wp2
    go_quiet (fail)
    go_wp2
    go_ret3
    exact ⟨_, _, _, by rw [E1.out]; rfl, rfl⟩
  · have e1 : cutB t = t := by unfold cutB; rw [if_neg h]
    have E1 := Lib.hid e1
    clear e1
    generalize Lib.indexByte t.data.toList 47 = i at *
    obtain rfl : i = -1 := by omega
    go_enter Tryd.func117, Tryd.ntmps117
    go_wp2_with fail
    refine HC.mono ?_
    rintro e w' ⟨rfl, rfl⟩
    clear HC
    go_wp2
    go_ret3
    exact ⟨_, _, 0, by rw [E1.out]; rfl, rfl⟩
theorem Cut_any (t : ByteArray) (w : World) (ht : t.size ≤ 9223372036854775806) : Calls Tryd.prog 98 #[.string t, .string ⟨#[47]⟩] w fun e w' =>
    ∃ (b : ByteArray) (f : Bool) (n : Nat), e = .returned (.tuple #[.string (cutB t), .string b, .bool f]) ∧ w' = w.drewN n := by
  go_enter Tryd.func98, Tryd.ntmps98
  go_wp2_with fail
  refine (cut_any t w ht).mono ?_
  rintro e w' ⟨b, f, n, rfl, rfl⟩
  go_wp2
  go_ret3
  exact ⟨b, f, n, rfl, rfl⟩

theorem takeWhile_index : ∀ (l : List UInt8), l.takeWhile (· != 47) = if 0 ≤ Lib.indexByte l 47 then l.take (Lib.indexByte l 47).toNat else l
  | [] => by simp [Lib.indexByte]
  | b :: l => by
    have hge := Lib.indexByte_ge l 47
    have ih := takeWhile_index l
    simp only [Lib.indexByte]
    by_cases hb : b = 47
    · subst hb; simp
    · have h1 : (b == 47) = false := by simp [hb]
      have h2 : (b != 47) = true := by simp [hb]
      rw [List.takeWhile_cons_of_pos (by simpa using hb), ih]
      simp only [h1]
      by_cases hi : Lib.indexByte l 47 = -1
      · simp [hi]
      · have h3 : (Lib.indexByte l 47 == -1) = false := by simp [hi]
        simp only [h3]
        rw [if_pos (by omega)]
        have : (Lib.indexByte l 47 + 1).toNat = (Lib.indexByte l 47).toNat + 1 := by omega
        simp [this]
        omega

theorem cutB_list (s : ByteArray) (p : Nat) (hp : p ≤ s.size) : (cutB (s.extract p s.size)).toList = partL s p := by
  have e : (s.extract p s.size).data.toList = s.data.toList.drop p := by
    rw [Lib.extract_to_end]
  unfold partL cutB
  rw [takeWhile_index, ← e]
  split
  · rw [ByteArray.toList_eq, Lib.extract_data]; simp
  · rw [ByteArray.toList_eq]

theorem below_iter {B : Nat} {a w : World} (h : Below B a w) (hB : B ≤ w.heap.size) (s : ByteArray) (p : Nat) : Below B a (w.iter s p) := h.alloc hB _
theorem below_drewN {B : Nat} {a w : World} (h : Below B a w) (n : Nat) : Below B a (w.drewN n) := ⟨h.os, h.tape, h.output, h.size, h.block⟩

theorem iter_drewN (w : World) (s : ByteArray) (p n m : Nat) : (((w.drewN n).iter s p).drewN m) = (w.drewN (n + m)).iter s p := by
  simp [World.drewN, World.iter, World.alloc, Nat.add_assoc]

theorem iterPos_d (w : World) (s : ByteArray) (p n : Nat) : ((w.drewN n).iter s p).iterPos w.heap.size = p := World.iterPos_iter (w.drewN n) s p

theorem sep_ok (s : ByteArray) (p : Nat) (h : bat s p ≠ 47) : sep s p = true := by simp [sep, h]
theorem sep_slash (s : ByteArray) (p : Nat) (h : bat s p = 47) : sep s p = (!(0 < p && bat s (p - 1) == 47) && !dots s (p + 1)) := by simp [sep, h]

theorem dec_one (s : ByteArray) (p : Nat) (h : bat s p = 47) (d : bat s p < 128 → Utf8.decode s p = (bat s p, 1)) : Utf8.decode s p = (47, 1) := by
  rw [d (by omega), h]

/-- What is so behind a character that is no slash, or one. -/
theorem next_last (s : ByteArray) (p : Nat) (d : Dec s p) (hpl : pl (Utf8.decode s p).1 = true) : (bat s (p + (Utf8.decode s p).2 - 1) = 47 ↔ bat s p = 47) ∧ ((Utf8.decode s p).1 = 47 ↔ bat s p = 47) := by
  have h1 := d.pos
  by_cases h : (Utf8.decode s p).2 = 1
  · have h3 : (Utf8.decode s p).1 ≠ 65533 := by intro e; rw [e] at hpl; revert hpl; decide
    have := d.one h h3
    rw [h, Nat.add_sub_cancel]
    exact ⟨Iff.rfl, by rw [this.1]⟩
  · have h3 := d.more h
    have h4 := d.tail ((Utf8.decode s p).2 - 1) (by omega) (by omega)
    rw [show p + (Utf8.decode s p).2 - 1 = p + ((Utf8.decode s p).2 - 1) from by omega]
    exact ⟨⟨by omega, by omega⟩, ⟨by omega, by omega⟩⟩

theorem vpath_big (s : ByteArray) (h : 4096 < s.size) : vpath s = false := by simp [vpath]; omega
theorem vpath_start (s : ByteArray) (h : bat s 0 ≠ 47) : vpath s = false := by simp [vpath, h]
theorem vpath_empty (s : ByteArray) (h : s.size = 0) : vpath s = false := by simp [vpath, h]
theorem vpath_root (s : ByteArray) (h : s.size = 1) (h0 : bat s 0 = 47) : vpath s = true := by simp [vpath, h, h0]
theorem vpath_end (s : ByteArray) (h : s.size ≠ 1) (h0 : bat s (s.size - 1) = 47) : vpath s = false := by simp [vpath, h, h0]
theorem vpath_scan (s : ByteArray) (h : s.size ≠ 1) (h0 : s.size ≠ 0) (h1 : s.size ≤ 4096) (h2 : bat s 0 = 47) (h3 : bat s (s.size - 1) ≠ 47) : vpath s = scanAt s 0 := by
  have a1 : (s.size != 0) = true := bne_iff_ne.2 h0
  have a2 : (bat s (s.size - 1) != 47) = true := bne_iff_ne.2 h3
  have a3 : (s.size == 1) = false := beq_eq_false_iff_ne.2 h
  have a4 : decide (s.size ≤ 4096) = true := by simpa using h1
  have a5 : (bat s 0 == 47) = true := beq_iff_eq.2 h2
  simp only [vpath, a1, a2, a3, a4, a5, scanAt, Bool.true_and, Bool.false_or]

theorem size_toList (s : ByteArray) : s.toList.length = s.size := by rw [ByteArray.toList_eq]; simp
theorem isEmpty_size (s : ByteArray) : s.toList.isEmpty = (s.size == 0) := by
  rw [← size_toList]; cases s.toList <;> simp
theorem root_size (s : ByteArray) (h0 : 0 < s.size) (h : bat s 0 = 47) : (s.toList == [47]) = (s.size == 1) := by
  have e : s.data.toList[0]'(by simpa using h0) = 47 := by
    have := bat_get s 0 h0
    rw [h] at this
    exact UInt8.toNat_inj.1 (this.symm.trans rfl)
  have h0' : 0 < s.data.toList.length := by simpa using h0
  rw [ByteArray.toList_eq, ← size_toList, ByteArray.toList_eq]
  cases hl : s.data.toList with
  | nil => rw [hl] at h0'; simp at h0'
  | cons a l =>
    simp only [hl, List.getElem_cons_zero] at e
    subst e
    cases l <;> simp

set_option maxHeartbeats 1000000 in
theorem check_any (s : ByteArray) (w : World) (hs : s.size ≤ 9223372036854775806) : Calls Tryd.prog 78 #[.string s] w fun e w' =>
    ∃ f a : Int, e = .returned (.tuple #[.int .i64 f, .int .i64 a]) ∧ Hid (f = 0 ↔ vpath s = true) ∧ Below w.heap.size w w' := by
  have he := isEmpty_size s
  by_cases h0 : s.size = 0
  · have hv := Lib.hid (vpath_empty s h0)
    have he' : s.toList.isEmpty = true := by rw [he]; simp [h0]
    clear he h0
    go_enter Tryd.func78, Tryd.ntmps78
    go_wp2; go_step3; go_wp2
    rw [Exit.noGoto_ret]; go_ret2
    exact ⟨1, 0, rfl, by unfold Hid; rw [hv.out]; simp, Below.refl _ _⟩
  have he' : s.toList.isEmpty = false := by rw [he]; simp [h0]
  have hp : 0 < s.size := by omega
  clear he
  by_cases h1 : 4096 < s.size
  · have hv := Lib.hid (vpath_big s h1)
    go_enter Tryd.func78, Tryd.ntmps78
    go_wp2; go_step3; go_wp2
    rw [Exit.noGoto_ret]; go_ret2
    exact ⟨2, 4096, rfl, by unfold Hid; rw [hv.out]; simp, Below.refl _ _⟩
  by_cases h2 : bat s 0 ≠ 47
  · have hv := Lib.hid (vpath_start s h2)
    have h2' : ((s[0].toNat : Int) != 47) = true := by rw [← bat_get s 0 hp]; simp; omega
    go_enter Tryd.func78, Tryd.ntmps78
    go_wp2; go_step3; go_wp2
    rw [Exit.noGoto_ret]; go_ret2
    exact ⟨3, 0, rfl, by unfold Hid; rw [hv.out]; simp, Below.refl _ _⟩
  have h2 : bat s 0 = 47 := by omega
  have h2' : ((s[0].toNat : Int) != 47) = false := by rw [← bat_get s 0 hp]; simp; omega
  have hr := root_size s hp h2
  by_cases h3 : s.size = 1
  · have hv := Lib.hid (vpath_root s h3 h2)
    have hr' : (s.toList == [47]) = true := by rw [hr]; simp [h3]
    clear hr h3 h2
    go_enter Tryd.func78, Tryd.ntmps78
    go_wp2; go_step3; go_wp2
    rw [Exit.noGoto_ret]; go_ret2
    exact ⟨0, -1, rfl, by unfold Hid; rw [hv.out]; simp, Below.refl _ _⟩
  have hr' : (s.toList == [47]) = false := by rw [hr]; simp [h3]
  clear hr
  have hb1 : 1 ≤ (s.size : Int) ∧ (s.size : Int) - 1 < s.size := by omega
  by_cases h4 : bat s (s.size - 1) = 47
  · have hv := Lib.hid (vpath_end s h3 h4)
    have h4' : ((s[s.size - 1].toNat : Int) == 47) = true := by rw [← bat_get s (s.size - 1) (by omega)]; simp; omega
    clear h4 h2
    go_enter Tryd.func78, Tryd.ntmps78
    go_wp2; go_step3; go_wp2
    rw [Exit.noGoto_ret]; go_ret2
    exact ⟨4, _, rfl, by unfold Hid; rw [hv.out]; simp, Below.refl _ _⟩
  have h4' : ((s[s.size - 1].toNat : Int) == 47) = false := by rw [← bat_get s (s.size - 1) (by omega)]; simp; omega
  have hv := Lib.hid (vpath_scan s h3 h0 (by omega) h2 h4)
  clear h4 h2
  go_enter Tryd.func78, Tryd.ntmps78
  go_wp2; go_step3
  go_wp2_with (go_at_call 97; refine (first_any _ _).mono ?_; rintro e w' ⟨k, pos, rfl, rfl⟩)
  have hB : Below w.heap.size w (w.iter s pos) := below_iter (Below.refl _ _) (Nat.le_refl _) s pos
  have hfb := fbAt_ge s 0
  generalize w.iter s pos = w1 at hB ⊢
  clear hr' he'
  go_step3
  go_wp2
  go_loopw [6] (fun b wr => ∃ pos b' n : Nat, wr = (w1.drewN n).iter s pos ∧ b = .int .i64 b' ∧ pos ≤ s.size ∧ b' ≤ pos ∧ Hid (0 < pos → (b' = pos ↔ bat s (pos - 1) = 47)) ∧ Hid (scanAt s 0 = scanAt s pos) ∧ Hid (fbAt s 0 = fbAt s pos)) (fun _ wr => s.size - wr.iterPos w1.heap.size)
  case atStart => exact ⟨0, 0, 0, rfl, rfl, Nat.zero_le _, Nat.zero_le _, by unfold Hid; omega, rfl, rfl⟩
  case round =>
    obtain ⟨pos, b, n, rfl, rfl, hpos, hb, Hb, Hs, Hf⟩ := hrel
    by_cases hlt : pos < s.size
    · have hfs := fbAt_step s pos hlt
      have hss := scanAt_step s pos hlt
      have d := dec s pos hlt
      have hd1 := d.pos
      have hd2 := d.fits
      have d0 := d.ascii
      have hn := run_next_any (P := Tryd.prog) (w1.drewN n) s pos
      rw [show (w1.drewN n).heap.size = w1.heap.size from rfl] at hn
      by_cases hpl : pl (Utf8.decode s pos).1 = true
      · rw [if_pos hpl] at hfs
        have hnl := next_last s pos d hpl
        have hge := fbAt_ge s (pos + (Utf8.decode s pos).2)
        have hne : ((pos : Int) == fbAt s 0) = false := by rw [Hf.out, hfs]; simp; omega
        clear d
        by_cases h47 : bat s pos = 47
        · have hda := dec_one s pos h47 d0
          have hr : (((Utf8.decode s pos).1 : Int) != 47) = false := by rw [hda]; rfl
          have ht : (s.extract (pos + 1) s.size).size ≤ 9223372036854775806 := by rw [ByteArray.size_extract]; omega
          have hcl := cutB_list s (pos + 1) (by omega)
          rw [sep_slash s pos h47] at hss
          rw [hda] at hd2
          simp only [] at hd2
          by_cases hv2 : 0 < pos ∧ bat s (pos - 1) = 47
          · have hbp : b = pos := (Hb.out hv2.1).2 hv2.2
            subst hbp
            have hg0 : decide ((0 : Int) < (b : Int)) = true := by simp; omega
            have H1 : Hid (scanAt s 0 = false) := by
              unfold Hid; rw [Hs.out, hss]; simp [hv2]
            clear hss hfs Hs Hf hpl hcl hnl hda
            go_wp2
            (try rw [Exit.noGoto_ret]); go_ret2
            exact ⟨5, _, rfl, by unfold Hid; rw [hv.out, H1.out]; simp, below_iter (below_drewN hB n) (by exact hB.size) s _⟩
          · have hbz : ¬ (0 < pos) ∨ (0 < pos ∧ ((b : Int) == (pos : Int)) = false) := by
              by_cases hz : 0 < pos
              · have : b ≠ pos := fun e => hv2 ⟨hz, (Hb.out hz).1 e⟩
                right; refine ⟨hz, ?_⟩; simp; omega
              · exact .inl hz
            have hex : Exists fun b : Bool => dots s (pos + 1) = b := ⟨_, rfl⟩
            obtain ⟨dt, hdt⟩ := hex
            have hss2 : scanAt s pos = (!dt && scanAt s (pos + 1)) := by
              rw [hss, hdt, hda]
              have : (decide (0 < pos) && bat s (pos - 1) == 47) = false := by
                rw [Bool.and_eq_false_iff]
                by_cases hz : 0 < pos
                · right; simp; exact fun e => hv2 ⟨hz, e⟩
                · left; simpa using hz
              rw [this, show pl (47, 1).1 = true from rfl]; simp
            rw [hda] at hfs
            have H1 := Lib.hid (Hs.out.trans hss2)
            have H2 := Lib.hid (Hf.out.trans hfs)
            unfold dots at hdt
            rw [← hcl] at hdt
            clear hss hss2 hfs Hs Hf hpl hcl hnl hda hge hv2 Hb
            cases dt
            · simp only [Bool.or_eq_false_iff] at hdt
              obtain ⟨e1, e2⟩ := hdt
              have e3 : ¬ (cutB (s.extract (pos + 1) s.size)).toList = [46] := by simpa using e1
              rcases hbz with hbz | ⟨hz, hbz⟩
              all_goals
                go_wp2_with (go_at_call 98; refine (Cut_any _ _ ht).mono ?_; rintro e w' ⟨cb, cf, m, rfl, rfl⟩)
                go_roundw
                case rel => exact ⟨pos + 1, pos + 1, n + m, iter_drewN _ _ _ _ _, by go_num, by omega, by omega, by unfold Hid; simp; omega, by have := H1.out; simpa [Hid] using this, H2⟩
                case measure => rw [iter_drewN, iterPos_d, iterPos_d]; omega
            · have H3 : Hid (scanAt s 0 = false) := by unfold Hid; rw [H1.out]; rfl
              clear H1 H2
              have hd : (cutB (s.extract (pos + 1) s.size)).toList = [46] ∨ (¬ (cutB (s.extract (pos + 1) s.size)).toList = [46] ∧ ((cutB (s.extract (pos + 1) s.size)).toList == [46]) = false ∧ ((cutB (s.extract (pos + 1) s.size)).toList == [46, 46]) = true) := by
                by_cases e : (cutB (s.extract (pos + 1) s.size)).toList = [46]
                · exact .inl e
                · right; simp [e] at hdt; simp [e, hdt]
              clear hdt
              rcases hbz with hbz | ⟨hz, hbz⟩ <;> rcases hd with hd | ⟨hd, hd1, hd2⟩
              all_goals
                go_wp2_with (go_at_call 98; refine (Cut_any _ _ ht).mono ?_; rintro e w' ⟨cb, cf, m, rfl, rfl⟩)
                (try rw [Exit.noGoto_ret]); go_ret2
                exact ⟨6, _, rfl, by unfold Hid; rw [hv.out, H3.out]; simp, below_drewN (below_iter (below_drewN hB n) (by exact hB.size) s _) _⟩
        · have hr : (((Utf8.decode s pos).1 : Int) != 47) = true := by simp; omega
          have H1 := Lib.hid (Hs.out.trans hss)
          have H2 := Lib.hid (Hf.out.trans hfs)
          rw [hpl, sep_ok s pos h47, Bool.true_and, Bool.true_and] at H1
          have H3 := Lib.hid hnl.1
          clear hnl hss hfs Hs Hf hpl
          go_wp2
          go_roundw
          case rel => exact ⟨_, b, n, rfl, rfl, hd2, by omega, by have := H3.out; unfold Hid; omega, H1, H2⟩
          case measure => rw [iterPos_d, iterPos_d]; omega
      · rw [if_neg hpl] at hfs
        have hne : ((pos : Int) == fbAt s 0) = true := by rw [Hf.out, hfs]; simp
        have H1 : Hid (scanAt s 0 = false) := by
          unfold Hid; rw [Hs.out, hss]; simp [hpl]
        clear hss hfs Hs Hf hpl d
        go_wp2
        (try rw [Exit.noGoto_ret]); go_ret2
        exact ⟨7, _, rfl, by unfold Hid; rw [hv.out, H1.out]; simp, below_iter (below_drewN hB n) (by exact hB.size) s _⟩
    · have H1 : Hid (scanAt s 0 = true) := by unfold Hid; rw [Hs.out]; exact scanAt_end s pos (by omega)
      have hn := run_next_end (P := Tryd.prog) (w1.drewN n) s pos
      rw [show (w1.drewN n).heap.size = w1.heap.size from rfl] at hn
      clear Hs Hf
      go_wp2
      (try rw [Exit.noGoto_ret]); go_ret2
      exact ⟨0, -1, rfl, by unfold Hid; rw [hv.out, H1.out]; simp, below_iter (below_drewN hB n) (by exact hB.size) s _⟩

theorem valid_any (s : ByteArray) (w : World) (hs : s.size ≤ 9223372036854775806) : Calls Tryd.prog 60 #[.string s] w fun e w' =>
    e = .returned (.bool (vpath s)) ∧ Below w.heap.size w w' := by
  by_cases hv : vpath s = true
  · go_enter Tryd.func60, Tryd.ntmps60
    go_wp2_with fail
    refine (check_any s w hs).mono ?_
    rintro e w' ⟨f, a, rfl, hf, hB⟩
    obtain rfl : f = 0 := hf.out.2 hv
    go_wp2
    go_ret
    exact ⟨by rw [hv]; rfl, hB⟩
  · go_enter Tryd.func60, Tryd.ntmps60
    go_wp2_with fail
    refine (check_any s w hs).mono ?_
    rintro e w' ⟨f, a, rfl, hf, hB⟩
    have hf0 : (f == 0) = false := by simp; intro h; exact hv (hf.out.1 h)
    have hv' : vpath s = false := by simpa using hv
    clear hf hv
    go_wp2
    go_ret
    exact ⟨by rw [hv']; rfl, hB⟩
end Go.Proofs.YtfgjbcejpjcpeaaDoor
