/- Plain law: the parent of a path is a path. No program in sight. The walks of the references' own texts up to Valid: whether a text is a path, as the document has it. The walks of the reference of paths up to Valid. The walks of arborref03's last and Parent. The walk of arborref03.Under. The document's tree, plainly: a list of nodes in order; where a path stands in it. The walk of arborref03.Order. -/
import Derived.Test.YtamolbegmkngdaaGreatDoorJTreeMakes3
import Derived.Test.YtamolbegmkngdaaGreatDoorJTreeMakes6
import Derived.Test.YtamolbegmkngdaaGreatDoorJTreeMakes1
import Derived.Test.YtamolbegmkngdaaGreatDoorJTreeMakes2
import Derived.Test.YtamolbegmkngdaaGreatDoorJTreeMakes4
import Derived.BigQuiet
namespace Go.Proofs.YtamolbegmkngdaaGreatDoor
open Go.RowKit

theorem dec_take {s t : ByteArray} {i : Nat} (hi : i < s.size) (h47 : bat s i = 47) (ht : t.size = i) (hb : ∀ k, k < i → bat t k = bat s k) (p : Nat) (hp : p < i) : Utf8.decode t p = Utf8.decode s p := by
  have c : ∀ k, p + k ≤ i → (decide (p + k < t.size) && bat t (p + k) / 64 == 2) = (decide (p + k < s.size) && bat s (p + k) / 64 == 2) := fun k hk => by
    by_cases h : p + k < i
    · rw [hb _ h, ht]
      simp only [h, decide_true, Bool.true_and, show p + k < s.size by omega]
    · obtain e : p + k = i := by omega
      rw [e, h47, ht]
      simp
  have f : ∀ k, i ≤ p + k → (decide (p + k < t.size) && bat t (p + k) / 64 == 2) = false := fun k hk => by
    rw [ht]
    simp only [show ¬ p + k < i by omega, decide_false, Bool.false_and]
  have g : ∀ k, p + k = i → (decide (p + k < s.size) && bat s (p + k) / 64 == 2) = false := fun k hk => by
    rw [hk, h47]
    simp
  rw [dec_eq, dec_eq]
  simp only [hb p hp]
  by_cases h1 : p + 1 = i
  · have a1 := f 1 (by omega)
    have b1 := g 1 h1
    simp only [a1, b1, Bool.and_false, Bool.false_and, Bool.false_eq_true, if_false]
  · have e1 := c 1 (by omega)
    have v1 := hb (p + 1) (by omega)
    by_cases h2 : p + 2 = i
    · have a2 := f 2 (by omega)
      have b2 := g 2 h2
      simp only [e1, a2, b2]
      simp only [v1, Bool.and_false, Bool.false_and, Bool.false_eq_true, if_false]
    · have e2 := c 2 (by omega)
      have v2 := hb (p + 2) (by omega)
      by_cases h3 : p + 3 = i
      · have a3 := f 3 (by omega)
        have b3 := g 3 h3
        simp only [e1, e2, a3, b3]
        simp only [v1, v2, Bool.and_false, Bool.false_and, Bool.false_eq_true, if_false]
      · have e3 := c 3 (by omega)
        have v3 := hb (p + 3) (by omega)
        simp only [e1, e2, e3]
        simp only [v1, v2, v3]

theorem part_take {s t : ByteArray} {i : Nat} (hi : i < s.size) (h47 : bat s i = 47) (ht : t.data.toList = s.data.toList.take i) (p : Nat) (hp : p ≤ i) : partL t p = partL s p := by
  unfold partL
  have e : s.data.toList.drop p = (s.data.toList.take i).drop p ++ 47 :: s.data.toList.drop (i + 1) := by
    rw [← drop_at_slash hi h47]
    conv => lhs; rw [← List.take_append_drop i s.data.toList]
    rw [List.drop_append_of_le_length (by rw [List.length_take, size_list]; omega)]
  rw [e, ht, List.takeWhile_append]
  split
  · rename_i h
    simp
    have : List.takeWhile (fun x => x != 47) (List.drop p (List.take i s.data.toList)) = List.drop p (List.take i s.data.toList) := by
      exact (List.takeWhile_prefix _).eq_of_length h
    exact this
  · rfl

theorem bat_take {s t : ByteArray} {i : Nat} (hi : i ≤ s.size) (ht : t.data.toList = s.data.toList.take i) (hts : t.size = i) (k : Nat) (hk : k < i) : bat t k = bat s k := by
  rw [bat_get t k (by omega), bat_get s k (by omega)]
  have h1 : t[k]'(by omega) = t.data.toList[k]'(by rw [size_list]; omega) := by rw [Array.getElem_toList]; rfl
  have h2 : s[k]'(by omega) = s.data.toList[k]'(by rw [size_list]; omega) := by rw [Array.getElem_toList]; rfl
  rw [h1, h2]
  simp only [ht, List.getElem_take]

theorem scan_take {s t : ByteArray} {i : Nat} (hi : i < s.size) (h47 : bat s i = 47) (ht : t.data.toList = s.data.toList.take i) (hts : t.size = i) :
    ∀ (n p : Nat), i ≤ p + n → scanAt s p = true → scanAt t p = true
  | 0, p, hn, h => scanAt_end t p (by omega)
  | n + 1, p, hn, h => by
    by_cases hp : p < i
    · have hd := dec_take hi h47 hts (fun k hk => bat_take (by omega) ht hts k hk) p hp
      have d := (dec s p (by omega)).pos
      rw [scanAt_step s p (by omega)] at h
      rw [scanAt_step t p (by omega), hd]
      simp only [Bool.and_eq_true] at h ⊢
      refine ⟨⟨h.1.1, ?_⟩, scan_take hi h47 ht hts n _ (by omega) h.2⟩
      have h2 := h.1.2
      unfold sep dots at h2 ⊢
      rw [part_take hi h47 ht (p + 1) (by omega), bat_take (by omega) ht hts p hp]
      by_cases h0 : 0 < p
      · rw [bat_take (by omega) ht hts (p - 1) (by omega)]
        exact h2
      · have : p = 0 := by omega
        subst this
        simpa using h2
    · exact scanAt_end t p (by omega)

theorem vpath_slash : vpath ⟨#[47]⟩ = true := by decide +kernel
/-- The parent of a path is a path. -/
theorem vpath_parent {s : ByteArray} (h : vpath s = true) (h1 : s.size ≠ 1) : vpath (parentB s) = true := by
  obtain ⟨i, e, hi, h47, hn⟩ := lastS_spec h
  obtain ⟨g1, g2, g3, g4⟩ := vpath_facts h
  have eL : (parentB s).data.toList = s.data.toList.take (max i 1) := by
    unfold parentB
    rw [extract_list, e, List.drop_zero]
    congr 1
    omega
  by_cases h0 : i = 0
  · subst h0
    have : parentB s = ⟨#[47]⟩ := by
      apply ba_ext
      rw [eL]
      have := drop_at_slash (s := s) (i := 0) (by omega) g3
      rw [List.drop_zero] at this
      rw [this]; rfl
    rw [this]; exact vpath_slash
  · have hi1 : i ≠ 1 := by
      intro e1
      subst e1
      exact vpath_noadj h 0 (by omega) g3 h47
    rw [show max i 1 = i by omega] at eL
    have hts : (parentB s).size = i := by rw [← size_list, eL, List.length_take, size_list]; omega
    have hb := fun k hk => bat_take (by omega) eL hts k hk
    rcases g4 with g4 | ⟨_, g4⟩
    · omega
    · have hsc := scan_take hi h47 eL hts i 0 (by omega) g4
      have hlast : bat (parentB s) (i - 1) ≠ 47 := by
        rw [hb (i - 1) (by omega)]
        intro h2
        exact vpath_noadj h (i - 1) (by omega) h2 (by rw [show i - 1 + 1 = i by omega]; exact h47)
      have h3 : bat (parentB s) 0 = 47 := by rw [hb 0 (by omega)]; exact g3
      unfold vpath
      unfold scanAt at hsc
      rw [hts] at hsc ⊢
      simp only [Bool.and_eq_true, Bool.or_eq_true, bne_iff_ne, beq_iff_eq, decide_eq_true_eq, ne_eq]
      exact ⟨⟨⟨by omega, by omega⟩, h3⟩, .inr ⟨hlast, hsc⟩⟩

/-- A step towards the root, of any path. -/
theorem undV_fuel : ∀ (f g : Nat) (p : ByteArray), vpath p = true → p.size ≤ f → p.size ≤ g → ∀ s, undF f p s = undF g p s
  | 0, _, p, hv, hf, _, s => by have := (vpath_facts hv).1; omega
  | _ + 1, 0, p, hv, hf, hg, s => by have := (vpath_facts hv).1; omega
  | f + 1, g + 1, p, hv, hf, hg, s => by
    simp only [undF]
    by_cases h1 : p.size = 1
    · simp only [h1, bne_self_eq_false, Bool.false_and]
    · have hs := (path_split hv h1).2.2.1
      rw [undV_fuel f g (parentB p) (vpath_parent hv h1) (by omega) (by omega) s]
theorem undV_one {p : ByteArray} (h1 : p.size = 1) (s : ByteArray) : und p s = (p.data == s.data) := by
  unfold und
  rw [h1]
  simp only [undF, h1, bne_self_eq_false, Bool.false_and, Bool.or_false]
theorem undV_up {p : ByteArray} (hv : vpath p = true) (h1 : p.size ≠ 1) (s : ByteArray) : und p s = (p.data == s.data || und (parentB p) s) := by
  have hp := (vpath_facts hv).1
  have hs := (path_split hv h1).2.2.1
  obtain ⟨g, hg⟩ : ∃ g, p.size = g + 1 := ⟨p.size - 1, by omega⟩
  have e1 := undV_fuel g (parentB p).size (parentB p) (vpath_parent hv h1) (by omega) (Nat.le_refl _) s
  have h2 : (p.size != 1) = true := by simpa using h1
  unfold und
  rw [hg]
  simp only [undF]
  rw [h2, e1, Bool.true_and]
/-- What a path is under is a path. -/
theorem undV_path : ∀ (n : Nat) (p : ByteArray), p.size ≤ n → vpath p = true → ∀ s, und p s = true → vpath s = true
  | 0, p, hn, hv, s, _ => by have := (vpath_facts hv).1; omega
  | n + 1, p, hn, hv, s, h => by
    by_cases h1 : p.size = 1
    · rw [undV_one h1] at h
      rw [← ByteArray.ext (beq_iff_eq.1 h)]; exact hv
    · rw [undV_up hv h1] at h
      simp only [Bool.or_eq_true] at h
      rcases h with h | h
      · rw [← ByteArray.ext (beq_iff_eq.1 h)]; exact hv
      · have hs := (path_split hv h1).2.2.1
        exact undV_path n (parentB p) (by omega) (vpath_parent hv h1) s h
end Go.Proofs.YtamolbegmkngdaaGreatDoor
namespace Go.Proofs.YtamolbegmkngdaaGreatDoor
open Go.RowKit
set_option maxHeartbeats 400000
set_option maxRecDepth 100000

theorem rkind_any (r : Int) (w : World) : Calls Tryz.prog 198 #[.int .i64 r] w fun e w' => e = .returned (.int .i64 (kindN r)) ∧ w = w' := by
  go_enter Tryz.func198, Tryz.ntmps198
  go_wp2
  all_goals (try go_ret)
  all_goals (refine ⟨ret_int ?_, rfl⟩; go_light; (try simp only [beq_iff_eq, beq_eq_false_iff_ne, ne_eq] at *); unfold kindN; repeat' split)
  all_goals (first | rfl | (exfalso; omega))

def kindR (r : Int) : Int := if r < 0 then 8 else kindN r
theorem kindR_pl (r : Int) : kindR r = 1 ↔ (0 ≤ r ∧ pl r.toNat = true) := by
  unfold kindR
  split
  · constructor <;> intro h <;> omega
  · have := kindN_pl r.toNat
    rw [show ((r.toNat : Nat) : Int) = r from by omega] at this
    rw [this]
    constructor
    · intro h; exact ⟨by omega, h⟩
    · exact fun h => h.2

theorem rof_any (r : Int) (w : World) : Calls Tryz.prog 181 #[.int .i64 r] w fun e w' => e = .returned (.int .i64 (kindR r)) ∧ w = w' := by
  by_cases h : r < 0
  · have e := Lib.hid (show kindR r = 8 by unfold kindR; rw [if_pos h])
    go_enter Tryz.func181, Tryz.ntmps181
    go_wp2
    go_ret
    exact ⟨ret_int e.out.symm, rfl⟩
  · have e := Lib.hid (show kindR r = kindN r by unfold kindR; rw [if_neg h])
    have h' : 0 ≤ r := by omega
    go_enter Tryz.func181, Tryz.ntmps181
    go_wp2_with (go_at_call 198; refine (rkind_any _ _).mono ?_; rintro e w' ⟨rfl, rfl⟩)
    go_ret
    exact ⟨ret_int e.out.symm, rfl⟩

set_option maxHeartbeats 1000000 in
theorem char_2 (s : ByteArray) (p : Nat) (w : World) (hp : p < s.size) (hs : s.size ≤ 9223372036854775800) (a : 192 ≤ (s[p].toNat : Int)) (b : (s[p].toNat : Int) < 224)
    (HB : Hid (∀ k, 1 ≤ k → k < 2 → ¬ contOk s (p + k) → Utf8.decode s p = (65533, 1)))
    (HF : Hid ((∀ j, 1 ≤ j → j < 2 → contOk s (p + j)) → (badRune (acc s p (s[p].toNat - 192) (2 - 1)) 128 → Utf8.decode s p = (65533, 1)) ∧ (¬ badRune (acc s p (s[p].toNat - 192) (2 - 1)) 128 → Utf8.decode s p = ((acc s p (s[p].toNat - 192) (2 - 1)).toNat, 2))))
    (HA : Hid (∀ k, k ≤ 3 → (∀ j, 1 ≤ j → j ≤ k → contOk s (p + j)) → 0 ≤ acc s p (s[p].toNat - 192) k ∧ acc s p (s[p].toNat - 192) k ≤ 8388608)) :
    Calls Tryz.prog 180 #[.string s, .int .i64 p] w fun e w' => ∃ r n : Int, e = .returned (.tuple #[.int .i64 r, .int .i64 n]) ∧ Hid (HandR s p r n) ∧ w = w' := by
  go_enter Tryz.func180, Tryz.ntmps180
  go_wp2
  go_loop [8, 10] (fun r i => ∃ k : Nat, 1 ≤ k ∧ k ≤ 2 ∧ i = .int .i64 k ∧ r = .int .i64 (acc s p (s[p].toNat - 192) (k - 1)) ∧ Hid (∀ j, 1 ≤ j → j < k → contOk s (p + j))) (fun _ i => 2 - (intOf i).toNat)
  case atStart => exact ⟨1, by omega, by omega, rfl, rfl, fun j h1 h2 => by omega⟩
  case round =>
    obtain ⟨k, hk1, hk2, rfl, rfl, HC⟩ := hrel
    have hbd := HA.out (k - 1) (by omega) (fun j h1 h2 => HC.out j h1 (by omega))
    have hb0 := hbd.1
    have hb1 := hbd.2
    clear hbd
    by_cases hlt : k < 2
    · by_cases hc : contOk s (p + k)
      · have c1 := hc.1
        have c2 := hc.2.1
        have c3 := hc.2.2
        have e2 := bat_get s (p + k) c1
        have HN : Hid (∀ j, 1 ≤ j → j < k + 1 → contOk s (p + j)) := fun j h1 h2 => by
          by_cases e : j = k
          · rw [e]; exact hc
          · exact HC.out j h1 (by omega)
        have HE : Hid (acc s p (s[p].toNat - 192) (k + 1 - 1) = 64 * acc s p (s[p].toNat - 192) (k - 1) + s[p + k].toNat - 128) := by
          obtain ⟨k, rfl⟩ : Exists fun m => k = m + 1 := ⟨k - 1, by omega⟩
          show acc _ _ _ (k + 1) = _
          simp only [acc, Nat.add_sub_cancel]
          rw [e2]
        rw [e2] at c2 c3
        clear e2 hc
        generalize acc s p (s[p].toNat - 192) (k - 1) = ac at *
        go_wp2
        go_round
        case rel => exact ⟨k + 1, by omega, by omega, by go_num, by rw [HE.out], HN⟩
        case measure => simp [intOf]; omega
      · have H := Lib.hid (handR_bad s p (HB.out k hk1 hlt hc))
        generalize acc s p (s[p].toNat - 192) (k - 1) = ac at *
        by_cases c1 : p + k < s.size
        · have e2 := bat_get s (p + k) c1
          have c2 : (s[p + k].toNat : Int) < 128 ∨ (128 ≤ (s[p + k].toNat : Int) ∧ 192 ≤ (s[p + k].toNat : Int)) := by
            unfold contOk at hc; rw [e2] at hc; omega
          clear e2 hc
          rcases c2 with c2 | ⟨c2, c3⟩
          all_goals
            go_wp2
            go_ret2
            exact ⟨-1, 1, rfl, H, rfl⟩
        · clear hc
          go_wp2
          go_ret2
          exact ⟨-1, 1, rfl, H, rfl⟩
    · obtain rfl : k = 2 := by omega
      have hf := HF.out HC.out
      have hf1 := Lib.hid hf.1
      have hf2 := Lib.hid hf.2
      clear hf
      generalize acc s p (s[p].toNat - 192) (2 - 1) = ac at *
      by_cases hbr : badRune ac 128
      · have H := Lib.hid (handR_bad s p (hf1.out hbr))
        clear hf1 hf2
        unfold badRune at hbr
        have hbr2 : ac < 128 ∨ (128 ≤ ac ∧ 1114111 < ac) ∨ (128 ≤ ac ∧ ac ≤ 1114111 ∧ 55296 ≤ ac ∧ ac ≤ 57343) := by omega
        clear hbr
        rcases hbr2 with h1 | ⟨h1, h2⟩ | ⟨h1, h2, h3, h4⟩
        all_goals
          go_wp2
          go_ret2
          exact ⟨-1, 1, rfl, H, rfl⟩
      · have H := Lib.hid (handR_good s p ac 2 hb0 (hf2.out hbr))
        clear hf1 hf2
        unfold badRune at hbr
        have hbr2 : 128 ≤ ac ∧ ac ≤ 1114111 ∧ (ac < 55296 ∨ (55296 ≤ ac ∧ 57343 < ac)) := by omega
        clear hbr
        obtain ⟨h1, h2, h3⟩ := hbr2
        rcases h3 with h3 | ⟨h3, h4⟩
        all_goals (first | (exfalso; omega) | (go_wp2; go_ret2; exact ⟨ac, 2, rfl, H, rfl⟩))

set_option maxHeartbeats 1000000 in
theorem char_3 (s : ByteArray) (p : Nat) (w : World) (hp : p < s.size) (hs : s.size ≤ 9223372036854775800) (a : 224 ≤ (s[p].toNat : Int)) (b : (s[p].toNat : Int) < 240)
    (HB : Hid (∀ k, 1 ≤ k → k < 3 → ¬ contOk s (p + k) → Utf8.decode s p = (65533, 1)))
    (HF : Hid ((∀ j, 1 ≤ j → j < 3 → contOk s (p + j)) → (badRune (acc s p (s[p].toNat - 224) (3 - 1)) 2048 → Utf8.decode s p = (65533, 1)) ∧ (¬ badRune (acc s p (s[p].toNat - 224) (3 - 1)) 2048 → Utf8.decode s p = ((acc s p (s[p].toNat - 224) (3 - 1)).toNat, 3))))
    (HA : Hid (∀ k, k ≤ 3 → (∀ j, 1 ≤ j → j ≤ k → contOk s (p + j)) → 0 ≤ acc s p (s[p].toNat - 224) k ∧ acc s p (s[p].toNat - 224) k ≤ 8388608)) :
    Calls Tryz.prog 180 #[.string s, .int .i64 p] w fun e w' => ∃ r n : Int, e = .returned (.tuple #[.int .i64 r, .int .i64 n]) ∧ Hid (HandR s p r n) ∧ w = w' := by
  go_enter Tryz.func180, Tryz.ntmps180
  go_wp2
  go_loop [8, 10] (fun r i => ∃ k : Nat, 1 ≤ k ∧ k ≤ 3 ∧ i = .int .i64 k ∧ r = .int .i64 (acc s p (s[p].toNat - 224) (k - 1)) ∧ Hid (∀ j, 1 ≤ j → j < k → contOk s (p + j))) (fun _ i => 3 - (intOf i).toNat)
  case atStart => exact ⟨1, by omega, by omega, rfl, rfl, fun j h1 h2 => by omega⟩
  case round =>
    obtain ⟨k, hk1, hk2, rfl, rfl, HC⟩ := hrel
    have hbd := HA.out (k - 1) (by omega) (fun j h1 h2 => HC.out j h1 (by omega))
    have hb0 := hbd.1
    have hb1 := hbd.2
    clear hbd
    by_cases hlt : k < 3
    · by_cases hc : contOk s (p + k)
      · have c1 := hc.1
        have c2 := hc.2.1
        have c3 := hc.2.2
        have e2 := bat_get s (p + k) c1
        have HN : Hid (∀ j, 1 ≤ j → j < k + 1 → contOk s (p + j)) := fun j h1 h2 => by
          by_cases e : j = k
          · rw [e]; exact hc
          · exact HC.out j h1 (by omega)
        have HE : Hid (acc s p (s[p].toNat - 224) (k + 1 - 1) = 64 * acc s p (s[p].toNat - 224) (k - 1) + s[p + k].toNat - 128) := by
          obtain ⟨k, rfl⟩ : Exists fun m => k = m + 1 := ⟨k - 1, by omega⟩
          show acc _ _ _ (k + 1) = _
          simp only [acc, Nat.add_sub_cancel]
          rw [e2]
        rw [e2] at c2 c3
        clear e2 hc
        generalize acc s p (s[p].toNat - 224) (k - 1) = ac at *
        go_wp2
        go_round
        case rel => exact ⟨k + 1, by omega, by omega, by go_num, by rw [HE.out], HN⟩
        case measure => simp [intOf]; omega
      · have H := Lib.hid (handR_bad s p (HB.out k hk1 hlt hc))
        generalize acc s p (s[p].toNat - 224) (k - 1) = ac at *
        by_cases c1 : p + k < s.size
        · have e2 := bat_get s (p + k) c1
          have c2 : (s[p + k].toNat : Int) < 128 ∨ (128 ≤ (s[p + k].toNat : Int) ∧ 192 ≤ (s[p + k].toNat : Int)) := by
            unfold contOk at hc; rw [e2] at hc; omega
          clear e2 hc
          rcases c2 with c2 | ⟨c2, c3⟩
          all_goals
            go_wp2
            go_ret2
            exact ⟨-1, 1, rfl, H, rfl⟩
        · clear hc
          go_wp2
          go_ret2
          exact ⟨-1, 1, rfl, H, rfl⟩
    · obtain rfl : k = 3 := by omega
      have hf := HF.out HC.out
      have hf1 := Lib.hid hf.1
      have hf2 := Lib.hid hf.2
      clear hf
      generalize acc s p (s[p].toNat - 224) (3 - 1) = ac at *
      by_cases hbr : badRune ac 2048
      · have H := Lib.hid (handR_bad s p (hf1.out hbr))
        clear hf1 hf2
        unfold badRune at hbr
        have hbr2 : ac < 2048 ∨ (2048 ≤ ac ∧ 1114111 < ac) ∨ (2048 ≤ ac ∧ ac ≤ 1114111 ∧ 55296 ≤ ac ∧ ac ≤ 57343) := by omega
        clear hbr
        rcases hbr2 with h1 | ⟨h1, h2⟩ | ⟨h1, h2, h3, h4⟩
        all_goals
          go_wp2
          go_ret2
          exact ⟨-1, 1, rfl, H, rfl⟩
      · have H := Lib.hid (handR_good s p ac 3 hb0 (hf2.out hbr))
        clear hf1 hf2
        unfold badRune at hbr
        have hbr2 : 2048 ≤ ac ∧ ac ≤ 1114111 ∧ (ac < 55296 ∨ (55296 ≤ ac ∧ 57343 < ac)) := by omega
        clear hbr
        obtain ⟨h1, h2, h3⟩ := hbr2
        rcases h3 with h3 | ⟨h3, h4⟩
        all_goals (first | (exfalso; omega) | (go_wp2; go_ret2; exact ⟨ac, 3, rfl, H, rfl⟩))

set_option maxHeartbeats 1000000 in
theorem char_4 (s : ByteArray) (p : Nat) (w : World) (hp : p < s.size) (hs : s.size ≤ 9223372036854775800) (a : 240 ≤ (s[p].toNat : Int)) (b : (s[p].toNat : Int) < 248)
    (HB : Hid (∀ k, 1 ≤ k → k < 4 → ¬ contOk s (p + k) → Utf8.decode s p = (65533, 1)))
    (HF : Hid ((∀ j, 1 ≤ j → j < 4 → contOk s (p + j)) → (badRune (acc s p (s[p].toNat - 240) (4 - 1)) 65536 → Utf8.decode s p = (65533, 1)) ∧ (¬ badRune (acc s p (s[p].toNat - 240) (4 - 1)) 65536 → Utf8.decode s p = ((acc s p (s[p].toNat - 240) (4 - 1)).toNat, 4))))
    (HA : Hid (∀ k, k ≤ 3 → (∀ j, 1 ≤ j → j ≤ k → contOk s (p + j)) → 0 ≤ acc s p (s[p].toNat - 240) k ∧ acc s p (s[p].toNat - 240) k ≤ 8388608)) :
    Calls Tryz.prog 180 #[.string s, .int .i64 p] w fun e w' => ∃ r n : Int, e = .returned (.tuple #[.int .i64 r, .int .i64 n]) ∧ Hid (HandR s p r n) ∧ w = w' := by
  go_enter Tryz.func180, Tryz.ntmps180
  go_wp2
  go_loop [8, 10] (fun r i => ∃ k : Nat, 1 ≤ k ∧ k ≤ 4 ∧ i = .int .i64 k ∧ r = .int .i64 (acc s p (s[p].toNat - 240) (k - 1)) ∧ Hid (∀ j, 1 ≤ j → j < k → contOk s (p + j))) (fun _ i => 4 - (intOf i).toNat)
  case atStart => exact ⟨1, by omega, by omega, rfl, rfl, fun j h1 h2 => by omega⟩
  case round =>
    obtain ⟨k, hk1, hk2, rfl, rfl, HC⟩ := hrel
    have hbd := HA.out (k - 1) (by omega) (fun j h1 h2 => HC.out j h1 (by omega))
    have hb0 := hbd.1
    have hb1 := hbd.2
    clear hbd
    by_cases hlt : k < 4
    · by_cases hc : contOk s (p + k)
      · have c1 := hc.1
        have c2 := hc.2.1
        have c3 := hc.2.2
        have e2 := bat_get s (p + k) c1
        have HN : Hid (∀ j, 1 ≤ j → j < k + 1 → contOk s (p + j)) := fun j h1 h2 => by
          by_cases e : j = k
          · rw [e]; exact hc
          · exact HC.out j h1 (by omega)
        have HE : Hid (acc s p (s[p].toNat - 240) (k + 1 - 1) = 64 * acc s p (s[p].toNat - 240) (k - 1) + s[p + k].toNat - 128) := by
          obtain ⟨k, rfl⟩ : Exists fun m => k = m + 1 := ⟨k - 1, by omega⟩
          show acc _ _ _ (k + 1) = _
          simp only [acc, Nat.add_sub_cancel]
          rw [e2]
        rw [e2] at c2 c3
        clear e2 hc
        generalize acc s p (s[p].toNat - 240) (k - 1) = ac at *
        go_wp2
        go_round
        case rel => exact ⟨k + 1, by omega, by omega, by go_num, by rw [HE.out], HN⟩
        case measure => simp [intOf]; omega
      · have H := Lib.hid (handR_bad s p (HB.out k hk1 hlt hc))
        generalize acc s p (s[p].toNat - 240) (k - 1) = ac at *
        by_cases c1 : p + k < s.size
        · have e2 := bat_get s (p + k) c1
          have c2 : (s[p + k].toNat : Int) < 128 ∨ (128 ≤ (s[p + k].toNat : Int) ∧ 192 ≤ (s[p + k].toNat : Int)) := by
            unfold contOk at hc; rw [e2] at hc; omega
          clear e2 hc
          rcases c2 with c2 | ⟨c2, c3⟩
          all_goals
            go_wp2
            go_ret2
            exact ⟨-1, 1, rfl, H, rfl⟩
        · clear hc
          go_wp2
          go_ret2
          exact ⟨-1, 1, rfl, H, rfl⟩
    · obtain rfl : k = 4 := by omega
      have hf := HF.out HC.out
      have hf1 := Lib.hid hf.1
      have hf2 := Lib.hid hf.2
      clear hf
      generalize acc s p (s[p].toNat - 240) (4 - 1) = ac at *
      by_cases hbr : badRune ac 65536
      · have H := Lib.hid (handR_bad s p (hf1.out hbr))
        clear hf1 hf2
        unfold badRune at hbr
        have hbr2 : ac < 65536 ∨ (65536 ≤ ac ∧ 1114111 < ac) ∨ (65536 ≤ ac ∧ ac ≤ 1114111 ∧ 55296 ≤ ac ∧ ac ≤ 57343) := by omega
        clear hbr
        rcases hbr2 with h1 | ⟨h1, h2⟩ | ⟨h1, h2, h3, h4⟩
        all_goals
          go_wp2
          go_ret2
          exact ⟨-1, 1, rfl, H, rfl⟩
      · have H := Lib.hid (handR_good s p ac 4 hb0 (hf2.out hbr))
        clear hf1 hf2
        unfold badRune at hbr
        have hbr2 : 65536 ≤ ac ∧ ac ≤ 1114111 ∧ (ac < 55296 ∨ (55296 ≤ ac ∧ 57343 < ac)) := by omega
        clear hbr
        obtain ⟨h1, h2, h3⟩ := hbr2
        rcases h3 with h3 | ⟨h3, h4⟩
        all_goals (first | (exfalso; omega) | (go_wp2; go_ret2; exact ⟨ac, 4, rfl, H, rfl⟩))

theorem char_any (s : ByteArray) (p : Nat) (w : World) (hp : p < s.size) (hs : s.size ≤ 9223372036854775800) : Calls Tryz.prog 180 #[.string s, .int .i64 p] w fun e w' =>
    ∃ r n : Int, e = .returned (.tuple #[.int .i64 r, .int .i64 n]) ∧ Hid (HandR s p r n) ∧ w = w' := by
  have hb := bat_get s p hp
  have hb1 := bat_lt s p
  by_cases h1 : bat s p < 128
  · have H := Lib.hid (handR_good s p (bat s p) 1 (by omega) (by rw [(dec s p hp).ascii h1]; simp))
    rw [hb] at h1 H
    clear hb hb1
    go_enter Tryz.func180, Tryz.ntmps180
    go_wp2
    go_ret2
    exact ⟨_, 1, rfl, H, rfl⟩
  by_cases h2 : bat s p < 192 ∨ 248 ≤ bat s p
  · have H := Lib.hid (handR_bad s p (dec_lone s p (by omega) h2))
    rw [hb] at h1 h2 hb1
    clear hb
    go_enter Tryz.func180, Tryz.ntmps180
    rcases h2 with h2 | h2
    all_goals
      go_wp2
      go_ret2
      exact ⟨-1, 1, rfl, H, rfl⟩
  have key : ∀ (n : Nat) (off least : Int), Lead s p n off least → (∀ k, 1 ≤ k → k < n → ¬ contOk s (p + k) → Utf8.decode s p = (65533, 1)) ∧ _ ∧ _ := fun n off least hl =>
    ⟨dec_bad s p n off least hl, dec_full s p n off least hl, acc_le s p (bat s p - off) (by rcases hl with h | h | h <;> omega) (by rcases hl with h | h | h <;> omega)⟩
  rw [hb] at key h1 h2
  by_cases h3 : bat s p < 224
  · have k := key 2 192 128 (by unfold Lead; omega)
    rw [hb] at h3
    exact char_2 s p w hp hs (by omega) (by omega) k.1 k.2.1 k.2.2
  · by_cases h4 : bat s p < 240
    · have k := key 3 224 2048 (by unfold Lead; omega)
      rw [hb] at h3 h4
      exact char_3 s p w hp hs (by omega) (by omega) k.1 k.2.1 k.2.2
    · have k := key 4 240 65536 (by unfold Lead; omega)
      rw [hb] at h3 h4
      exact char_4 s p w hp hs (by omega) (by omega) k.1 k.2.1 k.2.2

end Go.Proofs.YtamolbegmkngdaaGreatDoor
namespace Go.Proofs.YtamolbegmkngdaaGreatDoor
open Go.RowKit
set_option maxHeartbeats 400000
set_option maxRecDepth 100000

theorem takeWhile_upto : ∀ (l : List UInt8) (q : Nat), q ≤ l.length → (∀ j, (h : j < l.length) → j < q → l[j] ≠ 47) → (q = l.length ∨ ∃ h : q < l.length, l[q] = 47) → l.takeWhile (· != 47) = l.take q
  | [], q, _, _, _ => by simp
  | b :: l, 0, _, _, h2 => by
    rcases h2 with h2 | ⟨_, h2⟩
    · simp at h2
    · simp at h2; subst h2; simp
  | b :: l, q + 1, hq, h1, h2 => by
    have hb : b ≠ 47 := h1 0 (by simp) (by omega)
    rw [List.takeWhile_cons_of_pos (by simpa using hb), List.take_succ_cons]
    congr 1
    refine takeWhile_upto l q (by simpa using hq) (fun j h hj => h1 (j + 1) (by simpa using h) (by omega)) ?_
    rcases h2 with h2 | ⟨h, h2⟩
    · left; simpa using h2
    · right; exact ⟨by simpa using h, by simpa using h2⟩

theorem bat_list (s : ByteArray) (i : Nat) (h : i < s.size) : s.data.toList[i]'(by simpa using h) = 47 ↔ bat s i = 47 := by
  rw [bat_get s i h]
  constructor
  · intro e; rw [show s[i] = s.data.toList[i]'(by simpa using h) from rfl, e]; rfl
  · intro e; exact UInt8.toNat_inj.1 (e.trans rfl)

theorem partL_upto (s : ByteArray) (p q : Nat) (hp : p ≤ q) (hq : q ≤ s.size) (h1 : ∀ j, p ≤ j → j < q → bat s j ≠ 47) (h2 : q = s.size ∨ bat s q = 47) : (s.extract p q).toList = partL s p := by
  have e : (s.extract p q).toList = (s.data.toList.drop p).take (q - p) := by
    rw [ByteArray.toList_eq, Lib.extract_data]
  rw [e, partL, takeWhile_upto (s.data.toList.drop p) (q - p) (by simp; omega)]
  · intro j h hj
    simp only [List.getElem_drop]
    intro e
    have hl : p + j < s.size := by simp at h; omega
    exact h1 (p + j) (by omega) (by omega) ((bat_list s (p + j) hl).1 e)
  · by_cases hqs : q = s.size
    · left; simp; omega
    · right
      have hl : q < s.size := by omega
      refine ⟨by simp; omega, ?_⟩
      simp only [List.getElem_drop]
      have := (bat_list s q hl).2 (h2.resolve_left hqs)
      simpa [show p + (q - p) = q from by omega] using this

theorem part_any (s : ByteArray) (p : Nat) (w : World) (hp : p ≤ s.size) (hs : s.size ≤ 9223372036854775800) : Calls Tryz.prog 179 #[.string s, .int .i64 p] w fun e w' =>
    ∃ t : ByteArray, e = .returned (.string t) ∧ Hid (t.toList = partL s p) ∧ w = w' := by
  go_enter Tryz.func179, Tryz.ntmps179
  go_wp2
  go_loop [5] (fun i => ∃ q : Nat, p ≤ q ∧ q ≤ s.size ∧ i = .int .i64 q ∧ Hid (∀ j, p ≤ j → j < q → bat s j ≠ 47)) (fun i => s.size - (intOf i).toNat)
  case atStart => exact ⟨p, Nat.le_refl _, hp, rfl, fun j h1 h2 => by omega⟩
  case round =>
    obtain ⟨q, hq1, hq2, rfl, HQ⟩ := hrel
    by_cases hlt : q < s.size
    · have e2 := bat_get s q hlt
      by_cases h47 : bat s q = 47
      · have H := Lib.hid (partL_upto s p q hq1 hq2 HQ.out (.inr h47))
        rw [e2] at h47
        have h47' : ((s[q].toNat : Int) != 47) = false := by simp; omega
        clear e2 h47
        go_wp2
        go_ret
        exact ⟨_, rfl, H, rfl⟩
      · have HN : Hid (∀ j, p ≤ j → j < q + 1 → bat s j ≠ 47) := fun j h1 h2 => by
          by_cases e : j = q
          · rw [e]; exact h47
          · exact HQ.out j h1 (by omega)
        rw [e2] at h47
        have h47' : ((s[q].toNat : Int) != 47) = true := by simp; omega
        clear e2 h47
        go_wp2
        go_round
        case rel => exact ⟨q + 1, by omega, by omega, by go_num, HN⟩
        case measure => simp [intOf]; omega
    · obtain rfl : q = s.size := by omega
      have H := Lib.hid (partL_upto s p s.size hq1 hq2 HQ.out (.inl rfl))
      go_wp2
      go_ret
      exact ⟨_, rfl, H, rfl⟩

theorem part_at (s : ByteArray) (p : Nat) (a : Int) (w : World) (ha : a = (p : Int)) (hp : p ≤ s.size) (hs : s.size ≤ 9223372036854775800) : Calls Tryz.prog 179 #[.string s, .int .i64 a] w fun e w' =>
    ∃ t : ByteArray, e = .returned (.string t) ∧ Hid (t.toList = partL s p) ∧ w = w' := by subst ha; exact part_any s p w hp hs

theorem scan_pl (s : ByteArray) (p : Nat) (h : p < s.size) (hp : ¬ pl (Utf8.decode s p).1 = true) : scanAt s p = false := by
  rw [scanAt_step s p h]; simp [hp]
theorem scan_void (s : ByteArray) (p : Nat) (h : p < s.size) (h47 : bat s p = 47) (h0 : 0 < p) (h1 : bat s (p - 1) = 47) : scanAt s p = false := by
  rw [scanAt_step s p h, sep_slash s p h47]; simp [h0, h1]
theorem scan_dots (s : ByteArray) (p : Nat) (h : p < s.size) (h47 : bat s p = 47) (h1 : dots s (p + 1) = true) : scanAt s p = false := by
  rw [scanAt_step s p h, sep_slash s p h47]; simp [h1]
theorem scan_plain (s : ByteArray) (p : Nat) (h : p < s.size) (h47 : bat s p ≠ 47) (hp : pl (Utf8.decode s p).1 = true) : scanAt s p = scanAt s (p + (Utf8.decode s p).2) := by
  rw [scanAt_step s p h, sep_ok s p h47]; simp [hp]
theorem scan_slash (s : ByteArray) (p : Nat) (h : p < s.size) (h47 : bat s p = 47) (h1 : ¬ (0 < p ∧ bat s (p - 1) = 47)) (h2 : dots s (p + 1) = false) : scanAt s p = scanAt s (p + (Utf8.decode s p).2) := by
  have hd := dec_one s p h47 (dec s p h).ascii
  rw [scanAt_step s p h, sep_slash s p h47, hd]
  have : (decide (0 < p) && bat s (p - 1) == 47) = false := by
    rw [Bool.and_eq_false_iff]
    by_cases hz : 0 < p
    · right; simp; exact fun e => h1 ⟨hz, e⟩
    · left; simpa using hz
  rw [this, h2]; simp [pl]

/-- What checking a text may answer: no fault just if it is a path. -/
def ChkOut (s : ByteArray) (w : World) (e : Ending) (w' : World) : Prop :=
  ∃ f a : Int, e = .returned (.tuple #[.int .i64 f, .int .i64 a]) ∧ Hid (f = 0 ↔ vpath s = true) ∧ Below w.heap.size w w'

set_option maxHeartbeats 1000000 in
theorem rcheck_any (s : ByteArray) (w : World) (hs : s.size ≤ 9223372036854775800) : Calls Tryz.prog 148 #[.string s] w (ChkOut s w) := by
  have he := isEmpty_size s
  by_cases h0 : s.size = 0
  · have hv := Lib.hid (vpath_empty s h0)
    have he' : s.toList.isEmpty = true := by rw [he]; simp [h0]
    clear he h0
    go_enter Tryz.func148, Tryz.ntmps148
    go_wp2
    go_ret2
    exact ⟨1, 0, rfl, by unfold Hid; rw [hv.out]; simp, Below.refl _ _⟩
  have he' : s.toList.isEmpty = false := by rw [he]; simp [h0]
  have hp : 0 < s.size := by omega
  clear he
  by_cases h1 : 4096 < s.size
  · have hv := Lib.hid (vpath_big s h1)
    go_enter Tryz.func148, Tryz.ntmps148
    go_wp2
    go_ret2
    exact ⟨2, 4096, rfl, by unfold Hid; rw [hv.out]; simp, Below.refl _ _⟩
  by_cases h2 : bat s 0 ≠ 47
  · have hv := Lib.hid (vpath_start s h2)
    have h2' : ((s[0].toNat : Int) != 47) = true := by rw [← bat_get s 0 hp]; simp; omega
    go_enter Tryz.func148, Tryz.ntmps148
    go_wp2
    go_ret2
    exact ⟨3, 0, rfl, by unfold Hid; rw [hv.out]; simp, Below.refl _ _⟩
  have h2 : bat s 0 = 47 := by omega
  have h2' : ((s[0].toNat : Int) != 47) = false := by rw [← bat_get s 0 hp]; simp; omega
  have hr := root_size s hp h2
  by_cases h3 : s.size = 1
  · have hv := Lib.hid (vpath_root s h3 h2)
    have hr' : (s.toList == [47]) = true := by rw [hr]; simp [h3]
    clear hr h3 h2
    go_enter Tryz.func148, Tryz.ntmps148
    go_wp2
    go_ret2
    exact ⟨0, -1, rfl, by unfold Hid; rw [hv.out]; simp, Below.refl _ _⟩
  have hr' : (s.toList == [47]) = false := by rw [hr]; simp [h3]
  clear hr
  have hb1 : 1 ≤ (s.size : Int) ∧ (s.size : Int) - 1 < s.size := by omega
  by_cases h4 : bat s (s.size - 1) = 47
  · have hv := Lib.hid (vpath_end s h3 h4)
    have h4' : ((s[s.size - 1].toNat : Int) == 47) = true := by rw [← bat_get s (s.size - 1) (by omega)]; simp; omega
    clear h4 h2
    go_enter Tryz.func148, Tryz.ntmps148
    go_wp2
    go_ret2
    exact ⟨4, _, rfl, by unfold Hid; rw [hv.out]; simp, Below.refl _ _⟩
  have h4' : ((s[s.size - 1].toNat : Int) == 47) = false := by rw [← bat_get s (s.size - 1) (by omega)]; simp; omega
  have hv := Lib.hid (vpath_scan s h3 h0 (by omega) h2 h4)
  clear h4 h2
  go_enter Tryz.func148, Tryz.ntmps148
  go_wp2
  clear h4' hr' he' h2'
  go_loop [4] (fun i => ∃ pos : Nat, i = .int .i64 pos ∧ pos ≤ s.size ∧ Hid (scanAt s 0 = scanAt s pos)) (fun i => s.size - (intOf i).toNat)
  case atStart => exact ⟨0, rfl, Nat.zero_le _, rfl⟩
  case round =>
    obtain ⟨pos, rfl, hpos, Hs⟩ := hrel
    by_cases hlt : pos < s.size
    · have d := dec s pos hlt
      have hd1 := d.pos
      have hd2 := d.fits
      clear d
      have hbg := bat_get s pos hlt
      have HC : ∀ w, Calls Tryz.prog 180 #[.string s, .int .i64 pos] w fun e w' => ∃ r n : Int, e = .returned (.tuple #[.int .i64 r, .int .i64 n]) ∧ Hid (HandR s pos r n) ∧ w = w' := fun w => char_any s pos w hlt (by omega)
      by_cases h47 : bat s pos = 47
      · have h47' : ((s[pos].toNat : Int) == 47) = true := by rw [← hbg]; simp; omega
        by_cases hv2 : 0 < pos ∧ bat s (pos - 1) = 47
        · have H1 := Lib.hid (Hs.out.trans (scan_void s pos hlt h47 hv2.1 hv2.2))
          obtain ⟨hz, hv3⟩ := hv2
          have e2 := bat_get s (pos - 1) (by omega)
          have hq : ((s[pos - 1].toNat : Int) == 47) = true := by rw [← e2]; simp; omega
          have hi : 1 ≤ (pos : Int) ∧ (pos : Int) - 1 < s.size := by omega
          clear hv3 e2 h47 hbg Hs
          go_wp2
          go_ret2
          exact ⟨5, _, rfl, by unfold Hid; rw [hv.out, H1.out]; simp, Below.refl _ _⟩
        · have hbz : ¬ (0 < pos) ∨ (∃ _ : 0 < pos, ((s[pos - 1].toNat : Int) == 47) = false) := by
            by_cases hz : 0 < pos
            · right; refine ⟨hz, ?_⟩
              have e2 := bat_get s (pos - 1) (by omega)
              rw [← e2]; simp; intro e; exact hv2 ⟨hz, by omega⟩
            · exact .inl hz
          by_cases hdt : dots s (pos + 1) = true
          · have H1 := Lib.hid (Hs.out.trans (scan_dots s pos hlt h47 hdt))
            have HD := Lib.hid hdt
            clear hdt hv2 h47 hbg Hs
            rcases hbz with hbz | ⟨hz, hbz⟩
            all_goals
              go_wp2_with fail
              refine (part_at s (pos + 1) _ _ (by omega) (by omega) (by omega)).mono ?_
              rintro e w' ⟨t, rfl, HT, rfl⟩
              have hd : t.toList = [46] ∨ (¬ t.toList = [46] ∧ (t.toList == [46]) = false ∧ (t.toList == [46, 46]) = true) := by
                have h := HD.out
                unfold dots at h
                rw [← HT.out] at h
                by_cases e : t.toList = [46]
                · exact .inl e
                · right; simp [e] at h; simp [h]
              rcases hd with hd | ⟨hd, hd1, hd2⟩
              all_goals
                go_wp2
                go_ret2
                exact ⟨6, _, rfl, by unfold Hid; rw [hv.out, H1.out]; simp, Below.refl _ _⟩
          · have hdt' : dots s (pos + 1) = false := by simpa using hdt
            have H1 := Lib.hid (Hs.out.trans (scan_slash s pos hlt h47 hv2 hdt'))
            have hda := dec_one s pos h47 (dec s pos hlt).ascii
            have hpl : pl (Utf8.decode s pos).1 = true := by rw [hda]; rfl
            have hk : (kindR (Utf8.decode s pos).1 != 1) = false := by simp; exact (kindR_pl _).2 ⟨by omega, by simpa using hpl⟩
            have HD := Lib.hid hdt'
            have HP := Lib.hid hpl
            clear hdt hdt' hv2 h47 hbg Hs hda hpl
            rcases hbz with hbz | ⟨hz, hbz⟩
            all_goals
              go_wp2_with fail
              refine (part_at s (pos + 1) _ _ (by omega) (by omega) (by omega)).mono ?_
              rintro e w' ⟨t, rfl, HT, rfl⟩
              have hd : ¬ t.toList = [46] ∧ (t.toList == [46]) = false ∧ (t.toList == [46, 46]) = false := by
                have h := HD.out
                unfold dots at h
                rw [← HT.out] at h
                simp at h
                simp [h]
              obtain ⟨h1, h2, h3⟩ := hd
              go_wp2_with fail
              refine (HC _).mono ?_
              rintro e w' ⟨r, n, rfl, HR, rfl⟩
              obtain ⟨rfl, rfl⟩ := HR.out.2 HP.out
              go_wp2_with (go_at_call 181; refine (rof_any _ _).mono ?_; rintro e w' ⟨rfl, rfl⟩)
              go_round
              case rel => exact ⟨_, by go_num, hd2, H1⟩
              case measure => simp [intOf]; omega
      · have h47' : ((s[pos].toNat : Int) == 47) = false := by rw [← hbg]; simp; omega
        by_cases hpl : pl (Utf8.decode s pos).1 = true
        · have H1 := Lib.hid (Hs.out.trans (scan_plain s pos hlt h47 hpl))
          have hk : (kindR (Utf8.decode s pos).1 != 1) = false := by simp; exact (kindR_pl _).2 ⟨by omega, by simpa using hpl⟩
          have HP := Lib.hid hpl
          clear h47 hbg Hs hpl
          go_wp2_with fail
          refine (HC _).mono ?_
          rintro e w' ⟨r, n, rfl, HR, rfl⟩
          obtain ⟨rfl, rfl⟩ := HR.out.2 HP.out
          go_wp2_with (go_at_call 181; refine (rof_any _ _).mono ?_; rintro e w' ⟨rfl, rfl⟩)
          go_round
          case rel => exact ⟨_, by go_num, hd2, H1⟩
          case measure => simp [intOf]; omega
        · have H1 := Lib.hid (Hs.out.trans (scan_pl s pos hlt hpl))
          have HP := Lib.hid hpl
          clear h47 hbg Hs hpl
          go_wp2_with fail
          refine (HC _).mono ?_
          rintro e w' ⟨r, n, rfl, HR, rfl⟩
          have hk : (kindR r != 1) = true := by
            simp; intro e; exact HP.out (HR.out.1.1 ((kindR_pl _).1 e))
          go_wp2_with (go_at_call 181; refine (rof_any _ _).mono ?_; rintro e w' ⟨rfl, rfl⟩)
          go_ret2
          exact ⟨7, _, rfl, by unfold Hid; rw [hv.out, H1.out]; simp, Below.refl _ _⟩
    · have H1 : Hid (scanAt s 0 = true) := by unfold Hid; rw [Hs.out]; exact scanAt_end s pos (by omega)
      clear Hs
      go_wp2
      go_ret2
      exact ⟨0, -1, rfl, by unfold Hid; rw [hv.out, H1.out]; simp, Below.refl _ _⟩

theorem rvalid_any (s : ByteArray) (w : World) (hs : s.size ≤ 9223372036854775800) : Calls Tryz.prog 96 #[.string s] w fun e w' =>
    e = .returned (.bool (vpath s)) ∧ Below w.heap.size w w' := by
  by_cases hv : vpath s = true
  · go_enter Tryz.func96, Tryz.ntmps96
    go_wp2_with fail
    refine (rcheck_any s w hs).mono ?_
    rintro e w' ⟨f, a, rfl, hf, hB⟩
    obtain rfl : f = 0 := hf.out.2 hv
    go_wp2
    go_ret
    exact ⟨by rw [hv]; rfl, hB⟩
  · go_enter Tryz.func96, Tryz.ntmps96
    go_wp2_with fail
    refine (rcheck_any s w hs).mono ?_
    rintro e w' ⟨f, a, rfl, hf, hB⟩
    have hf0 : (f == 0) = false := by simp; intro h; exact hv (hf.out.1 h)
    have hv' : vpath s = false := by simpa using hv
    clear hf hv
    go_wp2
    go_ret
    exact ⟨by rw [hv']; rfl, hB⟩
end Go.Proofs.YtamolbegmkngdaaGreatDoor
namespace Go.Proofs.YtamolbegmkngdaaGreatDoor
open Go.RowKit
set_option maxHeartbeats 1000000
set_option maxRecDepth 100000

theorem rlast_any (s : ByteArray) (w : World) (hv : vpath s = true) (hs : s.size ≤ 9223372036854775800) : Calls Tryz.prog 137 #[.string s] w fun e w' => e = .returned (.int .i64 (lastS s)) ∧ w = w' := by
  obtain ⟨i, ei, hi, h47, hno⟩ := lastS_spec hv
  have HNO := Lib.hid hno
  have HI := Lib.hid ei
  have h47' := Lib.hid h47
  clear hno ei h47 hv
  go_enter Tryz.func137, Tryz.ntmps137
  go_wp2
  go_loop [3] (fun v => ∃ q : Nat, i ≤ q ∧ q < s.size ∧ v = .int .i64 q) (fun v => (intOf v).toNat)
  case atStart => exact ⟨s.size - 1, by omega, by omega, by go_num⟩
  case round =>
    obtain ⟨q, hq1, hq2, rfl⟩ := hrel
    have e2 := bat_get s q hq2
    by_cases hq : q = i
    · subst hq
      have h := h47'.out
      rw [e2] at h
      have hb : ((s[q].toNat : Int) != 47) = false := by simp; omega
      have hb2 : ¬ (s[q].toNat : Int) ≠ 47 := by omega
      clear e2 h h47' HNO
      go_wp2
      go_ret
      exact ⟨by rw [HI.out]; rfl, rfl⟩
    · have h := HNO.out q (by omega) hq2
      rw [e2] at h
      have hb : ((s[q].toNat : Int) != 47) = true := by simp; omega
      clear e2 h h47' HNO HI
      go_wp2
      go_round
      case rel => exact ⟨q - 1, by omega, by omega, by go_num⟩
      case measure => simp [intOf]; omega

theorem rparent_any (s : ByteArray) (w : World) (hs : s.size ≤ 9223372036854775800) : Calls Tryz.prog 76 #[.string s] w fun e w' => e = .returned (parV s) ∧ Below w.heap.size w w' := by
  have C1 := rvalid_any s w (by omega)
  by_cases hv : vpath s = true
  · have hroot := root_iff hv
    rw [hv] at C1
    by_cases h1 : s.size = 1
    · have e1 : (s.toList == [47]) = true := by rw [ByteArray.toList_eq]; simpa using hroot.1 h1
      have e2 : s.toList = [47] := by simpa using e1
      have R : Hid (parV s = .tuple #[.string ⟨#[]⟩, .int .i64 30]) := by unfold Hid parV; rw [if_neg (by simp [h1])]
      have C1 := Lib.hid C1
      clear h1 hroot hv
      go_enter Tryz.func76, Tryz.ntmps76
      go_wp2_with fail
      refine C1.out.mono ?_
      rintro e w1 ⟨rfl, hb1⟩
      clear C1
      go_wp2
      go_ret2
      exact ⟨by rw [R.out]; rfl, hb1⟩
    · have e1 : (s.toList == [47]) = false := by rw [ByteArray.toList_eq]; simpa using fun h => h1 (hroot.2 h)
      have e2 : ¬ s.toList = [47] := by simpa using e1
      have R : Hid (parV s = .tuple #[.string (s.extract 0 (max (lastS s) 1).toNat), .int .i64 0]) := by unfold Hid parV parentB; rw [if_pos ⟨hv, h1⟩]
      have C1 := Lib.hid C1
      have C2 := fun w => rlast_any s w hv hs
      obtain ⟨i, e, hi, _, _⟩ := lastS_spec hv
      rw [e] at C2 R
      have C2 := Lib.hid C2
      have hf := vpath_facts hv
      by_cases h0 : i = 0
      · subst h0
        have R2 : Hid (parV s = .tuple #[.string ⟨#[47]⟩, .int .i64 0]) := by
          unfold Hid
          rw [R.out]
          congr 3
          apply congrArg Value.string
          apply ba_ext
          have h3 : bat s 0 = 47 := hf.2.2.1
          have h4 := drop_at_slash (s := s) (i := 0) (by omega) h3
          rw [List.drop_zero] at h4
          rw [show (max ((0 : Nat) : Int) 1).toNat = 1 from rfl, ByteArray.data_extract, Array.toList_extract, List.extract_eq_take_drop]
          rw [List.drop_zero, h4]
          rfl
        clear hroot hf hv h1 e R
        go_enter Tryz.func76, Tryz.ntmps76
        go_wp2_with fail
        refine C1.out.mono ?_
        rintro e w1 ⟨rfl, hb1⟩
        clear C1
        go_wp2_with fail
        refine (C2.out _).mono ?_
        rintro e w2 ⟨rfl, rfl⟩
        clear C2
        go_wp2
        go_ret2
        exact ⟨by rw [R2.out]; rfl, hb1⟩
      · have hm : (max (i : Int) 1).toNat = i := by omega
        rw [hm] at R
        have hi0 : ((i : Int) == 0) = false := by simp; omega
        have hi1 : ¬ (i : Int) = 0 := by omega
        have hi2 : (i : Int) ≤ s.size := by omega
        clear hroot hf hv h1 e hm
        go_enter Tryz.func76, Tryz.ntmps76
        go_wp2_with fail
        refine C1.out.mono ?_
        rintro e w1 ⟨rfl, hb1⟩
        clear C1
        go_wp2_with fail
        refine (C2.out _).mono ?_
        rintro e w2 ⟨rfl, rfl⟩
        go_wp2_with fail
        refine (C2.out _).mono ?_
        rintro e w2 ⟨rfl, rfl⟩
        clear C2
        go_wp2
        go_ret2
        exact ⟨by rw [R.out]; rfl, hb1⟩
  · have hv' : vpath s = false := by simpa using hv
    have R : Hid (parV s = .tuple #[.string ⟨#[]⟩, .int .i64 30]) := by unfold Hid parV; rw [if_neg (by simp [hv'])]
    rw [hv'] at C1
    have C1 := Lib.hid C1
    clear hv hv'
    go_enter Tryz.func76, Tryz.ntmps76
    go_wp2_with fail
    refine C1.out.mono ?_
    rintro e w1 ⟨rfl, hb1⟩
    clear C1
    go_wp2
    go_ret2
    exact ⟨by rw [R.out]; rfl, hb1⟩
end Go.Proofs.YtamolbegmkngdaaGreatDoor
namespace Go.Proofs.YtamolbegmkngdaaGreatDoor
open Go.RowKit
set_option maxHeartbeats 2000000
set_option maxRecDepth 100000

theorem data_toList (p s : ByteArray) : (p.toList == s.toList) = (p.data == s.data) := by
  rw [ByteArray.toList_eq, ByteArray.toList_eq]
  by_cases h : p.data = s.data
  · rw [h]; simp
  · have : ¬ p.data.toList = s.data.toList := fun e => h (Array.toList_inj.1 e)
    rw [beq_eq_false_iff_ne.2 this, beq_eq_false_iff_ne.2 h]

theorem rund_any (p s : ByteArray) (w : World) (hp : p.size ≤ 9223372036854775800) (hs : s.size ≤ 9223372036854775800) : Calls Tryz.prog 97 #[.string s, .string p] w fun e w' => e = .returned (.bool (vpath s && vpath p && und p s)) ∧ Ext w w' := by
  have C1 := rvalid_any s w hs
  cases hvs : vpath s with
  | false =>
    rw [hvs] at C1
    have C1 := Lib.hid C1
    clear hvs
    go_enter Tryz.func97, Tryz.ntmps97
    go_wp2_with fail
    refine C1.out.mono ?_
    rintro e w1 ⟨rfl, hb1⟩
    clear C1
    go_wp2
    go_ret
    exact ⟨by simp, hb1⟩
  | true =>
    rw [hvs] at C1
    have C1 := Lib.hid C1
    have C2 := Lib.hid fun W => rvalid_any p W hp
    cases hvp : vpath p with
    | false =>
      rw [hvp] at C2
      clear hvp hvs
      go_enter Tryz.func97, Tryz.ntmps97
      go_wp2_with fail
      refine C1.out.mono ?_
      rintro e w1 ⟨rfl, hb1⟩
      clear C1
      go_wp2_with fail
      refine (C2.out w1).mono ?_
      rintro e w2 ⟨rfl, hb2⟩
      have HFIN := Lib.hid (Ext.trans hb1 hb2)
      clear C2 hb1 hb2
      go_wp2
      go_ret
      exact ⟨by simp, HFIN.out⟩
    | true =>
      rw [hvp] at C2
      have HVP := Lib.hid hvp
      clear hvp hvs
      go_enter Tryz.func97, Tryz.ntmps97
      go_wp2_with fail
      refine C1.out.mono ?_
      rintro e w1 ⟨rfl, hb1⟩
      clear C1
      go_wp2_with fail
      refine (C2.out w1).mono ?_
      rintro e w2 ⟨rfl, hb2⟩
      have HE2 := Lib.hid (Ext.trans hb1 hb2)
      clear C2 hb1 hb2
      go_wp2
      go_loopw [1] (fun v wr => ∃ q : ByteArray, v = .string q ∧ Hid (vpath q = true) ∧ q.size ≤ 4096 ∧ Hid (und p s = und q s) ∧ Ext w wr) (fun v _ => match v with | .string q => q.size | _ => 0)
      case atStart => exact ⟨p, rfl, HVP.out, (vpath_facts HVP.out).2.1, rfl, HE2.out⟩
      case round =>
        obtain ⟨q, rfl, HQ, hq, HU, hE⟩ := hrel
        have hroot := root_iff HQ.out
        have hone := fun h => undV_one (p := q) h s
        have hup := fun h => undV_up HQ.out h s
        have hdt := data_toList q s
        have HE := Lib.hid hE
        by_cases h1 : q.data = s.data
        · have e1 : (q.data == s.data) = true := by simpa using h1
          have e2 : (q.toList == s.toList) = true := hdt.trans e1
          have e3 : q.toList = s.toList := by simpa using e2
          have hu : und q s = true := by
            by_cases h : q.size = 1
            · rw [hone h, e1]
            · rw [hup h, e1, Bool.true_or]
          have HR := Lib.hid (HU.out.trans hu)
          clear hroot hone hup hdt hE h1 e1 hu HU
          go_wp2
          go_ret
          exact ⟨by rw [HR.out]; simp, HE.out⟩
        · have e1 : (q.data == s.data) = false := by simpa using h1
          have e2 : (q.toList == s.toList) = false := hdt.trans e1
          have e3 : ¬ q.toList = s.toList := by simpa using e2
          by_cases h2 : q.size = 1
          · have r2 : q.toList = [47] := by rw [ByteArray.toList_eq]; exact hroot.1 h2
            have r1 : (q.toList == [47]) = true := by simpa using r2
            have hu : und q s = false := by rw [hone h2, e1]
            have e4 : ¬ [47] = s.toList := by rw [← r2]; exact e3
            have e5 : ([47] == s.toList) = false := by simpa using e4
            have HR := Lib.hid (HU.out.trans hu)
            clear hroot hone hup hdt hE h1 e1 hu HU
            go_wp2
            go_ret
            exact ⟨by rw [HR.out]; simp, HE.out⟩
          · have r2 : ¬ q.toList = [47] := by rw [ByteArray.toList_eq]; exact fun h => h2 (hroot.2 h)
            have r1 : (q.toList == [47]) = false := by simpa using r2
            have hu : und q s = und (parentB q) s := by rw [hup h2, e1, Bool.false_or]
            have HR := Lib.hid (HU.out.trans hu)
            have hv2 := vpath_parent HQ.out h2
            have hsz := (path_split HQ.out h2).2.2.1
            have hsz2 := (vpath_facts hv2).2.1
            have CP := rparent_any q wr (by omega)
            rw [show parV q = .tuple #[.string (parentB q), .int .i64 0] by unfold parV; rw [if_pos ⟨HQ.out, h2⟩]] at CP
            have CP := Lib.hid CP
            have HV2 := Lib.hid hv2
            clear hroot hone hup hdt hE h1 e1 hu HU hv2 HQ h2
            go_wp2_with fail
            refine CP.out.mono ?_
            rintro e w3 ⟨rfl, hE3⟩
            have HE3 := Lib.hid (Ext.trans HE.out hE3)
            clear CP hE3
            go_wp2
            go_roundw
            case rel => exact ⟨_, rfl, HV2.out, hsz2, HR.out, HE3.out⟩
            case measure => first | exact hsz | simpa using hsz
end Go.Proofs.YtamolbegmkngdaaGreatDoor
namespace Go.Proofs.YtamolbegmkngdaaGreatDoor
open Go.RowKit
set_option maxHeartbeats 1000000

/-- Two texts, byte by byte. -/
def ordL : List UInt8 → List UInt8 → Int
  | [], [] => 0
  | [], _ :: _ => -1
  | _ :: _, [] => 1
  | x :: a, y :: b => if x.toNat < y.toNat then -1 else if y.toNat < x.toNat then 1 else ordL a b
theorem ordL_eq : ∀ a b : List UInt8, ordL a b = if a = b then 0 else if bytesBefore a b = true then -1 else 1
  | [], [] => by simp [ordL]
  | [], y :: b => by simp [ordL, bytesBefore]
  | x :: a, [] => by simp [ordL, bytesBefore]
  | x :: a, y :: b => by
    simp only [ordL, ordL_eq a b, bytesBefore, Bool.or_eq_true, decide_eq_true_eq, Bool.and_eq_true, beq_iff_eq, List.cons.injEq, UInt8.lt_iff_toNat_lt]
    by_cases h1 : x.toNat < y.toNat
    · have hne : x ≠ y := fun e => by rw [e] at h1; omega
      rw [if_pos h1, if_neg (fun h => hne h.1), if_pos (.inl h1)]
    · by_cases h2 : y.toNat < x.toNat
      · have hne : x ≠ y := fun e => by rw [e] at h2; omega
        rw [if_neg h1, if_pos h2, if_neg (fun h => hne h.1), if_neg (fun h => h.elim h1 fun h => hne h.1)]
      · have he : x = y := UInt8.toNat_inj.1 (by omega)
        subst he
        rw [if_neg h1, if_neg h2]
        by_cases h3 : a = b
        · rw [if_pos h3, if_pos ⟨rfl, h3⟩]
        · have e1 : ¬ (x = x ∧ a = b) := fun h => h3 h.2
          rw [if_neg h3, if_neg e1]
          by_cases h4 : bytesBefore a b = true
          · rw [if_pos h4, if_pos (.inr ⟨rfl, h4⟩)]
          · have e2 : ¬ (x.toNat < x.toNat ∨ x = x ∧ bytesBefore a b = true) := fun h => h.elim h1 fun h => h4 h.2
            rw [if_neg h4, if_neg e2]

/-- The nodes alone. -/
def nds (M : List (Key × Nd)) : List Nd := M.map (·.2)
theorem nds_length (M : List (Key × Nd)) : (nds M).length = M.length := List.length_map _
/-- The place of a path; is it there? -/
def rfind : List Nd → ByteArray → Nat × Bool
  | [], _ => (0, false)
  | n :: r, s => if ordL n.path.data.toList s.data.toList = 0 then (0, true) else if 0 < ordL n.path.data.toList s.data.toList then (0, false) else ((rfind r s).1 + 1, (rfind r s).2)
theorem rfind_le : ∀ (L : List Nd) (s : ByteArray), (rfind L s).1 ≤ L.length
  | [], _ => Nat.zero_le _
  | n :: r, s => by
    have := rfind_le r s
    unfold rfind
    split
    · exact Nat.zero_le _
    split
    · exact Nat.zero_le _
    · simp only [List.length_cons]; omega
theorem rfind_lt : ∀ (L : List Nd) (s : ByteArray), (rfind L s).2 = true → ∃ n, L[(rfind L s).1]? = some n ∧ n.path = s
  | [], _, h => by cases h
  | n :: r, s, h => by
    unfold rfind at h ⊢
    split at h
    · rename_i h0
      rw [if_pos h0]
      refine ⟨n, rfl, ?_⟩
      rw [ordL_eq] at h0
      split at h0
      · rename_i e; exact ba_ext e
      · split at h0 <;> simp at h0
    split at h
    · cases h
    · rename_i h0 h1
      rw [if_neg h0, if_neg h1]
      obtain ⟨m, hm, e⟩ := rfind_lt r s h
      exact ⟨m, by simpa using hm, e⟩

theorem rfind_there : ∀ {M : List (Key × Nd)}, MSorted M → (∀ x ∈ M, x.1 = keyN x.2) → ∀ s : ByteArray, (rfind (nds M) s).2 = (mget M s.data.toList).isSome
  | [], _, _, _ => rfl
  | y :: r, hs, hk, s => by
    obtain ⟨h1, h2⟩ := List.pairwise_cons.1 hs
    have ih := rfind_there h2 (fun x hx => hk x (List.mem_cons_of_mem _ hx)) s
    have hy : y.1 = y.2.path.data.toList := hk y (List.mem_cons_self ..)
    show (rfind (y.2 :: nds r) s).2 = _
    unfold rfind
    rw [ordL_eq, ← hy]
    by_cases e : y.1 = s.data.toList
    · rw [if_pos e, if_pos rfl]
      have : mget (y :: r) s.data.toList = some y.2 := mget_of_mem hs (by rw [← e]; exact List.mem_cons_self ..)
      rw [this]; rfl
    · have hg : mget (y :: r) s.data.toList = mget r s.data.toList := by
        unfold mget
        rw [List.find?_cons_of_neg (by simpa using e)]
      rw [if_neg e, hg]
      by_cases hb : bytesBefore y.1 s.data.toList = true
      · rw [if_pos hb, if_neg (by decide), if_neg (by decide)]
        exact ih
      · rw [if_neg hb, if_neg (by decide), if_pos (by decide)]
        have hsy : bytesBefore s.data.toList y.1 = true := by
          rcases WideAt.bytes_total _ _ e with h | h
          · exact absurd h hb
          · exact h
        have : mget r s.data.toList = none := mget_none_of fun x hx e' => by
          have := h1 x hx
          rw [e'] at this
          exact before_asymm this hsy
        rw [this]; rfl

theorem mdel_none {M : List (Key × Nd)} {k : Key} (h : ∀ x ∈ M, x.1 ≠ k) : mdel M k = M := by
  unfold mdel
  exact List.filter_eq_self.2 fun x hx => by simpa using h x hx
theorem rfind_ins' : ∀ {M : List (Key × Nd)}, (∀ x ∈ M, x.1 = keyN x.2) → ∀ n : Nd, (∀ x ∈ M, x.1 ≠ keyN n) → nds (mins (keyN n, n) M) = (nds M).take (rfind (nds M) n.path).1 ++ n :: (nds M).drop (rfind (nds M) n.path).1
  | [], _, _, _ => rfl
  | y :: r, hk, n, hn => by
    have ih := rfind_ins' (fun x hx => hk x (List.mem_cons_of_mem _ hx)) n (fun x hx => hn x (List.mem_cons_of_mem _ hx))
    have hy : y.1 = y.2.path.data.toList := hk y (List.mem_cons_self ..)
    have he : ¬ y.1 = n.path.data.toList := hn y (List.mem_cons_self ..)
    show nds (mins (keyN n, n) (y :: r)) = (y.2 :: nds r).take (rfind (y.2 :: nds r) n.path).1 ++ n :: (y.2 :: nds r).drop (rfind (y.2 :: nds r) n.path).1
    unfold rfind mins
    rw [ordL_eq, ← hy, if_neg he]
    by_cases hb : bytesBefore y.1 n.path.data.toList = true
    · have hnb : ¬ bytesBefore (keyN n, n).1 y.1 = true := fun h => before_asymm h hb
      rw [if_pos hb, if_neg hnb, if_neg (show ¬ ((-1 : Int) = 0) by decide), if_neg (show ¬ ((0 : Int) < -1) by decide)]
      simp only [List.take_succ_cons, List.drop_succ_cons, List.cons_append]
      rw [← ih]; rfl
    · have hnb : bytesBefore (keyN n, n).1 y.1 = true := by
        rcases WideAt.bytes_total _ _ he with h | h
        · exact absurd h hb
        · exact h
      rw [if_neg hb, if_pos hnb, if_neg (show ¬ ((1 : Int) = 0) by decide), if_pos (show (0 : Int) < 1 by decide)]
      rfl
theorem rfind_ins {M : List (Key × Nd)} (hM : MOk M) (n : Nd) (hn : mget M (keyN n) = none) : nds (mput M (keyN n) n) = (nds M).take (rfind (nds M) n.path).1 ++ n :: (nds M).drop (rfind (nds M) n.path).1 := by
  have h := mget_none hn
  unfold mput
  rw [mdel_none h]
  exact rfind_ins' hM.key n h
end Go.Proofs.YtamolbegmkngdaaGreatDoor
namespace Go.Proofs.YtamolbegmkngdaaGreatDoor
open Go.RowKit
set_option maxHeartbeats 2000000
set_option maxRecDepth 100000

theorem ordL_drop (a b : ByteArray) (q : Nat) (h : q < a.size) (h' : q < b.size) : ordL (a.data.toList.drop q) (b.data.toList.drop q) = if a[q].toNat < b[q].toNat then -1 else if b[q].toNat < a[q].toNat then 1 else ordL (a.data.toList.drop (q + 1)) (b.data.toList.drop (q + 1)) := by
  have e1 : a.data.toList.drop q = a[q] :: a.data.toList.drop (q + 1) := by
    rw [List.drop_eq_getElem_cons (by rw [size_list]; exact h)]; rfl
  have e2 : b.data.toList.drop q = b[q] :: b.data.toList.drop (q + 1) := by
    rw [List.drop_eq_getElem_cons (by rw [size_list]; exact h')]; rfl
  rw [e1, e2, ordL]
theorem ordL_end (a b : ByteArray) (q : Nat) (h1 : q ≤ a.size) (h2 : q ≤ b.size) (h : q = a.size ∨ q = b.size) : ordL (a.data.toList.drop q) (b.data.toList.drop q) = if a.size < b.size then -1 else if b.size < a.size then 1 else 0 := by
  have la := size_list a
  have lb := size_list b
  by_cases ha : q = a.size
  · have e1 : a.data.toList.drop q = [] := List.drop_eq_nil_of_le (by omega)
    rw [e1]
    by_cases hb : q = b.size
    · have e2 : b.data.toList.drop q = [] := List.drop_eq_nil_of_le (by omega)
      rw [e2, if_neg (by omega), if_neg (by omega)]; rfl
    · rw [if_pos (by omega)]
      cases hd : b.data.toList.drop q with
      | nil => have := congrArg List.length hd; rw [List.length_drop] at this; simp at this; omega
      | cons x l => rfl
  · have hb : q = b.size := h.resolve_left ha
    have e2 : b.data.toList.drop q = [] := List.drop_eq_nil_of_le (by omega)
    rw [e2, if_neg (by omega), if_pos (by omega)]
    cases hd : a.data.toList.drop q with
    | nil => have := congrArg List.length hd; rw [List.length_drop] at this; simp at this; omega
    | cons x l => rfl

theorem order_any (a b : ByteArray) (w : World) (ha : a.size ≤ 9223372036854775800) (hb : b.size ≤ 9223372036854775800) : Calls Tryz.prog 136 #[.string a, .string b] w fun e w' => e = .returned (.int .i64 (ordL a.data.toList b.data.toList)) ∧ Below w.heap.size w w' := by
  go_enter Tryz.func136, Tryz.ntmps136
  go_wp2
  go_loopw [5] (fun i wr => ∃ q n : Nat, q ≤ a.size ∧ q ≤ b.size ∧ i = .int .i64 q ∧ wr = w.drewN n ∧ Hid (ordL a.data.toList b.data.toList = ordL (a.data.toList.drop q) (b.data.toList.drop q))) (fun i _ => a.size - (intOf i).toNat)
  case atStart => exact ⟨0, 0, Nat.zero_le _, Nat.zero_le _, rfl, rfl, rfl⟩
  case round =>
    obtain ⟨q, n, hqa, hqb, rfl, rfl, HQ⟩ := hrel
    by_cases hl : q < a.size ∧ q < b.size
    · obtain ⟨hla, hlb⟩ := hl
      have hd := ordL_drop a b q hla hlb
      have c1 : (q : Int) < a.size := by omega
      have c2 : (q : Int) < b.size := by omega
      have c0 : (0 : Int) ≤ q := by omega
      by_cases h1 : a[q].toNat < b[q].toNat
      · have H1 : Hid (ordL a.data.toList b.data.toList = -1) := by unfold Hid; rw [HQ.out, hd, if_pos h1]
        have k1 : (a[q].toNat : Int) < (b[q].toNat : Int) := by omega
        clear hd h1
        go_wp2
        go_quiet (fail)
        go_wp2
        go_ret
        exact ⟨by rw [H1.out]; rfl, below_drewN (below_drewN (Below.refl _ _) _) _⟩
      · have k1 : ¬ (a[q].toNat : Int) < (b[q].toNat : Int) := by omega
        by_cases h2 : b[q].toNat < a[q].toNat
        · have H1 : Hid (ordL a.data.toList b.data.toList = 1) := by unfold Hid; rw [HQ.out, hd, if_neg h1, if_pos h2]
          have k2 : (b[q].toNat : Int) < (a[q].toNat : Int) := by omega
          clear hd h1 h2
          go_wp2
          go_quiet (fail)
          go_wp2
          go_quiet (fail)
          go_wp2
          go_ret
          exact ⟨by rw [H1.out]; rfl, below_drewN (below_drewN (below_drewN (Below.refl _ _) _) _) _⟩
        · have H1 : Hid (ordL a.data.toList b.data.toList = ordL (a.data.toList.drop (q + 1)) (b.data.toList.drop (q + 1))) := by unfold Hid; rw [HQ.out, hd, if_neg h1, if_neg h2]
          have k2 : ¬ (b[q].toNat : Int) < (a[q].toNat : Int) := by omega
          clear hd h1 h2
          go_wp2
          go_quiet (fail)
          go_wp2
          go_quiet (fail)
          go_wp2
          go_roundw
          case rel => exact ⟨q + 1, _, by omega, by omega, by go_num, rfl, H1⟩
          case measure => simp [intOf]; omega
    · have hd := ordL_end a b q hqa hqb (by omega)
      have H1 : Hid (ordL a.data.toList b.data.toList = if a.size < b.size then -1 else if b.size < a.size then 1 else 0) := by unfold Hid; rw [HQ.out, hd]
      have hE := below_drewN (Below.refl w.heap.size w) n
      clear hd
      by_cases ha' : q < a.size
      · have hb' : ¬ (q : Int) < b.size := by omega
        have ha2 : (q : Int) < a.size := by omega
        have s1 : ¬ (a.size : Int) < b.size := by omega
        have s2 : (b.size : Int) < a.size := by omega
        have H2 : Hid (ordL a.data.toList b.data.toList = 1) := by unfold Hid; rw [H1.out, if_neg (by omega), if_pos (by omega)]
        clear hl
        go_wp2
        go_ret
        exact ⟨by rw [H2.out]; rfl, hE⟩
      · have ha2 : ¬ (q : Int) < a.size := by omega
        by_cases hs : a.size < b.size
        · have s1 : (a.size : Int) < b.size := by omega
          have H2 : Hid (ordL a.data.toList b.data.toList = -1) := by unfold Hid; rw [H1.out, if_pos hs]
          clear hl hs
          go_wp2
          go_ret
          exact ⟨by rw [H2.out]; rfl, hE⟩
        · have s1 : ¬ (a.size : Int) < b.size := by omega
          have s2 : ¬ (b.size : Int) < a.size := by omega
          have H2 : Hid (ordL a.data.toList b.data.toList = 0) := by unfold Hid; rw [H1.out, if_neg hs, if_neg (by omega)]
          clear hl hs
          go_wp2
          go_ret
          exact ⟨by rw [H2.out]; rfl, hE⟩
end Go.Proofs.YtamolbegmkngdaaGreatDoor
