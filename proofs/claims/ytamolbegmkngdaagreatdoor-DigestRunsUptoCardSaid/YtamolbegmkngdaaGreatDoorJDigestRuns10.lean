/- The walks of the references' own texts up to Valid: whether a text is a path, as the document has it. The walks of the reference of paths up to Valid. The walks of the reference of stat.Right, and of its look at UTF-8. The walk of the reference of stat.Right. The walks of the reference's record of a node: numbers, texts, lists of permissions. The walks of the reference's record of a node, whole. -/
import Derived.Test.YtamolbegmkngdaaGreatDoorJDigestRuns1
import Derived.Test.YtamolbegmkngdaaGreatDoorJDigestRuns2
import Derived.Test.YtamolbegmkngdaaGreatDoorJDigestRuns8
namespace Go.Proofs.YtamolbegmkngdaaGreatDoor
open Go.RowKit
set_option maxHeartbeats 400000
set_option maxRecDepth 100000

theorem rkind_any (r : Int) (w : World) : Calls Tryz.prog 198 #[.int .i64 r] w fun e w' => e = .returned (.int .i64 (kindN r)) ∧ w = w' := by
  go_enter Tryz.func198, Tryz.ntmps198
  go_wp2
  all_goals (try go_ret)
  all_goals (refine ⟨ret_int ?_, rfl⟩; go_light; (try simp only [beq_iff_eq, beq_eq_false_iff_ne, ne_eq] at *); unfold kindN; repeat' split)
  all_goals (first | rfl | (exfalso; omega))

def kindR (r : Int) : Int := if r < 0 then 8 else kindN r
theorem kindR_pl (r : Int) : kindR r = 1 ↔ (0 ≤ r ∧ pl r.toNat = true) := by
  unfold kindR
  split
  · constructor <;> intro h <;> omega
  · have := kindN_pl r.toNat
    rw [show ((r.toNat : Nat) : Int) = r from by omega] at this
    rw [this]
    constructor
    · intro h; exact ⟨by omega, h⟩
    · exact fun h => h.2

theorem rof_any (r : Int) (w : World) : Calls Tryz.prog 181 #[.int .i64 r] w fun e w' => e = .returned (.int .i64 (kindR r)) ∧ w = w' := by
  by_cases h : r < 0
  · have e := Lib.hid (show kindR r = 8 by unfold kindR; rw [if_pos h])
    go_enter Tryz.func181, Tryz.ntmps181
    go_wp2
    go_ret
    exact ⟨ret_int e.out.symm, rfl⟩
  · have e := Lib.hid (show kindR r = kindN r by unfold kindR; rw [if_neg h])
    have h' : 0 ≤ r := by omega
    go_enter Tryz.func181, Tryz.ntmps181
    go_wp2_with (go_at_call 198; refine (rkind_any _ _).mono ?_; rintro e w' ⟨rfl, rfl⟩)
    go_ret
    exact ⟨ret_int e.out.symm, rfl⟩

set_option maxHeartbeats 1000000 in
theorem char_2 (s : ByteArray) (p : Nat) (w : World) (hp : p < s.size) (hs : s.size ≤ 9223372036854775800) (a : 192 ≤ (s[p].toNat : Int)) (b : (s[p].toNat : Int) < 224)
    (HB : Hid (∀ k, 1 ≤ k → k < 2 → ¬ contOk s (p + k) → Utf8.decode s p = (65533, 1)))
    (HF : Hid ((∀ j, 1 ≤ j → j < 2 → contOk s (p + j)) → (badRune (acc s p (s[p].toNat - 192) (2 - 1)) 128 → Utf8.decode s p = (65533, 1)) ∧ (¬ badRune (acc s p (s[p].toNat - 192) (2 - 1)) 128 → Utf8.decode s p = ((acc s p (s[p].toNat - 192) (2 - 1)).toNat, 2))))
    (HA : Hid (∀ k, k ≤ 3 → (∀ j, 1 ≤ j → j ≤ k → contOk s (p + j)) → 0 ≤ acc s p (s[p].toNat - 192) k ∧ acc s p (s[p].toNat - 192) k ≤ 8388608)) :
    Calls Tryz.prog 180 #[.string s, .int .i64 p] w fun e w' => ∃ r n : Int, e = .returned (.tuple #[.int .i64 r, .int .i64 n]) ∧ Hid (HandR s p r n) ∧ w = w' := by
  go_enter Tryz.func180, Tryz.ntmps180
  go_wp2
  go_loop [8, 10] (fun r i => ∃ k : Nat, 1 ≤ k ∧ k ≤ 2 ∧ i = .int .i64 k ∧ r = .int .i64 (acc s p (s[p].toNat - 192) (k - 1)) ∧ Hid (∀ j, 1 ≤ j → j < k → contOk s (p + j))) (fun _ i => 2 - (intOf i).toNat)
  case atStart => exact ⟨1, by omega, by omega, rfl, rfl, fun j h1 h2 => by omega⟩
  case round =>
    obtain ⟨k, hk1, hk2, rfl, rfl, HC⟩ := hrel
    have hbd := HA.out (k - 1) (by omega) (fun j h1 h2 => HC.out j h1 (by omega))
    have hb0 := hbd.1
    have hb1 := hbd.2
    clear hbd
    by_cases hlt : k < 2
    · by_cases hc : contOk s (p + k)
      · have c1 := hc.1
        have c2 := hc.2.1
        have c3 := hc.2.2
        have e2 := bat_get s (p + k) c1
        have HN : Hid (∀ j, 1 ≤ j → j < k + 1 → contOk s (p + j)) := fun j h1 h2 => by
          by_cases e : j = k
          · rw [e]; exact hc
          · exact HC.out j h1 (by omega)
        have HE : Hid (acc s p (s[p].toNat - 192) (k + 1 - 1) = 64 * acc s p (s[p].toNat - 192) (k - 1) + s[p + k].toNat - 128) := by
          obtain ⟨k, rfl⟩ : Exists fun m => k = m + 1 := ⟨k - 1, by omega⟩
          show acc _ _ _ (k + 1) = _
          simp only [acc, Nat.add_sub_cancel]
          rw [e2]
        rw [e2] at c2 c3
        clear e2 hc
        generalize acc s p (s[p].toNat - 192) (k - 1) = ac at *
        go_wp2
        go_round
        case rel => exact ⟨k + 1, by omega, by omega, by go_num, by rw [HE.out], HN⟩
        case measure => simp [intOf]; omega
      · have H := Lib.hid (handR_bad s p (HB.out k hk1 hlt hc))
        generalize acc s p (s[p].toNat - 192) (k - 1) = ac at *
        by_cases c1 : p + k < s.size
        · have e2 := bat_get s (p + k) c1
          have c2 : (s[p + k].toNat : Int) < 128 ∨ (128 ≤ (s[p + k].toNat : Int) ∧ 192 ≤ (s[p + k].toNat : Int)) := by
            unfold contOk at hc; rw [e2] at hc; omega
          clear e2 hc
          rcases c2 with c2 | ⟨c2, c3⟩
          all_goals
            go_wp2
            go_ret2
            exact ⟨-1, 1, rfl, H, rfl⟩
        · clear hc
          go_wp2
          go_ret2
          exact ⟨-1, 1, rfl, H, rfl⟩
    · obtain rfl : k = 2 := by omega
      have hf := HF.out HC.out
      have hf1 := Lib.hid hf.1
      have hf2 := Lib.hid hf.2
      clear hf
      generalize acc s p (s[p].toNat - 192) (2 - 1) = ac at *
      by_cases hbr : badRune ac 128
      · have H := Lib.hid (handR_bad s p (hf1.out hbr))
        clear hf1 hf2
        unfold badRune at hbr
        have hbr2 : ac < 128 ∨ (128 ≤ ac ∧ 1114111 < ac) ∨ (128 ≤ ac ∧ ac ≤ 1114111 ∧ 55296 ≤ ac ∧ ac ≤ 57343) := by omega
        clear hbr
        rcases hbr2 with h1 | ⟨h1, h2⟩ | ⟨h1, h2, h3, h4⟩
        all_goals
          go_wp2
          go_ret2
          exact ⟨-1, 1, rfl, H, rfl⟩
      · have H := Lib.hid (handR_good s p ac 2 hb0 (hf2.out hbr))
        clear hf1 hf2
        unfold badRune at hbr
        have hbr2 : 128 ≤ ac ∧ ac ≤ 1114111 ∧ (ac < 55296 ∨ (55296 ≤ ac ∧ 57343 < ac)) := by omega
        clear hbr
        obtain ⟨h1, h2, h3⟩ := hbr2
        rcases h3 with h3 | ⟨h3, h4⟩
        all_goals (first | (exfalso; omega) | (go_wp2; go_ret2; exact ⟨ac, 2, rfl, H, rfl⟩))

set_option maxHeartbeats 1000000 in
theorem char_3 (s : ByteArray) (p : Nat) (w : World) (hp : p < s.size) (hs : s.size ≤ 9223372036854775800) (a : 224 ≤ (s[p].toNat : Int)) (b : (s[p].toNat : Int) < 240)
    (HB : Hid (∀ k, 1 ≤ k → k < 3 → ¬ contOk s (p + k) → Utf8.decode s p = (65533, 1)))
    (HF : Hid ((∀ j, 1 ≤ j → j < 3 → contOk s (p + j)) → (badRune (acc s p (s[p].toNat - 224) (3 - 1)) 2048 → Utf8.decode s p = (65533, 1)) ∧ (¬ badRune (acc s p (s[p].toNat - 224) (3 - 1)) 2048 → Utf8.decode s p = ((acc s p (s[p].toNat - 224) (3 - 1)).toNat, 3))))
    (HA : Hid (∀ k, k ≤ 3 → (∀ j, 1 ≤ j → j ≤ k → contOk s (p + j)) → 0 ≤ acc s p (s[p].toNat - 224) k ∧ acc s p (s[p].toNat - 224) k ≤ 8388608)) :
    Calls Tryz.prog 180 #[.string s, .int .i64 p] w fun e w' => ∃ r n : Int, e = .returned (.tuple #[.int .i64 r, .int .i64 n]) ∧ Hid (HandR s p r n) ∧ w = w' := by
  go_enter Tryz.func180, Tryz.ntmps180
  go_wp2
  go_loop [8, 10] (fun r i => ∃ k : Nat, 1 ≤ k ∧ k ≤ 3 ∧ i = .int .i64 k ∧ r = .int .i64 (acc s p (s[p].toNat - 224) (k - 1)) ∧ Hid (∀ j, 1 ≤ j → j < k → contOk s (p + j))) (fun _ i => 3 - (intOf i).toNat)
  case atStart => exact ⟨1, by omega, by omega, rfl, rfl, fun j h1 h2 => by omega⟩
  case round =>
    obtain ⟨k, hk1, hk2, rfl, rfl, HC⟩ := hrel
    have hbd := HA.out (k - 1) (by omega) (fun j h1 h2 => HC.out j h1 (by omega))
    have hb0 := hbd.1
    have hb1 := hbd.2
    clear hbd
    by_cases hlt : k < 3
    · by_cases hc : contOk s (p + k)
      · have c1 := hc.1
        have c2 := hc.2.1
        have c3 := hc.2.2
        have e2 := bat_get s (p + k) c1
        have HN : Hid (∀ j, 1 ≤ j → j < k + 1 → contOk s (p + j)) := fun j h1 h2 => by
          by_cases e : j = k
          · rw [e]; exact hc
          · exact HC.out j h1 (by omega)
        have HE : Hid (acc s p (s[p].toNat - 224) (k + 1 - 1) = 64 * acc s p (s[p].toNat - 224) (k - 1) + s[p + k].toNat - 128) := by
          obtain ⟨k, rfl⟩ : Exists fun m => k = m + 1 := ⟨k - 1, by omega⟩
          show acc _ _ _ (k + 1) = _
          simp only [acc, Nat.add_sub_cancel]
          rw [e2]
        rw [e2] at c2 c3
        clear e2 hc
        generalize acc s p (s[p].toNat - 224) (k - 1) = ac at *
        go_wp2
        go_round
        case rel => exact ⟨k + 1, by omega, by omega, by go_num, by rw [HE.out], HN⟩
        case measure => simp [intOf]; omega
      · have H := Lib.hid (handR_bad s p (HB.out k hk1 hlt hc))
        generalize acc s p (s[p].toNat - 224) (k - 1) = ac at *
        by_cases c1 : p + k < s.size
        · have e2 := bat_get s (p + k) c1
          have c2 : (s[p + k].toNat : Int) < 128 ∨ (128 ≤ (s[p + k].toNat : Int) ∧ 192 ≤ (s[p + k].toNat : Int)) := by
            unfold contOk at hc; rw [e2] at hc; omega
          clear e2 hc
          rcases c2 with c2 | ⟨c2, c3⟩
          all_goals
            go_wp2
            go_ret2
            exact ⟨-1, 1, rfl, H, rfl⟩
        · clear hc
          go_wp2
          go_ret2
          exact ⟨-1, 1, rfl, H, rfl⟩
    · obtain rfl : k = 3 := by omega
      have hf := HF.out HC.out
      have hf1 := Lib.hid hf.1
      have hf2 := Lib.hid hf.2
      clear hf
      generalize acc s p (s[p].toNat - 224) (3 - 1) = ac at *
      by_cases hbr : badRune ac 2048
      · have H := Lib.hid (handR_bad s p (hf1.out hbr))
        clear hf1 hf2
        unfold badRune at hbr
        have hbr2 : ac < 2048 ∨ (2048 ≤ ac ∧ 1114111 < ac) ∨ (2048 ≤ ac ∧ ac ≤ 1114111 ∧ 55296 ≤ ac ∧ ac ≤ 57343) := by omega
        clear hbr
        rcases hbr2 with h1 | ⟨h1, h2⟩ | ⟨h1, h2, h3, h4⟩
        all_goals
          go_wp2
          go_ret2
          exact ⟨-1, 1, rfl, H, rfl⟩
      · have H := Lib.hid (handR_good s p ac 3 hb0 (hf2.out hbr))
        clear hf1 hf2
        unfold badRune at hbr
        have hbr2 : 2048 ≤ ac ∧ ac ≤ 1114111 ∧ (ac < 55296 ∨ (55296 ≤ ac ∧ 57343 < ac)) := by omega
        clear hbr
        obtain ⟨h1, h2, h3⟩ := hbr2
        rcases h3 with h3 | ⟨h3, h4⟩
        all_goals (first | (exfalso; omega) | (go_wp2; go_ret2; exact ⟨ac, 3, rfl, H, rfl⟩))

set_option maxHeartbeats 1000000 in
theorem char_4 (s : ByteArray) (p : Nat) (w : World) (hp : p < s.size) (hs : s.size ≤ 9223372036854775800) (a : 240 ≤ (s[p].toNat : Int)) (b : (s[p].toNat : Int) < 248)
    (HB : Hid (∀ k, 1 ≤ k → k < 4 → ¬ contOk s (p + k) → Utf8.decode s p = (65533, 1)))
    (HF : Hid ((∀ j, 1 ≤ j → j < 4 → contOk s (p + j)) → (badRune (acc s p (s[p].toNat - 240) (4 - 1)) 65536 → Utf8.decode s p = (65533, 1)) ∧ (¬ badRune (acc s p (s[p].toNat - 240) (4 - 1)) 65536 → Utf8.decode s p = ((acc s p (s[p].toNat - 240) (4 - 1)).toNat, 4))))
    (HA : Hid (∀ k, k ≤ 3 → (∀ j, 1 ≤ j → j ≤ k → contOk s (p + j)) → 0 ≤ acc s p (s[p].toNat - 240) k ∧ acc s p (s[p].toNat - 240) k ≤ 8388608)) :
    Calls Tryz.prog 180 #[.string s, .int .i64 p] w fun e w' => ∃ r n : Int, e = .returned (.tuple #[.int .i64 r, .int .i64 n]) ∧ Hid (HandR s p r n) ∧ w = w' := by
  go_enter Tryz.func180, Tryz.ntmps180
  go_wp2
  go_loop [8, 10] (fun r i => ∃ k : Nat, 1 ≤ k ∧ k ≤ 4 ∧ i = .int .i64 k ∧ r = .int .i64 (acc s p (s[p].toNat - 240) (k - 1)) ∧ Hid (∀ j, 1 ≤ j → j < k → contOk s (p + j))) (fun _ i => 4 - (intOf i).toNat)
  case atStart => exact ⟨1, by omega, by omega, rfl, rfl, fun j h1 h2 => by omega⟩
  case round =>
    obtain ⟨k, hk1, hk2, rfl, rfl, HC⟩ := hrel
    have hbd := HA.out (k - 1) (by omega) (fun j h1 h2 => HC.out j h1 (by omega))
    have hb0 := hbd.1
    have hb1 := hbd.2
    clear hbd
    by_cases hlt : k < 4
    · by_cases hc : contOk s (p + k)
      · have c1 := hc.1
        have c2 := hc.2.1
        have c3 := hc.2.2
        have e2 := bat_get s (p + k) c1
        have HN : Hid (∀ j, 1 ≤ j → j < k + 1 → contOk s (p + j)) := fun j h1 h2 => by
          by_cases e : j = k
          · rw [e]; exact hc
          · exact HC.out j h1 (by omega)
        have HE : Hid (acc s p (s[p].toNat - 240) (k + 1 - 1) = 64 * acc s p (s[p].toNat - 240) (k - 1) + s[p + k].toNat - 128) := by
          obtain ⟨k, rfl⟩ : Exists fun m => k = m + 1 := ⟨k - 1, by omega⟩
          show acc _ _ _ (k + 1) = _
          simp only [acc, Nat.add_sub_cancel]
          rw [e2]
        rw [e2] at c2 c3
        clear e2 hc
        generalize acc s p (s[p].toNat - 240) (k - 1) = ac at *
        go_wp2
        go_round
        case rel => exact ⟨k + 1, by omega, by omega, by go_num, by rw [HE.out], HN⟩
        case measure => simp [intOf]; omega
      · have H := Lib.hid (handR_bad s p (HB.out k hk1 hlt hc))
        generalize acc s p (s[p].toNat - 240) (k - 1) = ac at *
        by_cases c1 : p + k < s.size
        · have e2 := bat_get s (p + k) c1
          have c2 : (s[p + k].toNat : Int) < 128 ∨ (128 ≤ (s[p + k].toNat : Int) ∧ 192 ≤ (s[p + k].toNat : Int)) := by
            unfold contOk at hc; rw [e2] at hc; omega
          clear e2 hc
          rcases c2 with c2 | ⟨c2, c3⟩
          all_goals
            go_wp2
            go_ret2
            exact ⟨-1, 1, rfl, H, rfl⟩
        · clear hc
          go_wp2
          go_ret2
          exact ⟨-1, 1, rfl, H, rfl⟩
    · obtain rfl : k = 4 := by omega
      have hf := HF.out HC.out
      have hf1 := Lib.hid hf.1
      have hf2 := Lib.hid hf.2
      clear hf
      generalize acc s p (s[p].toNat - 240) (4 - 1) = ac at *
      by_cases hbr : badRune ac 65536
      · have H := Lib.hid (handR_bad s p (hf1.out hbr))
        clear hf1 hf2
        unfold badRune at hbr
        have hbr2 : ac < 65536 ∨ (65536 ≤ ac ∧ 1114111 < ac) ∨ (65536 ≤ ac ∧ ac ≤ 1114111 ∧ 55296 ≤ ac ∧ ac ≤ 57343) := by omega
        clear hbr
        rcases hbr2 with h1 | ⟨h1, h2⟩ | ⟨h1, h2, h3, h4⟩
        all_goals
          go_wp2
          go_ret2
          exact ⟨-1, 1, rfl, H, rfl⟩
      · have H := Lib.hid (handR_good s p ac 4 hb0 (hf2.out hbr))
        clear hf1 hf2
        unfold badRune at hbr
        have hbr2 : 65536 ≤ ac ∧ ac ≤ 1114111 ∧ (ac < 55296 ∨ (55296 ≤ ac ∧ 57343 < ac)) := by omega
        clear hbr
        obtain ⟨h1, h2, h3⟩ := hbr2
        rcases h3 with h3 | ⟨h3, h4⟩
        all_goals (first | (exfalso; omega) | (go_wp2; go_ret2; exact ⟨ac, 4, rfl, H, rfl⟩))

theorem char_any (s : ByteArray) (p : Nat) (w : World) (hp : p < s.size) (hs : s.size ≤ 9223372036854775800) : Calls Tryz.prog 180 #[.string s, .int .i64 p] w fun e w' =>
    ∃ r n : Int, e = .returned (.tuple #[.int .i64 r, .int .i64 n]) ∧ Hid (HandR s p r n) ∧ w = w' := by
  have hb := bat_get s p hp
  have hb1 := bat_lt s p
  by_cases h1 : bat s p < 128
  · have H := Lib.hid (handR_good s p (bat s p) 1 (by omega) (by rw [(dec s p hp).ascii h1]; simp))
    rw [hb] at h1 H
    clear hb hb1
    go_enter Tryz.func180, Tryz.ntmps180
    go_wp2
    go_ret2
    exact ⟨_, 1, rfl, H, rfl⟩
  by_cases h2 : bat s p < 192 ∨ 248 ≤ bat s p
  · have H := Lib.hid (handR_bad s p (dec_lone s p (by omega) h2))
    rw [hb] at h1 h2 hb1
    clear hb
    go_enter Tryz.func180, Tryz.ntmps180
    rcases h2 with h2 | h2
    all_goals
      go_wp2
      go_ret2
      exact ⟨-1, 1, rfl, H, rfl⟩
  have key : ∀ (n : Nat) (off least : Int), Lead s p n off least → (∀ k, 1 ≤ k → k < n → ¬ contOk s (p + k) → Utf8.decode s p = (65533, 1)) ∧ _ ∧ _ := fun n off least hl =>
    ⟨dec_bad s p n off least hl, dec_full s p n off least hl, acc_le s p (bat s p - off) (by rcases hl with h | h | h <;> omega) (by rcases hl with h | h | h <;> omega)⟩
  rw [hb] at key h1 h2
  by_cases h3 : bat s p < 224
  · have k := key 2 192 128 (by unfold Lead; omega)
    rw [hb] at h3
    exact char_2 s p w hp hs (by omega) (by omega) k.1 k.2.1 k.2.2
  · by_cases h4 : bat s p < 240
    · have k := key 3 224 2048 (by unfold Lead; omega)
      rw [hb] at h3 h4
      exact char_3 s p w hp hs (by omega) (by omega) k.1 k.2.1 k.2.2
    · have k := key 4 240 65536 (by unfold Lead; omega)
      rw [hb] at h3 h4
      exact char_4 s p w hp hs (by omega) (by omega) k.1 k.2.1 k.2.2

end Go.Proofs.YtamolbegmkngdaaGreatDoor
namespace Go.Proofs.YtamolbegmkngdaaGreatDoor
open Go.RowKit
set_option maxHeartbeats 400000
set_option maxRecDepth 100000

theorem takeWhile_upto : ∀ (l : List UInt8) (q : Nat), q ≤ l.length → (∀ j, (h : j < l.length) → j < q → l[j] ≠ 47) → (q = l.length ∨ ∃ h : q < l.length, l[q] = 47) → l.takeWhile (· != 47) = l.take q
  | [], q, _, _, _ => by simp
  | b :: l, 0, _, _, h2 => by
    rcases h2 with h2 | ⟨_, h2⟩
    · simp at h2
    · simp at h2; subst h2; simp
  | b :: l, q + 1, hq, h1, h2 => by
    have hb : b ≠ 47 := h1 0 (by simp) (by omega)
    rw [List.takeWhile_cons_of_pos (by simpa using hb), List.take_succ_cons]
    congr 1
    refine takeWhile_upto l q (by simpa using hq) (fun j h hj => h1 (j + 1) (by simpa using h) (by omega)) ?_
    rcases h2 with h2 | ⟨h, h2⟩
    · left; simpa using h2
    · right; exact ⟨by simpa using h, by simpa using h2⟩

theorem bat_list (s : ByteArray) (i : Nat) (h : i < s.size) : s.data.toList[i]'(by simpa using h) = 47 ↔ bat s i = 47 := by
  rw [bat_get s i h]
  constructor
  · intro e; rw [show s[i] = s.data.toList[i]'(by simpa using h) from rfl, e]; rfl
  · intro e; exact UInt8.toNat_inj.1 (e.trans rfl)

theorem partL_upto (s : ByteArray) (p q : Nat) (hp : p ≤ q) (hq : q ≤ s.size) (h1 : ∀ j, p ≤ j → j < q → bat s j ≠ 47) (h2 : q = s.size ∨ bat s q = 47) : (s.extract p q).toList = partL s p := by
  have e : (s.extract p q).toList = (s.data.toList.drop p).take (q - p) := by
    rw [ByteArray.toList_eq, Lib.extract_data]
  rw [e, partL, takeWhile_upto (s.data.toList.drop p) (q - p) (by simp; omega)]
  · intro j h hj
    simp only [List.getElem_drop]
    intro e
    have hl : p + j < s.size := by simp at h; omega
    exact h1 (p + j) (by omega) (by omega) ((bat_list s (p + j) hl).1 e)
  · by_cases hqs : q = s.size
    · left; simp; omega
    · right
      have hl : q < s.size := by omega
      refine ⟨by simp; omega, ?_⟩
      simp only [List.getElem_drop]
      have := (bat_list s q hl).2 (h2.resolve_left hqs)
      simpa [show p + (q - p) = q from by omega] using this

theorem part_any (s : ByteArray) (p : Nat) (w : World) (hp : p ≤ s.size) (hs : s.size ≤ 9223372036854775800) : Calls Tryz.prog 179 #[.string s, .int .i64 p] w fun e w' =>
    ∃ t : ByteArray, e = .returned (.string t) ∧ Hid (t.toList = partL s p) ∧ w = w' := by
  go_enter Tryz.func179, Tryz.ntmps179
  go_wp2
  go_loop [5] (fun i => ∃ q : Nat, p ≤ q ∧ q ≤ s.size ∧ i = .int .i64 q ∧ Hid (∀ j, p ≤ j → j < q → bat s j ≠ 47)) (fun i => s.size - (intOf i).toNat)
  case atStart => exact ⟨p, Nat.le_refl _, hp, rfl, fun j h1 h2 => by omega⟩
  case round =>
    obtain ⟨q, hq1, hq2, rfl, HQ⟩ := hrel
    by_cases hlt : q < s.size
    · have e2 := bat_get s q hlt
      by_cases h47 : bat s q = 47
      · have H := Lib.hid (partL_upto s p q hq1 hq2 HQ.out (.inr h47))
        rw [e2] at h47
        have h47' : ((s[q].toNat : Int) != 47) = false := by simp; omega
        clear e2 h47
        go_wp2
        go_ret
        exact ⟨_, rfl, H, rfl⟩
      · have HN : Hid (∀ j, p ≤ j → j < q + 1 → bat s j ≠ 47) := fun j h1 h2 => by
          by_cases e : j = q
          · rw [e]; exact h47
          · exact HQ.out j h1 (by omega)
        rw [e2] at h47
        have h47' : ((s[q].toNat : Int) != 47) = true := by simp; omega
        clear e2 h47
        go_wp2
        go_round
        case rel => exact ⟨q + 1, by omega, by omega, by go_num, HN⟩
        case measure => simp [intOf]; omega
    · obtain rfl : q = s.size := by omega
      have H := Lib.hid (partL_upto s p s.size hq1 hq2 HQ.out (.inl rfl))
      go_wp2
      go_ret
      exact ⟨_, rfl, H, rfl⟩

theorem part_at (s : ByteArray) (p : Nat) (a : Int) (w : World) (ha : a = (p : Int)) (hp : p ≤ s.size) (hs : s.size ≤ 9223372036854775800) : Calls Tryz.prog 179 #[.string s, .int .i64 a] w fun e w' =>
    ∃ t : ByteArray, e = .returned (.string t) ∧ Hid (t.toList = partL s p) ∧ w = w' := by subst ha; exact part_any s p w hp hs

theorem scan_pl (s : ByteArray) (p : Nat) (h : p < s.size) (hp : ¬ pl (Utf8.decode s p).1 = true) : scanAt s p = false := by
  rw [scanAt_step s p h]; simp [hp]
theorem scan_void (s : ByteArray) (p : Nat) (h : p < s.size) (h47 : bat s p = 47) (h0 : 0 < p) (h1 : bat s (p - 1) = 47) : scanAt s p = false := by
  rw [scanAt_step s p h, sep_slash s p h47]; simp [h0, h1]
theorem scan_dots (s : ByteArray) (p : Nat) (h : p < s.size) (h47 : bat s p = 47) (h1 : dots s (p + 1) = true) : scanAt s p = false := by
  rw [scanAt_step s p h, sep_slash s p h47]; simp [h1]
theorem scan_plain (s : ByteArray) (p : Nat) (h : p < s.size) (h47 : bat s p ≠ 47) (hp : pl (Utf8.decode s p).1 = true) : scanAt s p = scanAt s (p + (Utf8.decode s p).2) := by
  rw [scanAt_step s p h, sep_ok s p h47]; simp [hp]
theorem scan_slash (s : ByteArray) (p : Nat) (h : p < s.size) (h47 : bat s p = 47) (h1 : ¬ (0 < p ∧ bat s (p - 1) = 47)) (h2 : dots s (p + 1) = false) : scanAt s p = scanAt s (p + (Utf8.decode s p).2) := by
  have hd := dec_one s p h47 (dec s p h).ascii
  rw [scanAt_step s p h, sep_slash s p h47, hd]
  have : (decide (0 < p) && bat s (p - 1) == 47) = false := by
    rw [Bool.and_eq_false_iff]
    by_cases hz : 0 < p
    · right; simp; exact fun e => h1 ⟨hz, e⟩
    · left; simpa using hz
  rw [this, h2]; simp [pl]

/-- What checking a text may answer: no fault just if it is a path. -/
def ChkOut (s : ByteArray) (w : World) (e : Ending) (w' : World) : Prop :=
  ∃ f a : Int, e = .returned (.tuple #[.int .i64 f, .int .i64 a]) ∧ Hid (f = 0 ↔ vpath s = true) ∧ Below w.heap.size w w'

set_option maxHeartbeats 1000000 in
theorem rcheck_any (s : ByteArray) (w : World) (hs : s.size ≤ 9223372036854775800) : Calls Tryz.prog 148 #[.string s] w (ChkOut s w) := by
  have he := isEmpty_size s
  by_cases h0 : s.size = 0
  · have hv := Lib.hid (vpath_empty s h0)
    have he' : s.toList.isEmpty = true := by rw [he]; simp [h0]
    clear he h0
    go_enter Tryz.func148, Tryz.ntmps148
    go_wp2
    go_ret2
    exact ⟨1, 0, rfl, by unfold Hid; rw [hv.out]; simp, Below.refl _ _⟩
  have he' : s.toList.isEmpty = false := by rw [he]; simp [h0]
  have hp : 0 < s.size := by omega
  clear he
  by_cases h1 : 4096 < s.size
  · have hv := Lib.hid (vpath_big s h1)
    go_enter Tryz.func148, Tryz.ntmps148
    go_wp2
    go_ret2
    exact ⟨2, 4096, rfl, by unfold Hid; rw [hv.out]; simp, Below.refl _ _⟩
  by_cases h2 : bat s 0 ≠ 47
  · have hv := Lib.hid (vpath_start s h2)
    have h2' : ((s[0].toNat : Int) != 47) = true := by rw [← bat_get s 0 hp]; simp; omega
    go_enter Tryz.func148, Tryz.ntmps148
    go_wp2
    go_ret2
    exact ⟨3, 0, rfl, by unfold Hid; rw [hv.out]; simp, Below.refl _ _⟩
  have h2 : bat s 0 = 47 := by omega
  have h2' : ((s[0].toNat : Int) != 47) = false := by rw [← bat_get s 0 hp]; simp; omega
  have hr := root_size s hp h2
  by_cases h3 : s.size = 1
  · have hv := Lib.hid (vpath_root s h3 h2)
    have hr' : (s.toList == [47]) = true := by rw [hr]; simp [h3]
    clear hr h3 h2
    go_enter Tryz.func148, Tryz.ntmps148
    go_wp2
    go_ret2
    exact ⟨0, -1, rfl, by unfold Hid; rw [hv.out]; simp, Below.refl _ _⟩
  have hr' : (s.toList == [47]) = false := by rw [hr]; simp [h3]
  clear hr
  have hb1 : 1 ≤ (s.size : Int) ∧ (s.size : Int) - 1 < s.size := by omega
  by_cases h4 : bat s (s.size - 1) = 47
  · have hv := Lib.hid (vpath_end s h3 h4)
    have h4' : ((s[s.size - 1].toNat : Int) == 47) = true := by rw [← bat_get s (s.size - 1) (by omega)]; simp; omega
    clear h4 h2
    go_enter Tryz.func148, Tryz.ntmps148
    go_wp2
    go_ret2
    exact ⟨4, _, rfl, by unfold Hid; rw [hv.out]; simp, Below.refl _ _⟩
  have h4' : ((s[s.size - 1].toNat : Int) == 47) = false := by rw [← bat_get s (s.size - 1) (by omega)]; simp; omega
  have hv := Lib.hid (vpath_scan s h3 h0 (by omega) h2 h4)
  clear h4 h2
  go_enter Tryz.func148, Tryz.ntmps148
  go_wp2
  clear h4' hr' he' h2'
  go_loop [4] (fun i => ∃ pos : Nat, i = .int .i64 pos ∧ pos ≤ s.size ∧ Hid (scanAt s 0 = scanAt s pos)) (fun i => s.size - (intOf i).toNat)
  case atStart => exact ⟨0, rfl, Nat.zero_le _, rfl⟩
  case round =>
    obtain ⟨pos, rfl, hpos, Hs⟩ := hrel
    by_cases hlt : pos < s.size
    · have d := dec s pos hlt
      have hd1 := d.pos
      have hd2 := d.fits
      clear d
      have hbg := bat_get s pos hlt
      have HC : ∀ w, Calls Tryz.prog 180 #[.string s, .int .i64 pos] w fun e w' => ∃ r n : Int, e = .returned (.tuple #[.int .i64 r, .int .i64 n]) ∧ Hid (HandR s pos r n) ∧ w = w' := fun w => char_any s pos w hlt (by omega)
      by_cases h47 : bat s pos = 47
      · have h47' : ((s[pos].toNat : Int) == 47) = true := by rw [← hbg]; simp; omega
        by_cases hv2 : 0 < pos ∧ bat s (pos - 1) = 47
        · have H1 := Lib.hid (Hs.out.trans (scan_void s pos hlt h47 hv2.1 hv2.2))
          obtain ⟨hz, hv3⟩ := hv2
          have e2 := bat_get s (pos - 1) (by omega)
          have hq : ((s[pos - 1].toNat : Int) == 47) = true := by rw [← e2]; simp; omega
          have hi : 1 ≤ (pos : Int) ∧ (pos : Int) - 1 < s.size := by omega
          clear hv3 e2 h47 hbg Hs
          go_wp2
          go_ret2
          exact ⟨5, _, rfl, by unfold Hid; rw [hv.out, H1.out]; simp, Below.refl _ _⟩
        · have hbz : ¬ (0 < pos) ∨ (∃ _ : 0 < pos, ((s[pos - 1].toNat : Int) == 47) = false) := by
            by_cases hz : 0 < pos
            · right; refine ⟨hz, ?_⟩
              have e2 := bat_get s (pos - 1) (by omega)
              rw [← e2]; simp; intro e; exact hv2 ⟨hz, by omega⟩
            · exact .inl hz
          by_cases hdt : dots s (pos + 1) = true
          · have H1 := Lib.hid (Hs.out.trans (scan_dots s pos hlt h47 hdt))
            have HD := Lib.hid hdt
            clear hdt hv2 h47 hbg Hs
            rcases hbz with hbz | ⟨hz, hbz⟩
            all_goals
              go_wp2_with fail
              refine (part_at s (pos + 1) _ _ (by omega) (by omega) (by omega)).mono ?_
              rintro e w' ⟨t, rfl, HT, rfl⟩
              have hd : t.toList = [46] ∨ (¬ t.toList = [46] ∧ (t.toList == [46]) = false ∧ (t.toList == [46, 46]) = true) := by
                have h := HD.out
                unfold dots at h
                rw [← HT.out] at h
                by_cases e : t.toList = [46]
                · exact .inl e
                · right; simp [e] at h; simp [h]
              rcases hd with hd | ⟨hd, hd1, hd2⟩
              all_goals
                go_wp2
                go_ret2
                exact ⟨6, _, rfl, by unfold Hid; rw [hv.out, H1.out]; simp, Below.refl _ _⟩
          · have hdt' : dots s (pos + 1) = false := by simpa using hdt
            have H1 := Lib.hid (Hs.out.trans (scan_slash s pos hlt h47 hv2 hdt'))
            have hda := dec_one s pos h47 (dec s pos hlt).ascii
            have hpl : pl (Utf8.decode s pos).1 = true := by rw [hda]; rfl
            have hk : (kindR (Utf8.decode s pos).1 != 1) = false := by simp; exact (kindR_pl _).2 ⟨by omega, by simpa using hpl⟩
            have HD := Lib.hid hdt'
            have HP := Lib.hid hpl
            clear hdt hdt' hv2 h47 hbg Hs hda hpl
            rcases hbz with hbz | ⟨hz, hbz⟩
            all_goals
              go_wp2_with fail
              refine (part_at s (pos + 1) _ _ (by omega) (by omega) (by omega)).mono ?_
              rintro e w' ⟨t, rfl, HT, rfl⟩
              have hd : ¬ t.toList = [46] ∧ (t.toList == [46]) = false ∧ (t.toList == [46, 46]) = false := by
                have h := HD.out
                unfold dots at h
                rw [← HT.out] at h
                simp at h
                simp [h]
              obtain ⟨h1, h2, h3⟩ := hd
              go_wp2_with fail
              refine (HC _).mono ?_
              rintro e w' ⟨r, n, rfl, HR, rfl⟩
              obtain ⟨rfl, rfl⟩ := HR.out.2 HP.out
              go_wp2_with (go_at_call 181; refine (rof_any _ _).mono ?_; rintro e w' ⟨rfl, rfl⟩)
              go_round
              case rel => exact ⟨_, by go_num, hd2, H1⟩
              case measure => simp [intOf]; omega
      · have h47' : ((s[pos].toNat : Int) == 47) = false := by rw [← hbg]; simp; omega
        by_cases hpl : pl (Utf8.decode s pos).1 = true
        · have H1 := Lib.hid (Hs.out.trans (scan_plain s pos hlt h47 hpl))
          have hk : (kindR (Utf8.decode s pos).1 != 1) = false := by simp; exact (kindR_pl _).2 ⟨by omega, by simpa using hpl⟩
          have HP := Lib.hid hpl
          clear h47 hbg Hs hpl
          go_wp2_with fail
          refine (HC _).mono ?_
          rintro e w' ⟨r, n, rfl, HR, rfl⟩
          obtain ⟨rfl, rfl⟩ := HR.out.2 HP.out
          go_wp2_with (go_at_call 181; refine (rof_any _ _).mono ?_; rintro e w' ⟨rfl, rfl⟩)
          go_round
          case rel => exact ⟨_, by go_num, hd2, H1⟩
          case measure => simp [intOf]; omega
        · have H1 := Lib.hid (Hs.out.trans (scan_pl s pos hlt hpl))
          have HP := Lib.hid hpl
          clear h47 hbg Hs hpl
          go_wp2_with fail
          refine (HC _).mono ?_
          rintro e w' ⟨r, n, rfl, HR, rfl⟩
          have hk : (kindR r != 1) = true := by
            simp; intro e; exact HP.out (HR.out.1.1 ((kindR_pl _).1 e))
          go_wp2_with (go_at_call 181; refine (rof_any _ _).mono ?_; rintro e w' ⟨rfl, rfl⟩)
          go_ret2
          exact ⟨7, _, rfl, by unfold Hid; rw [hv.out, H1.out]; simp, Below.refl _ _⟩
    · have H1 : Hid (scanAt s 0 = true) := by unfold Hid; rw [Hs.out]; exact scanAt_end s pos (by omega)
      clear Hs
      go_wp2
      go_ret2
      exact ⟨0, -1, rfl, by unfold Hid; rw [hv.out, H1.out]; simp, Below.refl _ _⟩

theorem rvalid_any (s : ByteArray) (w : World) (hs : s.size ≤ 9223372036854775800) : Calls Tryz.prog 96 #[.string s] w fun e w' =>
    e = .returned (.bool (vpath s)) ∧ Below w.heap.size w w' := by
  by_cases hv : vpath s = true
  · go_enter Tryz.func96, Tryz.ntmps96
    go_wp2_with fail
    refine (rcheck_any s w hs).mono ?_
    rintro e w' ⟨f, a, rfl, hf, hB⟩
    obtain rfl : f = 0 := hf.out.2 hv
    go_wp2
    go_ret
    exact ⟨by rw [hv]; rfl, hB⟩
  · go_enter Tryz.func96, Tryz.ntmps96
    go_wp2_with fail
    refine (rcheck_any s w hs).mono ?_
    rintro e w' ⟨f, a, rfl, hf, hB⟩
    have hf0 : (f == 0) = false := by simp; intro h; exact hv (hf.out.1 h)
    have hv' : vpath s = false := by simpa using hv
    clear hf hv
    go_wp2
    go_ret
    exact ⟨by rw [hv']; rfl, hB⟩
end Go.Proofs.YtamolbegmkngdaaGreatDoor
namespace Go.Proofs.YtamolbegmkngdaaGreatDoor
open Go.RowKit
set_option maxHeartbeats 1000000
set_option maxRecDepth 100000

theorem more_any (b : Nat) (w : World) : Calls Tryz.prog 190 #[.int .u8 b] w fun e w' => e = .returned (.tuple #[.int .i64 (moreF b).1, .int .u8 (moreF b).2.1, .int .u8 (moreF b).2.2]) ∧ w = w' := by
  go_enter Tryz.func190, Tryz.ntmps190
  go_wp2
  all_goals (try go_ret3)
  all_goals (refine ⟨?_, rfl⟩; go_light; (try simp only [beq_iff_eq, beq_eq_false_iff_ne, ne_eq] at *))
  all_goals (have key : ∀ n lo h, moreF b = (n, lo, h) → Ending.returned (.tuple #[.int .i64 n, .int .u8 lo, .int .u8 h]) = Ending.returned (.tuple #[.int .i64 (moreF b).1, .int .u8 (moreF b).2.1, .int .u8 (moreF b).2.2]) := fun n lo h e => by rw [e])
  all_goals (refine key _ _ _ ?_; unfold moreF; repeat' split)
  all_goals (first | rfl | (exfalso; omega))

theorem utf8_any (s : ByteArray) (w : World) (hs : s.size ≤ 9223372036854775800) : Calls Tryz.prog 167 #[.string s] w fun e w' => e = .returned (.bool (Lib.validD s.data.toList)) ∧ w = w' := by
  have hz := Lib.hid (validAt_zero s)
  go_enter Tryz.func167, Tryz.ntmps167
  go_wp2
  go_loop [3] (fun i => ∃ q : Nat, i = .int .i64 q ∧ q ≤ s.size ∧ Hid (validAt s 0 = validAt s q)) (fun i => s.size - (intOf i).toNat)
  case atStart => exact ⟨0, rfl, Nat.zero_le _, rfl⟩
  case round =>
    obtain ⟨q, rfl, hq, Hv⟩ := hrel
    by_cases hlt : q < s.size
    · have hbg := bat_get s q hlt
      have hb := bat_lt s q
      have hC := more_any (bat s q)
      obtain ⟨n0, lo0, hi0, hm⟩ : Exists fun n => Exists fun lo => Exists fun h => moreF (bat s q) = (n, lo, h) := ⟨_, _, _, rfl⟩
      have hcs := moreF_cases (bat s q) hb
      rw [hm] at hC hcs
      simp only [Prod.mk.injEq] at hcs
      by_cases hneg : n0 = -1
      · subst hneg
        have H1 : Hid (Lib.validD s.data.toList = false) := by
          unfold Hid; rw [← hz.out, Hv.out]; exact validAt_bad s q hlt (ut_none s q _ _ hm)
        rw [hbg] at hC
        have HC := Lib.hid hC
        clear hm hcs hC Hv hbg hb
        go_wp2_with fail
        refine (HC.out _).mono ?_
        rintro e w' ⟨rfl, rfl⟩
        go_wp2
        go_ret
        exact ⟨by rw [H1.out]; rfl, rfl⟩
      · obtain ⟨n, rfl⟩ : Exists fun n : Nat => n0 = (n : Int) := ⟨n0.toNat, by omega⟩
        have hn3 : n ≤ 3 := by omega
        have hlo : 0 ≤ lo0 ∧ lo0 ≤ 255 ∧ 0 ≤ hi0 ∧ hi0 ≤ 255 := by omega
        have hd := ut_dec s q hlt n lo0 hi0 hm
        have D1 := Lib.hid hd.1
        have D2 := Lib.hid hd.2.1
        have D3 := Lib.hid hd.2.2
        have hok1 : ∀ j, okAt s q lo0 hi0 j ↔ if j = 1 then lo0 ≤ bat s (q + 1) ∧ (bat s (q + 1) : Int) ≤ hi0 else 128 ≤ bat s (q + j) ∧ bat s (q + j) ≤ 191 := fun j => Iff.rfl
        have OK := Lib.hid hok1
        rw [hbg] at hC
        have HC := Lib.hid hC
        clear hd hm hcs hC hbg hb hok1
        by_cases hout : 0 < n ∧ s.size ≤ q + n
        · have H1 : Hid (Lib.validD s.data.toList = false) := by
            unfold Hid; rw [← hz.out, Hv.out]; exact validAt_bad s q hlt (D2.out hout.1 hout.2)
          obtain ⟨h0, h1⟩ := hout
          have h1' : (s.size : Int) ≤ (q : Int) + n := by omega
          go_wp2_with fail
          refine (HC.out _).mono ?_
          rintro e w' ⟨rfl, rfl⟩
          go_wp2
          go_ret
          exact ⟨by rw [H1.out]; rfl, rfl⟩
        · have hin : q + n < s.size := by omega
          have hin' : (q : Int) + n < s.size := by omega
          have hnn : (0 : Int) ≤ n := by omega
          clear hout
          go_wp2_with fail
          refine (HC.out _).mono ?_
          rintro e w' ⟨rfl, rfl⟩
          clear HC
          go_wp2
          go_loop [5, 6, 7] (fun lo h k => ∃ (m : Nat) (lk hk : Int), k = .int .i64 m ∧ 1 ≤ m ∧ m ≤ n + 1 ∧ lo = .int .u8 lk ∧ h = .int .u8 hk ∧ 0 ≤ lk ∧ lk ≤ 255 ∧ 0 ≤ hk ∧ hk ≤ 255 ∧ Hid (okAt s q lo0 hi0 m ↔ (lk ≤ bat s (q + m) ∧ (bat s (q + m) : Int) ≤ hk)) ∧ Hid (∀ j, 1 ≤ j → j < m → okAt s q lo0 hi0 j)) (fun _ _ k => n + 1 - (intOf k).toNat)
          case atStart => exact ⟨1, lo0, hi0, rfl, by omega, by omega, rfl, rfl, hlo.1, hlo.2.1, hlo.2.2.1, hlo.2.2.2, by unfold Hid; rw [OK.out 1, if_pos rfl], fun j h1 h2 => by omega⟩
          case round =>
            obtain ⟨m, lk, hk, rfl, hm1, hm2, rfl, rfl, hl0, hl1, hk0, hk1, HO, HA⟩ := hrel
            by_cases hmn : m ≤ n
            · have hpos : q + m < s.size := by omega
              have hbg := bat_get s (q + m) hpos
              by_cases hok : okAt s q lo0 hi0 m
              · have h2 := HO.out.1 hok
                rw [hbg] at h2
                obtain ⟨h3, h4⟩ := h2
                have HN : Hid (∀ j, 1 ≤ j → j < m + 1 → okAt s q lo0 hi0 j) := fun j h1 h2 => by
                  by_cases e : j = m
                  · rw [e]; exact hok
                  · exact HA.out j h1 (by omega)
                clear hbg hok HO HA
                go_wp2
                go_round
                case rel => exact ⟨m + 1, 128, 191, by go_num, by omega, by omega, rfl, rfl, by omega, by omega, by omega, by omega, by unfold Hid; rw [OK.out (m + 1), if_neg (by omega)]; omega, HN⟩
                case measure => simp [intOf]; omega
              · have H1 : Hid (Lib.validD s.data.toList = false) := by
                  unfold Hid; rw [← hz.out, Hv.out]; exact validAt_bad s q hlt (D3.out m hm1 hmn hin hok)
                have h2 : (s[q + m].toNat : Int) < lk ∨ (lk ≤ (s[q + m].toNat : Int) ∧ hk < (s[q + m].toNat : Int)) := by
                  have : ¬ (lk ≤ (bat s (q + m) : Int) ∧ (bat s (q + m) : Int) ≤ hk) := fun h => hok (HO.out.2 h)
                  rw [hbg] at this
                  omega
                clear hbg hok HO HA
                rcases h2 with h2 | ⟨h2, h3⟩
                all_goals
                  go_wp2
                  go_ret
                  exact ⟨by rw [H1.out]; rfl, rfl⟩
            · have hd := D1.out (.inr hin) (fun j h1 h2 => HA.out j h1 (by omega))
              have H1 : Hid (validAt s 0 = validAt s (q + 1 + n)) := by
                unfold Hid; rw [Hv.out, validAt_good s q hlt hd.1, hd.2]; congr 1; omega
              clear HO HA hd Hv
              go_wp2
              go_round
              case rel => exact ⟨q + 1 + n, by go_num, by omega, H1⟩
              case measure => simp [intOf]; omega
    · have H1 : Hid (Lib.validD s.data.toList = true) := by
        unfold Hid; rw [← hz.out, Hv.out]; exact validAt_end s q (by omega)
      clear Hv
      go_wp2
      go_ret
      exact ⟨by rw [H1.out]; rfl, rfl⟩

/-- What the reference says of a list's texts. -/
def textsN (l : List Ac) : Int := if l.any bigAc then 3 else if l.any badAc then 1 else 0

theorem textsN_eq (n : Nd) : rightN n = if !vpath n.path then 30 else if 1048575 < n.data.length ∨ 16 < n.acl.length then 3 else if textsN n.acl ≠ 0 then textsN n.acl else if badQ n then 1 else 0 := by
  unfold rightN textsN
  generalize n.acl.any bigAc = B
  generalize n.acl.any badAc = A
  generalize vpath n.path = v
  by_cases h : 1048575 < n.data.length ∨ 16 < n.acl.length
  · have h' : 1048575 < n.data.length ∨ 16 < n.acl.length ∨ B = true := h.elim .inl (fun k => .inr (.inl k))
    rw [if_pos h, if_pos h']
  · have h' : (1048575 < n.data.length ∨ 16 < n.acl.length ∨ B = true) ↔ B = true := ⟨fun k => k.elim (fun k => absurd (.inl k) h) (fun k => k.elim (fun k => absurd (.inr k) h) id), fun k => .inr (.inr k)⟩
    rw [if_neg h]
    simp only [h']
    cases B <;> cases A <;> simp

theorem texts_any (a : Option Addr) (c : Nat) (l : List Ac) (w : World) (hc : Cells w.heap.size w a (acCs l)) (hm : l.length ≤ 9223372036854775807) (ht : ∀ x ∈ l, x.scheme.size ≤ 9223372036854775800 ∧ x.id.size ≤ 9223372036854775800) :
    Calls Tryz.prog 135 #[.slice a l.length c] w fun e w' => e = .returned (.int .i64 (textsN l)) ∧ w = w' := by
  have HT := Lib.hid ht
  clear ht
  go_enter Tryz.func135, Tryz.ntmps135
  go_wp2
  go_loop [3, 4] (fun e i => ∃ (k : Nat) (ev : Int), k ≤ l.length ∧ i = .int .i64 k ∧ e = .int .i64 ev ∧ Hid (ev = if (l.take k).any badAc then 1 else 0) ∧ Hid ((l.take k).any bigAc = false)) (fun _ i => l.length - (intOf i).toNat)
  case atStart => exact ⟨0, 0, Nat.zero_le _, rfl, rfl, by simp [Hid], by simp [Hid]⟩
  case round =>
    obtain ⟨k, ev, hk, rfl, rfl, HE, HB⟩ := hrel
    by_cases hlt : k < l.length
    · obtain ⟨b, off, rfl, hb, c0, c1, c2⟩ := acCells hc k hlt
      have htk := HT.out l[k] (List.getElem_mem hlt)
      have ht1 := htk.1
      have ht2 := htk.2
      clear htk
      have hts : ∀ p : Ac → Bool, (l.take (k + 1)).any p = ((l.take k).any p || p l[k]) := fun p => by
        rw [List.take_succ_eq_append_getElem hlt, List.any_append]; simp
      have HTS := Lib.hid hts
      have hbig : l[k] ∈ l := List.getElem_mem hlt
      clear hts
      by_cases hbg : bigAc l[k] = true
      · have H1 : Hid (textsN l = 3) := by
          unfold Hid textsN
          rw [if_pos (List.any_eq_true.2 ⟨l[k], hbig, hbg⟩)]
        have h2 : 256 < (l[k].scheme.size : Int) ∨ ((l[k].scheme.size : Int) ≤ 256 ∧ 256 < (l[k].id.size : Int)) := by
          simp [bigAc] at hbg; omega
        clear hbg
        rcases h2 with h2 | ⟨h2, h3⟩
        all_goals
          go_wp2
          go_ret
          exact ⟨ret_int H1.out.symm, rfl⟩
      · have h2 : (l[k].scheme.size : Int) ≤ 256 ∧ (l[k].id.size : Int) ≤ 256 := by simp [bigAc] at hbg; omega
        obtain ⟨h2, h3⟩ := h2
        have hbf : bigAc l[k] = false := by simpa using hbg
        have HB2 : Hid ((l.take (k + 1)).any bigAc = false) := by unfold Hid; rw [HTS.out, HB.out, hbf]; rfl
        clear hbg hbf
        have U1 := utf8_any l[k].scheme
        have U2 := utf8_any l[k].id
        cases hv1 : Lib.validD l[k].scheme.data.toList
        · have HE2 : Hid ((1 : Int) = if (l.take (k + 1)).any badAc then 1 else 0) := by
            unfold Hid; rw [HTS.out, show badAc l[k] = true from by simp [badAc, hv1]]; simp
          rw [hv1] at U1
          have U1 := Lib.hid U1
          clear hv1 U2
          go_wp2_with fail
          refine (U1.out _ (by omega)).mono ?_
          rintro e w' ⟨rfl, rfl⟩
          go_wp2
          go_round
          case rel => exact ⟨k + 1, 1, by omega, by go_num, rfl, HE2, HB2⟩
          case measure => simp [intOf]; omega
        · rw [hv1] at U1
          have U1 := Lib.hid U1
          cases hv2 : Lib.validD l[k].id.data.toList
          · have HE2 : Hid ((1 : Int) = if (l.take (k + 1)).any badAc then 1 else 0) := by
              unfold Hid; rw [HTS.out, show badAc l[k] = true from by simp [badAc, hv2]]; simp
            rw [hv2] at U2
            have U2 := Lib.hid U2
            clear hv1 hv2
            go_wp2_with fail
            refine (U1.out _ (by omega)).mono ?_
            rintro e w' ⟨rfl, rfl⟩
            go_wp2_with fail
            refine (U2.out _ (by omega)).mono ?_
            rintro e w' ⟨rfl, rfl⟩
            go_wp2
            go_round
            case rel => exact ⟨k + 1, 1, by omega, by go_num, rfl, HE2, HB2⟩
            case measure => simp [intOf]; omega
          · have HE2 : Hid (ev = if (l.take (k + 1)).any badAc then 1 else 0) := by
              unfold Hid; rw [HTS.out, show badAc l[k] = false from by simp [badAc, hv1, hv2], Bool.or_false]; exact HE.out
            rw [hv2] at U2
            have U2 := Lib.hid U2
            clear hv1 hv2
            go_wp2_with fail
            refine (U1.out _ (by omega)).mono ?_
            rintro e w' ⟨rfl, rfl⟩
            go_wp2_with fail
            refine (U2.out _ (by omega)).mono ?_
            rintro e w' ⟨rfl, rfl⟩
            go_wp2
            go_round
            case rel => exact ⟨k + 1, ev, by omega, by go_num, rfl, HE2, HB2⟩
            case measure => simp [intOf]; omega
    · obtain rfl : k = l.length := by omega
      have H1 : Hid (textsN l = ev) := by
        unfold Hid textsN
        have e1 := HE.out
        have e2 := HB.out
        rw [List.take_length] at e1 e2
        rw [e2, e1]; simp
      clear HE HB
      go_wp2
      go_ret
      exact ⟨ret_int H1.out.symm, rfl⟩
end Go.Proofs.YtamolbegmkngdaaGreatDoor
namespace Go.Proofs.YtamolbegmkngdaaGreatDoor
open Go.RowKit
set_option maxHeartbeats 1000000
set_option maxRecDepth 100000

theorem rright_any (n : Nd) (da aa : Option Addr) (dc ac : Nat) (w : World) (hf : Fit n) (hT : Tabs w) (hA : Cells w.heap.size w aa (acCs n.acl)) :
    Calls Tryz.prog 73 #[.agg (ndC n (.slice da n.data.length dc) (.slice aa n.acl.length ac))] w (RightOut (rightN n) w) := by
  have hfp := hf.path
  have hfd := hf.data
  have hfa := hf.acl
  have HT := Lib.hid hf.texts
  have hbox := Box.alloc w (ndC n (.slice da n.data.length dc) (.slice aa n.acl.length ac)) 47
  have hb0 : Below w.heap.size w (w.alloc (.cells (ndC n (.slice da n.data.length dc) (.slice aa n.acl.length ac)) 47)) := (Below.refl _ _).alloc (Nat.le_refl _) _
  unfold ndC at hbox hb0 ⊢
  by_cases h1 : vpath n.path = true
  · have C1 := fun w => rvalid_any n.path w (by omega)
    simp only [h1] at C1
    have C1 := Lib.hid C1
    go_enter Tryz.func73, Tryz.ntmps73
    go_wp2_with fail
    refine (C1.out _).mono ?_
    rintro e w1 ⟨rfl, hb1⟩
    have hx1 := hbox.below hb1 (by simp)
    have hb : Below w.heap.size w w1 := hb0.trans (hb1.mono (by simp))
    clear hbox hb1 hb0
    unfold Box at hx1
    by_cases h2 : 1048575 < (n.data.length : Int)
    · have R : Hid (rightN n = 3) := by unfold Hid rightN; simp [h1]; omega
      clear h1 C1
      go_wp2
      go_ret
      exact ⟨ret_int R.out.symm, hb⟩
    by_cases h3 : 16 < (n.acl.length : Int)
    · have R : Hid (rightN n = 3) := by unfold Hid rightN; simp [h1]; omega
      have h2' : decide (1048575 < (n.data.length : Int)) = false := by simpa using h2
      clear h1 C1
      go_wp2
      go_ret
      exact ⟨ret_int R.out.symm, hb⟩
    have h2' : decide (1048575 < (n.data.length : Int)) = false := by simpa using h2
    have h3' : decide (16 < (n.acl.length : Int)) = false := by simpa using h3
    have hA1 := hA.below hb
    have hr4 : rightN n = if textsN n.acl ≠ 0 then textsN n.acl else if badQ n then 1 else 0 := by
      rw [textsN_eq, if_neg (by simp [h1]), if_neg (by omega)]
    have R4 := Lib.hid hr4
    have C2 := texts_any aa ac n.acl w1 (hA1.mono hb.size) (by omega) HT.out
    clear h1 C1 hr4
    by_cases h5 : ¬ textsN n.acl = 0
    · have R : Hid (rightN n = textsN n.acl) := by unfold Hid; rw [R4.out, if_pos h5]
      have hne : (textsN n.acl != 0) = true := by simpa using h5
      have C2 := Lib.hid C2
      clear h5 R4
      go_wp2_with fail
      refine C2.out.mono ?_
      rintro e w3 ⟨rfl, rfl⟩
      clear C2
      go_wp2
      go_ret
      exact ⟨ret_int R.out.symm, hb⟩
    have h5 : textsN n.acl = 0 := by omega
    have R : Hid (rightN n = if badQ n then 1 else 0) := by unfold Hid; rw [R4.out, h5]; simp
    rw [h5] at C2
    have C2 := Lib.hid C2
    clear R4 h5
    go_wp2_with fail
    refine C2.out.mono ?_
    rintro e w3 ⟨rfl, rfl⟩
    have hsz3 : w.heap.size < w1.heap.size := by
      have := block_lt_of_cell (show w1.cell? ⟨w.heap.size, 0, none⟩ = _ from hx1 0)
      exact this
    have hfin : ∀ o, Below w.heap.size w (w1.alloc o) := fun o => hb.alloc (by omega) o
    have HFIN := Lib.hid hfin
    have hx3 := hx1
    clear C2 hfin hx1
    have HR : ∀ b : Bool, badQ n = b → rightN n = if b then 1 else 0 := fun b hbq => by rw [R.out, hbq]
    have HR := Lib.hid HR
    cases hh : n.has
    · have hq0 : badQ n = (n.count != 0 || n.bytes != 0) := by unfold badQ; rw [hh]; simp
      rw [hh] at hx3
      by_cases hc0 : n.count = 0
      · by_cases hb0 : n.bytes = 0
        · have R0 := Lib.hid (HR.out false (by rw [hq0, hc0, hb0]; rfl))
          have e1 : (n.count != 0) = false := by simp [hc0]
          have e2 : (n.bytes != 0) = false := by simp [hb0]
          clear hc0 hb0 hq0 hh
          go_wp2
          go_ret
          exact ⟨ret_int R0.out.symm, HFIN.out _⟩
        · have R0 := Lib.hid (HR.out true (by rw [hq0]; simp [hb0]))
          have e1 : (n.count != 0) = false := by simp [hc0]
          have e2 : (n.bytes != 0) = true := by simp [hb0]
          clear hc0 hb0 hq0 hh
          go_wp2
          go_ret
          exact ⟨ret_int R0.out.symm, HFIN.out _⟩
      · have R0 := Lib.hid (HR.out true (by rw [hq0]; simp [hc0]))
        have e1 : (n.count != 0) = true := by simp [hc0]
        clear hc0 hq0 hh
        go_wp2
        go_ret
        exact ⟨ret_int R0.out.symm, HFIN.out _⟩
    · have hq0 : badQ n = (decide (n.count < -1) || decide (n.bytes < -1)) := by unfold badQ; rw [hh]; simp
      rw [hh] at hx3
      by_cases hc0 : n.count < -1
      · have R0 := Lib.hid (HR.out true (by rw [hq0]; simp [hc0]))
        clear hq0 hh
        go_wp2
        go_ret
        exact ⟨ret_int R0.out.symm, HFIN.out _⟩
      · by_cases hb0 : n.bytes < -1
        · have R0 := Lib.hid (HR.out true (by rw [hq0]; simp [hb0]))
          have e1 : decide (n.count < -1) = false := by simpa using hc0
          clear hq0 hh
          go_wp2
          go_ret
          exact ⟨ret_int R0.out.symm, HFIN.out _⟩
        · have R0 := Lib.hid (HR.out false (by rw [hq0]; simp [hc0, hb0]))
          have e1 : decide (n.count < -1) = false := by simpa using hc0
          have e2 : decide (n.bytes < -1) = false := by simpa using hb0
          clear hq0 hh
          go_wp2
          go_ret
          exact ⟨ret_int R0.out.symm, HFIN.out _⟩
  · have C1 := fun w => rvalid_any n.path w (by omega)
    have h1' : vpath n.path = false := by simpa using h1
    have R : Hid (rightN n = 30) := by unfold Hid rightN; simp [h1']
    simp only [h1'] at C1
    have C1 := Lib.hid C1
    clear h1 h1'
    go_enter Tryz.func73, Tryz.ntmps73
    go_wp2_with fail
    refine (C1.out _).mono ?_
    rintro e w1 ⟨rfl, hb1⟩
    have hb : Below w.heap.size w w1 := hb0.trans (hb1.mono (by simp))
    clear hbox hb1 hb0
    go_wp2
    go_ret
    exact ⟨ret_int R.out.symm, hb⟩
end Go.Proofs.YtamolbegmkngdaaGreatDoor
namespace Go.Proofs.YtamolbegmkngdaaGreatDoor
open Go.RowKit
set_option maxHeartbeats 1000000
set_option maxRecDepth 100000

/-- What stays when a row of the call's own is written behind. -/
def RowKeep (v v' : Value) (w w' : World) : Prop := w.heap.size ≤ w'.heap.size ∧ ∀ g, g < w.heap.size → v.ownBlock ≠ some g → w'.heap[g]? = w.heap[g]? ∧ v'.ownBlock ≠ some g
theorem RowKeep.refl (v : Value) (w : World) : RowKeep v v w w := ⟨Nat.le_refl _, fun _ _ h => ⟨rfl, h⟩⟩
theorem RowKeep.trans {v1 v2 v3 : Value} {a b c : World} (h : RowKeep v1 v2 a b) (k : RowKeep v2 v3 b c) : RowKeep v1 v3 a c :=
  ⟨Nat.le_trans h.1 k.1, fun g hg hn => let x := h.2 g hg hn; let y := k.2 g (Nat.lt_of_lt_of_le hg h.1) x.2; ⟨y.1.trans x.1, y.2⟩⟩
theorem RowKeep.alloc (v : Value) (w : World) (o : Obj) : RowKeep v v w (w.alloc o) := ⟨by simp, fun g hg hn => ⟨Below.heap_alloc _ _ _ hg, hn⟩⟩

/-- A row of bytes of the call's own. -/
def OwnB (B : Nat) (w : World) (v : Value) (l : List UInt8) : Prop := w.ownsRow B 5 1 v l.length (l.map u8v)
theorem OwnB.lt {B : Nat} {w : World} {v : Value} {l : List UInt8} (h : OwnB B w v l) : ∀ g, v.ownBlock = some g → g < w.heap.size ∧ B ≤ g := by
  intro g hg
  rcases h.2 with ⟨rfl, _⟩ | ⟨g', cap, cur, rfl, k1, k2, k3⟩
  · cases hg
  · simp only [Value.ownBlock, Option.some.injEq] at hg
    subst hg
    exact ⟨(Array.getElem?_eq_some_iff.1 k2).1, k1⟩
theorem OwnB.alloc {B : Nat} {w : World} {v : Value} {l : List UInt8} (h : OwnB B w v l) (o : Obj) : OwnB B (w.alloc o) v l :=
  ownsRow_keep h (fun g hg => Below.heap_alloc _ _ _ (h.lt g hg).1)
theorem OwnB.slice {B : Nat} {w : World} {v : Value} {l : List UInt8} (h : OwnB B w v l) : ∃ a m c, v = .slice a m c := ownsRow_slice h

def PutR (B : Nat) (v : Value) (l : List UInt8) (w : World) (e : Ending) (w' : World) : Prop :=
  ∃ v', e = .returned v' ∧ OwnB B w' v' l ∧ Below B w w' ∧ RowKeep v v' w w'

theorem grown_keep {B : Nat} {w w1 : World} {v v' : Value} {l : List UInt8} (h : OwnB B w v l) (hg : w.grownBy w1 v.ownBlock) (hob : v'.ownBlock = v.ownBlock ∨ v'.ownBlock = some w.heap.size) (hB : B ≤ w.heap.size) : Below B w w1 ∧ RowKeep v v' w w1 := by
  refine ⟨(Below.refl B w).grown hg hB (fun k hk => (h.lt k hk).2), hg.size, fun g hgs hn => ⟨hg.block g hgs (fun e => hn e.symm), ?_⟩⟩
  rcases hob with h | h
  · rw [h]; exact hn
  · rw [h]; simp; omega

theorem rput_any (B : Nat) (v : Value) (l : List UInt8) (x : Int) (k : Nat) (ki : Int) (w : World) (hki : ki = k) (hx0 : 0 ≤ x) (hx1 : x ≤ 18446744073709551615) (hk : k ≤ 8) (hv : OwnB B w v l) (hB : B ≤ w.heap.size) (hlen : l.length + k ≤ 70368744177664) :
    Calls Tryz.prog 197 #[v, .int .u64 x, .int .i64 ki] w (PutR B v (l ++ be x k) w) := by
  subst hki
  obtain ⟨i0, hi, hz0, hz1, hz2⟩ := info_parts infoU8
  go_enter Tryz.func197, Tryz.ntmps197
  go_wp2
  go_loopw [0, 7] (fun vb i wr => ∃ (m : Nat) (l' : List UInt8), i = .int .i64 ((m : Int) - 1) ∧ m ≤ k ∧ Hid (l' ++ be x m = l ++ be x k) ∧ OwnB B wr vb l' ∧ Below B w wr ∧ RowKeep v vb w wr) (fun _ i _ => (intOf i + 1).toNat)
  case atStart => exact ⟨k, l, rfl, Nat.le_refl _, rfl, hv, Below.refl _ _, RowKeep.refl _ _⟩
  case round =>
    obtain ⟨m, l', rfl, hm, HL, hW, hb, hK⟩ := hrel
    by_cases h0 : m = 0
    · subst h0
      have HL' : Hid (l' = l ++ be x k) := by have := HL.out; show l' = l ++ be x k; simpa [be] using this
      clear HL
      go_wp2
      go_ret
      exact ⟨_, rfl, by rw [← HL'.out]; exact hW, hb, hK⟩
    · obtain ⟨i, rfl⟩ : ∃ i, m = i + 1 := ⟨m - 1, by omega⟩
      have hi' : (((i + 1 : Nat) : Int) - 1) = (i : Int) := by omega
      rw [hi']
      have hbv := Lib.hid (byteAt_val x i hx0)
      have hll : l'.length + (i + 1) = l.length + k := by
        have := congrArg List.length HL.out
        simpa [be_length] using this
      have HLL := Lib.hid hll
      clear hll
      have hWa := hW.alloc (.cells #[u8v (byteAt x i)] 5)
      have hsz : wr.heap.size ≤ (wr.alloc (.cells #[u8v (byteAt x i)] 5)).heap.size := by simp
      have hsrc : Src Tryz.prog 1 42 (.slice (some ⟨wr.heap.size, 0, none⟩) 1 1) 1 [u8v (byteAt x i)] (wr.alloc (.cells #[u8v (byteAt x i)] 5)) :=
        (cells_new wr [u8v (byteAt x i)] 5).src Tryz.underlying42 1 1 rfl (one_u8 [byteAt x i])
      rw [hbv.out] at hWa hsrc hsz
      have hbr := hb.size
      go_wp2_with (at_builtin; refine wpList_append_src _ rfl _ _ 42 42 rfl B 5 i0 (.int .u8 0) 1 1 Tryz.underlying42 hi hz0 hz1 hz2 rfl (by decide) u0 l'.length _ rfl hWa _ 1 _ rfl hsrc ?c1 ?c2 ?c3 ?_)
      case c1 => have := HLL.out; simp only [maxLen]; omega
      case c2 => have := HLL.out; omega
      case c3 => simp; omega
      intro v' w1 ho hg _ hob
      have hgk := grown_keep hWa hg (by simpa using hob) (by simp; omega)
      have hbw : Below B w w1 := (hb.alloc (by omega) _).trans hgk.1
      have hkw : RowKeep v v' w w1 := (hK.trans (RowKeep.alloc _ _ _)).trans hgk.2
      have ho' : OwnB B w1 v' (l' ++ [byteAt x i]) := by
        have e : (l' ++ [byteAt x i]).map u8v = l'.map u8v ++ [.int .u8 (x / 2 ^ (8 * i) % 256)] := by rw [List.map_append, ← hbv.out]; rfl
        unfold OwnB
        rw [e]
        simpa using ho
      clear hgk ho hg hob hWa hsrc hb hK hW hbr
      go_wp2
      go_roundw
      case rel => exact ⟨i, l' ++ [byteAt x i], by go_num, by omega, by have := HL.out; unfold Hid; rw [← this]; simp [be], ho', hbw, hkw⟩
      case measure => simp [intOf]

theorem bytes_of_list (s : ByteArray) : byteCells s = s.data.toList.map u8v := rfl

theorem rtext_any (B : Nat) (v : Value) (l : List UInt8) (s : ByteArray) (w : World) (hv : OwnB B w v l) (hB : B ≤ w.heap.size) (hs : s.size < 2147483648) (hlen : l.length + s.size + 4 ≤ 70368744177664) :
    Calls Tryz.prog 195 #[v, .string s] w (PutR B v (l ++ txt s) w) := by
  obtain ⟨i0, hi, hz0, hz1, hz2⟩ := info_parts infoU8
  go_enter Tryz.func195, Tryz.ntmps195
  go_wp2_with fail
  refine (rput_any B v l s.size 4 _ w rfl (by omega) (by omega) (by omega) hv hB (by omega)).mono ?_
  rintro e w1 ⟨v1, rfl, k1, k2, k3⟩
  have hsrc : Src Tryz.prog 1 9 (.string s) s.size (s.data.toList.map u8v) w1 := bytes_of_list s ▸ Src.ofString w1 Tryz.underlying9 s
  have hsz := k2.size
  have HL : Hid ((l ++ be s.size 4).length = l.length + 4) := by simp [Hid, be_length]
  go_wp2_with (at_builtin; refine wpList_append_src _ rfl _ _ 42 9 rfl B 5 i0 (.int .u8 0) 1 1 Tryz.underlying42 hi hz0 hz1 hz2 rfl (by decide) v1 (l ++ be s.size 4).length _ rfl k1 _ s.size _ rfl hsrc ?c1 ?c2 ?c3 ?_)
  case c1 => have := HL.out; simp only [maxLen]; omega
  case c2 => have := HL.out; omega
  case c3 => omega
  intro v' w2 ho hg _ hob
  have hgk := grown_keep k1 hg hob (by omega)
  have ho' : OwnB B w2 v' (l ++ txt s) := by
    unfold OwnB
    have e : (l ++ txt s).map u8v = (l ++ be s.size 4).map u8v ++ s.data.toList.map u8v := by simp [txt]
    rw [e]
    have e2 : (l ++ txt s).length = (l ++ be s.size 4).length + s.size := by simp [txt]; omega
    rw [e2]
    simpa [List.append_assoc] using ho
  have hbw := k2.trans hgk.1
  have hkw := k3.trans hgk.2
  clear hgk ho hg hob hsrc k1 k2 k3
  go_wp2
  go_ret
  exact ⟨v', rfl, ho', hbw, hkw⟩
end Go.Proofs.YtamolbegmkngdaaGreatDoor
namespace Go.Proofs.YtamolbegmkngdaaGreatDoor
open Go.RowKit
set_option maxHeartbeats 2000000
set_option maxRecDepth 100000

theorem racl_any (B : Nat) (v : Value) (l : List UInt8) (a : Option Addr) (c : Nat) (xs : List Ac) (w : World) (hv : OwnB B w v l) (hB : B ≤ w.heap.size) (hc : Cells B w a (acCs xs)) (hn : xs.length ≤ 16) (hx : ∀ x ∈ xs, x.scheme.size ≤ 256 ∧ x.id.size ≤ 256) (hlen : l.length ≤ 70368744000000) :
    Calls Tryz.prog 196 #[v, .slice a xs.length c] w (PutR B v (l ++ be xs.length 4 ++ acBs xs) w) := by
  have HX := Lib.hid hx
  have HLE := Lib.hid (acBs_le xs hx)
  clear hx
  go_enter Tryz.func196, Tryz.ntmps196
  go_wp2_with fail
  refine (rput_any B v l xs.length 4 _ w rfl (by omega) (by omega) (by omega) hv hB (by omega)).mono ?_
  rintro e w1 ⟨v1, rfl, k1, k2, k3⟩
  have hsz1 := k2.size
  go_wp2
  go_loopw [0, 5] (fun vb i wr => ∃ k : Nat, k ≤ xs.length ∧ i = .int .i64 k ∧ OwnB B wr vb (l ++ be xs.length 4 ++ acBs (xs.take k)) ∧ Below B w wr ∧ RowKeep v vb w wr) (fun _ i _ => xs.length - (intOf i).toNat)
  case atStart => exact ⟨0, Nat.zero_le _, rfl, by simpa [acBs] using k1, k2, k3⟩
  case round =>
    obtain ⟨k, hk, rfl, m1, m2, m3⟩ := hrel
    by_cases hlt : k < xs.length
    · obtain ⟨b, off, rfl, hb, c0, c1, c2⟩ := acCells (hc.below m2) k hlt
      have hx2 := HX.out xs[k] (List.getElem_mem hlt)
      have hle := HLE.out k (by omega)
      have htk := Lib.hid (acBs_take xs k hlt)
      have hszr := m2.size
      have keep : ∀ w' o, Below B wr w' → w'.cell? ⟨b, o, none⟩ = wr.cell? ⟨b, o, none⟩ := fun w' o h => h.cell (p := ⟨b, o, none⟩) hb
      have KEEP := Lib.hid keep
      have HLL : Hid ((l ++ be xs.length 4 ++ acBs (xs.take k)).length = l.length + 4 + (acBs (xs.take k)).length) := by simp [Hid, be_length]; omega
      clear keep
      go_wp2_with fail
      refine (rput_any B _ _ (xs[k].perms % 4294967296) 4 _ wr rfl (by omega) (by omega) (by omega) m1 (by omega) (by have := HLL.out; omega)).mono ?_
      rintro e w2 ⟨v2, rfl, p1, p2, p3⟩
      have d1 : w2.cell? ⟨b, off + k * 3 + 1, none⟩ = some (.string xs[k].scheme) := (KEEP.out w2 _ p2).trans c1
      have hsz2 := p2.size
      clear c0
      go_wp2_with fail
      refine (rtext_any B _ _ xs[k].scheme w2 p1 (by omega) (by omega) (by have := HLL.out; simp only [List.length_append, be_length] at *; omega)).mono ?_
      rintro e w3 ⟨v3, rfl, q1, q2, q3⟩
      have d2 : w3.cell? ⟨b, off + k * 3 + 2, none⟩ = some (.string xs[k].id) := (KEEP.out w3 _ (p2.trans q2)).trans c2
      have hsz3 := q2.size
      clear d1 c1
      go_wp2_with fail
      refine (rtext_any B _ _ xs[k].id w3 q1 (by omega) (by omega) (by have := HLL.out; simp only [List.length_append, be_length, txt_length] at *; omega)).mono ?_
      rintro e w4 ⟨v4, rfl, r1, r2, r3⟩
      have hbw := m2.trans (p2.trans (q2.trans r2))
      have hkw := m3.trans (p3.trans (q3.trans r3))
      have r1 : OwnB B w4 v4 (l ++ be xs.length 4 ++ acBs (xs.take (k + 1))) := by rw [htk.out]; simpa [acB, List.append_assoc] using r1
      clear d2 c2 p1 p2 p3 q1 q2 q3 r2 r3 m1 m2 m3 hle htk HLL
      go_wp2
      go_roundw
      case rel => exact ⟨k + 1, by omega, by go_num, r1, hbw, hkw⟩
      case measure => simp [intOf]; omega
    · obtain rfl : k = xs.length := by omega
      rw [List.take_length] at m1
      clear hc
      go_wp2
      go_ret
      exact ⟨_, rfl, by simpa using m1, m2, m3⟩

theorem txt_list (xs : List UInt8) : txt ⟨xs.toArray⟩ = be xs.length 4 ++ xs := by
  simp [txt]
  rfl
end Go.Proofs.YtamolbegmkngdaaGreatDoor
