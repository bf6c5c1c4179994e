/- The walks of the references' own texts up to Valid: whether a text is a path, as the document has it. The walks of the reference of paths up to Valid. The walk of arborref03.Order. The document's tree in memory; where a path stands in it (arborref07's Find). The walk of a node's copy, as the reference has it. -/
import Derived.Test.YtclekhjnnljjlaaGreatDoorJFuzzyWhole1
import Derived.Test.YtclekhjnnljjlaaGreatDoorJFuzzyWhole7
import Derived.BigQuiet
import Derived.Test.YtclekhjnnljjlaaGreatDoorJFuzzyWhole2
import Derived.Test.YtclekhjnnljjlaaGreatDoorJFuzzyWhole3
namespace Go.Proofs.YtclekhjnnljjlaaGreatDoor
open Go.RowKit
set_option maxHeartbeats 400000
set_option maxRecDepth 100000

theorem rkind_any (r : Int) (w : World) : Calls Tryz.prog 165 #[.int .i64 r] w fun e w' => e = .returned (.int .i64 (kindN r)) ∧ w = w' := by
  go_enter Tryz.func165, Tryz.ntmps165
  go_wp2
  all_goals (try go_ret)
  all_goals (refine ⟨ret_int ?_, rfl⟩; go_light; (try simp only [beq_iff_eq, beq_eq_false_iff_ne, ne_eq] at *); unfold kindN; repeat' split)
  all_goals (first | rfl | (exfalso; omega))

def kindR (r : Int) : Int := if r < 0 then 8 else kindN r
theorem kindR_pl (r : Int) : kindR r = 1 ↔ (0 ≤ r ∧ pl r.toNat = true) := by
  unfold kindR
  split
  · constructor <;> intro h <;> omega
  · have := kindN_pl r.toNat
    rw [show ((r.toNat : Nat) : Int) = r from by omega] at this
    rw [this]
    constructor
    · intro h; exact ⟨by omega, h⟩
    · exact fun h => h.2

theorem rof_any (r : Int) (w : World) : Calls Tryz.prog 134 #[.int .i64 r] w fun e w' => e = .returned (.int .i64 (kindR r)) ∧ w = w' := by
  by_cases h : r < 0
  · have e := Lib.hid (show kindR r = 8 by unfold kindR; rw [if_pos h])
    go_enter Tryz.func134, Tryz.ntmps134
    go_wp2
    go_ret
    exact ⟨ret_int e.out.symm, rfl⟩
  · have e := Lib.hid (show kindR r = kindN r by unfold kindR; rw [if_neg h])
    have h' : 0 ≤ r := by omega
    go_enter Tryz.func134, Tryz.ntmps134
    go_wp2_with (go_at_call 165; refine (rkind_any _ _).mono ?_; rintro e w' ⟨rfl, rfl⟩)
    go_ret
    exact ⟨ret_int e.out.symm, rfl⟩

set_option maxHeartbeats 1000000 in
theorem char_2 (s : ByteArray) (p : Nat) (w : World) (hp : p < s.size) (hs : s.size ≤ 9223372036854775800) (a : 192 ≤ (s[p].toNat : Int)) (b : (s[p].toNat : Int) < 224)
    (HB : Hid (∀ k, 1 ≤ k → k < 2 → ¬ contOk s (p + k) → Utf8.decode s p = (65533, 1)))
    (HF : Hid ((∀ j, 1 ≤ j → j < 2 → contOk s (p + j)) → (badRune (acc s p (s[p].toNat - 192) (2 - 1)) 128 → Utf8.decode s p = (65533, 1)) ∧ (¬ badRune (acc s p (s[p].toNat - 192) (2 - 1)) 128 → Utf8.decode s p = ((acc s p (s[p].toNat - 192) (2 - 1)).toNat, 2))))
    (HA : Hid (∀ k, k ≤ 3 → (∀ j, 1 ≤ j → j ≤ k → contOk s (p + j)) → 0 ≤ acc s p (s[p].toNat - 192) k ∧ acc s p (s[p].toNat - 192) k ≤ 8388608)) :
    Calls Tryz.prog 133 #[.string s, .int .i64 p] w fun e w' => ∃ r n : Int, e = .returned (.tuple #[.int .i64 r, .int .i64 n]) ∧ Hid (HandR s p r n) ∧ w = w' := by
  go_enter Tryz.func133, Tryz.ntmps133
  go_wp2
  go_loop [8, 10] (fun r i => ∃ k : Nat, 1 ≤ k ∧ k ≤ 2 ∧ i = .int .i64 k ∧ r = .int .i64 (acc s p (s[p].toNat - 192) (k - 1)) ∧ Hid (∀ j, 1 ≤ j → j < k → contOk s (p + j))) (fun _ i => 2 - (intOf i).toNat)
  case atStart => exact ⟨1, by omega, by omega, rfl, rfl, fun j h1 h2 => by omega⟩
  case round =>
    obtain ⟨k, hk1, hk2, rfl, rfl, HC⟩ := hrel
    have hbd := HA.out (k - 1) (by omega) (fun j h1 h2 => HC.out j h1 (by omega))
    have hb0 := hbd.1
    have hb1 := hbd.2
    clear hbd
    by_cases hlt : k < 2
    · by_cases hc : contOk s (p + k)
      · have c1 := hc.1
        have c2 := hc.2.1
        have c3 := hc.2.2
        have e2 := bat_get s (p + k) c1
        have HN : Hid (∀ j, 1 ≤ j → j < k + 1 → contOk s (p + j)) := fun j h1 h2 => by
          by_cases e : j = k
          · rw [e]; exact hc
          · exact HC.out j h1 (by omega)
        have HE : Hid (acc s p (s[p].toNat - 192) (k + 1 - 1) = 64 * acc s p (s[p].toNat - 192) (k - 1) + s[p + k].toNat - 128) := by
          obtain ⟨k, rfl⟩ : Exists fun m => k = m + 1 := ⟨k - 1, by omega⟩
          show acc _ _ _ (k + 1) = _
          simp only [acc, Nat.add_sub_cancel]
          rw [e2]
        rw [e2] at c2 c3
        clear e2 hc
        generalize acc s p (s[p].toNat - 192) (k - 1) = ac at *
        go_wp2
        go_round
        case rel => exact ⟨k + 1, by omega, by omega, by go_num, by rw [HE.out], HN⟩
        case measure => simp [intOf]; omega
      · have H := Lib.hid (handR_bad s p (HB.out k hk1 hlt hc))
        generalize acc s p (s[p].toNat - 192) (k - 1) = ac at *
        by_cases c1 : p + k < s.size
        · have e2 := bat_get s (p + k) c1
          have c2 : (s[p + k].toNat : Int) < 128 ∨ (128 ≤ (s[p + k].toNat : Int) ∧ 192 ≤ (s[p + k].toNat : Int)) := by
            unfold contOk at hc; rw [e2] at hc; omega
          clear e2 hc
          rcases c2 with c2 | ⟨c2, c3⟩
          all_goals
            go_wp2
            go_ret2
            exact ⟨-1, 1, rfl, H, rfl⟩
        · clear hc
          go_wp2
          go_ret2
          exact ⟨-1, 1, rfl, H, rfl⟩
    · obtain rfl : k = 2 := by omega
      have hf := HF.out HC.out
      have hf1 := Lib.hid hf.1
      have hf2 := Lib.hid hf.2
      clear hf
      generalize acc s p (s[p].toNat - 192) (2 - 1) = ac at *
      by_cases hbr : badRune ac 128
      · have H := Lib.hid (handR_bad s p (hf1.out hbr))
        clear hf1 hf2
        unfold badRune at hbr
        have hbr2 : ac < 128 ∨ (128 ≤ ac ∧ 1114111 < ac) ∨ (128 ≤ ac ∧ ac ≤ 1114111 ∧ 55296 ≤ ac ∧ ac ≤ 57343) := by omega
        clear hbr
        rcases hbr2 with h1 | ⟨h1, h2⟩ | ⟨h1, h2, h3, h4⟩
        all_goals
          go_wp2
          go_ret2
          exact ⟨-1, 1, rfl, H, rfl⟩
      · have H := Lib.hid (handR_good s p ac 2 hb0 (hf2.out hbr))
        clear hf1 hf2
        unfold badRune at hbr
        have hbr2 : 128 ≤ ac ∧ ac ≤ 1114111 ∧ (ac < 55296 ∨ (55296 ≤ ac ∧ 57343 < ac)) := by omega
        clear hbr
        obtain ⟨h1, h2, h3⟩ := hbr2
        rcases h3 with h3 | ⟨h3, h4⟩
        all_goals (first | (exfalso; omega) | (go_wp2; go_ret2; exact ⟨ac, 2, rfl, H, rfl⟩))

set_option maxHeartbeats 1000000 in
theorem char_3 (s : ByteArray) (p : Nat) (w : World) (hp : p < s.size) (hs : s.size ≤ 9223372036854775800) (a : 224 ≤ (s[p].toNat : Int)) (b : (s[p].toNat : Int) < 240)
    (HB : Hid (∀ k, 1 ≤ k → k < 3 → ¬ contOk s (p + k) → Utf8.decode s p = (65533, 1)))
    (HF : Hid ((∀ j, 1 ≤ j → j < 3 → contOk s (p + j)) → (badRune (acc s p (s[p].toNat - 224) (3 - 1)) 2048 → Utf8.decode s p = (65533, 1)) ∧ (¬ badRune (acc s p (s[p].toNat - 224) (3 - 1)) 2048 → Utf8.decode s p = ((acc s p (s[p].toNat - 224) (3 - 1)).toNat, 3))))
    (HA : Hid (∀ k, k ≤ 3 → (∀ j, 1 ≤ j → j ≤ k → contOk s (p + j)) → 0 ≤ acc s p (s[p].toNat - 224) k ∧ acc s p (s[p].toNat - 224) k ≤ 8388608)) :
    Calls Tryz.prog 133 #[.string s, .int .i64 p] w fun e w' => ∃ r n : Int, e = .returned (.tuple #[.int .i64 r, .int .i64 n]) ∧ Hid (HandR s p r n) ∧ w = w' := by
  go_enter Tryz.func133, Tryz.ntmps133
  go_wp2
  go_loop [8, 10] (fun r i => ∃ k : Nat, 1 ≤ k ∧ k ≤ 3 ∧ i = .int .i64 k ∧ r = .int .i64 (acc s p (s[p].toNat - 224) (k - 1)) ∧ Hid (∀ j, 1 ≤ j → j < k → contOk s (p + j))) (fun _ i => 3 - (intOf i).toNat)
  case atStart => exact ⟨1, by omega, by omega, rfl, rfl, fun j h1 h2 => by omega⟩
  case round =>
    obtain ⟨k, hk1, hk2, rfl, rfl, HC⟩ := hrel
    have hbd := HA.out (k - 1) (by omega) (fun j h1 h2 => HC.out j h1 (by omega))
    have hb0 := hbd.1
    have hb1 := hbd.2
    clear hbd
    by_cases hlt : k < 3
    · by_cases hc : contOk s (p + k)
      · have c1 := hc.1
        have c2 := hc.2.1
        have c3 := hc.2.2
        have e2 := bat_get s (p + k) c1
        have HN : Hid (∀ j, 1 ≤ j → j < k + 1 → contOk s (p + j)) := fun j h1 h2 => by
          by_cases e : j = k
          · rw [e]; exact hc
          · exact HC.out j h1 (by omega)
        have HE : Hid (acc s p (s[p].toNat - 224) (k + 1 - 1) = 64 * acc s p (s[p].toNat - 224) (k - 1) + s[p + k].toNat - 128) := by
          obtain ⟨k, rfl⟩ : Exists fun m => k = m + 1 := ⟨k - 1, by omega⟩
          show acc _ _ _ (k + 1) = _
          simp only [acc, Nat.add_sub_cancel]
          rw [e2]
        rw [e2] at c2 c3
        clear e2 hc
        generalize acc s p (s[p].toNat - 224) (k - 1) = ac at *
        go_wp2
        go_round
        case rel => exact ⟨k + 1, by omega, by omega, by go_num, by rw [HE.out], HN⟩
        case measure => simp [intOf]; omega
      · have H := Lib.hid (handR_bad s p (HB.out k hk1 hlt hc))
        generalize acc s p (s[p].toNat - 224) (k - 1) = ac at *
        by_cases c1 : p + k < s.size
        · have e2 := bat_get s (p + k) c1
          have c2 : (s[p + k].toNat : Int) < 128 ∨ (128 ≤ (s[p + k].toNat : Int) ∧ 192 ≤ (s[p + k].toNat : Int)) := by
            unfold contOk at hc; rw [e2] at hc; omega
          clear e2 hc
          rcases c2 with c2 | ⟨c2, c3⟩
          all_goals
            go_wp2
            go_ret2
            exact ⟨-1, 1, rfl, H, rfl⟩
        · clear hc
          go_wp2
          go_ret2
          exact ⟨-1, 1, rfl, H, rfl⟩
    · obtain rfl : k = 3 := by omega
      have hf := HF.out HC.out
      have hf1 := Lib.hid hf.1
      have hf2 := Lib.hid hf.2
      clear hf
      generalize acc s p (s[p].toNat - 224) (3 - 1) = ac at *
      by_cases hbr : badRune ac 2048
      · have H := Lib.hid (handR_bad s p (hf1.out hbr))
        clear hf1 hf2
        unfold badRune at hbr
        have hbr2 : ac < 2048 ∨ (2048 ≤ ac ∧ 1114111 < ac) ∨ (2048 ≤ ac ∧ ac ≤ 1114111 ∧ 55296 ≤ ac ∧ ac ≤ 57343) := by omega
        clear hbr
        rcases hbr2 with h1 | ⟨h1, h2⟩ | ⟨h1, h2, h3, h4⟩
        all_goals
          go_wp2
          go_ret2
          exact ⟨-1, 1, rfl, H, rfl⟩
      · have H := Lib.hid (handR_good s p ac 3 hb0 (hf2.out hbr))
        clear hf1 hf2
        unfold badRune at hbr
        have hbr2 : 2048 ≤ ac ∧ ac ≤ 1114111 ∧ (ac < 55296 ∨ (55296 ≤ ac ∧ 57343 < ac)) := by omega
        clear hbr
        obtain ⟨h1, h2, h3⟩ := hbr2
        rcases h3 with h3 | ⟨h3, h4⟩
        all_goals (first | (exfalso; omega) | (go_wp2; go_ret2; exact ⟨ac, 3, rfl, H, rfl⟩))

set_option maxHeartbeats 1000000 in
theorem char_4 (s : ByteArray) (p : Nat) (w : World) (hp : p < s.size) (hs : s.size ≤ 9223372036854775800) (a : 240 ≤ (s[p].toNat : Int)) (b : (s[p].toNat : Int) < 248)
    (HB : Hid (∀ k, 1 ≤ k → k < 4 → ¬ contOk s (p + k) → Utf8.decode s p = (65533, 1)))
    (HF : Hid ((∀ j, 1 ≤ j → j < 4 → contOk s (p + j)) → (badRune (acc s p (s[p].toNat - 240) (4 - 1)) 65536 → Utf8.decode s p = (65533, 1)) ∧ (¬ badRune (acc s p (s[p].toNat - 240) (4 - 1)) 65536 → Utf8.decode s p = ((acc s p (s[p].toNat - 240) (4 - 1)).toNat, 4))))
    (HA : Hid (∀ k, k ≤ 3 → (∀ j, 1 ≤ j → j ≤ k → contOk s (p + j)) → 0 ≤ acc s p (s[p].toNat - 240) k ∧ acc s p (s[p].toNat - 240) k ≤ 8388608)) :
    Calls Tryz.prog 133 #[.string s, .int .i64 p] w fun e w' => ∃ r n : Int, e = .returned (.tuple #[.int .i64 r, .int .i64 n]) ∧ Hid (HandR s p r n) ∧ w = w' := by
  go_enter Tryz.func133, Tryz.ntmps133
  go_wp2
  go_loop [8, 10] (fun r i => ∃ k : Nat, 1 ≤ k ∧ k ≤ 4 ∧ i = .int .i64 k ∧ r = .int .i64 (acc s p (s[p].toNat - 240) (k - 1)) ∧ Hid (∀ j, 1 ≤ j → j < k → contOk s (p + j))) (fun _ i => 4 - (intOf i).toNat)
  case atStart => exact ⟨1, by omega, by omega, rfl, rfl, fun j h1 h2 => by omega⟩
  case round =>
    obtain ⟨k, hk1, hk2, rfl, rfl, HC⟩ := hrel
    have hbd := HA.out (k - 1) (by omega) (fun j h1 h2 => HC.out j h1 (by omega))
    have hb0 := hbd.1
    have hb1 := hbd.2
    clear hbd
    by_cases hlt : k < 4
    · by_cases hc : contOk s (p + k)
      · have c1 := hc.1
        have c2 := hc.2.1
        have c3 := hc.2.2
        have e2 := bat_get s (p + k) c1
        have HN : Hid (∀ j, 1 ≤ j → j < k + 1 → contOk s (p + j)) := fun j h1 h2 => by
          by_cases e : j = k
          · rw [e]; exact hc
          · exact HC.out j h1 (by omega)
        have HE : Hid (acc s p (s[p].toNat - 240) (k + 1 - 1) = 64 * acc s p (s[p].toNat - 240) (k - 1) + s[p + k].toNat - 128) := by
          obtain ⟨k, rfl⟩ : Exists fun m => k = m + 1 := ⟨k - 1, by omega⟩
          show acc _ _ _ (k + 1) = _
          simp only [acc, Nat.add_sub_cancel]
          rw [e2]
        rw [e2] at c2 c3
        clear e2 hc
        generalize acc s p (s[p].toNat - 240) (k - 1) = ac at *
        go_wp2
        go_round
        case rel => exact ⟨k + 1, by omega, by omega, by go_num, by rw [HE.out], HN⟩
        case measure => simp [intOf]; omega
      · have H := Lib.hid (handR_bad s p (HB.out k hk1 hlt hc))
        generalize acc s p (s[p].toNat - 240) (k - 1) = ac at *
        by_cases c1 : p + k < s.size
        · have e2 := bat_get s (p + k) c1
          have c2 : (s[p + k].toNat : Int) < 128 ∨ (128 ≤ (s[p + k].toNat : Int) ∧ 192 ≤ (s[p + k].toNat : Int)) := by
            unfold contOk at hc; rw [e2] at hc; omega
          clear e2 hc
          rcases c2 with c2 | ⟨c2, c3⟩
          all_goals
            go_wp2
            go_ret2
            exact ⟨-1, 1, rfl, H, rfl⟩
        · clear hc
          go_wp2
          go_ret2
          exact ⟨-1, 1, rfl, H, rfl⟩
    · obtain rfl : k = 4 := by omega
      have hf := HF.out HC.out
      have hf1 := Lib.hid hf.1
      have hf2 := Lib.hid hf.2
      clear hf
      generalize acc s p (s[p].toNat - 240) (4 - 1) = ac at *
      by_cases hbr : badRune ac 65536
      · have H := Lib.hid (handR_bad s p (hf1.out hbr))
        clear hf1 hf2
        unfold badRune at hbr
        have hbr2 : ac < 65536 ∨ (65536 ≤ ac ∧ 1114111 < ac) ∨ (65536 ≤ ac ∧ ac ≤ 1114111 ∧ 55296 ≤ ac ∧ ac ≤ 57343) := by omega
        clear hbr
        rcases hbr2 with h1 | ⟨h1, h2⟩ | ⟨h1, h2, h3, h4⟩
        all_goals
          go_wp2
          go_ret2
          exact ⟨-1, 1, rfl, H, rfl⟩
      · have H := Lib.hid (handR_good s p ac 4 hb0 (hf2.out hbr))
        clear hf1 hf2
        unfold badRune at hbr
        have hbr2 : 65536 ≤ ac ∧ ac ≤ 1114111 ∧ (ac < 55296 ∨ (55296 ≤ ac ∧ 57343 < ac)) := by omega
        clear hbr
        obtain ⟨h1, h2, h3⟩ := hbr2
        rcases h3 with h3 | ⟨h3, h4⟩
        all_goals (first | (exfalso; omega) | (go_wp2; go_ret2; exact ⟨ac, 4, rfl, H, rfl⟩))

theorem char_any (s : ByteArray) (p : Nat) (w : World) (hp : p < s.size) (hs : s.size ≤ 9223372036854775800) : Calls Tryz.prog 133 #[.string s, .int .i64 p] w fun e w' =>
    ∃ r n : Int, e = .returned (.tuple #[.int .i64 r, .int .i64 n]) ∧ Hid (HandR s p r n) ∧ w = w' := by
  have hb := bat_get s p hp
  have hb1 := bat_lt s p
  by_cases h1 : bat s p < 128
  · have H := Lib.hid (handR_good s p (bat s p) 1 (by omega) (by rw [(dec s p hp).ascii h1]; simp))
    rw [hb] at h1 H
    clear hb hb1
    go_enter Tryz.func133, Tryz.ntmps133
    go_wp2
    go_ret2
    exact ⟨_, 1, rfl, H, rfl⟩
  by_cases h2 : bat s p < 192 ∨ 248 ≤ bat s p
  · have H := Lib.hid (handR_bad s p (dec_lone s p (by omega) h2))
    rw [hb] at h1 h2 hb1
    clear hb
    go_enter Tryz.func133, Tryz.ntmps133
    rcases h2 with h2 | h2
    all_goals
      go_wp2
      go_ret2
      exact ⟨-1, 1, rfl, H, rfl⟩
  have key : ∀ (n : Nat) (off least : Int), Lead s p n off least → (∀ k, 1 ≤ k → k < n → ¬ contOk s (p + k) → Utf8.decode s p = (65533, 1)) ∧ _ ∧ _ := fun n off least hl =>
    ⟨dec_bad s p n off least hl, dec_full s p n off least hl, acc_le s p (bat s p - off) (by rcases hl with h | h | h <;> omega) (by rcases hl with h | h | h <;> omega)⟩
  rw [hb] at key h1 h2
  by_cases h3 : bat s p < 224
  · have k := key 2 192 128 (by unfold Lead; omega)
    rw [hb] at h3
    exact char_2 s p w hp hs (by omega) (by omega) k.1 k.2.1 k.2.2
  · by_cases h4 : bat s p < 240
    · have k := key 3 224 2048 (by unfold Lead; omega)
      rw [hb] at h3 h4
      exact char_3 s p w hp hs (by omega) (by omega) k.1 k.2.1 k.2.2
    · have k := key 4 240 65536 (by unfold Lead; omega)
      rw [hb] at h3 h4
      exact char_4 s p w hp hs (by omega) (by omega) k.1 k.2.1 k.2.2

end Go.Proofs.YtclekhjnnljjlaaGreatDoor
namespace Go.Proofs.YtclekhjnnljjlaaGreatDoor
open Go.RowKit
set_option maxHeartbeats 400000
set_option maxRecDepth 100000

theorem takeWhile_upto : ∀ (l : List UInt8) (q : Nat), q ≤ l.length → (∀ j, (h : j < l.length) → j < q → l[j] ≠ 47) → (q = l.length ∨ ∃ h : q < l.length, l[q] = 47) → l.takeWhile (· != 47) = l.take q
  | [], q, _, _, _ => by simp
  | b :: l, 0, _, _, h2 => by
    rcases h2 with h2 | ⟨_, h2⟩
    · simp at h2
    · simp at h2; subst h2; simp
  | b :: l, q + 1, hq, h1, h2 => by
    have hb : b ≠ 47 := h1 0 (by simp) (by omega)
    rw [List.takeWhile_cons_of_pos (by simpa using hb), List.take_succ_cons]
    congr 1
    refine takeWhile_upto l q (by simpa using hq) (fun j h hj => h1 (j + 1) (by simpa using h) (by omega)) ?_
    rcases h2 with h2 | ⟨h, h2⟩
    · left; simpa using h2
    · right; exact ⟨by simpa using h, by simpa using h2⟩

theorem bat_list (s : ByteArray) (i : Nat) (h : i < s.size) : s.data.toList[i]'(by simpa using h) = 47 ↔ bat s i = 47 := by
  rw [bat_get s i h]
  constructor
  · intro e; rw [show s[i] = s.data.toList[i]'(by simpa using h) from rfl, e]; rfl
  · intro e; exact UInt8.toNat_inj.1 (e.trans rfl)

theorem partL_upto (s : ByteArray) (p q : Nat) (hp : p ≤ q) (hq : q ≤ s.size) (h1 : ∀ j, p ≤ j → j < q → bat s j ≠ 47) (h2 : q = s.size ∨ bat s q = 47) : (s.extract p q).toList = partL s p := by
  have e : (s.extract p q).toList = (s.data.toList.drop p).take (q - p) := by
    rw [ByteArray.toList_eq, Lib.extract_data]
  rw [e, partL, takeWhile_upto (s.data.toList.drop p) (q - p) (by simp; omega)]
  · intro j h hj
    simp only [List.getElem_drop]
    intro e
    have hl : p + j < s.size := by simp at h; omega
    exact h1 (p + j) (by omega) (by omega) ((bat_list s (p + j) hl).1 e)
  · by_cases hqs : q = s.size
    · left; simp; omega
    · right
      have hl : q < s.size := by omega
      refine ⟨by simp; omega, ?_⟩
      simp only [List.getElem_drop]
      have := (bat_list s q hl).2 (h2.resolve_left hqs)
      simpa [show p + (q - p) = q from by omega] using this

theorem part_any (s : ByteArray) (p : Nat) (w : World) (hp : p ≤ s.size) (hs : s.size ≤ 9223372036854775800) : Calls Tryz.prog 132 #[.string s, .int .i64 p] w fun e w' =>
    ∃ t : ByteArray, e = .returned (.string t) ∧ Hid (t.toList = partL s p) ∧ w = w' := by
  go_enter Tryz.func132, Tryz.ntmps132
  go_wp2
  go_loop [5] (fun i => ∃ q : Nat, p ≤ q ∧ q ≤ s.size ∧ i = .int .i64 q ∧ Hid (∀ j, p ≤ j → j < q → bat s j ≠ 47)) (fun i => s.size - (intOf i).toNat)
  case atStart => exact ⟨p, Nat.le_refl _, hp, rfl, fun j h1 h2 => by omega⟩
  case round =>
    obtain ⟨q, hq1, hq2, rfl, HQ⟩ := hrel
    by_cases hlt : q < s.size
    · have e2 := bat_get s q hlt
      by_cases h47 : bat s q = 47
      · have H := Lib.hid (partL_upto s p q hq1 hq2 HQ.out (.inr h47))
        rw [e2] at h47
        have h47' : ((s[q].toNat : Int) != 47) = false := by simp; omega
        clear e2 h47
        go_wp2
        go_ret
        exact ⟨_, rfl, H, rfl⟩
      · have HN : Hid (∀ j, p ≤ j → j < q + 1 → bat s j ≠ 47) := fun j h1 h2 => by
          by_cases e : j = q
          · rw [e]; exact h47
          · exact HQ.out j h1 (by omega)
        rw [e2] at h47
        have h47' : ((s[q].toNat : Int) != 47) = true := by simp; omega
        clear e2 h47
        go_wp2
        go_round
        case rel => exact ⟨q + 1, by omega, by omega, by go_num, HN⟩
        case measure => simp [intOf]; omega
    · obtain rfl : q = s.size := by omega
      have H := Lib.hid (partL_upto s p s.size hq1 hq2 HQ.out (.inl rfl))
      go_wp2
      go_ret
      exact ⟨_, rfl, H, rfl⟩

theorem part_at (s : ByteArray) (p : Nat) (a : Int) (w : World) (ha : a = (p : Int)) (hp : p ≤ s.size) (hs : s.size ≤ 9223372036854775800) : Calls Tryz.prog 132 #[.string s, .int .i64 a] w fun e w' =>
    ∃ t : ByteArray, e = .returned (.string t) ∧ Hid (t.toList = partL s p) ∧ w = w' := by subst ha; exact part_any s p w hp hs

theorem scan_pl (s : ByteArray) (p : Nat) (h : p < s.size) (hp : ¬ pl (Utf8.decode s p).1 = true) : scanAt s p = false := by
  rw [scanAt_step s p h]; simp [hp]
theorem scan_void (s : ByteArray) (p : Nat) (h : p < s.size) (h47 : bat s p = 47) (h0 : 0 < p) (h1 : bat s (p - 1) = 47) : scanAt s p = false := by
  rw [scanAt_step s p h, sep_slash s p h47]; simp [h0, h1]
theorem scan_dots (s : ByteArray) (p : Nat) (h : p < s.size) (h47 : bat s p = 47) (h1 : dots s (p + 1) = true) : scanAt s p = false := by
  rw [scanAt_step s p h, sep_slash s p h47]; simp [h1]
theorem scan_plain (s : ByteArray) (p : Nat) (h : p < s.size) (h47 : bat s p ≠ 47) (hp : pl (Utf8.decode s p).1 = true) : scanAt s p = scanAt s (p + (Utf8.decode s p).2) := by
  rw [scanAt_step s p h, sep_ok s p h47]; simp [hp]
theorem scan_slash (s : ByteArray) (p : Nat) (h : p < s.size) (h47 : bat s p = 47) (h1 : ¬ (0 < p ∧ bat s (p - 1) = 47)) (h2 : dots s (p + 1) = false) : scanAt s p = scanAt s (p + (Utf8.decode s p).2) := by
  have hd := dec_one s p h47 (dec s p h).ascii
  rw [scanAt_step s p h, sep_slash s p h47, hd]
  have : (decide (0 < p) && bat s (p - 1) == 47) = false := by
    rw [Bool.and_eq_false_iff]
    by_cases hz : 0 < p
    · right; simp; exact fun e => h1 ⟨hz, e⟩
    · left; simpa using hz
  rw [this, h2]; simp [pl]

/-- What checking a text may answer: no fault just if it is a path. -/
def ChkOut (s : ByteArray) (w : World) (e : Ending) (w' : World) : Prop :=
  ∃ f a : Int, e = .returned (.tuple #[.int .i64 f, .int .i64 a]) ∧ Hid (f = 0 ↔ vpath s = true) ∧ Below w.heap.size w w'

set_option maxHeartbeats 1000000 in
theorem rcheck_any (s : ByteArray) (w : World) (hs : s.size ≤ 9223372036854775800) : Calls Tryz.prog 107 #[.string s] w (ChkOut s w) := by
  have he := isEmpty_size s
  by_cases h0 : s.size = 0
  · have hv := Lib.hid (vpath_empty s h0)
    have he' : s.toList.isEmpty = true := by rw [he]; simp [h0]
    clear he h0
    go_enter Tryz.func107, Tryz.ntmps107
    go_wp2
    go_ret2
    exact ⟨1, 0, rfl, by unfold Hid; rw [hv.out]; simp, Below.refl _ _⟩
  have he' : s.toList.isEmpty = false := by rw [he]; simp [h0]
  have hp : 0 < s.size := by omega
  clear he
  by_cases h1 : 4096 < s.size
  · have hv := Lib.hid (vpath_big s h1)
    go_enter Tryz.func107, Tryz.ntmps107
    go_wp2
    go_ret2
    exact ⟨2, 4096, rfl, by unfold Hid; rw [hv.out]; simp, Below.refl _ _⟩
  by_cases h2 : bat s 0 ≠ 47
  · have hv := Lib.hid (vpath_start s h2)
    have h2' : ((s[0].toNat : Int) != 47) = true := by rw [← bat_get s 0 hp]; simp; omega
    go_enter Tryz.func107, Tryz.ntmps107
    go_wp2
    go_ret2
    exact ⟨3, 0, rfl, by unfold Hid; rw [hv.out]; simp, Below.refl _ _⟩
  have h2 : bat s 0 = 47 := by omega
  have h2' : ((s[0].toNat : Int) != 47) = false := by rw [← bat_get s 0 hp]; simp; omega
  have hr := root_size s hp h2
  by_cases h3 : s.size = 1
  · have hv := Lib.hid (vpath_root s h3 h2)
    have hr' : (s.toList == [47]) = true := by rw [hr]; simp [h3]
    clear hr h3 h2
    go_enter Tryz.func107, Tryz.ntmps107
    go_wp2
    go_ret2
    exact ⟨0, -1, rfl, by unfold Hid; rw [hv.out]; simp, Below.refl _ _⟩
  have hr' : (s.toList == [47]) = false := by rw [hr]; simp [h3]
  clear hr
  have hb1 : 1 ≤ (s.size : Int) ∧ (s.size : Int) - 1 < s.size := by omega
  by_cases h4 : bat s (s.size - 1) = 47
  · have hv := Lib.hid (vpath_end s h3 h4)
    have h4' : ((s[s.size - 1].toNat : Int) == 47) = true := by rw [← bat_get s (s.size - 1) (by omega)]; simp; omega
    clear h4 h2
    go_enter Tryz.func107, Tryz.ntmps107
    go_wp2
    go_ret2
    exact ⟨4, _, rfl, by unfold Hid; rw [hv.out]; simp, Below.refl _ _⟩
  have h4' : ((s[s.size - 1].toNat : Int) == 47) = false := by rw [← bat_get s (s.size - 1) (by omega)]; simp; omega
  have hv := Lib.hid (vpath_scan s h3 h0 (by omega) h2 h4)
  clear h4 h2
  go_enter Tryz.func107, Tryz.ntmps107
  go_wp2
  clear h4' hr' he' h2'
  go_loop [4] (fun i => ∃ pos : Nat, i = .int .i64 pos ∧ pos ≤ s.size ∧ Hid (scanAt s 0 = scanAt s pos)) (fun i => s.size - (intOf i).toNat)
  case atStart => exact ⟨0, rfl, Nat.zero_le _, rfl⟩
  case round =>
    obtain ⟨pos, rfl, hpos, Hs⟩ := hrel
    by_cases hlt : pos < s.size
    · have d := dec s pos hlt
      have hd1 := d.pos
      have hd2 := d.fits
      clear d
      have hbg := bat_get s pos hlt
      have HC : ∀ w, Calls Tryz.prog 133 #[.string s, .int .i64 pos] w fun e w' => ∃ r n : Int, e = .returned (.tuple #[.int .i64 r, .int .i64 n]) ∧ Hid (HandR s pos r n) ∧ w = w' := fun w => char_any s pos w hlt (by omega)
      by_cases h47 : bat s pos = 47
      · have h47' : ((s[pos].toNat : Int) == 47) = true := by rw [← hbg]; simp; omega
        by_cases hv2 : 0 < pos ∧ bat s (pos - 1) = 47
        · have H1 := Lib.hid (Hs.out.trans (scan_void s pos hlt h47 hv2.1 hv2.2))
          obtain ⟨hz, hv3⟩ := hv2
          have e2 := bat_get s (pos - 1) (by omega)
          have hq : ((s[pos - 1].toNat : Int) == 47) = true := by rw [← e2]; simp; omega
          have hi : 1 ≤ (pos : Int) ∧ (pos : Int) - 1 < s.size := by omega
          clear hv3 e2 h47 hbg Hs
          go_wp2
          go_ret2
          exact ⟨5, _, rfl, by unfold Hid; rw [hv.out, H1.out]; simp, Below.refl _ _⟩
        · have hbz : ¬ (0 < pos) ∨ (∃ _ : 0 < pos, ((s[pos - 1].toNat : Int) == 47) = false) := by
            by_cases hz : 0 < pos
            · right; refine ⟨hz, ?_⟩
              have e2 := bat_get s (pos - 1) (by omega)
              rw [← e2]; simp; intro e; exact hv2 ⟨hz, by omega⟩
            · exact .inl hz
          by_cases hdt : dots s (pos + 1) = true
          · have H1 := Lib.hid (Hs.out.trans (scan_dots s pos hlt h47 hdt))
            have HD := Lib.hid hdt
            clear hdt hv2 h47 hbg Hs
            rcases hbz with hbz | ⟨hz, hbz⟩
            all_goals
              go_wp2_with fail
              refine (part_at s (pos + 1) _ _ (by omega) (by omega) (by omega)).mono ?_
              rintro e w' ⟨t, rfl, HT, rfl⟩
              have hd : t.toList = [46] ∨ (¬ t.toList = [46] ∧ (t.toList == [46]) = false ∧ (t.toList == [46, 46]) = true) := by
                have h := HD.out
                unfold dots at h
                rw [← HT.out] at h
                by_cases e : t.toList = [46]
                · exact .inl e
                · right; simp [e] at h; simp [h]
              rcases hd with hd | ⟨hd, hd1, hd2⟩
              all_goals
                go_wp2
                go_ret2
                exact ⟨6, _, rfl, by unfold Hid; rw [hv.out, H1.out]; simp, Below.refl _ _⟩
          · have hdt' : dots s (pos + 1) = false := by simpa using hdt
            have H1 := Lib.hid (Hs.out.trans (scan_slash s pos hlt h47 hv2 hdt'))
            have hda := dec_one s pos h47 (dec s pos hlt).ascii
            have hpl : pl (Utf8.decode s pos).1 = true := by rw [hda]; rfl
            have hk : (kindR (Utf8.decode s pos).1 != 1) = false := by simp; exact (kindR_pl _).2 ⟨by omega, by simpa using hpl⟩
            have HD := Lib.hid hdt'
            have HP := Lib.hid hpl
            clear hdt hdt' hv2 h47 hbg Hs hda hpl
            rcases hbz with hbz | ⟨hz, hbz⟩
            all_goals
              go_wp2_with fail
              refine (part_at s (pos + 1) _ _ (by omega) (by omega) (by omega)).mono ?_
              rintro e w' ⟨t, rfl, HT, rfl⟩
              have hd : ¬ t.toList = [46] ∧ (t.toList == [46]) = false ∧ (t.toList == [46, 46]) = false := by
                have h := HD.out
                unfold dots at h
                rw [← HT.out] at h
                simp at h
                simp [h]
              obtain ⟨h1, h2, h3⟩ := hd
              go_wp2_with fail
              refine (HC _).mono ?_
              rintro e w' ⟨r, n, rfl, HR, rfl⟩
              obtain ⟨rfl, rfl⟩ := HR.out.2 HP.out
              go_wp2_with (go_at_call 134; refine (rof_any _ _).mono ?_; rintro e w' ⟨rfl, rfl⟩)
              go_round
              case rel => exact ⟨_, by go_num, hd2, H1⟩
              case measure => simp [intOf]; omega
      · have h47' : ((s[pos].toNat : Int) == 47) = false := by rw [← hbg]; simp; omega
        by_cases hpl : pl (Utf8.decode s pos).1 = true
        · have H1 := Lib.hid (Hs.out.trans (scan_plain s pos hlt h47 hpl))
          have hk : (kindR (Utf8.decode s pos).1 != 1) = false := by simp; exact (kindR_pl _).2 ⟨by omega, by simpa using hpl⟩
          have HP := Lib.hid hpl
          clear h47 hbg Hs hpl
          go_wp2_with fail
          refine (HC _).mono ?_
          rintro e w' ⟨r, n, rfl, HR, rfl⟩
          obtain ⟨rfl, rfl⟩ := HR.out.2 HP.out
          go_wp2_with (go_at_call 134; refine (rof_any _ _).mono ?_; rintro e w' ⟨rfl, rfl⟩)
          go_round
          case rel => exact ⟨_, by go_num, hd2, H1⟩
          case measure => simp [intOf]; omega
        · have H1 := Lib.hid (Hs.out.trans (scan_pl s pos hlt hpl))
          have HP := Lib.hid hpl
          clear h47 hbg Hs hpl
          go_wp2_with fail
          refine (HC _).mono ?_
          rintro e w' ⟨r, n, rfl, HR, rfl⟩
          have hk : (kindR r != 1) = true := by
            simp; intro e; exact HP.out (HR.out.1.1 ((kindR_pl _).1 e))
          go_wp2_with (go_at_call 134; refine (rof_any _ _).mono ?_; rintro e w' ⟨rfl, rfl⟩)
          go_ret2
          exact ⟨7, _, rfl, by unfold Hid; rw [hv.out, H1.out]; simp, Below.refl _ _⟩
    · have H1 : Hid (scanAt s 0 = true) := by unfold Hid; rw [Hs.out]; exact scanAt_end s pos (by omega)
      clear Hs
      go_wp2
      go_ret2
      exact ⟨0, -1, rfl, by unfold Hid; rw [hv.out, H1.out]; simp, Below.refl _ _⟩

theorem rvalid_any (s : ByteArray) (w : World) (hs : s.size ≤ 9223372036854775800) : Calls Tryz.prog 73 #[.string s] w fun e w' =>
    e = .returned (.bool (vpath s)) ∧ Below w.heap.size w w' := by
  by_cases hv : vpath s = true
  · go_enter Tryz.func73, Tryz.ntmps73
    go_wp2_with fail
    refine (rcheck_any s w hs).mono ?_
    rintro e w' ⟨f, a, rfl, hf, hB⟩
    obtain rfl : f = 0 := hf.out.2 hv
    go_wp2
    go_ret
    exact ⟨by rw [hv]; rfl, hB⟩
  · go_enter Tryz.func73, Tryz.ntmps73
    go_wp2_with fail
    refine (rcheck_any s w hs).mono ?_
    rintro e w' ⟨f, a, rfl, hf, hB⟩
    have hf0 : (f == 0) = false := by simp; intro h; exact hv (hf.out.1 h)
    have hv' : vpath s = false := by simpa using hv
    clear hf hv
    go_wp2
    go_ret
    exact ⟨by rw [hv']; rfl, hB⟩
end Go.Proofs.YtclekhjnnljjlaaGreatDoor
namespace Go.Proofs.YtclekhjnnljjlaaGreatDoor
open Go.RowKit
set_option maxHeartbeats 2000000
set_option maxRecDepth 100000

theorem ordL_drop (a b : ByteArray) (q : Nat) (h : q < a.size) (h' : q < b.size) : ordL (a.data.toList.drop q) (b.data.toList.drop q) = if a[q].toNat < b[q].toNat then -1 else if b[q].toNat < a[q].toNat then 1 else ordL (a.data.toList.drop (q + 1)) (b.data.toList.drop (q + 1)) := by
  have e1 : a.data.toList.drop q = a[q] :: a.data.toList.drop (q + 1) := by
    rw [List.drop_eq_getElem_cons (by rw [size_list]; exact h)]; rfl
  have e2 : b.data.toList.drop q = b[q] :: b.data.toList.drop (q + 1) := by
    rw [List.drop_eq_getElem_cons (by rw [size_list]; exact h')]; rfl
  rw [e1, e2, ordL]
theorem ordL_end (a b : ByteArray) (q : Nat) (h1 : q ≤ a.size) (h2 : q ≤ b.size) (h : q = a.size ∨ q = b.size) : ordL (a.data.toList.drop q) (b.data.toList.drop q) = if a.size < b.size then -1 else if b.size < a.size then 1 else 0 := by
  have la := size_list a
  have lb := size_list b
  by_cases ha : q = a.size
  · have e1 : a.data.toList.drop q = [] := List.drop_eq_nil_of_le (by omega)
    rw [e1]
    by_cases hb : q = b.size
    · have e2 : b.data.toList.drop q = [] := List.drop_eq_nil_of_le (by omega)
      rw [e2, if_neg (by omega), if_neg (by omega)]; rfl
    · rw [if_pos (by omega)]
      cases hd : b.data.toList.drop q with
      | nil => have := congrArg List.length hd; rw [List.length_drop] at this; simp at this; omega
      | cons x l => rfl
  · have hb : q = b.size := h.resolve_left ha
    have e2 : b.data.toList.drop q = [] := List.drop_eq_nil_of_le (by omega)
    rw [e2, if_neg (by omega), if_pos (by omega)]
    cases hd : a.data.toList.drop q with
    | nil => have := congrArg List.length hd; rw [List.length_drop] at this; simp at this; omega
    | cons x l => rfl

theorem order_any (a b : ByteArray) (w : World) (ha : a.size ≤ 9223372036854775800) (hb : b.size ≤ 9223372036854775800) : Calls Tryz.prog 75 #[.string a, .string b] w fun e w' => e = .returned (.int .i64 (ordL a.data.toList b.data.toList)) ∧ Below w.heap.size w w' := by
  go_enter Tryz.func75, Tryz.ntmps75
  go_wp2
  go_loopw [5] (fun i wr => ∃ q n : Nat, q ≤ a.size ∧ q ≤ b.size ∧ i = .int .i64 q ∧ wr = w.drewN n ∧ Hid (ordL a.data.toList b.data.toList = ordL (a.data.toList.drop q) (b.data.toList.drop q))) (fun i _ => a.size - (intOf i).toNat)
  case atStart => exact ⟨0, 0, Nat.zero_le _, Nat.zero_le _, rfl, rfl, rfl⟩
  case round =>
    obtain ⟨q, n, hqa, hqb, rfl, rfl, HQ⟩ := hrel
    by_cases hl : q < a.size ∧ q < b.size
    · obtain ⟨hla, hlb⟩ := hl
      have hd := ordL_drop a b q hla hlb
      have c1 : (q : Int) < a.size := by omega
      have c2 : (q : Int) < b.size := by omega
      have c0 : (0 : Int) ≤ q := by omega
      by_cases h1 : a[q].toNat < b[q].toNat
      · have H1 : Hid (ordL a.data.toList b.data.toList = -1) := by unfold Hid; rw [HQ.out, hd, if_pos h1]
        have k1 : (a[q].toNat : Int) < (b[q].toNat : Int) := by omega
        clear hd h1
        go_wp2
        go_quiet (fail)
        go_wp2
        go_ret
        exact ⟨by rw [H1.out]; rfl, below_drewN (below_drewN (Below.refl _ _) _) _⟩
      · have k1 : ¬ (a[q].toNat : Int) < (b[q].toNat : Int) := by omega
        by_cases h2 : b[q].toNat < a[q].toNat
        · have H1 : Hid (ordL a.data.toList b.data.toList = 1) := by unfold Hid; rw [HQ.out, hd, if_neg h1, if_pos h2]
          have k2 : (b[q].toNat : Int) < (a[q].toNat : Int) := by omega
          clear hd h1 h2
          go_wp2
          go_quiet (fail)
          go_wp2
          go_quiet (fail)
          go_wp2
          go_ret
          exact ⟨by rw [H1.out]; rfl, below_drewN (below_drewN (below_drewN (Below.refl _ _) _) _) _⟩
        · have H1 : Hid (ordL a.data.toList b.data.toList = ordL (a.data.toList.drop (q + 1)) (b.data.toList.drop (q + 1))) := by unfold Hid; rw [HQ.out, hd, if_neg h1, if_neg h2]
          have k2 : ¬ (b[q].toNat : Int) < (a[q].toNat : Int) := by omega
          clear hd h1 h2
          go_wp2
          go_quiet (fail)
          go_wp2
          go_quiet (fail)
          go_wp2
          go_roundw
          case rel => exact ⟨q + 1, _, by omega, by omega, by go_num, rfl, H1⟩
          case measure => simp [intOf]; omega
    · have hd := ordL_end a b q hqa hqb (by omega)
      have H1 : Hid (ordL a.data.toList b.data.toList = if a.size < b.size then -1 else if b.size < a.size then 1 else 0) := by unfold Hid; rw [HQ.out, hd]
      have hE := below_drewN (Below.refl w.heap.size w) n
      clear hd
      by_cases ha' : q < a.size
      · have hb' : ¬ (q : Int) < b.size := by omega
        have ha2 : (q : Int) < a.size := by omega
        have s1 : ¬ (a.size : Int) < b.size := by omega
        have s2 : (b.size : Int) < a.size := by omega
        have H2 : Hid (ordL a.data.toList b.data.toList = 1) := by unfold Hid; rw [H1.out, if_neg (by omega), if_pos (by omega)]
        clear hl
        go_wp2
        go_ret
        exact ⟨by rw [H2.out]; rfl, hE⟩
      · have ha2 : ¬ (q : Int) < a.size := by omega
        by_cases hs : a.size < b.size
        · have s1 : (a.size : Int) < b.size := by omega
          have H2 : Hid (ordL a.data.toList b.data.toList = -1) := by unfold Hid; rw [H1.out, if_pos hs]
          clear hl hs
          go_wp2
          go_ret
          exact ⟨by rw [H2.out]; rfl, hE⟩
        · have s1 : ¬ (a.size : Int) < b.size := by omega
          have s2 : ¬ (b.size : Int) < a.size := by omega
          have H2 : Hid (ordL a.data.toList b.data.toList = 0) := by unfold Hid; rw [H1.out, if_neg hs, if_neg (by omega)]
          clear hl hs
          go_wp2
          go_ret
          exact ⟨by rw [H2.out]; rfl, hE⟩
end Go.Proofs.YtclekhjnnljjlaaGreatDoor
namespace Go.Proofs.YtclekhjnnljjlaaGreatDoor
open Go.RowKit
set_option maxHeartbeats 2000000
set_option maxRecDepth 100000

/-- The document's tree: a list of nodes. -/
def RTree (S : Nat → Prop) (w : World) (b : Nat) (L : List Nd) : Prop :=
  ∃ (a : Option Addr) (cap : Nat) (vs : List (Array Value)), w.heap[b]? = some (.cells #[.slice a L.length cap] 106 (0, 0)) ∧ L.length ≤ cap ∧ cap ≤ maxLen ∧ (∀ k, S k → k < w.heap.size ∧ k ≠ b) ∧ RowsOf S w a vs L ∧ PlainA a cap

theorem RTree.keep {S S' : Nat → Prop} {w w' : World} {b : Nat} {L : List Nd} (h : RTree S w b L) (hS : ∀ k, S k → S' k) (hb : w'.heap[b]? = w.heap[b]?) (hw : ∀ k, S k → w'.heap[k]? = w.heap[k]?) (hS' : ∀ k, S' k → k < w'.heap.size ∧ k ≠ b) : RTree S' w' b L := by
  obtain ⟨a, cap, vs, h1, h2, h3, h4, h5, h6⟩ := h
  exact ⟨a, cap, vs, hb.trans h1, h2, h3, hS', h5.imp hS hw, h6⟩
theorem RTree.lt {S : Nat → Prop} {w : World} {b : Nat} {L : List Nd} (h : RTree S w b L) : b < w.heap.size := by
  obtain ⟨a, cap, vs, h1, _⟩ := h
  exact (Array.getElem?_eq_some_iff.1 h1).1
theorem RTree.bound {S : Nat → Prop} {w : World} {b : Nat} {L : List Nd} (h : RTree S w b L) : ∀ k, S k → k < w.heap.size ∧ k ≠ b := by
  obtain ⟨a, cap, vs, _, _, _, h4, _, _⟩ := h
  exact h4
theorem RTree.ext {S : Nat → Prop} {w w' : World} {b : Nat} {L : List Nd} (h : RTree S w b L) (he : Ext w w') : RTree S w' b L :=
  h.keep (fun _ h => h) (he.block b h.lt) (fun k hk => he.block k (h.bound k hk).1) fun k hk => ⟨Nat.lt_of_lt_of_le (h.bound k hk).1 he.size, (h.bound k hk).2⟩

theorem find_step (L : List Nd) (s : ByteArray) : ∀ (k : Nat) (n : Nd), L[k]? = some n → (∀ (j : Nat) (m : Nd), j < k → L[j]? = some m → ordL m.path.data.toList s.data.toList < 0) →
    (ordL n.path.data.toList s.data.toList = 0 → rfind L s = (k, true)) ∧ (0 < ordL n.path.data.toList s.data.toList → rfind L s = (k, false)) := by
  induction L with
  | nil => intro k n h; simp at h
  | cons x r ih =>
    intro k n hk hlt
    cases k with
    | zero =>
      simp at hk
      subst hk
      refine ⟨fun h0 => by unfold rfind; rw [if_pos h0], fun h0 => by unfold rfind; rw [if_neg (by omega), if_pos h0]⟩
    | succ k =>
      have hx := hlt 0 x (by omega) rfl
      obtain ⟨h1, h2⟩ := ih k n (by simpa using hk) (fun j m hj hm => hlt (j + 1) m (by omega) (by simpa using hm))
      refine ⟨fun h0 => ?_, fun h0 => ?_⟩
      · unfold rfind
        rw [if_neg (by omega), if_neg (by omega), h1 h0]
      · unfold rfind
        rw [if_neg (by omega), if_neg (by omega), h2 h0]
theorem find_end (L : List Nd) (s : ByteArray) (h : ∀ (j : Nat) (m : Nd), L[j]? = some m → ordL m.path.data.toList s.data.toList < 0) : rfind L s = (L.length, false) := by
  induction L with
  | nil => rfl
  | cons x r ih =>
    have hx := h 0 x rfl
    unfold rfind
    rw [if_neg (by omega), if_neg (by omega), ih fun j m hm => h (j + 1) m (by simpa using hm)]
    rfl

theorem rfind_any (S : Nat → Prop) (w : World) (b : Nat) (L : List Nd) (hR : RTree S w b L) (hf : ∀ n ∈ L, Fit n) (s : ByteArray) (hs : s.size ≤ 9223372036854775800) :
    Calls Tryz.prog 41 #[.pointer (some ⟨b, 0, none⟩), .string s] w fun e w' => e = .returned (.tuple #[.int .i64 (rfind L s).1, .bool (rfind L s).2]) ∧ Ext w w' := by
  obtain ⟨a, cap, vs, hb, hl, hcm, hS, hrows, _⟩ := hR
  have hcb : w.cell? ⟨b, 0, none⟩ = some (.slice a L.length cap) := cell_of_row _ _ _ _ _ _ hb
  have hbl := (Array.getElem?_eq_some_iff.1 hb).1
  have hl64 : L.length ≤ 9223372036854775807 := by unfold maxLen at hcm; omega
  have HROWS := Lib.hid hrows
  have HS := Lib.hid hS
  have HF := Lib.hid hf
  clear hb hrows hS hf
  go_enter Tryz.func41, Tryz.ntmps41
  go_wp2
  go_loopw [6] (fun i wr => ∃ k : Nat, k ≤ L.length ∧ i = .int .i64 k ∧ Ext w wr ∧ Hid (∀ (j : Nat) (m : Nd), j < k → L[j]? = some m → ordL m.path.data.toList s.data.toList < 0)) (fun i _ => L.length - (intOf i).toNat)
  case atStart => exact ⟨0, Nat.zero_le _, rfl, Ext.refl _, fun j m hj => by omega⟩
  case round =>
    obtain ⟨k, hk, rfl, hE, HLT⟩ := hrel
    have hcr : wr.cell? ⟨b, 0, none⟩ = some (.slice a L.length cap) := (hE.cell (p := ⟨b, 0, none⟩) hbl).trans hcb
    by_cases hlt : k < L.length
    · obtain ⟨bl, off, da, dc, aa, ac, ea, hSb, hc, _⟩ := HROWS.out.row (List.getElem?_eq_getElem hlt)
      subst ea
      have hfit := HF.out L[k] (List.getElem_mem hlt)
      obtain ⟨h1, h2⟩ := find_step L s k L[k] (List.getElem?_eq_getElem hlt) HLT.out
      have hnext : ordL (L[k]'hlt).path.data.toList s.data.toList < 0 → ∀ (j : Nat) (m : Nd), j < k + 1 → L[j]? = some m → ordL m.path.data.toList s.data.toList < 0 := fun h0 j m hj hm => by
        by_cases e : j = k
        · subst e
          rw [List.getElem?_eq_getElem hlt] at hm
          rw [← Option.some.inj hm]; exact h0
        · exact HLT.out j m (by omega) hm
      generalize L[k] = n at *
      have c0 : wr.cell? ⟨bl, off + k * 17, none⟩ = some (.string n.path) := (hE.cell (p := ⟨bl, off + k * 17, none⟩) (HS.out bl hSb).1).trans (hc 0 _ rfl)
      have CO := Lib.hid (order_any n.path s wr hfit.path hs)
      have hbS : bl ≠ b := (HS.out bl hSb).2
      have HE := Lib.hid hE
      have HN := Lib.hid hnext
      clear hc hE hnext
      generalize hO : ordL n.path.data.toList s.data.toList = o at *
      rcases Int.lt_trichotomy o 0 with ho | ho | ho
      · have HN2 := Lib.hid (HN.out ho)
        have o1 : (o == 0) = false := by simp; omega
        have o2 : ¬ o = 0 := by omega
        have o3 : ¬ 0 < o := by omega
        clear h1 h2 hO HN
        go_wp2_with fail
        refine CO.out.mono ?_
        rintro e w2 ⟨rfl, hE2⟩
        have HE2 := Lib.hid (HE.out.trans hE2)
        clear CO hE2 hcr hcb c0
        go_wp2
        go_roundw
        case rel => exact ⟨k + 1, by omega, by go_num, HE2.out, HN2.out⟩
        case measure => simp [intOf]; omega
      · subst ho
        have HR := Lib.hid (h1 rfl)
        clear h1 h2 hO HN
        go_wp2_with fail
        refine CO.out.mono ?_
        rintro e w2 ⟨rfl, hE2⟩
        have HE2 := Lib.hid (HE.out.trans hE2)
        clear CO hE2 hcr hcb c0
        go_wp2
        go_ret2
        exact ⟨by rw [HR.out]; rfl, HE2.out⟩
      · have HR := Lib.hid (h2 ho)
        have o1 : (o == 0) = false := by simp; omega
        have o2 : ¬ o = 0 := by omega
        clear h1 h2 hO HN
        go_wp2_with fail
        refine CO.out.mono ?_
        rintro e w2 ⟨rfl, hE2⟩
        have HE2 := Lib.hid (HE.out.trans hE2)
        clear CO hE2 hcr hcb c0
        go_wp2
        go_ret2
        exact ⟨by rw [HR.out]; rfl, HE2.out⟩
    · obtain rfl : k = L.length := by omega
      have HR := Lib.hid (find_end L s fun j m hm => HLT.out j m (List.getElem?_eq_some_iff.1 hm).1 hm)
      have HE := Lib.hid hE
      clear hE hcb
      go_wp2
      go_ret2
      exact ⟨by rw [HR.out]; rfl, HE.out⟩
end Go.Proofs.YtclekhjnnljjlaaGreatDoor
namespace Go.Proofs.YtclekhjnnljjlaaGreatDoor
open Go.RowKit
set_option maxHeartbeats 2000000
set_option maxRecDepth 100000

/-- The copy's cells are new. -/
def CloneNew (n : Nd) (w : World) (e : Ending) (w' : World) : Prop := ∃ v, e = .returned v ∧ NdS (fun k => w.heap.size ≤ k ∧ k < w'.heap.size) w' v n ∧ Below w.heap.size w w'

/-- The same, with the rows that the clone's data and list lie in. -/
def CloneOwn (n : Nd) (w : World) (e : Ending) (w' : World) : Prop := ∃ va vc vb vd, e = .returned (.agg (ndC n (.slice va n.data.length vc) (.slice vb n.acl.length vd))) ∧ NdS (fun k => w.heap.size ≤ k ∧ k < w'.heap.size) w' (.agg (ndC n (.slice va n.data.length vc) (.slice vb n.acl.length vd))) n ∧
  w'.ownsRow w.heap.size 5 1 (.slice va n.data.length vc) n.data.length (n.data.map u8v) ∧ w'.ownsRow w.heap.size 146 3 (.slice vb n.acl.length vd) n.acl.length (acCs n.acl) ∧ (∀ g, (Value.slice va n.data.length vc).ownBlock = some g → (Value.slice vb n.acl.length vd).ownBlock ≠ some g) ∧ Below w.heap.size w w'
theorem own_move {w w' : World} {base base' size n : Nat} {e : TypeId} {v : Value} {xs : List Value} (h : w.ownsRow base e size v n xs) (hb : ∀ g, base ≤ g → g < w.heap.size → w'.heap[g]? = w.heap[g]?) (hbb : base' ≤ base) : w'.ownsRow base' e size v n xs := by
  refine ⟨h.1, ?_⟩
  rcases h.2 with h | ⟨g, cap, cur, h1, h2, h3, h4⟩
  · exact .inl h
  · exact .inr ⟨g, cap, cur, h1, Nat.le_trans hbb h2, (hb g h2 (Array.getElem?_eq_some_iff.1 h3).1).trans h3, h4⟩

theorem rclone_own (n : Nd) (da aa : Option Addr) (dc ac : Nat) (w : World) (hf : Fit n) (hD : Cells w.heap.size w da (n.data.map u8v)) (hA : Cells w.heap.size w aa (acCs n.acl)) :
    Calls Tryz.prog 76 #[.agg (ndC n (.slice da n.data.length dc) (.slice aa n.acl.length ac))] w (CloneOwn n w) := by
  obtain ⟨i0, hi, hz0, hz1, hz2⟩ := info_parts infoU8
  obtain ⟨i1, hi', hz0', hz1', hz2'⟩ := info_parts infoAc
  have hfd := hf.data
  have hfa := hf.acl
  obtain ⟨W2, hW2⟩ : ∃ W2, W2 = (w.alloc (.cells (ndC n (.slice da n.data.length dc) (.slice aa n.acl.length ac)) 88)).alloc (.cells #[.string ⟨#[]⟩, .slice none 0 0, .slice none 0 0, .int .i64 0, .int .i64 0, .int .i64 0, .int .i64 0, .int .i64 0, .int .i64 0, .int .i64 0, .int .i64 0, .int .i32 0, .int .i32 0, .int .i32 0, .bool false, .int .i64 0, .int .i64 0] 88) := ⟨_, rfl⟩
  have hs2 : W2.heap.size = w.heap.size + 1 + 1 := by rw [hW2]; simp
  have hb2 : Below w.heap.size w W2 := by rw [hW2]; exact ((Below.refl _ _).alloc (Nat.le_refl _) _).alloc (by simp) _
  have hA2 : W2.heap[w.heap.size]? = some (.cells (ndC n (.slice da n.data.length dc) (.slice aa n.acl.length ac)) 88 (0, 0)) := by rw [hW2]; exact heap_alloc2_old w _ _
  have hR2 : W2.heap[w.heap.size + 1]? = some (.cells #[.string ⟨#[]⟩, .slice none 0 0, .slice none 0 0, .int .i64 0, .int .i64 0, .int .i64 0, .int .i64 0, .int .i64 0, .int .i64 0, .int .i64 0, .int .i64 0, .int .i32 0, .int .i32 0, .int .i32 0, .bool false, .int .i64 0, .int .i64 0] 88 (0, 0)) := by rw [hW2]; exact heap_alloc2_new w _ _
  have hown1 := ownsRow_empty W2 5 1
  rw [hs2] at hown1
  have hsrc1 : Src Tryz.prog 1 83 (.slice da n.data.length dc) n.data.length (n.data.map u8v) (W2.alloc (.cells #[] 5)) := ((hD.below hb2).below ((Below.refl w.heap.size W2).alloc (by omega) _)).src Tryz.underlying83 _ _ (by simp) (one_u8 _)
  have hz3 : (W2.alloc (.cells #[] 5)).heap.size = w.heap.size + 1 + 1 + 1 := by simp [hs2]
  have hZ3 := Lib.hid hz3
  have HW2 := Lib.hid hW2
  rw [hW2] at hown1 hsrc1
  unfold ndC at hown1 hsrc1 hA2 HW2 ⊢
  clear hW2 hz3 hs2
  go_enter Tryz.func76, Tryz.ntmps76
  go_wp2_with (at_builtin; refine wpList_append_src _ rfl (.tmp 3) (.tmp 5) 83 83 rfl (w.heap.size + 1 + 1) 5 i0 (.int .u8 0) 1 1 Tryz.underlying83 hi hz0 hz1 hz2 rfl (by decide) _ 0 _ rfl hown1 _ _ _ rfl hsrc1 ?c1 ?c2 ?c3 ?_)
  case c1 => simp only [maxLen]; omega
  case c2 => omega
  case c3 => simp
  intro v1 w4 ho1 hg1 _ hob1
  have ho1' := ho1
  try simp only [List.nil_append, Nat.zero_add] at ho1'
  have HO1 := Lib.hid ho1'
  clear ho1'
  rw [← HW2.out] at hg1
  have hZ := hZ3.out
  have nb3 : w.heap.size < (W2.alloc (.cells #[] 5)).heap.size := by omega
  have hA4 : w4.heap[w.heap.size]? = some (.cells (ndC n (.slice da n.data.length dc) (.slice aa n.acl.length ac)) 88 (0, 0)) := by
    rw [hg1.block w.heap.size nb3 (by simp only [Value.ownBlock, ne_eq, Option.some.injEq]; omega), Below.heap_alloc W2 _ w.heap.size (by have := (Array.getElem?_eq_some_iff.1 hA2).1; exact this)]; exact hA2
  have hR4 : ∃ old, w4.heap[w.heap.size + 1]? = some (.cells old 88 (0, 0)) ∧ old.size = 17 := by
    have h := (hg1.block (w.heap.size + 1) (by omega) (by simp only [Value.ownBlock, ne_eq, Option.some.injEq]; omega)).trans ((Below.heap_alloc W2 (.cells #[] 5) (w.heap.size + 1) (by have := (Array.getElem?_eq_some_iff.1 hR2).1; exact this)).trans hR2)
    exact ⟨_, h, rfl⟩
  obtain ⟨old, hR4, hold⟩ := hR4
  have hb4 : Below w.heap.size w w4 := (hb2.alloc (by have := hb2.size; omega) _).grown hg1 (by omega) (fun k hk => by simp only [Value.ownBlock, Option.some.injEq] at hk; omega)
  obtain ⟨va, vc, rfl, hD4⟩ := ownsRow_cells ho1
  have hvb : ∀ b off, va = some ⟨b, off, none⟩ → w.heap.size + 1 + 1 ≤ b := by
    intro b off h
    subst h
    rcases ho1.2 with ⟨h, _⟩ | ⟨g, cap, cur, h, k1, _⟩
    · cases h
    · simp only [Value.slice.injEq, Option.some.injEq, Addr.mk.injEq] at h; omega
  have hz4 := hg1.size
  clear ho1 hg1 hob1 hR2 hb2 hD hZ3
  have hcell : w4.cell? ⟨w.heap.size, 1, none⟩ = some (.slice da n.data.length dc) := by rw [cell_of_row w4 w.heap.size 1 _ _ _ hA4]; rfl
  have hfr : w4.frozen? ⟨w.heap.size, 1, none⟩ = false := frozen_of_row w4 w.heap.size 1 _ _ hA4
  obtain ⟨W5, hW5⟩ : ∃ W5, W5 = w4.setCell ⟨w.heap.size, 1, none⟩ (.slice va n.data.length vc) := ⟨_, rfl⟩
  have hs5 : W5.heap.size = w4.heap.size := by rw [hW5]; simp [World.setCell]
  have hA5 : W5.heap[w.heap.size]? = some (.cells (ndC n (.slice va n.data.length vc) (.slice aa n.acl.length ac)) 88 (0, 0)) := by
    rw [hW5, heap_setCell_same w4 w.heap.size 1 _ _ _ hA4]; rfl
  have hR5 : W5.heap[w.heap.size + 1]? = some (.cells old 88 (0, 0)) := by rw [hW5, Below.heap_setCell _ _ _ _ (by simp)]; exact hR4
  have hb5 : Below w.heap.size w W5 := by rw [hW5]; exact hb4.setCell (p := ⟨w.heap.size, 1, none⟩) (Nat.le_refl _) _
  have hD5 : Cells W5.heap.size W5 va (n.data.map u8v) := fun j u hj => by
    obtain ⟨b, off, h1, h2, h3⟩ := hD4 j u hj
    have := hvb b off h1
    refine ⟨b, off, h1, by omega, ?_⟩
    rw [hW5, World.cell?_of_block (w := w4) (Below.heap_setCell _ _ _ _ (by simp; omega))]
    exact h3
  have hown2 := ownsRow_empty W5 146 3
  rw [hs5] at hown2
  have hsrc2 : Src Tryz.prog 3 84 (.slice aa n.acl.length ac) n.acl.length (acCs n.acl) (W5.alloc (.cells #[] 146)) := ((hA.below hb5).below ((Below.refl w.heap.size W5).alloc (by omega) _)).src Tryz.underlying84 _ _ (acCs_length _) (one_ac _)
  have HW5 := Lib.hid hW5
  have hcell2 : (w4.setCell ⟨w.heap.size, 1, none⟩ (.slice va n.data.length vc)).cell? ⟨w.heap.size, 2, none⟩ = some (.slice aa n.acl.length ac) := by rw [← hW5, cell_of_row W5 w.heap.size 2 _ _ _ hA5]; rfl
  rw [hW5] at hown2 hsrc2
  have HS5 := Lib.hid hs5
  have hnb4 : w.heap.size < w4.heap.size := by omega
  have hnb5 : w.heap.size + 1 < w4.heap.size := by omega
  clear hW5 hs5 hA4 hR4 hb4 hD4 hA2 HW2 hA
  go_wp2_with (at_builtin; refine wpList_append_src _ rfl (.tmp 8) (.tmp 10) 84 84 rfl w4.heap.size 146 i1 (.agg #[.int .i32 0, .string ⟨#[]⟩, .string ⟨#[]⟩]) 3 40 Tryz.underlying84 hi' hz0' hz1' hz2' rfl (by decide) _ 0 _ rfl hown2 _ _ _ rfl hsrc2 ?d1 ?d2 ?d3 ?_)
  case d1 => simp only [maxLen]; omega
  case d2 => omega
  case d3 => simp
  intro v2 w6 ho2 hg2 _ hob2
  have ho2' := ho2
  try simp only [List.nil_append, Nat.zero_add] at ho2'
  have HO2 := Lib.hid ho2'
  clear ho2'
  rw [← HW5.out] at hg2
  have hk6 : ∀ b, b < w4.heap.size → w6.heap[b]? = W5.heap[b]? := fun b hb => (hg2.block b (by simp; have := HS5.out; omega) (by simp only [Value.ownBlock, ne_eq, Option.some.injEq]; omega)).trans (Below.heap_alloc W5 _ b (by have := HS5.out; omega))
  have h54 : ∀ b, w.heap.size + 1 + 1 ≤ b → W5.heap[b]? = w4.heap[b]? := fun b hb => by rw [HW5.out]; exact Below.heap_setCell _ _ _ _ (by simp; omega)
  have HK6 := Lib.hid hk6
  have H54 := Lib.hid h54
  clear hk6 h54
  have hs5 := HS5.out
  have hA6 : w6.heap[w.heap.size]? = some (.cells (ndC n (.slice va n.data.length vc) (.slice aa n.acl.length ac)) 88 (0, 0)) :=
    (hg2.block w.heap.size (by simp; omega) (by simp only [Value.ownBlock, ne_eq, Option.some.injEq]; omega)).trans ((Below.heap_alloc W5 _ w.heap.size (by omega)).trans hA5)
  have hR6 : w6.heap[w.heap.size + 1]? = some (.cells old 88 (0, 0)) :=
    (hg2.block (w.heap.size + 1) (by simp; omega) (by simp only [Value.ownBlock, ne_eq, Option.some.injEq]; omega)).trans ((Below.heap_alloc W5 _ (w.heap.size + 1) (by omega)).trans hR5)
  have hb6 : Below w.heap.size w w6 := (hb5.alloc (by omega) _).grown hg2 (by simp; omega) (fun k hk => by simp only [Value.ownBlock, Option.some.injEq] at hk; omega)
  have hz6 := hg2.size
  have hD6 : Cells W5.heap.size w6 va (n.data.map u8v) := fun j u hj => by
    obtain ⟨b, off, h1, h2, h3⟩ := hD5 j u hj
    refine ⟨b, off, h1, h2, (World.cell?_of_block (hg2.block b (by simp; omega) (by simp only [Value.ownBlock, ne_eq, Option.some.injEq]; omega))).trans ?_⟩
    exact (World.cell?_of_block (w := W5) (Below.heap_alloc W5 _ b h2)).trans h3
  obtain ⟨vb, vd, rfl, hE6⟩ := ownsRow_cells ho2
  have hvb2 : ∀ b off, vb = some ⟨b, off, none⟩ → w.heap.size + 1 + 1 ≤ b := by
    intro b off h
    subst h
    rcases ho2.2 with ⟨h, _⟩ | ⟨g, cap, cur, h, k1, _⟩
    · cases h
    · simp only [Value.slice.injEq, Option.some.injEq, Addr.mk.injEq] at h; omega
  clear ho2 hg2 hob2 hA5 hR5 hb5 hD5 hown2 hsrc2 hcell hfr hcell2
  have hcell : w6.cell? ⟨w.heap.size, 2, none⟩ = some (.slice aa n.acl.length ac) := by rw [cell_of_row w6 w.heap.size 2 _ _ _ hA6]; rfl
  have hfr : w6.frozen? ⟨w.heap.size, 2, none⟩ = false := frozen_of_row w6 w.heap.size 2 _ _ hA6
  have hA7 : (w6.setCell ⟨w.heap.size, 2, none⟩ (.slice vb n.acl.length vd)).heap[w.heap.size]? = some (.cells (ndC n (.slice va n.data.length vc) (.slice vb n.acl.length vd)) 88 (0, 0)) := by
    rw [heap_setCell_same w6 w.heap.size 2 _ _ _ hA6]; rfl
  have hR7 : (w6.setCell ⟨w.heap.size, 2, none⟩ (.slice vb n.acl.length vd)).heap[w.heap.size + 1]? = some (.cells old 88 (0, 0)) := by rw [Below.heap_setCell _ _ _ _ (by simp)]; exact hR6
  have HA7 := Lib.hid hA7
  have HR7 := Lib.hid hR7
  clear hA7 hR7 hA6 hR6
  go_wp2_with (first | (refine wpList_load_row rfl 88 (.tmp 1) rfl w.heap.size rfl 88 _ (0, 0) _ HA7.out Tryz.underlying88 rfl sizeNd ?_) | (refine wpList_store_row rfl 88 (.tmp 2) (.tmp 13) rfl (w.heap.size + 1) _ rfl rfl 88 old HR7.out sizeNd hold (cells_node n va vb _ _ vc vd) ?_))
  obtain ⟨W7, hW7⟩ : ∃ W7, W7 = w6.setCell ⟨w.heap.size, 2, none⟩ (.slice vb n.acl.length vd) := ⟨_, rfl⟩
  have hA7 := HA7.out
  have hR7 := HR7.out
  rw [← hW7] at hA7 hR7 ⊢
  have hs7 : W7.heap.size = w6.heap.size := by rw [hW7]; simp [World.setCell]
  have hb7 : Below w.heap.size w W7 := by rw [hW7]; exact hb6.setCell (p := ⟨w.heap.size, 2, none⟩) (Nat.le_refl _) _
  have ho7 : ∀ b, w.heap.size + 1 + 1 ≤ b → W7.heap[b]? = w6.heap[b]? := fun b hb => by rw [hW7]; exact Below.heap_setCell _ _ _ _ (by simp; omega)
  obtain ⟨cs, hcs⟩ : ∃ cs, cs = ndC n (.slice va n.data.length vc) (.slice vb n.acl.length vd) := ⟨_, rfl⟩
  rw [← hcs] at hA7 ⊢
  have hR8 := setRow_heap W7 (w.heap.size + 1) old cs 88 (0, 0) hR7
  have hs8 : (W7.setRow (w.heap.size + 1) cs).heap.size = W7.heap.size := by simp [World.setRow]
  have hb8 : Below w.heap.size w (W7.setRow (w.heap.size + 1) cs) :=
    hb7.trans ⟨rfl, rfl, rfl, by rw [hs8]; exact Nat.le_refl _, fun k hk => setRow_other _ _ _ _ (by omega)⟩
  have ho8 : ∀ b, w.heap.size + 1 + 1 ≤ b → (W7.setRow (w.heap.size + 1) cs).heap[b]? = w6.heap[b]? := fun b hb => (setRow_other _ _ _ _ (by omega)).trans (ho7 b hb)
  have hz := HS5.out
  have hzz : W5.heap.size ≤ w6.heap.size := by have := hz6; simp at this; omega
  have cD : CellsS (fun k => w.heap.size ≤ k ∧ k < (W7.setRow (w.heap.size + 1) cs).heap.size) (W7.setRow (w.heap.size + 1) cs) va (n.data.map u8v) := fun j u hj => by
    obtain ⟨b, off, h1, h2, h3⟩ := hD6 j u hj
    have h4 := hvb b off h1
    exact ⟨b, off, h1, ⟨by omega, by omega⟩, (World.cell?_of_block (ho8 b h4)).trans h3⟩
  have cA : CellsS (fun k => w.heap.size ≤ k ∧ k < (W7.setRow (w.heap.size + 1) cs).heap.size) (W7.setRow (w.heap.size + 1) cs) vb (acCs n.acl) := fun j u hj => by
    obtain ⟨b, off, h1, h2, h3⟩ := hE6 j u hj
    have h4 := hvb2 b off h1
    exact ⟨b, off, h1, ⟨by omega, by omega⟩, (World.cell?_of_block (ho8 b h4)).trans h3⟩
  have hsz17 : (Tryz.prog.info? 88).map (·.size) = some cs.size := by rw [hcs]; exact sizeNd
  have own1 := own_move (base' := w.heap.size) HO1.out (w' := W7.setRow (w.heap.size + 1) cs) (fun g h1 h2 => (ho8 g h1).trans ((HK6.out g h2).trans (H54.out g h1))) (by omega)
  have own2 := own_move (base' := w.heap.size) HO2.out (w' := W7.setRow (w.heap.size + 1) cs) (fun g h1 h2 => ho8 g (by omega)) (by omega)
  have hap : ∀ g, (Value.slice va n.data.length vc).ownBlock = some g → (Value.slice vb n.acl.length vd).ownBlock ≠ some g := fun g h1 h2 => by
    have h3 := (World.ownsRow.lt HO1.out g h1).2
    have h4 := (World.ownsRow.lt HO2.out g h2).1
    omega
  refine bodyPost_ret (v := .agg cs) ?_ rfl ⟨va, vc, vb, vd, by rw [hcs], ⟨va, vc, vb, vd, rfl, cD, cA⟩, own1, own2, hap, hb8⟩
  exact results_cell_row (p := 2) (ty := 88) rfl _ _ (w.heap.size + 1) 88 cs (0, 0) _ rfl hR8 Tryz.underlying88 rfl hsz17

theorem rclone_new (n : Nd) (da aa : Option Addr) (dc ac : Nat) (w : World) (hf : Fit n) (hD : Cells w.heap.size w da (n.data.map u8v)) (hA : Cells w.heap.size w aa (acCs n.acl)) :
    Calls Tryz.prog 76 #[.agg (ndC n (.slice da n.data.length dc) (.slice aa n.acl.length ac))] w (CloneNew n w) :=
  (rclone_own n da aa dc ac w hf hD hA).mono fun _ _ ⟨va, vc, vb, vd, h1, h2, _, _, _, h3⟩ => ⟨_, h1, h2, h3⟩
end Go.Proofs.YtclekhjnnljjlaaGreatDoor
