/- The document's tree, plainly: a list of nodes in order; where a path stands in it. The walks of the references' own texts up to Valid: whether a text is a path, as the document has it. The walks of the reference of paths up to Valid. The walk of arborref03.Order. A range over a function: a law in which the function says what holds of each value that it hands over, and the rounds say what they keep. slices.Sorted(maps.Keys(m)) at the two maps of a tree: its keys in order. The walk of Children. -/
import Derived.Test.YthinpbdbhijbgaaGreatDoorJQuotaBooks5
import Derived.Test.YthinpbdbhijbgaaGreatDoorJQuotaBooks1
import Derived.BigQuiet
import Derived.Test.YthinpbdbhijbgaaGreatDoorJQuotaBooks3
import Derived.RangeFuncCalls
import Derived.Test.YthinpbdbhijbgaaGreatDoorIter
namespace Go.Proofs.YthinpbdbhijbgaaGreatDoor
open Go.RowKit
set_option maxHeartbeats 1000000

/-- Two texts, byte by byte. -/
def ordL : List UInt8 → List UInt8 → Int
  | [], [] => 0
  | [], _ :: _ => -1
  | _ :: _, [] => 1
  | x :: a, y :: b => if x.toNat < y.toNat then -1 else if y.toNat < x.toNat then 1 else ordL a b
theorem ordL_eq : ∀ a b : List UInt8, ordL a b = if a = b then 0 else if bytesBefore a b = true then -1 else 1
  | [], [] => by simp [ordL]
  | [], y :: b => by simp [ordL, bytesBefore]
  | x :: a, [] => by simp [ordL, bytesBefore]
  | x :: a, y :: b => by
    simp only [ordL, ordL_eq a b, bytesBefore, Bool.or_eq_true, decide_eq_true_eq, Bool.and_eq_true, beq_iff_eq, List.cons.injEq, UInt8.lt_iff_toNat_lt]
    by_cases h1 : x.toNat < y.toNat
    · have hne : x ≠ y := fun e => by rw [e] at h1; omega
      rw [if_pos h1, if_neg (fun h => hne h.1), if_pos (.inl h1)]
    · by_cases h2 : y.toNat < x.toNat
      · have hne : x ≠ y := fun e => by rw [e] at h2; omega
        rw [if_neg h1, if_pos h2, if_neg (fun h => hne h.1), if_neg (fun h => h.elim h1 fun h => hne h.1)]
      · have he : x = y := UInt8.toNat_inj.1 (by omega)
        subst he
        rw [if_neg h1, if_neg h2]
        by_cases h3 : a = b
        · rw [if_pos h3, if_pos ⟨rfl, h3⟩]
        · have e1 : ¬ (x = x ∧ a = b) := fun h => h3 h.2
          rw [if_neg h3, if_neg e1]
          by_cases h4 : bytesBefore a b = true
          · rw [if_pos h4, if_pos (.inr ⟨rfl, h4⟩)]
          · have e2 : ¬ (x.toNat < x.toNat ∨ x = x ∧ bytesBefore a b = true) := fun h => h.elim h1 fun h => h4 h.2
            rw [if_neg h4, if_neg e2]

/-- The nodes alone. -/
def nds (M : List (Key × Nd)) : List Nd := M.map (·.2)
theorem nds_length (M : List (Key × Nd)) : (nds M).length = M.length := List.length_map _
/-- The place of a path; is it there? -/
def rfind : List Nd → ByteArray → Nat × Bool
  | [], _ => (0, false)
  | n :: r, s => if ordL n.path.data.toList s.data.toList = 0 then (0, true) else if 0 < ordL n.path.data.toList s.data.toList then (0, false) else ((rfind r s).1 + 1, (rfind r s).2)
theorem rfind_le : ∀ (L : List Nd) (s : ByteArray), (rfind L s).1 ≤ L.length
  | [], _ => Nat.zero_le _
  | n :: r, s => by
    have := rfind_le r s
    unfold rfind
    split
    · exact Nat.zero_le _
    split
    · exact Nat.zero_le _
    · simp only [List.length_cons]; omega
theorem rfind_lt : ∀ (L : List Nd) (s : ByteArray), (rfind L s).2 = true → ∃ n, L[(rfind L s).1]? = some n ∧ n.path = s
  | [], _, h => by cases h
  | n :: r, s, h => by
    unfold rfind at h ⊢
    split at h
    · rename_i h0
      rw [if_pos h0]
      refine ⟨n, rfl, ?_⟩
      rw [ordL_eq] at h0
      split at h0
      · rename_i e; exact ba_ext e
      · split at h0 <;> simp at h0
    split at h
    · cases h
    · rename_i h0 h1
      rw [if_neg h0, if_neg h1]
      obtain ⟨m, hm, e⟩ := rfind_lt r s h
      exact ⟨m, by simpa using hm, e⟩

theorem rfind_there : ∀ {M : List (Key × Nd)}, MSorted M → (∀ x ∈ M, x.1 = keyN x.2) → ∀ s : ByteArray, (rfind (nds M) s).2 = (mget M s.data.toList).isSome
  | [], _, _, _ => rfl
  | y :: r, hs, hk, s => by
    obtain ⟨h1, h2⟩ := List.pairwise_cons.1 hs
    have ih := rfind_there h2 (fun x hx => hk x (List.mem_cons_of_mem _ hx)) s
    have hy : y.1 = y.2.path.data.toList := hk y (List.mem_cons_self ..)
    show (rfind (y.2 :: nds r) s).2 = _
    unfold rfind
    rw [ordL_eq, ← hy]
    by_cases e : y.1 = s.data.toList
    · rw [if_pos e, if_pos rfl]
      have : mget (y :: r) s.data.toList = some y.2 := mget_of_mem hs (by rw [← e]; exact List.mem_cons_self ..)
      rw [this]; rfl
    · have hg : mget (y :: r) s.data.toList = mget r s.data.toList := by
        unfold mget
        rw [List.find?_cons_of_neg (by simpa using e)]
      rw [if_neg e, hg]
      by_cases hb : bytesBefore y.1 s.data.toList = true
      · rw [if_pos hb, if_neg (by decide), if_neg (by decide)]
        exact ih
      · rw [if_neg hb, if_neg (by decide), if_pos (by decide)]
        have hsy : bytesBefore s.data.toList y.1 = true := by
          rcases WideAt.bytes_total _ _ e with h | h
          · exact absurd h hb
          · exact h
        have : mget r s.data.toList = none := mget_none_of fun x hx e' => by
          have := h1 x hx
          rw [e'] at this
          exact before_asymm this hsy
        rw [this]; rfl

theorem mdel_none {M : List (Key × Nd)} {k : Key} (h : ∀ x ∈ M, x.1 ≠ k) : mdel M k = M := by
  unfold mdel
  exact List.filter_eq_self.2 fun x hx => by simpa using h x hx
theorem rfind_ins' : ∀ {M : List (Key × Nd)}, (∀ x ∈ M, x.1 = keyN x.2) → ∀ n : Nd, (∀ x ∈ M, x.1 ≠ keyN n) → nds (mins (keyN n, n) M) = (nds M).take (rfind (nds M) n.path).1 ++ n :: (nds M).drop (rfind (nds M) n.path).1
  | [], _, _, _ => rfl
  | y :: r, hk, n, hn => by
    have ih := rfind_ins' (fun x hx => hk x (List.mem_cons_of_mem _ hx)) n (fun x hx => hn x (List.mem_cons_of_mem _ hx))
    have hy : y.1 = y.2.path.data.toList := hk y (List.mem_cons_self ..)
    have he : ¬ y.1 = n.path.data.toList := hn y (List.mem_cons_self ..)
    show nds (mins (keyN n, n) (y :: r)) = (y.2 :: nds r).take (rfind (y.2 :: nds r) n.path).1 ++ n :: (y.2 :: nds r).drop (rfind (y.2 :: nds r) n.path).1
    unfold rfind mins
    rw [ordL_eq, ← hy, if_neg he]
    by_cases hb : bytesBefore y.1 n.path.data.toList = true
    · have hnb : ¬ bytesBefore (keyN n, n).1 y.1 = true := fun h => before_asymm h hb
      rw [if_pos hb, if_neg hnb, if_neg (show ¬ ((-1 : Int) = 0) by decide), if_neg (show ¬ ((0 : Int) < -1) by decide)]
      simp only [List.take_succ_cons, List.drop_succ_cons, List.cons_append]
      rw [← ih]; rfl
    · have hnb : bytesBefore (keyN n, n).1 y.1 = true := by
        rcases WideAt.bytes_total _ _ he with h | h
        · exact absurd h hb
        · exact h
      rw [if_neg hb, if_pos hnb, if_neg (show ¬ ((1 : Int) = 0) by decide), if_pos (show (0 : Int) < 1 by decide)]
      rfl
theorem rfind_ins {M : List (Key × Nd)} (hM : MOk M) (n : Nd) (hn : mget M (keyN n) = none) : nds (mput M (keyN n) n) = (nds M).take (rfind (nds M) n.path).1 ++ n :: (nds M).drop (rfind (nds M) n.path).1 := by
  have h := mget_none hn
  unfold mput
  rw [mdel_none h]
  exact rfind_ins' hM.key n h
end Go.Proofs.YthinpbdbhijbgaaGreatDoor
namespace Go.Proofs.YthinpbdbhijbgaaGreatDoor
open Go.RowKit
set_option maxHeartbeats 400000
set_option maxRecDepth 100000

theorem rkind_any (r : Int) (w : World) : Calls Tryz.prog 271 #[.int .i64 r] w fun e w' => e = .returned (.int .i64 (kindN r)) ∧ w = w' := by
  go_enter Tryz.func271, Tryz.ntmps271
  go_wp2
  all_goals (try go_ret)
  all_goals (refine ⟨ret_int ?_, rfl⟩; go_light; (try simp only [beq_iff_eq, beq_eq_false_iff_ne, ne_eq] at *); unfold kindN; repeat' split)
  all_goals (first | rfl | (exfalso; omega))

def kindR (r : Int) : Int := if r < 0 then 8 else kindN r
theorem kindR_pl (r : Int) : kindR r = 1 ↔ (0 ≤ r ∧ pl r.toNat = true) := by
  unfold kindR
  split
  · constructor <;> intro h <;> omega
  · have := kindN_pl r.toNat
    rw [show ((r.toNat : Nat) : Int) = r from by omega] at this
    rw [this]
    constructor
    · intro h; exact ⟨by omega, h⟩
    · exact fun h => h.2

theorem rof_any (r : Int) (w : World) : Calls Tryz.prog 241 #[.int .i64 r] w fun e w' => e = .returned (.int .i64 (kindR r)) ∧ w = w' := by
  by_cases h : r < 0
  · have e := Lib.hid (show kindR r = 8 by unfold kindR; rw [if_pos h])
    go_enter Tryz.func241, Tryz.ntmps241
    go_wp2
    go_ret
    exact ⟨ret_int e.out.symm, rfl⟩
  · have e := Lib.hid (show kindR r = kindN r by unfold kindR; rw [if_neg h])
    have h' : 0 ≤ r := by omega
    go_enter Tryz.func241, Tryz.ntmps241
    go_wp2_with (go_at_call 271; refine (rkind_any _ _).mono ?_; rintro e w' ⟨rfl, rfl⟩)
    go_ret
    exact ⟨ret_int e.out.symm, rfl⟩

set_option maxHeartbeats 1000000 in
theorem char_2 (s : ByteArray) (p : Nat) (w : World) (hp : p < s.size) (hs : s.size ≤ 9223372036854775800) (a : 192 ≤ (s[p].toNat : Int)) (b : (s[p].toNat : Int) < 224)
    (HB : Hid (∀ k, 1 ≤ k → k < 2 → ¬ contOk s (p + k) → Utf8.decode s p = (65533, 1)))
    (HF : Hid ((∀ j, 1 ≤ j → j < 2 → contOk s (p + j)) → (badRune (acc s p (s[p].toNat - 192) (2 - 1)) 128 → Utf8.decode s p = (65533, 1)) ∧ (¬ badRune (acc s p (s[p].toNat - 192) (2 - 1)) 128 → Utf8.decode s p = ((acc s p (s[p].toNat - 192) (2 - 1)).toNat, 2))))
    (HA : Hid (∀ k, k ≤ 3 → (∀ j, 1 ≤ j → j ≤ k → contOk s (p + j)) → 0 ≤ acc s p (s[p].toNat - 192) k ∧ acc s p (s[p].toNat - 192) k ≤ 8388608)) :
    Calls Tryz.prog 240 #[.string s, .int .i64 p] w fun e w' => ∃ r n : Int, e = .returned (.tuple #[.int .i64 r, .int .i64 n]) ∧ Hid (HandR s p r n) ∧ w = w' := by
  go_enter Tryz.func240, Tryz.ntmps240
  go_wp2
  go_loop [8, 10] (fun r i => ∃ k : Nat, 1 ≤ k ∧ k ≤ 2 ∧ i = .int .i64 k ∧ r = .int .i64 (acc s p (s[p].toNat - 192) (k - 1)) ∧ Hid (∀ j, 1 ≤ j → j < k → contOk s (p + j))) (fun _ i => 2 - (intOf i).toNat)
  case atStart => exact ⟨1, by omega, by omega, rfl, rfl, fun j h1 h2 => by omega⟩
  case round =>
    obtain ⟨k, hk1, hk2, rfl, rfl, HC⟩ := hrel
    have hbd := HA.out (k - 1) (by omega) (fun j h1 h2 => HC.out j h1 (by omega))
    have hb0 := hbd.1
    have hb1 := hbd.2
    clear hbd
    by_cases hlt : k < 2
    · by_cases hc : contOk s (p + k)
      · have c1 := hc.1
        have c2 := hc.2.1
        have c3 := hc.2.2
        have e2 := bat_get s (p + k) c1
        have HN : Hid (∀ j, 1 ≤ j → j < k + 1 → contOk s (p + j)) := fun j h1 h2 => by
          by_cases e : j = k
          · rw [e]; exact hc
          · exact HC.out j h1 (by omega)
        have HE : Hid (acc s p (s[p].toNat - 192) (k + 1 - 1) = 64 * acc s p (s[p].toNat - 192) (k - 1) + s[p + k].toNat - 128) := by
          obtain ⟨k, rfl⟩ : Exists fun m => k = m + 1 := ⟨k - 1, by omega⟩
          show acc _ _ _ (k + 1) = _
          simp only [acc, Nat.add_sub_cancel]
          rw [e2]
        rw [e2] at c2 c3
        clear e2 hc
        generalize acc s p (s[p].toNat - 192) (k - 1) = ac at *
        go_wp2
        go_round
        case rel => exact ⟨k + 1, by omega, by omega, by go_num, by rw [HE.out], HN⟩
        case measure => simp [intOf]; omega
      · have H := Lib.hid (handR_bad s p (HB.out k hk1 hlt hc))
        generalize acc s p (s[p].toNat - 192) (k - 1) = ac at *
        by_cases c1 : p + k < s.size
        · have e2 := bat_get s (p + k) c1
          have c2 : (s[p + k].toNat : Int) < 128 ∨ (128 ≤ (s[p + k].toNat : Int) ∧ 192 ≤ (s[p + k].toNat : Int)) := by
            unfold contOk at hc; rw [e2] at hc; omega
          clear e2 hc
          rcases c2 with c2 | ⟨c2, c3⟩
          all_goals
            go_wp2
            go_ret2
            exact ⟨-1, 1, rfl, H, rfl⟩
        · clear hc
          go_wp2
          go_ret2
          exact ⟨-1, 1, rfl, H, rfl⟩
    · obtain rfl : k = 2 := by omega
      have hf := HF.out HC.out
      have hf1 := Lib.hid hf.1
      have hf2 := Lib.hid hf.2
      clear hf
      generalize acc s p (s[p].toNat - 192) (2 - 1) = ac at *
      by_cases hbr : badRune ac 128
      · have H := Lib.hid (handR_bad s p (hf1.out hbr))
        clear hf1 hf2
        unfold badRune at hbr
        have hbr2 : ac < 128 ∨ (128 ≤ ac ∧ 1114111 < ac) ∨ (128 ≤ ac ∧ ac ≤ 1114111 ∧ 55296 ≤ ac ∧ ac ≤ 57343) := by omega
        clear hbr
        rcases hbr2 with h1 | ⟨h1, h2⟩ | ⟨h1, h2, h3, h4⟩
        all_goals
          go_wp2
          go_ret2
          exact ⟨-1, 1, rfl, H, rfl⟩
      · have H := Lib.hid (handR_good s p ac 2 hb0 (hf2.out hbr))
        clear hf1 hf2
        unfold badRune at hbr
        have hbr2 : 128 ≤ ac ∧ ac ≤ 1114111 ∧ (ac < 55296 ∨ (55296 ≤ ac ∧ 57343 < ac)) := by omega
        clear hbr
        obtain ⟨h1, h2, h3⟩ := hbr2
        rcases h3 with h3 | ⟨h3, h4⟩
        all_goals (first | (exfalso; omega) | (go_wp2; go_ret2; exact ⟨ac, 2, rfl, H, rfl⟩))

set_option maxHeartbeats 1000000 in
theorem char_3 (s : ByteArray) (p : Nat) (w : World) (hp : p < s.size) (hs : s.size ≤ 9223372036854775800) (a : 224 ≤ (s[p].toNat : Int)) (b : (s[p].toNat : Int) < 240)
    (HB : Hid (∀ k, 1 ≤ k → k < 3 → ¬ contOk s (p + k) → Utf8.decode s p = (65533, 1)))
    (HF : Hid ((∀ j, 1 ≤ j → j < 3 → contOk s (p + j)) → (badRune (acc s p (s[p].toNat - 224) (3 - 1)) 2048 → Utf8.decode s p = (65533, 1)) ∧ (¬ badRune (acc s p (s[p].toNat - 224) (3 - 1)) 2048 → Utf8.decode s p = ((acc s p (s[p].toNat - 224) (3 - 1)).toNat, 3))))
    (HA : Hid (∀ k, k ≤ 3 → (∀ j, 1 ≤ j → j ≤ k → contOk s (p + j)) → 0 ≤ acc s p (s[p].toNat - 224) k ∧ acc s p (s[p].toNat - 224) k ≤ 8388608)) :
    Calls Tryz.prog 240 #[.string s, .int .i64 p] w fun e w' => ∃ r n : Int, e = .returned (.tuple #[.int .i64 r, .int .i64 n]) ∧ Hid (HandR s p r n) ∧ w = w' := by
  go_enter Tryz.func240, Tryz.ntmps240
  go_wp2
  go_loop [8, 10] (fun r i => ∃ k : Nat, 1 ≤ k ∧ k ≤ 3 ∧ i = .int .i64 k ∧ r = .int .i64 (acc s p (s[p].toNat - 224) (k - 1)) ∧ Hid (∀ j, 1 ≤ j → j < k → contOk s (p + j))) (fun _ i => 3 - (intOf i).toNat)
  case atStart => exact ⟨1, by omega, by omega, rfl, rfl, fun j h1 h2 => by omega⟩
  case round =>
    obtain ⟨k, hk1, hk2, rfl, rfl, HC⟩ := hrel
    have hbd := HA.out (k - 1) (by omega) (fun j h1 h2 => HC.out j h1 (by omega))
    have hb0 := hbd.1
    have hb1 := hbd.2
    clear hbd
    by_cases hlt : k < 3
    · by_cases hc : contOk s (p + k)
      · have c1 := hc.1
        have c2 := hc.2.1
        have c3 := hc.2.2
        have e2 := bat_get s (p + k) c1
        have HN : Hid (∀ j, 1 ≤ j → j < k + 1 → contOk s (p + j)) := fun j h1 h2 => by
          by_cases e : j = k
          · rw [e]; exact hc
          · exact HC.out j h1 (by omega)
        have HE : Hid (acc s p (s[p].toNat - 224) (k + 1 - 1) = 64 * acc s p (s[p].toNat - 224) (k - 1) + s[p + k].toNat - 128) := by
          obtain ⟨k, rfl⟩ : Exists fun m => k = m + 1 := ⟨k - 1, by omega⟩
          show acc _ _ _ (k + 1) = _
          simp only [acc, Nat.add_sub_cancel]
          rw [e2]
        rw [e2] at c2 c3
        clear e2 hc
        generalize acc s p (s[p].toNat - 224) (k - 1) = ac at *
        go_wp2
        go_round
        case rel => exact ⟨k + 1, by omega, by omega, by go_num, by rw [HE.out], HN⟩
        case measure => simp [intOf]; omega
      · have H := Lib.hid (handR_bad s p (HB.out k hk1 hlt hc))
        generalize acc s p (s[p].toNat - 224) (k - 1) = ac at *
        by_cases c1 : p + k < s.size
        · have e2 := bat_get s (p + k) c1
          have c2 : (s[p + k].toNat : Int) < 128 ∨ (128 ≤ (s[p + k].toNat : Int) ∧ 192 ≤ (s[p + k].toNat : Int)) := by
            unfold contOk at hc; rw [e2] at hc; omega
          clear e2 hc
          rcases c2 with c2 | ⟨c2, c3⟩
          all_goals
            go_wp2
            go_ret2
            exact ⟨-1, 1, rfl, H, rfl⟩
        · clear hc
          go_wp2
          go_ret2
          exact ⟨-1, 1, rfl, H, rfl⟩
    · obtain rfl : k = 3 := by omega
      have hf := HF.out HC.out
      have hf1 := Lib.hid hf.1
      have hf2 := Lib.hid hf.2
      clear hf
      generalize acc s p (s[p].toNat - 224) (3 - 1) = ac at *
      by_cases hbr : badRune ac 2048
      · have H := Lib.hid (handR_bad s p (hf1.out hbr))
        clear hf1 hf2
        unfold badRune at hbr
        have hbr2 : ac < 2048 ∨ (2048 ≤ ac ∧ 1114111 < ac) ∨ (2048 ≤ ac ∧ ac ≤ 1114111 ∧ 55296 ≤ ac ∧ ac ≤ 57343) := by omega
        clear hbr
        rcases hbr2 with h1 | ⟨h1, h2⟩ | ⟨h1, h2, h3, h4⟩
        all_goals
          go_wp2
          go_ret2
          exact ⟨-1, 1, rfl, H, rfl⟩
      · have H := Lib.hid (handR_good s p ac 3 hb0 (hf2.out hbr))
        clear hf1 hf2
        unfold badRune at hbr
        have hbr2 : 2048 ≤ ac ∧ ac ≤ 1114111 ∧ (ac < 55296 ∨ (55296 ≤ ac ∧ 57343 < ac)) := by omega
        clear hbr
        obtain ⟨h1, h2, h3⟩ := hbr2
        rcases h3 with h3 | ⟨h3, h4⟩
        all_goals (first | (exfalso; omega) | (go_wp2; go_ret2; exact ⟨ac, 3, rfl, H, rfl⟩))

set_option maxHeartbeats 1000000 in
theorem char_4 (s : ByteArray) (p : Nat) (w : World) (hp : p < s.size) (hs : s.size ≤ 9223372036854775800) (a : 240 ≤ (s[p].toNat : Int)) (b : (s[p].toNat : Int) < 248)
    (HB : Hid (∀ k, 1 ≤ k → k < 4 → ¬ contOk s (p + k) → Utf8.decode s p = (65533, 1)))
    (HF : Hid ((∀ j, 1 ≤ j → j < 4 → contOk s (p + j)) → (badRune (acc s p (s[p].toNat - 240) (4 - 1)) 65536 → Utf8.decode s p = (65533, 1)) ∧ (¬ badRune (acc s p (s[p].toNat - 240) (4 - 1)) 65536 → Utf8.decode s p = ((acc s p (s[p].toNat - 240) (4 - 1)).toNat, 4))))
    (HA : Hid (∀ k, k ≤ 3 → (∀ j, 1 ≤ j → j ≤ k → contOk s (p + j)) → 0 ≤ acc s p (s[p].toNat - 240) k ∧ acc s p (s[p].toNat - 240) k ≤ 8388608)) :
    Calls Tryz.prog 240 #[.string s, .int .i64 p] w fun e w' => ∃ r n : Int, e = .returned (.tuple #[.int .i64 r, .int .i64 n]) ∧ Hid (HandR s p r n) ∧ w = w' := by
  go_enter Tryz.func240, Tryz.ntmps240
  go_wp2
  go_loop [8, 10] (fun r i => ∃ k : Nat, 1 ≤ k ∧ k ≤ 4 ∧ i = .int .i64 k ∧ r = .int .i64 (acc s p (s[p].toNat - 240) (k - 1)) ∧ Hid (∀ j, 1 ≤ j → j < k → contOk s (p + j))) (fun _ i => 4 - (intOf i).toNat)
  case atStart => exact ⟨1, by omega, by omega, rfl, rfl, fun j h1 h2 => by omega⟩
  case round =>
    obtain ⟨k, hk1, hk2, rfl, rfl, HC⟩ := hrel
    have hbd := HA.out (k - 1) (by omega) (fun j h1 h2 => HC.out j h1 (by omega))
    have hb0 := hbd.1
    have hb1 := hbd.2
    clear hbd
    by_cases hlt : k < 4
    · by_cases hc : contOk s (p + k)
      · have c1 := hc.1
        have c2 := hc.2.1
        have c3 := hc.2.2
        have e2 := bat_get s (p + k) c1
        have HN : Hid (∀ j, 1 ≤ j → j < k + 1 → contOk s (p + j)) := fun j h1 h2 => by
          by_cases e : j = k
          · rw [e]; exact hc
          · exact HC.out j h1 (by omega)
        have HE : Hid (acc s p (s[p].toNat - 240) (k + 1 - 1) = 64 * acc s p (s[p].toNat - 240) (k - 1) + s[p + k].toNat - 128) := by
          obtain ⟨k, rfl⟩ : Exists fun m => k = m + 1 := ⟨k - 1, by omega⟩
          show acc _ _ _ (k + 1) = _
          simp only [acc, Nat.add_sub_cancel]
          rw [e2]
        rw [e2] at c2 c3
        clear e2 hc
        generalize acc s p (s[p].toNat - 240) (k - 1) = ac at *
        go_wp2
        go_round
        case rel => exact ⟨k + 1, by omega, by omega, by go_num, by rw [HE.out], HN⟩
        case measure => simp [intOf]; omega
      · have H := Lib.hid (handR_bad s p (HB.out k hk1 hlt hc))
        generalize acc s p (s[p].toNat - 240) (k - 1) = ac at *
        by_cases c1 : p + k < s.size
        · have e2 := bat_get s (p + k) c1
          have c2 : (s[p + k].toNat : Int) < 128 ∨ (128 ≤ (s[p + k].toNat : Int) ∧ 192 ≤ (s[p + k].toNat : Int)) := by
            unfold contOk at hc; rw [e2] at hc; omega
          clear e2 hc
          rcases c2 with c2 | ⟨c2, c3⟩
          all_goals
            go_wp2
            go_ret2
            exact ⟨-1, 1, rfl, H, rfl⟩
        · clear hc
          go_wp2
          go_ret2
          exact ⟨-1, 1, rfl, H, rfl⟩
    · obtain rfl : k = 4 := by omega
      have hf := HF.out HC.out
      have hf1 := Lib.hid hf.1
      have hf2 := Lib.hid hf.2
      clear hf
      generalize acc s p (s[p].toNat - 240) (4 - 1) = ac at *
      by_cases hbr : badRune ac 65536
      · have H := Lib.hid (handR_bad s p (hf1.out hbr))
        clear hf1 hf2
        unfold badRune at hbr
        have hbr2 : ac < 65536 ∨ (65536 ≤ ac ∧ 1114111 < ac) ∨ (65536 ≤ ac ∧ ac ≤ 1114111 ∧ 55296 ≤ ac ∧ ac ≤ 57343) := by omega
        clear hbr
        rcases hbr2 with h1 | ⟨h1, h2⟩ | ⟨h1, h2, h3, h4⟩
        all_goals
          go_wp2
          go_ret2
          exact ⟨-1, 1, rfl, H, rfl⟩
      · have H := Lib.hid (handR_good s p ac 4 hb0 (hf2.out hbr))
        clear hf1 hf2
        unfold badRune at hbr
        have hbr2 : 65536 ≤ ac ∧ ac ≤ 1114111 ∧ (ac < 55296 ∨ (55296 ≤ ac ∧ 57343 < ac)) := by omega
        clear hbr
        obtain ⟨h1, h2, h3⟩ := hbr2
        rcases h3 with h3 | ⟨h3, h4⟩
        all_goals (first | (exfalso; omega) | (go_wp2; go_ret2; exact ⟨ac, 4, rfl, H, rfl⟩))

theorem char_any (s : ByteArray) (p : Nat) (w : World) (hp : p < s.size) (hs : s.size ≤ 9223372036854775800) : Calls Tryz.prog 240 #[.string s, .int .i64 p] w fun e w' =>
    ∃ r n : Int, e = .returned (.tuple #[.int .i64 r, .int .i64 n]) ∧ Hid (HandR s p r n) ∧ w = w' := by
  have hb := bat_get s p hp
  have hb1 := bat_lt s p
  by_cases h1 : bat s p < 128
  · have H := Lib.hid (handR_good s p (bat s p) 1 (by omega) (by rw [(dec s p hp).ascii h1]; simp))
    rw [hb] at h1 H
    clear hb hb1
    go_enter Tryz.func240, Tryz.ntmps240
    go_wp2
    go_ret2
    exact ⟨_, 1, rfl, H, rfl⟩
  by_cases h2 : bat s p < 192 ∨ 248 ≤ bat s p
  · have H := Lib.hid (handR_bad s p (dec_lone s p (by omega) h2))
    rw [hb] at h1 h2 hb1
    clear hb
    go_enter Tryz.func240, Tryz.ntmps240
    rcases h2 with h2 | h2
    all_goals
      go_wp2
      go_ret2
      exact ⟨-1, 1, rfl, H, rfl⟩
  have key : ∀ (n : Nat) (off least : Int), Lead s p n off least → (∀ k, 1 ≤ k → k < n → ¬ contOk s (p + k) → Utf8.decode s p = (65533, 1)) ∧ _ ∧ _ := fun n off least hl =>
    ⟨dec_bad s p n off least hl, dec_full s p n off least hl, acc_le s p (bat s p - off) (by rcases hl with h | h | h <;> omega) (by rcases hl with h | h | h <;> omega)⟩
  rw [hb] at key h1 h2
  by_cases h3 : bat s p < 224
  · have k := key 2 192 128 (by unfold Lead; omega)
    rw [hb] at h3
    exact char_2 s p w hp hs (by omega) (by omega) k.1 k.2.1 k.2.2
  · by_cases h4 : bat s p < 240
    · have k := key 3 224 2048 (by unfold Lead; omega)
      rw [hb] at h3 h4
      exact char_3 s p w hp hs (by omega) (by omega) k.1 k.2.1 k.2.2
    · have k := key 4 240 65536 (by unfold Lead; omega)
      rw [hb] at h3 h4
      exact char_4 s p w hp hs (by omega) (by omega) k.1 k.2.1 k.2.2

end Go.Proofs.YthinpbdbhijbgaaGreatDoor
namespace Go.Proofs.YthinpbdbhijbgaaGreatDoor
open Go.RowKit
set_option maxHeartbeats 400000
set_option maxRecDepth 100000

theorem takeWhile_upto : ∀ (l : List UInt8) (q : Nat), q ≤ l.length → (∀ j, (h : j < l.length) → j < q → l[j] ≠ 47) → (q = l.length ∨ ∃ h : q < l.length, l[q] = 47) → l.takeWhile (· != 47) = l.take q
  | [], q, _, _, _ => by simp
  | b :: l, 0, _, _, h2 => by
    rcases h2 with h2 | ⟨_, h2⟩
    · simp at h2
    · simp at h2; subst h2; simp
  | b :: l, q + 1, hq, h1, h2 => by
    have hb : b ≠ 47 := h1 0 (by simp) (by omega)
    rw [List.takeWhile_cons_of_pos (by simpa using hb), List.take_succ_cons]
    congr 1
    refine takeWhile_upto l q (by simpa using hq) (fun j h hj => h1 (j + 1) (by simpa using h) (by omega)) ?_
    rcases h2 with h2 | ⟨h, h2⟩
    · left; simpa using h2
    · right; exact ⟨by simpa using h, by simpa using h2⟩

theorem bat_list (s : ByteArray) (i : Nat) (h : i < s.size) : s.data.toList[i]'(by simpa using h) = 47 ↔ bat s i = 47 := by
  rw [bat_get s i h]
  constructor
  · intro e; rw [show s[i] = s.data.toList[i]'(by simpa using h) from rfl, e]; rfl
  · intro e; exact UInt8.toNat_inj.1 (e.trans rfl)

theorem partL_upto (s : ByteArray) (p q : Nat) (hp : p ≤ q) (hq : q ≤ s.size) (h1 : ∀ j, p ≤ j → j < q → bat s j ≠ 47) (h2 : q = s.size ∨ bat s q = 47) : (s.extract p q).toList = partL s p := by
  have e : (s.extract p q).toList = (s.data.toList.drop p).take (q - p) := by
    rw [ByteArray.toList_eq, Lib.extract_data]
  rw [e, partL, takeWhile_upto (s.data.toList.drop p) (q - p) (by simp; omega)]
  · intro j h hj
    simp only [List.getElem_drop]
    intro e
    have hl : p + j < s.size := by simp at h; omega
    exact h1 (p + j) (by omega) (by omega) ((bat_list s (p + j) hl).1 e)
  · by_cases hqs : q = s.size
    · left; simp; omega
    · right
      have hl : q < s.size := by omega
      refine ⟨by simp; omega, ?_⟩
      simp only [List.getElem_drop]
      have := (bat_list s q hl).2 (h2.resolve_left hqs)
      simpa [show p + (q - p) = q from by omega] using this

theorem part_any (s : ByteArray) (p : Nat) (w : World) (hp : p ≤ s.size) (hs : s.size ≤ 9223372036854775800) : Calls Tryz.prog 239 #[.string s, .int .i64 p] w fun e w' =>
    ∃ t : ByteArray, e = .returned (.string t) ∧ Hid (t.toList = partL s p) ∧ w = w' := by
  go_enter Tryz.func239, Tryz.ntmps239
  go_wp2
  go_loop [5] (fun i => ∃ q : Nat, p ≤ q ∧ q ≤ s.size ∧ i = .int .i64 q ∧ Hid (∀ j, p ≤ j → j < q → bat s j ≠ 47)) (fun i => s.size - (intOf i).toNat)
  case atStart => exact ⟨p, Nat.le_refl _, hp, rfl, fun j h1 h2 => by omega⟩
  case round =>
    obtain ⟨q, hq1, hq2, rfl, HQ⟩ := hrel
    by_cases hlt : q < s.size
    · have e2 := bat_get s q hlt
      by_cases h47 : bat s q = 47
      · have H := Lib.hid (partL_upto s p q hq1 hq2 HQ.out (.inr h47))
        rw [e2] at h47
        have h47' : ((s[q].toNat : Int) != 47) = false := by simp; omega
        clear e2 h47
        go_wp2
        go_ret
        exact ⟨_, rfl, H, rfl⟩
      · have HN : Hid (∀ j, p ≤ j → j < q + 1 → bat s j ≠ 47) := fun j h1 h2 => by
          by_cases e : j = q
          · rw [e]; exact h47
          · exact HQ.out j h1 (by omega)
        rw [e2] at h47
        have h47' : ((s[q].toNat : Int) != 47) = true := by simp; omega
        clear e2 h47
        go_wp2
        go_round
        case rel => exact ⟨q + 1, by omega, by omega, by go_num, HN⟩
        case measure => simp [intOf]; omega
    · obtain rfl : q = s.size := by omega
      have H := Lib.hid (partL_upto s p s.size hq1 hq2 HQ.out (.inl rfl))
      go_wp2
      go_ret
      exact ⟨_, rfl, H, rfl⟩

theorem part_at (s : ByteArray) (p : Nat) (a : Int) (w : World) (ha : a = (p : Int)) (hp : p ≤ s.size) (hs : s.size ≤ 9223372036854775800) : Calls Tryz.prog 239 #[.string s, .int .i64 a] w fun e w' =>
    ∃ t : ByteArray, e = .returned (.string t) ∧ Hid (t.toList = partL s p) ∧ w = w' := by subst ha; exact part_any s p w hp hs

theorem scan_pl (s : ByteArray) (p : Nat) (h : p < s.size) (hp : ¬ pl (Utf8.decode s p).1 = true) : scanAt s p = false := by
  rw [scanAt_step s p h]; simp [hp]
theorem scan_void (s : ByteArray) (p : Nat) (h : p < s.size) (h47 : bat s p = 47) (h0 : 0 < p) (h1 : bat s (p - 1) = 47) : scanAt s p = false := by
  rw [scanAt_step s p h, sep_slash s p h47]; simp [h0, h1]
theorem scan_dots (s : ByteArray) (p : Nat) (h : p < s.size) (h47 : bat s p = 47) (h1 : dots s (p + 1) = true) : scanAt s p = false := by
  rw [scanAt_step s p h, sep_slash s p h47]; simp [h1]
theorem scan_plain (s : ByteArray) (p : Nat) (h : p < s.size) (h47 : bat s p ≠ 47) (hp : pl (Utf8.decode s p).1 = true) : scanAt s p = scanAt s (p + (Utf8.decode s p).2) := by
  rw [scanAt_step s p h, sep_ok s p h47]; simp [hp]
theorem scan_slash (s : ByteArray) (p : Nat) (h : p < s.size) (h47 : bat s p = 47) (h1 : ¬ (0 < p ∧ bat s (p - 1) = 47)) (h2 : dots s (p + 1) = false) : scanAt s p = scanAt s (p + (Utf8.decode s p).2) := by
  have hd := dec_one s p h47 (dec s p h).ascii
  rw [scanAt_step s p h, sep_slash s p h47, hd]
  have : (decide (0 < p) && bat s (p - 1) == 47) = false := by
    rw [Bool.and_eq_false_iff]
    by_cases hz : 0 < p
    · right; simp; exact fun e => h1 ⟨hz, e⟩
    · left; simpa using hz
  rw [this, h2]; simp [pl]

/-- What checking a text may answer: no fault just if it is a path. -/
def ChkOut (s : ByteArray) (w : World) (e : Ending) (w' : World) : Prop :=
  ∃ f a : Int, e = .returned (.tuple #[.int .i64 f, .int .i64 a]) ∧ Hid (f = 0 ↔ vpath s = true) ∧ Below w.heap.size w w'

set_option maxHeartbeats 1000000 in
theorem rcheck_any (s : ByteArray) (w : World) (hs : s.size ≤ 9223372036854775800) : Calls Tryz.prog 192 #[.string s] w (ChkOut s w) := by
  have he := isEmpty_size s
  by_cases h0 : s.size = 0
  · have hv := Lib.hid (vpath_empty s h0)
    have he' : s.toList.isEmpty = true := by rw [he]; simp [h0]
    clear he h0
    go_enter Tryz.func192, Tryz.ntmps192
    go_wp2
    go_ret2
    exact ⟨1, 0, rfl, by unfold Hid; rw [hv.out]; simp, Below.refl _ _⟩
  have he' : s.toList.isEmpty = false := by rw [he]; simp [h0]
  have hp : 0 < s.size := by omega
  clear he
  by_cases h1 : 4096 < s.size
  · have hv := Lib.hid (vpath_big s h1)
    go_enter Tryz.func192, Tryz.ntmps192
    go_wp2
    go_ret2
    exact ⟨2, 4096, rfl, by unfold Hid; rw [hv.out]; simp, Below.refl _ _⟩
  by_cases h2 : bat s 0 ≠ 47
  · have hv := Lib.hid (vpath_start s h2)
    have h2' : ((s[0].toNat : Int) != 47) = true := by rw [← bat_get s 0 hp]; simp; omega
    go_enter Tryz.func192, Tryz.ntmps192
    go_wp2
    go_ret2
    exact ⟨3, 0, rfl, by unfold Hid; rw [hv.out]; simp, Below.refl _ _⟩
  have h2 : bat s 0 = 47 := by omega
  have h2' : ((s[0].toNat : Int) != 47) = false := by rw [← bat_get s 0 hp]; simp; omega
  have hr := root_size s hp h2
  by_cases h3 : s.size = 1
  · have hv := Lib.hid (vpath_root s h3 h2)
    have hr' : (s.toList == [47]) = true := by rw [hr]; simp [h3]
    clear hr h3 h2
    go_enter Tryz.func192, Tryz.ntmps192
    go_wp2
    go_ret2
    exact ⟨0, -1, rfl, by unfold Hid; rw [hv.out]; simp, Below.refl _ _⟩
  have hr' : (s.toList == [47]) = false := by rw [hr]; simp [h3]
  clear hr
  have hb1 : 1 ≤ (s.size : Int) ∧ (s.size : Int) - 1 < s.size := by omega
  by_cases h4 : bat s (s.size - 1) = 47
  · have hv := Lib.hid (vpath_end s h3 h4)
    have h4' : ((s[s.size - 1].toNat : Int) == 47) = true := by rw [← bat_get s (s.size - 1) (by omega)]; simp; omega
    clear h4 h2
    go_enter Tryz.func192, Tryz.ntmps192
    go_wp2
    go_ret2
    exact ⟨4, _, rfl, by unfold Hid; rw [hv.out]; simp, Below.refl _ _⟩
  have h4' : ((s[s.size - 1].toNat : Int) == 47) = false := by rw [← bat_get s (s.size - 1) (by omega)]; simp; omega
  have hv := Lib.hid (vpath_scan s h3 h0 (by omega) h2 h4)
  clear h4 h2
  go_enter Tryz.func192, Tryz.ntmps192
  go_wp2
  clear h4' hr' he' h2'
  go_loop [4] (fun i => ∃ pos : Nat, i = .int .i64 pos ∧ pos ≤ s.size ∧ Hid (scanAt s 0 = scanAt s pos)) (fun i => s.size - (intOf i).toNat)
  case atStart => exact ⟨0, rfl, Nat.zero_le _, rfl⟩
  case round =>
    obtain ⟨pos, rfl, hpos, Hs⟩ := hrel
    by_cases hlt : pos < s.size
    · have d := dec s pos hlt
      have hd1 := d.pos
      have hd2 := d.fits
      clear d
      have hbg := bat_get s pos hlt
      have HC : ∀ w, Calls Tryz.prog 240 #[.string s, .int .i64 pos] w fun e w' => ∃ r n : Int, e = .returned (.tuple #[.int .i64 r, .int .i64 n]) ∧ Hid (HandR s pos r n) ∧ w = w' := fun w => char_any s pos w hlt (by omega)
      by_cases h47 : bat s pos = 47
      · have h47' : ((s[pos].toNat : Int) == 47) = true := by rw [← hbg]; simp; omega
        by_cases hv2 : 0 < pos ∧ bat s (pos - 1) = 47
        · have H1 := Lib.hid (Hs.out.trans (scan_void s pos hlt h47 hv2.1 hv2.2))
          obtain ⟨hz, hv3⟩ := hv2
          have e2 := bat_get s (pos - 1) (by omega)
          have hq : ((s[pos - 1].toNat : Int) == 47) = true := by rw [← e2]; simp; omega
          have hi : 1 ≤ (pos : Int) ∧ (pos : Int) - 1 < s.size := by omega
          clear hv3 e2 h47 hbg Hs
          go_wp2
          go_ret2
          exact ⟨5, _, rfl, by unfold Hid; rw [hv.out, H1.out]; simp, Below.refl _ _⟩
        · have hbz : ¬ (0 < pos) ∨ (∃ _ : 0 < pos, ((s[pos - 1].toNat : Int) == 47) = false) := by
            by_cases hz : 0 < pos
            · right; refine ⟨hz, ?_⟩
              have e2 := bat_get s (pos - 1) (by omega)
              rw [← e2]; simp; intro e; exact hv2 ⟨hz, by omega⟩
            · exact .inl hz
          by_cases hdt : dots s (pos + 1) = true
          · have H1 := Lib.hid (Hs.out.trans (scan_dots s pos hlt h47 hdt))
            have HD := Lib.hid hdt
            clear hdt hv2 h47 hbg Hs
            rcases hbz with hbz | ⟨hz, hbz⟩
            all_goals
              go_wp2_with fail
              refine (part_at s (pos + 1) _ _ (by omega) (by omega) (by omega)).mono ?_
              rintro e w' ⟨t, rfl, HT, rfl⟩
              have hd : t.toList = [46] ∨ (¬ t.toList = [46] ∧ (t.toList == [46]) = false ∧ (t.toList == [46, 46]) = true) := by
                have h := HD.out
                unfold dots at h
                rw [← HT.out] at h
                by_cases e : t.toList = [46]
                · exact .inl e
                · right; simp [e] at h; simp [h]
              rcases hd with hd | ⟨hd, hd1, hd2⟩
              all_goals
                go_wp2
                go_ret2
                exact ⟨6, _, rfl, by unfold Hid; rw [hv.out, H1.out]; simp, Below.refl _ _⟩
          · have hdt' : dots s (pos + 1) = false := by simpa using hdt
            have H1 := Lib.hid (Hs.out.trans (scan_slash s pos hlt h47 hv2 hdt'))
            have hda := dec_one s pos h47 (dec s pos hlt).ascii
            have hpl : pl (Utf8.decode s pos).1 = true := by rw [hda]; rfl
            have hk : (kindR (Utf8.decode s pos).1 != 1) = false := by simp; exact (kindR_pl _).2 ⟨by omega, by simpa using hpl⟩
            have HD := Lib.hid hdt'
            have HP := Lib.hid hpl
            clear hdt hdt' hv2 h47 hbg Hs hda hpl
            rcases hbz with hbz | ⟨hz, hbz⟩
            all_goals
              go_wp2_with fail
              refine (part_at s (pos + 1) _ _ (by omega) (by omega) (by omega)).mono ?_
              rintro e w' ⟨t, rfl, HT, rfl⟩
              have hd : ¬ t.toList = [46] ∧ (t.toList == [46]) = false ∧ (t.toList == [46, 46]) = false := by
                have h := HD.out
                unfold dots at h
                rw [← HT.out] at h
                simp at h
                simp [h]
              obtain ⟨h1, h2, h3⟩ := hd
              go_wp2_with fail
              refine (HC _).mono ?_
              rintro e w' ⟨r, n, rfl, HR, rfl⟩
              obtain ⟨rfl, rfl⟩ := HR.out.2 HP.out
              go_wp2_with (go_at_call 241; refine (rof_any _ _).mono ?_; rintro e w' ⟨rfl, rfl⟩)
              go_round
              case rel => exact ⟨_, by go_num, hd2, H1⟩
              case measure => simp [intOf]; omega
      · have h47' : ((s[pos].toNat : Int) == 47) = false := by rw [← hbg]; simp; omega
        by_cases hpl : pl (Utf8.decode s pos).1 = true
        · have H1 := Lib.hid (Hs.out.trans (scan_plain s pos hlt h47 hpl))
          have hk : (kindR (Utf8.decode s pos).1 != 1) = false := by simp; exact (kindR_pl _).2 ⟨by omega, by simpa using hpl⟩
          have HP := Lib.hid hpl
          clear h47 hbg Hs hpl
          go_wp2_with fail
          refine (HC _).mono ?_
          rintro e w' ⟨r, n, rfl, HR, rfl⟩
          obtain ⟨rfl, rfl⟩ := HR.out.2 HP.out
          go_wp2_with (go_at_call 241; refine (rof_any _ _).mono ?_; rintro e w' ⟨rfl, rfl⟩)
          go_round
          case rel => exact ⟨_, by go_num, hd2, H1⟩
          case measure => simp [intOf]; omega
        · have H1 := Lib.hid (Hs.out.trans (scan_pl s pos hlt hpl))
          have HP := Lib.hid hpl
          clear h47 hbg Hs hpl
          go_wp2_with fail
          refine (HC _).mono ?_
          rintro e w' ⟨r, n, rfl, HR, rfl⟩
          have hk : (kindR r != 1) = true := by
            simp; intro e; exact HP.out (HR.out.1.1 ((kindR_pl _).1 e))
          go_wp2_with (go_at_call 241; refine (rof_any _ _).mono ?_; rintro e w' ⟨rfl, rfl⟩)
          go_ret2
          exact ⟨7, _, rfl, by unfold Hid; rw [hv.out, H1.out]; simp, Below.refl _ _⟩
    · have H1 : Hid (scanAt s 0 = true) := by unfold Hid; rw [Hs.out]; exact scanAt_end s pos (by omega)
      clear Hs
      go_wp2
      go_ret2
      exact ⟨0, -1, rfl, by unfold Hid; rw [hv.out, H1.out]; simp, Below.refl _ _⟩

theorem rvalid_any (s : ByteArray) (w : World) (hs : s.size ≤ 9223372036854775800) : Calls Tryz.prog 146 #[.string s] w fun e w' =>
    e = .returned (.bool (vpath s)) ∧ Below w.heap.size w w' := by
  by_cases hv : vpath s = true
  · go_enter Tryz.func146, Tryz.ntmps146
    go_wp2_with fail
    refine (rcheck_any s w hs).mono ?_
    rintro e w' ⟨f, a, rfl, hf, hB⟩
    obtain rfl : f = 0 := hf.out.2 hv
    go_wp2
    go_ret
    exact ⟨by rw [hv]; rfl, hB⟩
  · go_enter Tryz.func146, Tryz.ntmps146
    go_wp2_with fail
    refine (rcheck_any s w hs).mono ?_
    rintro e w' ⟨f, a, rfl, hf, hB⟩
    have hf0 : (f == 0) = false := by simp; intro h; exact hv (hf.out.1 h)
    have hv' : vpath s = false := by simpa using hv
    clear hf hv
    go_wp2
    go_ret
    exact ⟨by rw [hv']; rfl, hB⟩
end Go.Proofs.YthinpbdbhijbgaaGreatDoor
namespace Go.Proofs.YthinpbdbhijbgaaGreatDoor
open Go.RowKit
set_option maxHeartbeats 2000000
set_option maxRecDepth 100000

theorem ordL_drop (a b : ByteArray) (q : Nat) (h : q < a.size) (h' : q < b.size) : ordL (a.data.toList.drop q) (b.data.toList.drop q) = if a[q].toNat < b[q].toNat then -1 else if b[q].toNat < a[q].toNat then 1 else ordL (a.data.toList.drop (q + 1)) (b.data.toList.drop (q + 1)) := by
  have e1 : a.data.toList.drop q = a[q] :: a.data.toList.drop (q + 1) := by
    rw [List.drop_eq_getElem_cons (by rw [size_list]; exact h)]; rfl
  have e2 : b.data.toList.drop q = b[q] :: b.data.toList.drop (q + 1) := by
    rw [List.drop_eq_getElem_cons (by rw [size_list]; exact h')]; rfl
  rw [e1, e2, ordL]
theorem ordL_end (a b : ByteArray) (q : Nat) (h1 : q ≤ a.size) (h2 : q ≤ b.size) (h : q = a.size ∨ q = b.size) : ordL (a.data.toList.drop q) (b.data.toList.drop q) = if a.size < b.size then -1 else if b.size < a.size then 1 else 0 := by
  have la := size_list a
  have lb := size_list b
  by_cases ha : q = a.size
  · have e1 : a.data.toList.drop q = [] := List.drop_eq_nil_of_le (by omega)
    rw [e1]
    by_cases hb : q = b.size
    · have e2 : b.data.toList.drop q = [] := List.drop_eq_nil_of_le (by omega)
      rw [e2, if_neg (by omega), if_neg (by omega)]; rfl
    · rw [if_pos (by omega)]
      cases hd : b.data.toList.drop q with
      | nil => have := congrArg List.length hd; rw [List.length_drop] at this; simp at this; omega
      | cons x l => rfl
  · have hb : q = b.size := h.resolve_left ha
    have e2 : b.data.toList.drop q = [] := List.drop_eq_nil_of_le (by omega)
    rw [e2, if_neg (by omega), if_pos (by omega)]
    cases hd : a.data.toList.drop q with
    | nil => have := congrArg List.length hd; rw [List.length_drop] at this; simp at this; omega
    | cons x l => rfl

theorem order_any (a b : ByteArray) (w : World) (ha : a.size ≤ 9223372036854775800) (hb : b.size ≤ 9223372036854775800) : Calls Tryz.prog 120 #[.string a, .string b] w fun e w' => e = .returned (.int .i64 (ordL a.data.toList b.data.toList)) ∧ Below w.heap.size w w' := by
  go_enter Tryz.func120, Tryz.ntmps120
  go_wp2
  go_loopw [5] (fun i wr => ∃ q n : Nat, q ≤ a.size ∧ q ≤ b.size ∧ i = .int .i64 q ∧ wr = w.drewN n ∧ Hid (ordL a.data.toList b.data.toList = ordL (a.data.toList.drop q) (b.data.toList.drop q))) (fun i _ => a.size - (intOf i).toNat)
  case atStart => exact ⟨0, 0, Nat.zero_le _, Nat.zero_le _, rfl, rfl, rfl⟩
  case round =>
    obtain ⟨q, n, hqa, hqb, rfl, rfl, HQ⟩ := hrel
    by_cases hl : q < a.size ∧ q < b.size
    · obtain ⟨hla, hlb⟩ := hl
      have hd := ordL_drop a b q hla hlb
      have c1 : (q : Int) < a.size := by omega
      have c2 : (q : Int) < b.size := by omega
      have c0 : (0 : Int) ≤ q := by omega
      by_cases h1 : a[q].toNat < b[q].toNat
      · have H1 : Hid (ordL a.data.toList b.data.toList = -1) := by unfold Hid; rw [HQ.out, hd, if_pos h1]
        have k1 : (a[q].toNat : Int) < (b[q].toNat : Int) := by omega
        clear hd h1
        go_wp2
        go_quiet (fail)
        go_wp2
        go_ret
        exact ⟨by rw [H1.out]; rfl, below_drewN (below_drewN (Below.refl _ _) _) _⟩
      · have k1 : ¬ (a[q].toNat : Int) < (b[q].toNat : Int) := by omega
        by_cases h2 : b[q].toNat < a[q].toNat
        · have H1 : Hid (ordL a.data.toList b.data.toList = 1) := by unfold Hid; rw [HQ.out, hd, if_neg h1, if_pos h2]
          have k2 : (b[q].toNat : Int) < (a[q].toNat : Int) := by omega
          clear hd h1 h2
          go_wp2
          go_quiet (fail)
          go_wp2
          go_quiet (fail)
          go_wp2
          go_ret
          exact ⟨by rw [H1.out]; rfl, below_drewN (below_drewN (below_drewN (Below.refl _ _) _) _) _⟩
        · have H1 : Hid (ordL a.data.toList b.data.toList = ordL (a.data.toList.drop (q + 1)) (b.data.toList.drop (q + 1))) := by unfold Hid; rw [HQ.out, hd, if_neg h1, if_neg h2]
          have k2 : ¬ (b[q].toNat : Int) < (a[q].toNat : Int) := by omega
          clear hd h1 h2
          go_wp2
          go_quiet (fail)
          go_wp2
          go_quiet (fail)
          go_wp2
          go_roundw
          case rel => exact ⟨q + 1, _, by omega, by omega, by go_num, rfl, H1⟩
          case measure => simp [intOf]; omega
    · have hd := ordL_end a b q hqa hqb (by omega)
      have H1 : Hid (ordL a.data.toList b.data.toList = if a.size < b.size then -1 else if b.size < a.size then 1 else 0) := by unfold Hid; rw [HQ.out, hd]
      have hE := below_drewN (Below.refl w.heap.size w) n
      clear hd
      by_cases ha' : q < a.size
      · have hb' : ¬ (q : Int) < b.size := by omega
        have ha2 : (q : Int) < a.size := by omega
        have s1 : ¬ (a.size : Int) < b.size := by omega
        have s2 : (b.size : Int) < a.size := by omega
        have H2 : Hid (ordL a.data.toList b.data.toList = 1) := by unfold Hid; rw [H1.out, if_neg (by omega), if_pos (by omega)]
        clear hl
        go_wp2
        go_ret
        exact ⟨by rw [H2.out]; rfl, hE⟩
      · have ha2 : ¬ (q : Int) < a.size := by omega
        by_cases hs : a.size < b.size
        · have s1 : (a.size : Int) < b.size := by omega
          have H2 : Hid (ordL a.data.toList b.data.toList = -1) := by unfold Hid; rw [H1.out, if_pos hs]
          clear hl hs
          go_wp2
          go_ret
          exact ⟨by rw [H2.out]; rfl, hE⟩
        · have s1 : ¬ (a.size : Int) < b.size := by omega
          have s2 : ¬ (b.size : Int) < a.size := by omega
          have H2 : Hid (ordL a.data.toList b.data.toList = 0) := by unfold Hid; rw [H1.out, if_neg hs, if_neg (by omega)]
          clear hl hs
          go_wp2
          go_ret
          exact ⟨by rw [H2.out]; rfl, hE⟩
end Go.Proofs.YthinpbdbhijbgaaGreatDoor
namespace Go.Proofs.YthinpbdbhijbgaaGreatDoor
open Go.RowKit
variable {F : Fence} {n : Nat} {P : Program}

/-- A record of a loop over a function, or its block for deferred calls. -/
def recB : Obj → Bool
  | .loop _ => true
  | .deferred _ => true
  | _ => false

/-- All is as it was but such records from block B on; the rest is new. -/
structure Turn (B : Nat) (W W' : World) : Prop where
  os : W'.os = W.os
  tape : W'.tape = W.tape
  output : W'.output = W.output
  size : W.heap.size ≤ W'.heap.size
  same : ∀ (k : Nat) (o : Obj), W.heap[k]? = some o → (k < B ∨ recB o = false) → W'.heap[k]? = some o
theorem Turn.refl (B : Nat) (W : World) : Turn B W W := ⟨rfl, rfl, rfl, Nat.le_refl _, fun _ _ h _ => h⟩
theorem Turn.trans {B : Nat} {X Y Z : World} (h : Turn B X Y) (k : Turn B Y Z) : Turn B X Z :=
  ⟨k.os.trans h.os, k.tape.trans h.tape, k.output.trans h.output, Nat.le_trans h.size k.size, fun i o hi ho => k.same i o (h.same i o hi ho) ho⟩
theorem Turn.of_ext {B : Nat} {W W' : World} (h : Ext W W') : Turn B W W' :=
  ⟨h.os, h.tape, h.output, h.size, fun k o hk _ => (h.block k (Array.getElem?_eq_some_iff.1 hk).1).trans hk⟩
theorem Turn.putObj {B r : Nat} {W : World} {o : Obj} (o' : Obj) (hB : B ≤ r) (h : W.heap[r]? = some o) (hr : recB o = true) : Turn B W (W.putObj r o') :=
  ⟨rfl, rfl, rfl, by simp, fun k o'' hk ho => by
    by_cases e : k = r
    · subst e
      rw [h] at hk
      cases hk
      rcases ho with ho | ho
      · omega
      · rw [hr] at ho; cases ho
    · exact (World.putObj_heap_other e).trans hk⟩
theorem Turn.below {B B' : Nat} {W W' : World} (h : Turn B W W') (hB : B' ≤ B) (hs : B' ≤ W.heap.size) : Below B' W W' :=
  ⟨h.os, h.tape, h.output, h.size, fun k hk => by
    have hk' : k < W.heap.size := by omega
    rw [h.same k _ (Array.getElem?_eq_getElem hk') (.inl (by omega)), Array.getElem?_eq_getElem hk']⟩

/-- The records from block B on are as they were. -/
structure KeepsRec (B : Nat) (W W' : World) : Prop where
  size : W.heap.size ≤ W'.heap.size
  same : ∀ (k : Nat) (o : Obj), B ≤ k → W.heap[k]? = some o → recB o = true → W'.heap[k]? = some o
theorem KeepsRec.refl (B : Nat) (W : World) : KeepsRec B W W := ⟨Nat.le_refl _, fun _ _ _ h _ => h⟩
theorem KeepsRec.trans {B : Nat} {X Y Z : World} (h : KeepsRec B X Y) (k : KeepsRec B Y Z) : KeepsRec B X Z :=
  ⟨Nat.le_trans h.size k.size, fun i o hB hi ho => k.same i o hB (h.same i o hB hi ho) ho⟩
theorem KeepsRec.of_ext {B : Nat} {W W' : World} (h : Ext W W') : KeepsRec B W W' := ⟨h.size, fun k _ _ hk _ => (h.block k (Array.getElem?_eq_some_iff.1 hk).1).trans hk⟩

/-- How the body of a round may be left. -/
def tellPost {α : Type} (B : Nat) (Keep : World → World → Prop) (I : List α → World → Prop) (Ix : Code → List α → World → Prop) (xs : List α) (W : World) : Exit → Act → World → Prop
  | .normal, _, W' => KeepsRec B W W' ∧ Keep W W' ∧ I xs W'
  | .ret, _, W' => KeepsRec B W W' ∧ Ix .ret xs W'
  | .exit id, _, W' => KeepsRec B W W' ∧ Ix (.exit id) xs W'
  | .goto t, _, W' => KeepsRec B W W' ∧ Ix (.goto t) xs W'
  | .panic _, _, _ => False
  | .outgrown, _, _ => False

/-- What a function that is ranged over does: gf with what it has captured. -/
def Tells {α : Type} (F : Fence) (n : Nat) (P : Program) (gf : Nat) (lb : Array Value) (encs : α → Array Value) (G : α → World → Prop) (Keep : World → World → Prop) (Safe : World → Nat → Prop) (S Sp : List α → Prop) (w : World) : Prop :=
  ∀ (l : Nat) (J Jx : List α → World → Prop) (W : World), Below w.heap.size w W → (∀ k, k < w.heap.size → Safe w k → Safe W k) →
    (∀ pre X Y, J pre X → Ext X Y → J pre Y ∧ (∀ k, Safe X k → Safe Y k) ∧ ∀ k, X.heap.size ≤ k → Safe Y k) →
    (∀ pre x W1, Sp (pre ++ [x]) → J pre W1 → G x W1 → YieldAt F (n - 1) P l (encs x) W1 fun e W' =>
      (e = .returned (.bool true) ∧ J (pre ++ [x]) W' ∧ Keep W1 W') ∨ (e = .returned (.bool false) ∧ Jx (pre ++ [x]) W')) →
    J [] W →
    CallsIn F n P gf (#[.func (.yield l) #[] #[]] ++ lb) W fun e W' => (∃ v, e = .returned v) ∧ ((∃ xs, S xs ∧ J xs W') ∨ (∃ pre, Sp pre ∧ Jx pre W'))

theorem wpIn_tells {α : Type} {g : Operand} {ps : Array Tmp} {assign body : Code} {Q : Exit → Act → World → Prop} {a : Act} {w : World}
    (hro : F.round = none) (h1 : 1 ≤ n) {gf : Nat} {lb : Array Value} (hg : a.eval g = .func (.func gf) #[] lb) (hFg : F.fn gf) (eg : ∀ args w, (callFunc gf args).run P w = .ok (.enter gf args) w)
    {encs : α → Array Value} {G : α → World → Prop} {Keep : World → World → Prop} {Safe : World → Nat → Prop} {S Sp : List α → Prop}
    (hseq : Tells F (n - 1) P gf lb encs G Keep Safe S Sp w) (hps : ∀ x, (encs x).size = ps.size)
    (I : List α → World → Prop) (Ix : Code → List α → World → Prop) (Ax : α → Act → World → Prop)
    (hKeep : ∀ A X Y B, Turn w.heap.size A X → Keep X Y → Turn w.heap.size Y B → Keep A B)
    (hI : ∀ pre X Y, I pre X → Turn w.heap.size X Y → I pre Y ∧ (∀ k, Safe X k → Safe Y k) ∧ ∀ k, X.heap.size ≤ k → Safe Y k)
    (hIx : ∀ c pre X Y, Ix c pre X → Turn w.heap.size X Y → Ix c pre Y)
    (hG : ∀ x X Y, G x X → Turn w.heap.size X Y → G x Y)
    (hAx : ∀ x a' X Y, Ax x a' X → Turn w.heap.size X Y → Ax x a' Y)
    (h0 : I [] w)
    (hassign : ∀ (l : Nat) (pre : List α) (x : α) (W : World) (K : Act → World → Prop), I pre W → G x W → (∀ a' W', Ext W W' → Ax x a' W' → K a' W') →
      assign.wpIn (F.inRound l) (n - 1 - 1) P (Exit.then K (fun _ _ _ => False)) { tmps := (ps.zip (encs x)).foldl (fun t (p, v) => t.setIfInBounds p v) a.tmps, defers := [] } W)
    (hbody : ∀ (l : Nat) (pre : List α) (x : α) (a' : Act) (W : World), w.heap.size ≤ l → (∃ r, W.heap[l]? = some (.loop r)) → Sp (pre ++ [x]) → I pre W → G x W → Ax x a' W → body.wpIn (F.inRound l) (n - 1 - 1) P (tellPost w.heap.size Keep I Ix (pre ++ [x]) W) a' W)
    (hdone : ∀ (D : Nat) (xs : List α) (W : World), w.heap.size ≤ D → S xs → I xs W → W.heap[D]? = some (.deferred (some [])) → Q .normal { a with defers := { target := .collected D, args := #[] } :: a.defers } W)
    (hstop : ∀ (D : Nat) (c : Code) (pre : List α) (W : World), w.heap.size ≤ D → Sp pre → Ix c pre W → W.heap[D]? = some (.deferred (some [])) → c.wpIn F n P Q { a with defers := { target := .collected D, args := #[] } :: a.defers } W) :
    (Code.rangeFunc g ps assign body).wpIn F n P Q a w := by
  refine wpIn_rangeFunc fun fn hfn => ?_
  rw [hro]
  obtain ⟨rec, hrec⟩ : ∃ rec : LoopState → Option Code → Loop, rec = fun st pe => { state := st, pending := pe, fn, tmps := a.tmps, params := ps, assign, body, defers := w.heap.size } := ⟨_, rfl⟩
  obtain ⟨W1, hW1⟩ : ∃ W1, (w.alloc (.deferred (some []))).alloc (.loop (rec .ready none)) = W1 := ⟨_, rfl⟩
  have hE1 : Ext w W1 := by rw [← hW1]; exact (Ext.alloc w _).trans (Ext.alloc _ _)
  have hL1 : W1.heap[w.heap.size + 1]? = some (.loop (rec .ready none)) := by
    rw [← hW1]; have := World.alloc_heap_new (w.alloc (.deferred (some []))) (.loop (rec .ready none)); rwa [World.size_alloc] at this
  have hD1 : W1.heap[w.heap.size]? = some (.deferred (some [])) := by
    rw [← hW1]; exact (Below.heap_alloc _ _ _ (by simp)).trans (World.alloc_heap_new w _)
  have hI1 := hI [] w W1 h0 (Turn.of_ext hE1)
  refine ⟨w.heap.size + 1, [{ target := .collected w.heap.size, args := #[] }], W1, { target := .fn (.func gf) lb, args := #[.func (.yield (w.heap.size + 1)) #[] #[]] }, W1, gf,
    #[.func (.yield (w.heap.size + 1)) #[] #[]] ++ lb, W1, ?_, ?_, ?_, ?_, fun _ => h1, ?_⟩
  · rw [← hW1, hrec]; exact run_enterLoop_outer _ _ _ _ _
  · simp only [resolve, hg]
    simp [go_sem]
  · intro f' hf'; simp [Target.leads] at hf'; subst hf'; exact hFg
  · simp [invoke, go_sem, eg]
  refine (hseq (w.heap.size + 1)
      (fun pre W => I pre W ∧ W.heap[w.heap.size + 1]? = some (.loop (rec .ready none)) ∧ W.heap[w.heap.size]? = some (.deferred (some [])))
      (fun pre W => ∃ c, Ix c pre W ∧ W.heap[w.heap.size + 1]? = some (.loop (rec .done (some c))) ∧ W.heap[w.heap.size]? = some (.deferred (some [])))
      W1 hE1 (fun k _ h => hI1.2.1 k h) (fun pre X Y hJ hE => ?_) ?_ ⟨hI1.1, hL1, hD1⟩).mono ?_
  · obtain ⟨h2, h3, h4⟩ := hJ
    have := hI pre X Y h2 (Turn.of_ext hE)
    exact ⟨⟨this.1, (hE.block _ (Array.getElem?_eq_some_iff.1 h3).1).trans h3, (hE.block _ (Array.getElem?_eq_some_iff.1 h4).1).trans h4⟩, this.2⟩
  · rintro pre x W hSp ⟨hi, hl, hk⟩ hGx
    have hlt : w.heap.size + 1 < W.heap.size := (Array.getElem?_eq_some_iff.1 hl).1
    have hy := run_yield (P := P) (args := encs x) hl (by rw [hrec]; exact hps x)
    rw [hrec] at hy
    refine ⟨fn, _, assign, body, hy, roundIn_of_wpIn hfn (hassign _ pre x W _ hi hGx ?_)⟩
    clear hy
    intro a' Wa hEa hax
    have hla := (hEa.block _ hlt).trans hl
    have hka := (hEa.block w.heap.size (by omega)).trans hk
    have hlta : w.heap.size + 1 < Wa.heap.size := (Array.getElem?_eq_some_iff.1 hla).1
    refine ⟨_, run_beginRound hla (by rw [hrec]), ?_⟩
    obtain ⟨Wb, hWb⟩ : ∃ Wb, Wa.putObj (w.heap.size + 1) (.loop { rec .ready none with state := .busy }) = Wb := ⟨_, rfl⟩
    rw [hWb]
    have hTb : Turn w.heap.size Wa Wb := by rw [← hWb]; exact Turn.putObj _ (by omega) hla rfl
    have hTab : Turn w.heap.size W Wb := (Turn.of_ext hEa).trans hTb
    have hlb : Wb.heap[w.heap.size + 1]? = some (.loop { rec .ready none with state := .busy }) := by rw [← hWb]; exact World.putObj_heap_same hlta
    have hkb : Wb.heap[w.heap.size]? = some (.deferred (some [])) := by rw [← hWb]; exact (World.putObj_heap_other (by omega)).trans hka
    refine wpIn_mono (hbody _ pre x a' Wb (by omega) ⟨_, hlb⟩ hSp (hI pre W Wb hi hTab).1 (hG x W Wb hGx hTab) (hAx x a' Wa Wb hax hTb)) ?_
    have fin : ∀ (jump : Option Code) (W3 : World), KeepsRec w.heap.size Wb W3 →
        (Instr.endRound (w.heap.size + 1) jump).run P W3 = .ok (.bool jump.isNone) (W3.putObj (w.heap.size + 1) (.loop (rec (if jump.isNone then .ready else .done) jump))) ∧
        Turn w.heap.size W3 (W3.putObj (w.heap.size + 1) (.loop (rec (if jump.isNone then .ready else .done) jump))) ∧
        (W3.putObj (w.heap.size + 1) (.loop (rec (if jump.isNone then .ready else .done) jump))).heap[w.heap.size + 1]? = some (.loop (rec (if jump.isNone then .ready else .done) jump)) ∧
        (W3.putObj (w.heap.size + 1) (.loop (rec (if jump.isNone then .ready else .done) jump))).heap[w.heap.size]? = some (.deferred (some [])) := fun jump W3 hk3 => by
      have hl3 := hk3.same _ _ (by omega) hlb rfl
      have hk3' := hk3.same _ _ (Nat.le_refl _) hkb rfl
      have := run_endRound (P := P) jump hl3
      rw [hrec] at this ⊢
      exact ⟨this, Turn.putObj _ (by omega) hl3 rfl, World.putObj_heap_same (Array.getElem?_eq_some_iff.1 hl3).1, (World.putObj_heap_other (by omega)).trans hk3'⟩
    rintro e a3 W3 hp
    cases e with
    | normal =>
      obtain ⟨hk3, hkp3, hi3⟩ := hp
      obtain ⟨hr, hT, hl4, hk4⟩ := fin none W3 hk3
      exact ⟨_, _, hr, .inl ⟨rfl, ⟨(hI _ _ _ hi3 hT).1, hl4, hk4⟩, hKeep _ _ _ _ hTab hkp3 hT⟩⟩
    | ret =>
      obtain ⟨hk3, hi3⟩ := hp
      obtain ⟨hr, hT, hl4, hk4⟩ := fin (some .ret) W3 hk3
      exact ⟨_, _, hr, .inr ⟨rfl, .ret, hIx _ _ _ _ hi3 hT, hl4, hk4⟩⟩
    | exit id =>
      obtain ⟨hk3, hi3⟩ := hp
      obtain ⟨hr, hT, hl4, hk4⟩ := fin (some (.exit id)) W3 hk3
      exact ⟨_, _, hr, .inr ⟨rfl, .exit id, hIx _ _ _ _ hi3 hT, hl4, hk4⟩⟩
    | goto t =>
      obtain ⟨hk3, hi3⟩ := hp
      obtain ⟨hr, hT, hl4, hk4⟩ := fin (some (.goto t)) W3 hk3
      exact ⟨_, _, hr, .inr ⟨rfl, .goto t, hIx _ _ _ _ hi3 hT, hl4, hk4⟩⟩
    | panic ch => exact hp.elim
    | outgrown => exact hp.elim
  · rintro e W2 ⟨⟨v, rfl⟩, (⟨xs, hS, hi, hl, hk⟩ | ⟨pre, hSp, c, hi, hl, hk⟩)⟩
    · refine ⟨none, _, by have := run_endLoop (P := P) hl (by rw [hrec]; simp); rw [hrec] at this; exact this, ?_⟩
      exact hdone _ xs _ (Nat.le_refl _) hS (hI xs _ _ hi (Turn.putObj _ (by omega) hl rfl)).1 ((World.putObj_heap_other (by omega)).trans hk)
    · refine ⟨some c, _, by have := run_endLoop (P := P) hl (by rw [hrec]; simp); rw [hrec] at this; exact this, ?_⟩
      exact hstop _ c pre _ (Nat.le_refl _) hSp (hIx c pre _ _ hi (Turn.putObj _ (by omega) hl rfl)) ((World.putObj_heap_other (by omega)).trans hk)
end Go.Proofs.YthinpbdbhijbgaaGreatDoor
namespace Go.Proofs.YthinpbdbhijbgaaGreatDoor
open Go.RowKit Go.Maps Go.Sort Go.Shelf
set_option maxHeartbeats 2000000

theorem bytes_lt : ∀ (a b : List UInt8), bytesBefore a b = true ↔ a < b
  | [], [] => by simp [bytesBefore]
  | [], _ :: _ => by simp [bytesBefore]
  | _ :: _, [] => by simp [bytesBefore]
  | x :: a, y :: b => by
    simp only [bytesBefore, Bool.or_eq_true, Bool.and_eq_true, decide_eq_true_eq, beq_iff_eq, List.cons_lt_cons_iff, bytes_lt a b]

theorem sortedKeys {l ss : List (List UInt8)} (hs : l.Pairwise fun a b => bytesBefore a b = true) (hp : ss.Perm l) : ss.mergeSort (fun x y => decide (x ≤ y)) = l := by
  have h1 : (ss.mergeSort (fun x y => decide (x ≤ y))).Perm l := (List.mergeSort_perm ss _).trans hp
  have h2 : (ss.mergeSort (fun x y => decide (x ≤ y))).Pairwise (fun x y => x ≤ y) := by
    have := List.pairwise_mergeSort (le := fun x y : List UInt8 => decide (x ≤ y)) (fun a b c h1 h2 => by
      simp only [decide_eq_true_eq] at h1 h2 ⊢; exact List.le_trans h1 h2) (fun a b => by
      simp only [Bool.or_eq_true, decide_eq_true_eq]; exact List.le_total a b) ss
    exact this.imp fun h => by simpa using h
  have h3 : l.Pairwise (fun x y => x ≤ y) := hs.imp fun h => List.le_of_lt ((bytes_lt _ _).1 h)
  exact h1.eq_of_pairwise (fun a b _ _ h1 h2 => List.le_antisymm h1 h2) h2 h3
/-- A new slice that holds these texts. -/
def SortedOut (l : List Key) (w : World) (e : Ending) (w' : World) : Prop :=
  ∃ v, e = .returned v ∧ w'.ownsRow w.heap.size 9 1 v l.length (l.map encStr) ∧ (v = .slice none 0 0 ↔ l = []) ∧ Ext w w'

theorem sortsS (m : Nat) : AnyZ.SortsIn Tryz.prog Tryz.sortedS_ren Fence.wide m :=
  ⟨fun blk off cap ss W hH hblk hsz => callsIn_wide.2 (AnyM.slices_Sort_string Tryz.sortS blk off cap ss W hH hblk hsz),
   fun p cap W => callsIn_wide.2 (AnyM.slices_Sort_string_none Tryz.sortS p cap W)⟩

theorem keysN_any (mb : Option Nat) (W : World) : Calls Tryz.prog 196 #[.map mb] W fun e w' => e = .returned (.func (.func 244) #[] #[.pointer (some ⟨W.heap.size, 0, none⟩)]) ∧ w' = W.alloc (.cells #[.map mb] 120) :=
  (callsIn_wide (n := 5)).1 (AnyZ.keys_in Tryz.keysN Fence.wide 5 trivial rfl mb W)

theorem sortedN_own {H : Type} (b nn : Nat) (D0 : DataW H) (R : Value → Option (DataW H × List MemPlace)) (w : World) (hown : w.ownsMap Tryz.prog 9 R b nn D0) (hmax : Maps.size D0 ≤ maxLen) (hbytes : Maps.size D0 * 16 ≤ 140737488355328) :
    CallsIn Fence.wide 5 Tryz.prog 140 #[.func (.func 244) #[] #[.pointer (some ⟨w.heap.size, 0, none⟩)]] (w.alloc (.cells #[.map (some b)] 120)) fun e w' => ∃ (v : Value) (ss : List (List UInt8)), e = .returned v ∧ ss.Perm (strKeys D0) ∧
      w'.ownsRow (w.alloc (.cells #[.map (some b)] 120)).heap.size 9 1 v ss.length ((ss.mergeSort (fun x y => decide (x ≤ y))).map encStr) ∧ (v = .slice none 0 0 ↔ ss = []) ∧ Below (w.alloc (.cells #[.map (some b)] 120)).heap.size (w.alloc (.cells #[.map (some b)] 120)) w' := by
  have hbl := hown.lt
  have hseq : SeqGives Fence.wide 2 Tryz.prog 244 #[.pointer (some ⟨w.heap.size, 0, none⟩)] encStr (fun ss => ss.Perm (strKeys D0)) (Maps.size D0) (w.alloc (.cells #[.map (some b)] 120)) :=
    AnyZ.keys_gives (ρ := Tryz.keysN_ren) { Tryz.keysN with } Fence.wide _ trivial rfl (by omega) w.heap.size b nn D0 _ (by simp) (by simp) (by
      obtain ⟨es, clock, hb, Ft, hs, hD⟩ := hown
      exact ⟨es, clock, (Below.heap_alloc _ _ b hbl).trans hb, Ft, hs, hD⟩)
  exact AnyZ.sorted_in Tryz.sortedS Fence.wide 5 trivial trivial trivial trivial rfl (by omega) (sortsS _) (enters_of Tryz.func189 (by kernel_rfl) rfl) 244 #[.pointer (some ⟨w.heap.size, 0, none⟩)] trivial (enters_of Tryz.func244 (by kernel_rfl) rfl) _ _ hmax hbytes _ hseq

theorem sortedN_any (b : Nat) (m : List (Key × Value)) (w : World) (h : SMap Tryz.prog 9 w b m) (hl : m.length * 16 ≤ 140737488355328) :
    Calls Tryz.prog 140 #[.func (.func 244) #[] #[.pointer (some ⟨w.heap.size, 0, none⟩)]] (w.alloc (.cells #[.map (some b)] 120)) (SortedOut (m.map (·.1)) (w.alloc (.cells #[.map (some b)] 120))) := by
  have hsz : Maps.size (kvD m) = m.length := by simp [kvD, Maps.size]
  have hk : strKeys (kvD m) = m.map (·.1) := by simp [kvD, strKeys, strOf]
  have hs : (m.map (·.1)).Pairwise fun a b => bytesBefore a b = true := by rw [List.pairwise_map]; exact SMap.sorted (Maps.string_keyed strT) h
  refine ((callsIn_wide (n := 5)).1 (sortedN_own b _ (kvD m) Rv w h (by rw [hsz]; unfold maxLen; omega) (by rw [hsz]; exact hl))).mono fun e w' hq => ?_
  obtain ⟨v, ss, rfl, hp, hrow, hnil, hb⟩ := hq
  rw [hk] at hp
  rw [sortedKeys hs hp, hp.length_eq] at hrow
  exact ⟨v, rfl, hrow, hnil.trans ⟨fun e => by rw [e] at hp; exact hp.nil_eq.symm, fun e => by rw [e] at hp; exact hp.eq_nil⟩, hb⟩

theorem tsorted_any (S : Nat → Prop) (w : World) (bt : Nat) (M : List (Key × Nd)) (N : Nat) (hT : TreeAt S w bt M N) (hN : M.length * 16 ≤ 140737488355328) :
    Calls Tryz.prog 152 #[.pointer (some ⟨bt, 0, none⟩)] w (SortedOut (M.map (·.1)) w) := by
  obtain ⟨bn, bk, K, hd, hNd, hKd⟩ := hT
  obtain ⟨m, hm, hr⟩ := hNd.ex
  have hx := TreeAt.box hd
  have C1 := keysN_any (some bn) w
  have C2 := sortedN_any bn m w hm (by rw [← hr.length]; exact hN)
  have HK := Lib.hid hr.keys
  have C1 := Lib.hid C1
  have C2 := Lib.hid C2
  unfold Box treeC at hx
  clear hm hr hd hNd hKd
  go_enter Tryz.func152, Tryz.ntmps152
  go_wp2_with fail
  refine C1.out.mono ?_
  rintro e w1 ⟨rfl, rfl⟩
  clear C1
  go_wp2_with fail
  refine C2.out.mono ?_
  rintro e w2 ⟨v, rfl, hrow, hnil, hE⟩
  have hfin : SortedOut (M.map (·.1)) w (.returned v) w2 := by
    rw [HK.out]
    exact ⟨v, rfl, ownsRow_base_a hrow (by simp), hnil, (Ext.alloc w _).trans hE⟩
  have HFIN := Lib.hid hfin
  clear C2 hrow hnil hE hfin
  go_wp2
  go_ret
  exact HFIN.out
end Go.Proofs.YthinpbdbhijbgaaGreatDoor
namespace Go.Proofs.YthinpbdbhijbgaaGreatDoor
open Go.RowKit Go.Sort
set_option maxHeartbeats 2000000
set_option maxRecDepth 100000

end Go.Proofs.YthinpbdbhijbgaaGreatDoor
