/- The walks of the document's identities. The walks of the document's identities, on: places, numbers. The walks of the document's identities, on: addresses, names, identities. The walks of arborref08.Ids and Right. The walks of session.Clamp and Right. The walk of session.New. The walk of session's Open: a session comes into a table, or is refused. -/
import Derived.Test.YtclekhjnnljjlaaGreatDoorJFuzzyWhole2
import Derived.Test.YtclekhjnnljjlaaGreatDoorJFuzzyWhole11
import Derived.Test.YtclekhjnnljjlaaGreatDoorJFuzzyWhole1
import Derived.Test.YtclekhjnnljjlaaGreatDoorJFuzzyWhole3
import Derived.Test.YtclekhjnnljjlaaGreatDoorJFuzzyWhole10
import Derived.Deep.QuietTactic
import Derived.Test.YtclekhjnnljjlaaGreatDoorJFuzzyWhole9
namespace Go.Proofs.YtclekhjnnljjlaaGreatDoor
open Go.RowKit
set_option maxHeartbeats 1000000
set_option maxRecDepth 100000

theorem all_take (s : ByteArray) (q : Nat) (h : q < s.size) : (s.data.toList.take (q + 1)).all okB = ((s.data.toList.take q).all okB && okB (s[q]'h)) := by
  have hl : q < s.data.toList.length := by simpa using h
  rw [List.take_succ_eq_append_getElem hl, List.all_append, List.all_cons, List.all_nil, Bool.and_true]
  rfl
theorem all_take_false (s : ByteArray) (q : Nat) (h : q < s.size) (hb : okB (s[q]'h) = false) : s.data.toList.all okB = false := by
  have h1 := all_take s q h
  rw [hb, Bool.and_false] at h1
  cases ha : s.data.toList.all okB with
  | false => rfl
  | true =>
    rw [List.all_eq_true] at ha
    rw [← Bool.not_eq_true, List.all_eq_true] at h1
    exact absurd (fun x hx => ha x (List.mem_of_mem_take hx)) h1
theorem okB_iff (b : UInt8) : okB b = true ↔ 33 ≤ b.toNat ∧ b.toNat ≠ 127 ∧ b.toNat ≠ 44 := by
  unfold okB
  simp only [Bool.not_eq_true', Bool.or_eq_false_iff, decide_eq_false_iff_not, beq_eq_false_iff_ne]
  omega

theorem rright6_any (s : ByteArray) (w : World) (hs : s.size ≤ 9223372036854775800) : Calls Tryz.prog 141 #[.string s] w fun e w' => e = .returned (.bool (textOk s)) ∧ w = w' := by
  by_cases h0 : s.size = 0
  · have hv : Hid (textOk s = false) := by unfold Hid textOk; simp [h0]
    go_enter Tryz.func141, Tryz.ntmps141
    go_wp2
    go_ret
    exact ⟨by rw [hv.out]; rfl, rfl⟩
  by_cases h1 : 256 < s.size
  · have hv : Hid (textOk s = false) := by unfold Hid textOk; simp; omega
    go_enter Tryz.func141, Tryz.ntmps141
    go_wp2
    go_ret
    exact ⟨by rw [hv.out]; rfl, rfl⟩
  have C1 := utf8_any s w hs
  by_cases h2 : Lib.validD s.data.toList = false
  · have hv : Hid (textOk s = false) := by unfold Hid textOk; simp [h2]
    rw [h2] at C1
    clear h2
    go_enter Tryz.func141, Tryz.ntmps141
    go_wp2_with fail
    refine C1.mono ?_
    rintro e w1 ⟨rfl, rfl⟩
    go_wp2
    go_ret
    exact ⟨by rw [hv.out]; rfl, rfl⟩
  have h2 : Lib.validD s.data.toList = true := by simpa using h2
  have hv : Hid (textOk s = s.data.toList.all okB) := by
    unfold Hid textOk
    have a1 : decide (1 ≤ s.size) = true := decide_eq_true (by omega)
    have a2 : decide (s.size ≤ 256) = true := decide_eq_true (by omega)
    rw [h2, a1, a2]; simp
  rw [h2] at C1
  clear h2
  go_enter Tryz.func141, Tryz.ntmps141
  go_wp2_with fail
  refine C1.mono ?_
  rintro e w1 ⟨rfl, rfl⟩
  clear C1
  go_wp2
  go_loop [3] (fun i => ∃ q : Nat, i = .int .i64 q ∧ q ≤ s.size ∧ Hid ((s.data.toList.take q).all okB = true)) (fun i => s.size - (intOf i).toNat)
  case atStart => exact ⟨0, rfl, Nat.zero_le _, rfl⟩
  case round =>
    obtain ⟨q, rfl, hq, HA⟩ := hrel
    by_cases hlt : q < s.size
    · have h3 := all_take s q hlt
      by_cases hb : okB (s[q]'hlt) = true
      · have HN : Hid ((s.data.toList.take (q + 1)).all okB = true) := by unfold Hid; rw [h3, HA.out, hb]; rfl
        have hc : 33 ≤ ((s[q]'hlt).toNat : Int) ∧ (((s[q]'hlt).toNat : Int) == 127) = false ∧ (((s[q]'hlt).toNat : Int) == 44) = false := by
          rw [okB_iff] at hb
          simp only [beq_eq_false_iff_ne]
          omega
        obtain ⟨hc1, hc2, hc3⟩ := hc
        clear h3 hb HA
        go_wp2
        go_round
        case rel => exact ⟨q + 1, by go_num, by omega, HN⟩
        case measure => simp [intOf]; omega
      · have hb : okB (s[q]'hlt) = false := by simpa using hb
        have H2 : Hid (textOk s = false) := by unfold Hid; rw [hv.out]; exact all_take_false s q hlt hb
        have hc : ((s[q]'hlt).toNat : Int) < 33 ∨ (¬ ((s[q]'hlt).toNat : Int) < 33 ∧ (((s[q]'hlt).toNat : Int) == 127) = true) ∨ (¬ ((s[q]'hlt).toNat : Int) < 33 ∧ (((s[q]'hlt).toNat : Int) == 127) = false ∧ (((s[q]'hlt).toNat : Int) == 44) = true) := by
          unfold okB at hb
          simp only [Bool.not_eq_false', Bool.or_eq_true, decide_eq_true_eq, beq_iff_eq] at hb
          simp only [beq_eq_false_iff_ne, beq_iff_eq]
          omega
        clear h3 hb HA
        rcases hc with hc1 | ⟨hc1, hc2⟩ | ⟨hc1, hc2, hc3⟩
        all_goals
          go_wp2
          go_ret
          exact ⟨by rw [H2.out]; rfl, rfl⟩
    · have H2 : Hid (textOk s = true) := by
        unfold Hid
        have e : s.data.toList.take q = s.data.toList := List.take_of_length_le (by simpa using (show s.size ≤ q by omega))
        rw [hv.out, ← e]; exact HA.out
      clear HA
      go_wp2
      go_ret
      exact ⟨by rw [H2.out]; rfl, rfl⟩
end Go.Proofs.YtclekhjnnljjlaaGreatDoor
namespace Go.Proofs.YtclekhjnnljjlaaGreatDoor
open Go.RowKit Go.Lib
set_option maxHeartbeats 2000000
set_option maxRecDepth 100000

/-- The place of the first byte of that kind, from a place on. -/
def cutAt (s : ByteArray) (q : Nat) (c : UInt8) : Nat := q + ((s.data.toList.drop q).takeWhile (· != c)).length
theorem drop_at (s : ByteArray) (q : Nat) (h : q < s.size) : s.data.toList.drop q = s[q]'h :: s.data.toList.drop (q + 1) := by
  have hl : q < s.data.toList.length := by simpa using h
  rw [List.drop_eq_getElem_cons hl]; rfl
theorem cutAt_hit (s : ByteArray) (q : Nat) (c : UInt8) (h : q < s.size) (hc : s[q]'h = c) : cutAt s q c = q := by
  unfold cutAt
  rw [drop_at s q h, List.takeWhile_cons, if_neg (by simpa using hc)]
  simp
theorem cutAt_miss (s : ByteArray) (q : Nat) (c : UInt8) (h : q < s.size) (hc : s[q]'h ≠ c) : cutAt s q c = cutAt s (q + 1) c := by
  unfold cutAt
  rw [drop_at s q h, List.takeWhile_cons, if_pos (by simpa using hc), List.length_cons]
  omega
theorem cutAt_end (s : ByteArray) (q : Nat) (c : UInt8) (h : s.size ≤ q) : cutAt s q c = q := by
  unfold cutAt
  rw [List.drop_eq_nil_of_le (by simpa using h)]
  simp
theorem cutAt_le (s : ByteArray) (q : Nat) (c : UInt8) (h : q ≤ s.size) : q ≤ cutAt s q c ∧ cutAt s q c ≤ s.size := by
  have h1 := (List.takeWhile_sublist (l := s.data.toList.drop q) (p := (· != c))).length_le
  have e : s.data.toList.length = s.size := Array.length_toList
  rw [List.length_drop] at h1
  unfold cutAt
  omega

theorem cut6_any (s : ByteArray) (p : Nat) (c : UInt8) (cn : Int) (hcn : cn = c.toNat) (w : World) (hs : s.size ≤ 9223372036854775800) (hp : p ≤ s.size) :
    Calls Tryz.prog 170 #[.string s, .int .i64 p, .int .u8 cn] w fun e w' => e = .returned (.int .i64 (cutAt s p c)) ∧ w = w' := by
  go_enter Tryz.func170, Tryz.ntmps170
  go_wp2
  go_loop [1] (fun i => ∃ q : Nat, i = .int .i64 q ∧ q ≤ s.size ∧ Hid (cutAt s q c = cutAt s p c)) (fun i => s.size - (intOf i).toNat)
  case atStart => exact ⟨p, rfl, hp, rfl⟩
  case round =>
    obtain ⟨q, rfl, hq, HA⟩ := hrel
    by_cases hlt : q < s.size
    · by_cases hc : s[q]'hlt = c
      · have H : Hid (cutAt s p c = q) := by unfold Hid; rw [← HA.out]; exact cutAt_hit s q c hlt hc
        have hb : (((s[q]'hlt).toNat : Int) != cn) = false := by rw [hcn, hc]; simp
        clear HA hc
        go_wp2
        go_ret
        exact ⟨by rw [H.out]; rfl, rfl⟩
      · have H : Hid (cutAt s (q + 1) c = cutAt s p c) := by unfold Hid; rw [← HA.out]; exact (cutAt_miss s q c hlt hc).symm
        have hb : (((s[q]'hlt).toNat : Int) != cn) = true := by
          rw [hcn]
          have : (s[q]'hlt).toNat ≠ c.toNat := fun e => hc (UInt8.toNat_inj.1 e)
          simp; omega
        clear HA hc
        go_wp2
        go_round
        case rel => exact ⟨q + 1, by go_num, by omega, H⟩
        case measure => simp [intOf]; omega
    · have H : Hid (cutAt s p c = q) := by unfold Hid; rw [← HA.out]; exact cutAt_end s q c (by omega)
      clear HA
      go_wp2
      go_ret
      exact ⟨by rw [H.out]; rfl, rfl⟩

theorem digs_take {l : List UInt8} {q m : Nat} {b : UInt8} (hm : digs 0 (l.take q) = some m) (hb : l[q]? = some b) : digs 0 (l.take (q + 1)) = if 48 ≤ b.toNat ∧ b.toNat ≤ 57 then some (m * 10 + (b.toNat - 48)) else none := by
  obtain ⟨hq, e⟩ := List.getElem?_eq_some_iff.1 hb
  rw [List.take_succ_eq_append_getElem hq, digs_append, hm, e]
  simp only [Option.bind_some, digs]
theorem digs_none {l : List UInt8} {q : Nat} (h : digs 0 (l.take q) = none) : digs 0 l = none := by
  rw [← List.take_append_drop q l, digs_append, h]; rfl

theorem rdec6_any (s : ByteArray) (most : Nat) (hm : most ≤ 999) (w : World) (hs : s.size ≤ 9223372036854775800) :
    Calls Tryz.prog 171 #[.string s, .int .i64 most] w fun e w' => e = .returned (.int .i64 (optI (decR s.data.toList most))) ∧ w = w' := by
  have hsz : s.data.toList.length = s.size := Array.length_toList
  by_cases h0 : s.size = 0
  · have H : Hid (decR s.data.toList most = none) := by unfold Hid decR; rw [if_pos (.inl (by omega))]
    go_enter Tryz.func171, Tryz.ntmps171
    go_wp2
    go_ret
    exact ⟨by rw [H.out]; rfl, rfl⟩
  by_cases h3 : 3 < s.size
  · have H : Hid (decR s.data.toList most = none) := by unfold Hid decR; rw [if_pos (.inr (.inl (by omega)))]
    go_enter Tryz.func171, Tryz.ntmps171
    go_wp2
    go_ret
    exact ⟨by rw [H.out]; rfl, rfl⟩
  have h00 : 0 < s.size := by omega
  have hhd : s.data.toList.head? = some (s[0]'h00) := by
    have := drop_at s 0 h00
    rw [List.drop_zero] at this
    rw [this]; rfl
  by_cases hz : 1 < s.size ∧ s[0]'h00 = 48
  · have H : Hid (decR s.data.toList most = none) := by
      unfold Hid decR
      rw [if_pos (.inr (.inr ⟨by omega, by rw [hhd, hz.2]⟩))]
    have hb : (((s[0]'h00).toNat : Int) == 48) = true := by rw [hz.2]; rfl
    have h1 : (1 : Int) < s.size := by omega
    clear hz hhd
    go_enter Tryz.func171, Tryz.ntmps171
    go_wp2
    go_ret
    exact ⟨by rw [H.out]; rfl, rfl⟩
  have HD : Hid (decR s.data.toList most = (digs 0 s.data.toList).bind fun n => if n ≤ most then some n else none) := by
    unfold Hid decR
    rw [if_neg]
    rintro (h | h | ⟨h1, h2⟩)
    · omega
    · omega
    · rw [hhd] at h2
      exact hz ⟨by omega, by simpa using h2⟩
  have hA : ((1 : Int) < s.size ∧ (((s[0]'h00).toNat : Int) == 48) = false) ∨ ¬ ((1 : Int) < s.size) := by
    by_cases h1 : 1 < s.size
    · have h2 : s[0]'h00 ≠ 48 := fun e => hz ⟨h1, e⟩
      have h4 : (s[0]'h00).toNat ≠ 48 := fun e => h2 (UInt8.toNat_inj.1 e)
      exact .inl ⟨by omega, by simp; omega⟩
    · exact .inr (by omega)
  have d1 : decide ((s.size : Int) < 1) = false := decide_eq_false (by omega)
  have d3 : decide (3 < (s.size : Int)) = false := decide_eq_false (by omega)
  have h3 : s.size ≤ 3 := by omega
  clear hz hhd
  rcases hA with ⟨h1, hb0⟩ | h1
  all_goals
    go_enter Tryz.func171, Tryz.ntmps171
    go_wp2
    go_loop [5, 6] (fun n i => ∃ q m : Nat, i = .int .i64 q ∧ q ≤ s.size ∧ n = .int .i64 m ∧ m < 10 ^ q ∧ Hid (digs 0 (s.data.toList.take q) = some m)) (fun _ i => s.size - (intOf i).toNat)
    case atStart => exact ⟨0, 0, rfl, Nat.zero_le _, rfl, by omega, rfl⟩
    case round =>
      obtain ⟨q, m, rfl, hq, rfl, hmq, HM⟩ := hrel
      by_cases hlt : q < s.size
      · have hbq : s.data.toList[q]? = some (s[q]'hlt) := by
          rw [List.getElem?_eq_getElem (by omega)]; rfl
        have hd := digs_take HM.out hbq
        have hm100 : m < 100 := Nat.lt_of_lt_of_le hmq (Nat.le_trans (Nat.pow_le_pow_right (by omega) (show q ≤ 2 by omega)) (by decide))
        by_cases hdig : 48 ≤ (s[q]'hlt).toNat ∧ (s[q]'hlt).toNat ≤ 57
        · rw [if_pos hdig] at hd
          have HN : Hid (digs 0 (s.data.toList.take (q + 1)) = some (m * 10 + ((s[q]'hlt).toNat - 48))) := hd
          have hp2 : m * 10 + ((s[q]'hlt).toNat - 48) < 10 ^ (q + 1) := by rw [Nat.pow_succ]; omega
          have hi1 : 48 ≤ ((s[q]'hlt).toNat : Int) ∧ ((s[q]'hlt).toNat : Int) ≤ 57 := by omega
          obtain ⟨hi1, hi2⟩ := hi1
          clear hd HM hbq hdig
          go_wp2
          go_round
          case rel => exact ⟨q + 1, m * 10 + ((s[q]'hlt).toNat - 48), by go_num, by omega, by go_num, hp2, HN⟩
          case measure => simp [intOf]; omega
        · rw [if_neg hdig] at hd
          have H : Hid (decR s.data.toList most = none) := by unfold Hid; rw [HD.out, digs_none hd]; rfl
          have hi : ((s[q]'hlt).toNat : Int) < 48 ∨ (¬ ((s[q]'hlt).toNat : Int) < 48 ∧ 57 < ((s[q]'hlt).toNat : Int)) := by omega
          clear hd HM hbq hdig
          rcases hi with hi | ⟨hi1, hi2⟩
          all_goals
            go_wp2
            go_ret
            exact ⟨by rw [H.out]; rfl, rfl⟩
      · have hq2 : s.data.toList.take q = s.data.toList := List.take_of_length_le (by omega)
        have HV : Hid (decR s.data.toList most = if m ≤ most then some m else none) := by
          have := HM.out
          rw [hq2] at this
          unfold Hid
          rw [HD.out, this]; rfl
        have hm1000 : m < 1000 := Nat.lt_of_lt_of_le hmq (Nat.le_trans (Nat.pow_le_pow_right (by omega) (show q ≤ 3 by omega)) (by decide))
        clear HM hq2
        by_cases hmm : m ≤ most
        · have H : Hid (decR s.data.toList most = some m) := by unfold Hid; rw [HV.out, if_pos hmm]
          clear HV HD
          go_wp2
          go_ret
          exact ⟨by rw [H.out]; rfl, rfl⟩
        · have H : Hid (decR s.data.toList most = none) := by unfold Hid; rw [HV.out, if_neg hmm]
          clear HV HD
          go_wp2
          go_ret
          exact ⟨by rw [H.out]; rfl, rfl⟩
end Go.Proofs.YtclekhjnnljjlaaGreatDoor
namespace Go.Proofs.YtclekhjnnljjlaaGreatDoor
open Go.RowKit Go.Lib
set_option maxHeartbeats 2000000
set_option maxRecDepth 100000

theorem ref_digest_any (s : ByteArray) (w : World) (hs : s.size ≤ 9223372036854775800) : Calls Tryz.prog 139 #[.string s] w fun e w' => e = .returned (.bool (textOk s && colon s)) ∧ w = w' := by
  have C1 := cut6_any s 0 58 58 rfl w hs (Nat.zero_le _)
  have C2 := rright6_any s w hs
  have hc : Hid (colon s = (decide ((0 : Int) < (cutAt s 0 58 : Int)) && decide ((cutAt s 0 58 : Int) < s.size))) := by
    have e : s.data.toList.length = s.size := Array.length_toList
    unfold Hid cutAt
    rw [colon_cut, List.drop_zero, Nat.zero_add, e]
    congr 1 <;> simp
  generalize cutAt s 0 58 = k at C1 hc
  generalize colon s = cb at hc ⊢
  generalize textOk s = tb at C2 ⊢
  go_enter Tryz.func139, Tryz.ntmps139
  go_wp2_with fail
  refine C1.mono ?_
  rintro e w1 ⟨rfl, rfl⟩
  go_wp2_with fail
  refine C2.mono ?_
  rintro e w1 ⟨rfl, rfl⟩
  clear C1 C2
  cases tb
  · go_wp2
    all_goals
      go_ret
      exact ⟨rfl, rfl⟩
  · by_cases h1 : (0 : Int) < k
    · by_cases h2 : (k : Int) < s.size
      · have H : Hid (cb = true) := by unfold Hid; rw [hc.out]; simp; omega
        clear hc
        go_wp2
        go_ret
        exact ⟨by rw [H.out]; rfl, rfl⟩
      · have H : Hid (cb = false) := by unfold Hid; rw [hc.out]; simp; omega
        have hk : Hid (decide (k < s.size) = false) := decide_eq_false (by omega)
        clear hc
        go_wp2
        go_ret
        exact ⟨by rw [H.out]; show Ending.returned (.bool (decide (k < s.size))) = _; rw [hk.out]; rfl, rfl⟩
    · have H : Hid (cb = false) := by unfold Hid; rw [hc.out]; simp; omega
      clear hc
      go_wp2
      go_ret
      exact ⟨by rw [H.out]; rfl, rfl⟩

def untilDot (L : List UInt8) : List UInt8 := L.takeWhile (· != 46)
theorem untilDot_none {L : List UInt8} (h : (46 : UInt8) ∉ L) : untilDot L = L := by
  unfold untilDot
  induction L with
  | nil => rfl
  | cons b t ih =>
    simp only [List.mem_cons, not_or] at h
    have hb : (b != 46) = true := by simpa using Ne.symm h.1
    rw [List.takeWhile_cons, hb]
    simp only [if_true, ih h.2]
theorem addrR_last (x : Nat) (L : List UInt8) : addrR 0 x L = if (untilDot L).length = L.length then (decR (untilDot L) 255).map fun n => x * 256 + n else none := by
  unfold addrR
  by_cases h : (46 : UInt8) ∈ L
  · obtain ⟨a, r, rfl, ha⟩ := mem_split h
    have e : untilDot (a ++ 46 :: r) = a := (takeWhile_piece ha).1
    rw [if_pos h, e, if_neg (by simp)]
  · rw [if_neg h, untilDot_none h, if_pos rfl]
theorem addrR_more (k x : Nat) (L : List UInt8) : addrR (k + 1) x L = if (untilDot L).length < L.length then (decR (untilDot L) 255).bind fun n => addrR k (x * 256 + n) (L.drop ((untilDot L).length + 1)) else none := by
  conv => lhs; unfold addrR
  by_cases h : (46 : UInt8) ∈ L
  · obtain ⟨a, r, rfl, ha⟩ := mem_split h
    have e : untilDot (a ++ 46 :: r) = a := (takeWhile_piece ha).1
    have e2 := (takeWhile_piece (r := r) ha).2
    have e3 : (a ++ 46 :: r).drop (a.length + 1) = r := by
      rw [show a.length + 1 = (a ++ [(46 : UInt8)]).length by simp, show a ++ 46 :: r = (a ++ [46]) ++ r by simp, List.drop_left]
    rw [if_pos h, e2, e, if_pos (by simp), e3]
    show (decR (untilDot (a ++ 46 :: r)) 255).bind _ = _
    rw [e]; rfl
  · rw [if_neg h, untilDot_none h, if_neg (by omega)]
/-- What is left to do, behind so many pieces. -/
def Left (l : List UInt8) (q x p : Nat) : Prop := if q ≤ 3 then p ≤ l.length ∧ addrR (3 - q) x (l.drop p) = addrP l else addrP l = some x
theorem cut_until (s : ByteArray) (p : Nat) (h : p ≤ s.size) : (s.extract p (cutAt s p 46)).data.toList = untilDot (s.data.toList.drop p) ∧ cutAt s p 46 = p + (untilDot (s.data.toList.drop p)).length := by
  refine ⟨?_, rfl⟩
  rw [extract_list, List.drop_take]
  unfold cutAt untilDot
  rw [show p + (List.takeWhile (· != 46) (s.data.toList.drop p)).length - p = (List.takeWhile (· != 46) (s.data.toList.drop p)).length by omega]
  generalize s.data.toList.drop p = L
  exact List.prefix_iff_eq_take.1 (List.takeWhile_prefix _) |>.symm
/-- A round: the piece is no number, or it stands where it may not. -/
theorem left_bad {l : List UInt8} {q x p : Nat} (hq : q < 4) (h : Left l q x p) (hb : decR (untilDot (l.drop p)) 255 = none ∨ (((untilDot (l.drop p)).length = (l.drop p).length) ↔ q ≠ 3)) : addrP l = none := by
  unfold Left at h
  rw [if_pos (by omega)] at h
  rw [← h.2]
  by_cases h3 : q = 3
  · subst h3
    rw [Nat.sub_self, addrR_last]
    rcases hb with hb | hb
    · rw [hb]; simp
    · rw [if_neg (fun e => by have := hb.1 e; omega)]
  · obtain ⟨j, hj⟩ : ∃ j, 3 - q = j + 1 := ⟨2 - q, by omega⟩
    rw [hj, addrR_more]
    rcases hb with hb | hb
    · rw [hb]; simp
    · rw [if_neg]
      have := hb.2 h3
      omega
theorem left_good {l : List UInt8} {q x p n : Nat} (hq : q < 4) (h : Left l q x p) (hd : decR (untilDot (l.drop p)) 255 = some n) (hb : ((untilDot (l.drop p)).length = (l.drop p).length) ↔ q = 3) : Left l (q + 1) (x * 256 + n) (p + (untilDot (l.drop p)).length + 1) := by
  unfold Left at h ⊢
  rw [if_pos (by omega)] at h
  obtain ⟨hp, h⟩ := h
  by_cases h3 : q = 3
  · subst h3
    rw [if_neg (by omega), ← h, Nat.sub_self, addrR_last, if_pos (hb.2 rfl), hd]; rfl
  · have hle := (List.takeWhile_sublist (l := l.drop p) (p := (· != 46))).length_le
    have hne : ¬ (untilDot (l.drop p)).length = (l.drop p).length := fun e => h3 (hb.1 e)
    have hlt : (untilDot (l.drop p)).length < (l.drop p).length := by unfold untilDot at hne ⊢; omega
    obtain ⟨j, hj⟩ : ∃ j, 3 - q = j + 1 := ⟨2 - q, by omega⟩
    rw [hj, addrR_more, if_pos hlt, hd, Option.bind_some, List.drop_drop] at h
    rw [if_pos (by omega)]
    refine ⟨by rw [List.length_drop] at hlt; omega, ?_⟩
    rw [show 3 - (q + 1) = j by omega, ← h]
    congr 2

theorem raddr_any (s : ByteArray) (w : World) (hs : s.size ≤ 9223372036854775800) :
    Calls Tryz.prog 140 #[.string s] w fun e w' => (∃ a : Int, e = .returned (.tuple #[.int .u32 a, .bool (addrP s.data.toList).isSome])) ∧ w = w' := by
  have hsz : s.data.toList.length = s.size := Array.length_toList
  have hstart : Left s.data.toList 0 0 0 := by
    unfold Left
    rw [if_pos (by omega)]
    exact ⟨Nat.zero_le _, (addr_same _).symm⟩
  have HS := Lib.hid hstart
  clear hstart
  go_enter Tryz.func140, Tryz.ntmps140
  go_wp2
  go_loop [4, 5, 6, 7, 8] (fun x p k _ _ => ∃ q x' p' : Nat, k = .int .i64 q ∧ q ≤ 4 ∧ p = .int .i64 p' ∧ x = .int .u32 x' ∧ x' < 256 ^ q ∧ Hid (Left s.data.toList q x' p')) (fun _ _ k _ _ => 4 - (intOf k).toNat)
  case atStart => exact ⟨0, 0, 0, rfl, by omega, rfl, rfl, by omega, HS.out⟩
  case round =>
    obtain ⟨q, x, p, rfl, hq, rfl, rfl, hx, HL⟩ := hrel
    by_cases hlt : q < 4
    · have hL := HL.out
      have hp : p ≤ s.size := by
        unfold Left at hL
        rw [if_pos (by omega)] at hL
        omega
      obtain ⟨hcu1, hcu2⟩ := cut_until s p hp
      have hcl := cutAt_le s p 46 hp
      have C1 := cut6_any s p 46 46 rfl w hs hp
      have hpl : (s.data.toList.drop p).length = s.size - p := by rw [List.length_drop, hsz]
      have C2 := rdec6_any (s.extract p (cutAt s p 46)) 255 (by omega) w (by rw [ByteArray.size_extract]; omega)
      rw [hcu1] at C2
      have hiff : (untilDot (s.data.toList.drop p)).length = (s.data.toList.drop p).length ↔ cutAt s p 46 = s.size := by omega
      clear HL hcu1
      generalize cutAt s p 46 = tt at C1 C2 hcl hcu2 hiff
      obtain ⟨hto1, hto2⟩ := hcl
      have ht1 : (p : Int) ≤ tt := by omega
      have ht2 : (tt : Int) ≤ s.size := by omega
      cases hd : decR (untilDot (s.data.toList.drop p)) 255 with
      | none =>
        have H : Hid (addrP s.data.toList = none) := left_bad hlt hL (.inl hd)
        rw [hd] at C2
        have HC1 := Lib.hid C1
        have HC2 := Lib.hid C2
        clear C1 C2 hL hd hiff hcu2 hpl
        go_wp2_with fail
        refine HC1.out.mono ?_
        rintro e w1 ⟨rfl, rfl⟩
        go_wp2_with fail
        refine HC2.out.mono ?_
        rintro e w1 ⟨rfl, rfl⟩
        clear HC1 HC2
        simp only [optI]
        go_wp2
        go_ret2
        exact ⟨⟨0, by rw [H.out]; rfl⟩, rfl⟩
      | some n =>
        have hn := dec_le hd
        rw [hd] at C2
        have HC1 := Lib.hid C1
        have HC2 := Lib.hid C2
        clear C1 C2
        by_cases hb : tt = s.size ↔ q = 3
        · have H2 : Hid (Left s.data.toList (q + 1) (x * 256 + n) (tt + 1)) := by
            have := left_good hlt hL hd (hiff.trans hb)
            rw [← hcu2] at this
            exact this
          have hx2 : x * 256 + n < 256 ^ (q + 1) := by rw [Nat.pow_succ]; omega
          have hx3 : x < 16777216 := Nat.lt_of_lt_of_le hx (Nat.le_trans (Nat.pow_le_pow_right (by omega) (show q ≤ 3 by omega)) (by decide))
          have hor := Lib.hid (bits_or6 hx3 hn)
          have he : (((tt : Int) == s.size) = true ∧ ((q : Int) == 3) = true) ∨ (((tt : Int) == s.size) = false ∧ ((q : Int) == 3) = false) := by
            by_cases h3 : q = 3
            · have := hb.2 h3
              exact .inl ⟨by simp; omega, by simp; omega⟩
            · have : tt ≠ s.size := fun e => h3 (hb.1 e)
              exact .inr ⟨by simp; omega, by simp; omega⟩
          clear hL hd hiff hcu2 hpl hb
          rcases he with ⟨he1, he2⟩ | ⟨he1, he2⟩
          all_goals
            go_wp2_with fail
            refine HC1.out.mono ?_
            rintro e w1 ⟨rfl, rfl⟩
            go_wp2_with fail
            refine HC2.out.mono ?_
            rintro e w1 ⟨rfl, rfl⟩
            simp only [optI]
            go_wp2
            refine ⟨⟨q + 1, x * 256 + n, tt + 1, by go_num, by omega, by go_num, ?_, hx2, H2⟩, by simp [intOf]; omega⟩
            rw [hor.out]
        · have H : Hid (addrP s.data.toList = none) := left_bad hlt hL (.inr (by
            rw [hiff]
            constructor
            · intro h1 h3; exact hb ⟨fun _ => h3, fun _ => h1⟩
            · intro h3
              by_cases h1 : tt = s.size
              · exact h1
              · exact absurd ⟨fun h => absurd h h1, fun h => absurd h h3⟩ hb))
          have he : (((tt : Int) == s.size) = true ∧ ((q : Int) == 3) = false) ∨ (((tt : Int) == s.size) = false ∧ ((q : Int) == 3) = true) := by
            by_cases h3 : q = 3
            · have : tt ≠ s.size := fun e => hb ⟨fun _ => h3, fun _ => e⟩
              exact .inr ⟨by simp; omega, by simp; omega⟩
            · have : tt = s.size := by
                by_cases h1 : tt = s.size
                · exact h1
                · exact absurd ⟨fun h => absurd h h1, fun h => absurd h h3⟩ hb
              exact .inl ⟨by simp; omega, by simp; omega⟩
          clear hL hd hiff hcu2 hpl hb
          rcases he with ⟨he1, he2⟩ | ⟨he1, he2⟩
          all_goals
            go_wp2_with fail
            refine HC1.out.mono ?_
            rintro e w1 ⟨rfl, rfl⟩
            go_wp2_with fail
            refine HC2.out.mono ?_
            rintro e w1 ⟨rfl, rfl⟩
            simp only [optI]
            go_wp2
            go_ret2
            exact ⟨⟨0, by rw [H.out]; rfl⟩, rfl⟩
    · have hq4 : q = 4 := by omega
      subst hq4
      have H : Hid ((addrP s.data.toList).isSome = true) := by
        have h1 := HL.out
        unfold Left at h1
        rw [if_neg (by omega)] at h1
        unfold Hid
        rw [h1]; rfl
      clear HL
      go_wp2
      go_ret2
      exact ⟨⟨_, by rw [H.out]; rfl⟩, rfl⟩

theorem rident_any (sc id : ByteArray) (w : World) (h2 : id.size ≤ 9223372036854775800) :
    Calls Tryz.prog 113 #[.agg #[.string sc, .string id]] w fun e w' => e = .returned (.bool (identity sc id)) ∧ Ext w w' := by
  have q1 := eqT sc [100, 105, 103, 101, 115, 116]
  have q2 := eqT sc [105, 112]
  have q3 := eqT sc [115, 117, 112, 101, 114]
  obtain ⟨W0, hW0⟩ : ∃ W0, W0 = w.alloc (.cells #[.string sc, .string id] 139) := ⟨_, rfl⟩
  have hE0 : Ext w W0 := by rw [hW0]; exact Ext.alloc _ _
  have C1 := ref_digest_any id W0 h2
  have C2 := raddr_any id W0 h2
  have C3 := rright6_any id W0 h2
  rw [hW0] at C1 C2 C3 hE0
  have C1 := Lib.hid C1
  have C2 := Lib.hid C2
  have C3 := Lib.hid C3
  clear hW0
  by_cases e1 : sc.data.toList = digestT
  · have H : Hid (identity sc id = (textOk id && colon id)) := by unfold Hid identity; rw [if_pos e1]
    have p1 : (sc.toList == [100, 105, 103, 101, 115, 116]) = true := by rw [q1]; exact decide_eq_true e1
    clear q1 q2 q3 e1
    go_enter Tryz.func113, Tryz.ntmps113
    go_wp2_with fail
    refine C1.out.mono ?_
    rintro e w3 ⟨rfl, rfl⟩
    go_wp2
    go_ret
    exact ⟨by rw [H.out]; rfl, hE0⟩
  have p1 : (sc.toList == [100, 105, 103, 101, 115, 116]) = false := by rw [q1]; exact decide_eq_false e1
  by_cases e2 : sc.data.toList = ipT
  · have H : Hid (identity sc id = (addrP id.data.toList).isSome) := by unfold Hid identity; rw [if_neg e1, if_pos e2]
    have p2 : (sc.toList == [105, 112]) = true := by rw [q2]; exact decide_eq_true e2
    clear q1 q2 q3 e1 e2
    go_enter Tryz.func113, Tryz.ntmps113
    go_wp2_with fail
    refine C2.out.mono ?_
    rintro e w3 ⟨⟨a, rfl⟩, rfl⟩
    go_wp2
    go_ret
    exact ⟨by rw [H.out]; rfl, hE0⟩
  have p2 : (sc.toList == [105, 112]) = false := by rw [q2]; exact decide_eq_false e2
  by_cases e3 : sc.data.toList = superT
  · have H : Hid (identity sc id = textOk id) := by unfold Hid identity; rw [if_neg e1, if_neg e2, if_pos e3]
    have p3 : (sc.toList == [115, 117, 112, 101, 114]) = true := by rw [q3]; exact decide_eq_true e3
    clear q1 q2 q3 e1 e2 e3
    go_enter Tryz.func113, Tryz.ntmps113
    go_wp2_with fail
    refine C3.out.mono ?_
    rintro e w3 ⟨rfl, rfl⟩
    go_wp2
    go_ret
    exact ⟨by rw [H.out]; rfl, hE0⟩
  · have H : Hid (identity sc id = false) := by unfold Hid identity; rw [if_neg e1, if_neg e2, if_neg e3]
    have p3 : (sc.toList == [115, 117, 112, 101, 114]) = false := by rw [q3]; exact decide_eq_false e3
    clear q1 q2 q3 e1 e2 e3
    go_enter Tryz.func113, Tryz.ntmps113
    go_wp2
    go_ret
    exact ⟨by rw [H.out]; rfl, hE0⟩
end Go.Proofs.YtclekhjnnljjlaaGreatDoor
namespace Go.Proofs.YtclekhjnnljjlaaGreatDoor
open Go.RowKit
set_option maxHeartbeats 2000000
set_option maxRecDepth 100000

theorem idAt_eq {l : List (ByteArray × ByteArray)} {i : Nat} (h : i < l.length) : idAt l i = (identity (l[i]'h).1 (l[i]'h).2 && !(l.take i).any fun y => decide (y = l[i]'h)) := by
  unfold idAt
  rw [List.getElem?_eq_getElem h]
theorem take_any_false {l : List (ByteArray × ByteArray)} {i : Nat} (hi : i ≤ l.length) {x : ByteArray × ByteArray} (h : ∀ j (hj : j < l.length), j < i → l[j] ≠ x) : ((l.take i).any fun y => decide (y = x)) = false := by
  refine List.any_eq_false.2 fun y hy => ?_
  obtain ⟨j, hj, rfl⟩ := List.mem_iff_getElem.1 hy
  rw [List.length_take] at hj
  rw [List.getElem_take]
  simpa using h j (by omega) (by omega)
theorem take_any_true {l : List (ByteArray × ByteArray)} {i k : Nat} (hi : i ≤ l.length) (hk : k < i) {x : ByteArray × ByteArray} (h : l[k]'(by omega) = x) : ((l.take i).any fun y => decide (y = x)) = true := by
  refine List.any_eq_true.2 ⟨l[k]'(by omega), ?_, by simpa using h⟩
  exact List.mem_iff_getElem.2 ⟨k, by rw [List.length_take]; omega, by rw [List.getElem_take]⟩

theorem rids_any (l : List (ByteArray × ByteArray)) (a : Option Addr) (c : Nat) (w : World) (hc : Cells w.heap.size w a (idCs l)) (hm : l.length ≤ 9223372036854775800) (hf : ∀ x ∈ l, x.1.size ≤ 9223372036854775800 ∧ x.2.size ≤ 9223372036854775800) :
    Calls Tryz.prog 82 #[.slice a l.length c] w fun e w' => e = .returned (.bool (idsOk l)) ∧ Ext w w' := by
  have hg := guard_id
  have hql := eql_id
  go_enter Tryz.func82, Tryz.ntmps82
  go_wp2
  go_loopw [3, 4] (fun i _ wr => ∃ k : Nat, k ≤ l.length ∧ i = .int .i64 k ∧ Hid (idsTo l k = true) ∧ Ext w wr) (fun i _ _ => l.length - (intOf i).toNat)
  case atStart => exact ⟨0, Nat.zero_le _, rfl, rfl, Ext.refl _⟩
  case round =>
    obtain ⟨i, hi, rfl, HI, hE⟩ := hrel
    by_cases hlt : i < l.length
    · obtain ⟨b, o, rfl, hb, c0, c1⟩ := idCells (hc.below hE) i hlt
      have hx := hf l[i] (List.getElem_mem hlt)
      have C1 := rident_any l[i].1 l[i].2 wr hx.2
      have hk1 : (i : Int) < l.length := by omega
      have hk0 : (0 : Int) ≤ i := by omega
      have HA := Lib.hid (idAt_eq hlt)
      cases hid : identity l[i].1 l[i].2
      · have H : Hid (idsOk l = false) := idsTo_false hlt (by rw [HA.out, hid]; rfl)
        rw [hid] at C1
        have C1 := Lib.hid C1
        clear hid hc hx
        go_wp2_with fail
        refine C1.out.mono ?_
        rintro e w2 ⟨rfl, hE2⟩
        clear C1
        go_wp2
        go_ret
        exact ⟨by rw [H.out]; rfl, hE.trans hE2⟩
      · rw [hid] at C1
        have HA2 : Hid (idAt l i = !(l.take i).any fun y => decide (y = l[i])) := by unfold Hid; rw [HA.out, hid]; rfl
        have C1 := Lib.hid C1
        clear hid hx HA
        go_wp2_with fail
        refine C1.out.mono ?_
        rintro e w2 ⟨rfl, hE2⟩
        clear C1 c0 c1
        have hE3 : Ext w w2 := hE.trans hE2
        clear hE hE2
        go_wp2
        go_loopw [4] (fun k wr => ∃ (k' n : Nat), k' ≤ i ∧ k = .int .i64 k' ∧ wr = w2.drewN n ∧ Hid (∀ j (h : j < l.length), j < k' → l[j] ≠ l[i])) (fun k _ => i - (intOf k).toNat)
        case atStart => exact ⟨0, 0, Nat.zero_le _, rfl, rfl, fun j _ h => by omega⟩
        case round =>
          obtain ⟨k, n, hk, rfl, rfl, HQ⟩ := hrel
          by_cases hlt2 : k < i
          · have hlk : k < l.length := by omega
            obtain ⟨b1, o1, e1, _, c0, c1⟩ := idCells (hc.below hE3) i hlt
            obtain ⟨b2, o2, e2, _, d0, d1⟩ := idCells (hc.below hE3) k hlk
            simp only [Option.some.injEq, Addr.mk.injEq] at e1 e2
            obtain ⟨rfl, rfl, _⟩ := e1
            obtain ⟨rfl, rfl, _⟩ := e2
            have hk2 : (k : Int) < l.length := by omega
            have hk3 : (0 : Int) ≤ k := by omega
            cases he : eqId l[k] l[i]
            · have hne : l[k] ≠ l[i] := fun e => by rw [eqId_eq, e] at he; simp at he
              have HN : Hid (∀ j (h : j < l.length), j < k + 1 → l[j] ≠ l[i]) := fun j h hj => by
                by_cases e : j = k
                · subst e; exact hne
                · exact HQ.out j h (by omega)
              clear hne
              go_wp2
              go_quiet (fail)
              go_wp2
              go_roundw
              case rel => exact ⟨k + 1, _, by omega, by go_num, rfl, HN⟩
              case measure => simp [intOf]; omega
            · have heq : l[k] = l[i] := by
                rw [eqId_eq] at he
                exact of_decide_eq_true he
              have H : Hid (idsOk l = false) := idsTo_false hlt (by rw [HA2.out, take_any_true (by omega) hlt2 heq]; rfl)
              clear heq
              go_wp2
              go_quiet (fail)
              go_wp2
              go_ret
              exact ⟨by rw [H.out]; rfl, hE3.trans (below_drewN (below_drewN (Below.refl _ _) _) _)⟩
          · have hki : k = i := by omega
            subst hki
            have HN : Hid (idsTo l (k + 1) = true) := by
              unfold Hid
              show (idsTo l k && idAt l k) = true
              rw [HI.out, HA2.out, take_any_false (by omega) HQ.out]; rfl
            go_wp2
            exact ⟨⟨k + 1, by omega, by go_num, HN, hE3.trans (below_drewN (Below.refl _ _) _)⟩, by simp [intOf]; omega⟩
    · have hil : i = l.length := by omega
      subst hil
      have H : Hid (idsOk l = true) := HI.out
      go_wp2
      go_ret
      exact ⟨by rw [H.out]; rfl, hE⟩

theorem rright8_any (s : Se) (a : Option Addr) (c : Nat) (w : World) (hf : FitS s) (hc : Cells w.heap.size w a (idCs s.ids)) :
    Calls Tryz.prog 46 #[.agg (seC s (.slice a s.ids.length c))] w fun e w' => e = .returned (.bool (rightS s)) ∧ Ext w w' := by
  obtain ⟨W1, hW1⟩ : ∃ W1, W1 = w.alloc (.cells (seC s (.slice a s.ids.length c)) 62) := ⟨_, rfl⟩
  have hE1 : Ext w W1 := by rw [hW1]; exact Ext.alloc _ _
  have hs1 : W1.heap.size = w.heap.size + 1 := by rw [hW1]; simp
  have hids := hf.ids
  have C1 := rids_any s.ids a c W1 ((hc.below hE1).mono (by omega)) (by omega) hf.txt
  rw [hW1] at C1 hE1
  unfold seC at C1 hE1 ⊢
  have C1 := Lib.hid C1
  clear hW1 hs1
  have done : ∀ b : Bool, rightS s = b → (Ending.returned (.bool b) = Ending.returned (.bool (rightS s))) := fun b h => by rw [h]
  have DN := Lib.hid done
  clear done
  by_cases h1 : ¬ 0 < s.id
  · have H : Hid (rightS s = false) := by unfold Hid rightS; rw [decide_eq_false h1]; rfl
    have d1 : decide (0 < s.id) = false := decide_eq_false h1
    clear h1
    go_enter Tryz.func46, Tryz.ntmps46
    go_wp2
    go_ret
    exact ⟨by rw [H.out]; rfl, hE1⟩
  have d1 : decide (0 < s.id) = true := decide_eq_true (by omega)
  by_cases h2 : ¬ 4 ≤ s.tm
  · have H : Hid (rightS s = false) := by unfold Hid rightS; rw [d1, decide_eq_false (fun h => h2 h.1)]; rfl
    have d2 : decide (4 ≤ s.tm) = false := decide_eq_false h2
    clear h1 h2
    go_enter Tryz.func46, Tryz.ntmps46
    go_wp2
    go_ret
    exact ⟨by rw [H.out]; rfl, hE1⟩
  have d2 : decide (4 ≤ s.tm) = true := decide_eq_true (by omega)
  by_cases h3 : ¬ s.tm ≤ 1048576
  · have H : Hid (rightS s = false) := by unfold Hid rightS; rw [d1, decide_eq_false (fun h => h3 h.2)]; rfl
    have d3 : decide (s.tm ≤ 1048576) = false := decide_eq_false h3
    clear h1 h2 h3
    go_enter Tryz.func46, Tryz.ntmps46
    go_wp2
    go_ret
    exact ⟨by rw [H.out]; rfl, hE1⟩
  have d3 : decide (s.tm ≤ 1048576) = true := decide_eq_true (by omega)
  by_cases h4 : ¬ s.ids.length ≤ 16
  · have H : Hid (rightS s = false) := by unfold Hid rightS; rw [decide_eq_false h4]; simp
    have d4 : decide ((s.ids.length : Int) ≤ 16) = false := decide_eq_false (by omega)
    clear h1 h2 h3 h4
    go_enter Tryz.func46, Tryz.ntmps46
    go_wp2
    go_ret
    exact ⟨by rw [H.out]; rfl, hE1⟩
  have d4 : decide ((s.ids.length : Int) ≤ 16) = true := decide_eq_true (by omega)
  have H : Hid (rightS s = idsOk s.ids) := by
    unfold Hid rightS
    rw [d1, decide_eq_true (show 4 ≤ s.tm ∧ s.tm ≤ 1048576 by omega), decide_eq_true (show s.ids.length ≤ 16 by omega)]; rfl
  clear h1 h2 h3 h4
  go_enter Tryz.func46, Tryz.ntmps46
  go_wp2_with fail
  refine C1.out.mono ?_
  rintro e w2 ⟨rfl, hE2⟩
  clear C1
  go_wp2
  go_ret
  exact ⟨by rw [H.out]; rfl, hE1.trans hE2⟩
end Go.Proofs.YtclekhjnnljjlaaGreatDoor
namespace Go.Proofs.YtclekhjnnljjlaaGreatDoor
open Go.RowKit
set_option maxHeartbeats 2000000
set_option maxRecDepth 100000

theorem sizeId : (Tryz.prog.info? 139).map (·.size) = some 2 := by kernel_rfl
theorem run_id_to (b off len cap i : Nat) (hi : i ≤ len) (hl : len ≤ cap) (W : World) : (Instr.slice 60 (.slice (some ⟨b, off, none⟩) len cap) none (some (.int .i64 i)) none).run Tryz.prog W = .ok (.slice (some ⟨b, off, none⟩) i cap) W := by
  have h1 : (0 : Int) ≤ i := by omega
  have h2 : (i : Int) ≤ cap := by omega
  obtain ⟨inf, hinf, hs⟩ := Option.map_eq_some_iff.1 sizeId
  by_cases hc : cap = 0 <;>
  simp [Instr.slice, Instr.sliceBounds, Instr.sliceBound, run_underlying Tryz.underlying60, asIntOf, sizeOf, typeInfo, hinf, hs, hc, h1, h2, Sem.run, Result.andThen, Addr.add]
  all_goals (try (simp_all <;> omega))
theorem run_idAt_to (b off len cap i : Nat) (hi : i ≤ len) (hl : len ≤ cap) (W : World) : (Instr.sliceAt 60 (.slice (some ⟨b, off, none⟩) len cap) none (some (.int .i64 i)) none).run Tryz.prog W = .ok (.slice (some ⟨b, off, none⟩) i cap) W := by
  have h := run_id_to b off len cap i hi hl W
  simp only [Instr.sliceAt, Sem.run_bind, run_underlying Tryz.underlying60, Result.andThen_ok]
  exact h
def clampI (t : Int) : Int := min (max t 4) 1048576
theorem clampI_eq (t : Int) : clampI t = t ↔ 4 ≤ t ∧ t ≤ 1048576 := by unfold clampI; omega
theorem clamp_any (t : Int) (w : World) : Calls Tryz.prog 78 #[.int .i32 t] w fun e w' => e = .returned (.int .i32 (clampI t)) ∧ w' = w := by
  unfold clampI
  go_enter Tryz.func78, Tryz.ntmps78
  go_wp2
  all_goals
    go_ret
    refine ⟨?_, rfl⟩
    go_light
    first | rfl | (congr 2; omega) | skip

theorem sright_any (s : Se) (a : Option Addr) (c : Nat) (w : World) (hf : FitS s) (hc : Cells w.heap.size w a (idCs s.ids)) (hT : Tabs w) (hX : Txt6 w) (hlc : s.ids.length ≤ c) :
    Calls Tryz.prog 44 #[.agg (seC s (.slice a s.ids.length c))] w fun e w' => e = .returned (.bool (rightS s)) ∧ Ext w w' := by
  obtain ⟨W1, hW1⟩ : ∃ W1, W1 = w.alloc (.cells (seC s (.slice a s.ids.length c)) 62) := ⟨_, rfl⟩
  have hE1 : Ext w W1 := by rw [hW1]; exact Ext.alloc _ _
  have hs1 : W1.heap.size = w.heap.size + 1 := by rw [hW1]; simp
  have hr1 : W1.heap[w.heap.size]? = some (.cells (seC s (.slice a s.ids.length c)) 62 (0, 0)) := by rw [hW1]; exact heap_alloc_new w _
  have g0 : W1.cell? ⟨w.heap.size, 0, none⟩ = some (.int .i64 s.id) := cell_of_row _ _ _ _ _ _ hr1
  have g1 : W1.cell? ⟨w.heap.size, 1, none⟩ = some (.int .i32 s.tm) := cell_of_row _ _ _ _ _ _ hr1
  have g2 : W1.cell? ⟨w.heap.size, 2, none⟩ = some (.slice a s.ids.length c) := cell_of_row _ _ _ _ _ _ hr1
  have HW := Lib.hid hW1
  have CC := fun W => clamp_any s.tm W
  have hids := hf.ids
  unfold seC at HW hr1 ⊢
  clear hW1
  by_cases h1 : ¬ 0 < s.id
  · have H : Hid (rightS s = false) := by unfold Hid rightS; rw [decide_eq_false h1]; rfl
    have d1 : decide (s.id ≤ 0) = true := decide_eq_true (by omega)
    clear h1
    go_enter Tryz.func44, Tryz.ntmps44
    go_wp2
    rw [← HW.out]
    go_quiet (fail)
    go_wp2
    go_ret
    exact ⟨by rw [H.out]; rfl, hE1.trans (below_drewN (Below.refl _ _) _)⟩
  have d1 : decide (s.id ≤ 0) = false := decide_eq_false (by omega)
  by_cases h2 : ¬ clampI s.tm = s.tm
  · have H : Hid (rightS s = false) := by unfold Hid rightS; rw [decide_eq_false (p := 4 ≤ s.tm ∧ s.tm ≤ 1048576) (fun h => h2 ((clampI_eq _).2 h))]; simp
    have d2 : (clampI s.tm != s.tm) = true := by simpa using h2
    generalize clampI s.tm = cl at CC d2
    clear h1 h2
    go_enter Tryz.func44, Tryz.ntmps44
    go_wp2
    rw [← HW.out]
    go_quiet ((go_at_call 78; exact Calls.quiet_of_same (CC _)))
    go_wp2
    go_ret
    exact ⟨by rw [H.out]; rfl, hE1.trans (below_drewN (Below.refl _ _) _)⟩
  have h2 : clampI s.tm = s.tm := by omega
  have d2 : (clampI s.tm != s.tm) = false := by simpa using h2
  have h2' := (clampI_eq _).1 h2
  by_cases h3 : ¬ s.ids.length ≤ 16
  · have H : Hid (rightS s = false) := by unfold Hid rightS; rw [decide_eq_false h3]; simp
    have d3 : decide (16 < (s.ids.length : Int)) = true := decide_eq_true (by omega)
    generalize clampI s.tm = cl at CC d2
    clear h1 h2 h3 h2'
    go_enter Tryz.func44, Tryz.ntmps44
    go_wp2
    rw [← HW.out]
    go_quiet ((go_at_call 78; exact Calls.quiet_of_same (CC _)))
    go_wp2
    go_ret
    exact ⟨by rw [H.out]; rfl, hE1.trans (below_drewN (Below.refl _ _) _)⟩
  have d3 : decide (16 < (s.ids.length : Int)) = false := decide_eq_false (by omega)
  have HR : Hid (rightS s = idsOk s.ids) := by
    unfold Hid rightS
    rw [decide_eq_true (show 0 < s.id by omega), decide_eq_true h2', decide_eq_true (show s.ids.length ≤ 16 by omega)]; rfl
  generalize clampI s.tm = cl at CC d2
  clear h1 h2 h3 h2'
  go_enter Tryz.func44, Tryz.ntmps44
  go_wp2
  rw [← HW.out]
  go_quiet ((go_at_call 78; exact Calls.quiet_of_same (CC _)))
  generalize hWq : W1.drewN _ = Wq
  have hE2 : Ext W1 Wq := by rw [← hWq]; exact below_drewN (Below.refl _ _) _
  clear hWq
  have k0 : Wq.cell? ⟨w.heap.size, 2, none⟩ = some (.slice a s.ids.length c) := (hE2.cell (World.block_lt_of_cell? _ _ g2)).trans g2
  go_wp2
  go_loopw [3, 4, 25] (fun _ _ i wr => ∃ k : Nat, k ≤ s.ids.length ∧ i = .int .i64 k ∧ Hid (idsTo s.ids k = true) ∧ Ext Wq wr) (fun _ _ i _ => s.ids.length - (intOf i).toNat)
  case atStart => exact ⟨0, Nat.zero_le _, rfl, rfl, Ext.refl _⟩
  case round =>
    obtain ⟨i, hi, rfl, HI, hE⟩ := hrel
    by_cases hlt : i < s.ids.length
    · have hE3 : Ext w wr := hE1.trans (hE2.trans hE)
      obtain ⟨b, o, rfl, hb, c0, c1⟩ := idCells (hc.below hE3) i hlt
      have hk1 : (i : Int) < s.ids.length := by omega
      have hk0 : (0 : Int) ≤ i := by omega
      have HA := Lib.hid (idAt_eq hlt)
      have hfx := hf.txt _ (List.getElem_mem hlt)
      obtain ⟨W2, hW2⟩ : ∃ W2, W2 = wr.alloc (.cells #[.string (s.ids[i]).1, .string (s.ids[i]).2] 139) := ⟨_, rfl⟩
      have hE4 : Ext wr W2 := by rw [hW2]; exact Ext.alloc _ _
      have hrow : W2.heap[wr.heap.size]? = some (.cells #[.string (s.ids[i]).1, .string (s.ids[i]).2] 139 (0, 0)) := by rw [hW2]; exact heap_alloc_new wr _
      have HW2 := Lib.hid hW2
      have hE5 : Ext w W2 := hE3.trans hE4
      have kw := (hE.cell (World.block_lt_of_cell? _ _ k0)).trans k0
      have k2 : W2.cell? ⟨w.heap.size, 2, none⟩ = some (.slice (some ⟨b, o, none⟩) s.ids.length c) := (hE4.cell (World.block_lt_of_cell? _ _ kw)).trans kw
      have CI0 : ∀ W, Ext W2 W → Calls Tryz.prog 79 #[.agg #[.string (s.ids[i]).1, .string (s.ids[i]).2]] W fun e w' => e = .returned (.bool (identity (s.ids[i]).1 (s.ids[i]).2)) ∧ Ext W w' := fun W hW =>
        ident6_any _ _ W hfx.1 hfx.2 (hT.ext6 (hE5.trans hW)) (hX.ext (hE5.trans hW))
      have CN0 : ∀ W, Ext W2 W → Calls Tryz.prog 80 #[.slice (some ⟨b, o, none⟩) i c, .agg #[.string (s.ids[i]).1, .string (s.ids[i]).2]] W fun e w' => e = .returned (.bool (anyId (s.ids.take i) s.ids[i])) ∧ Ext W w' := fun W hW => by
        have hct : Cells W.heap.size W (some ⟨b, o, none⟩) (idCs (s.ids.take i)) := fun j u hj => (hc.below (hE5.trans hW)).mono (hE5.trans hW).size j u (by
          have e : idCs s.ids = idCs (s.ids.take i) ++ idCs (s.ids.drop i) := by
            unfold idCs
            rw [← List.flatMap_append, List.take_append_drop]
          rw [e, List.getElem?_append_left (List.getElem?_eq_some_iff.1 hj).1]
          exact hj)
        have := contains_id (s.ids.take i) s.ids[i] (some ⟨b, o, none⟩) c W hct (by rw [List.length_take]; omega)
        rw [List.length_take, Nat.min_eq_left (by omega)] at this
        exact this
      have CN := Lib.hid CN0
      have SLC := Lib.hid (fun W => run_idAt_to b o s.ids.length c i (by omega) hlc W)
      clear CN0 hW2 kw hfx
      generalize hb2 : anyId (s.ids.take i) s.ids[i] = b2 at CN
      have HB2 := Lib.hid hb2
      clear hb2
      cases hid : identity (s.ids[i]).1 (s.ids[i]).2
      · have H : Hid (idsOk s.ids = false) := idsTo_false hlt (by rw [HA.out, hid]; rfl)
        rw [hid] at CI0
        have CI := Lib.hid CI0
        clear CI0 hid
        go_wp2
        rw [← HW2.out]
        refine wp_region_P (by kernel_rfl) (region_sp 42 [.val (.agg #[.string (s.ids[i]).1, .string (s.ids[i]).2]), .val (.bool false), .val (.bool true), .val (.bool true), .val (undef), .val (undef), .val (undef), .val (undef), .val (undef), .val (undef), .val (.bool true)] ?stay rfl (by decide) rfl ?duties ?rest)
        case duties =>
          refine ⟨?_, ?_, ?_, ?_, ?_, ?_, ?_, ?_, ?_, ?_, ?_, trivial⟩
          · refine duty_free rfl fun a w' hE hF hA => ?_
            have x1 := hF.slot 4 _ (by decide) rfl
            exact wp_value (ex_load_row rfl _ x1 139 _ (0, 0) _ ((hE.block _ (Array.getElem?_eq_some_iff.1 hrow).1).trans hrow) Tryz.underlying139 rfl sizeId) ⟨_, rfl, rfl, Ext.refl _⟩
          · refine duty_free rfl fun a w' hE hF hA => ?_
            have x1 := hA.pick 0 30 (.agg #[.string (s.ids[i]).1, .string (s.ids[i]).2]) rfl rfl ⟨⟨0, .data⟩, by simp, rfl, rfl⟩ (fun u h => h)
            refine wp_enter (ex_call rfl (enters_f Tryz.func79 (by kernel_rfl) rfl)) (by simp only [List.map_toArray, List.map_cons, List.map_nil, x1]; exact CI.out _ hE) ?_
            rintro e w4 ⟨rfl, hb⟩
            exact ⟨_, rfl, _, rfl, rfl, hb⟩
          · refine duty_free rfl fun a w' hE hF hA => ?_
            have x1 := hA.pick 1 31 (.bool false) rfl rfl ⟨⟨1, .data⟩, by simp, rfl, rfl⟩ (fun u h => h)
            exact wp_value (w' := w') (v := .bool true) (by simp only [execOp, x1]; simp [go_sem]) ⟨_, rfl, rfl, Ext.refl _⟩
          · refine duty_free rfl fun a w' hE hF hA => ?_
            have x1 := hA.pick 2 32 (.bool true) rfl rfl ⟨⟨2, .data⟩, by simp, rfl, rfl⟩ (fun u h => h)
            exact wp_value (w' := w') (ex_move rfl) ⟨_, rfl, x1, Ext.refl _⟩
          · exact duty_no rfl (p := _) rfl (d := 33) rfl (show 33 < 42 by decide) ⟨⟨3, .guard⟩, by simp, rfl, rfl⟩ (fun v w h => h) fun w => rfl
          · exact duty_no rfl (p := _) rfl (d := 33) rfl (show 33 < 42 by decide) ⟨⟨3, .guard⟩, by simp, rfl, rfl⟩ (fun v w h => h) fun w => rfl
          · exact duty_no rfl (p := _) rfl (d := 33) rfl (show 33 < 42 by decide) ⟨⟨3, .guard⟩, by simp, rfl, rfl⟩ (fun v w h => h) fun w => rfl
          · exact duty_no rfl (p := _) rfl (d := 33) rfl (show 33 < 42 by decide) ⟨⟨3, .guard⟩, by simp, rfl, rfl⟩ (fun v w h => h) fun w => rfl
          · exact duty_no rfl (p := _) rfl (d := 33) rfl (show 33 < 42 by decide) ⟨⟨3, .guard⟩, by simp, rfl, rfl⟩ (fun v w h => h) fun w => rfl
          · exact duty_no rfl (p := _) rfl (d := 33) rfl (show 33 < 42 by decide) ⟨⟨3, .guard⟩, by simp, rfl, rfl⟩ (fun v w h => h) fun w => rfl
          · refine duty_free rfl fun a w' hE hF hA => ?_
            have x1 := hA.pick 3 33 (.bool true) rfl rfl ⟨⟨3, .data⟩, by simp, rfl, rfl⟩ (fun u h => h)
            exact wp_value (w' := w') (ex_pick rfl x1) ⟨_, rfl, rfl, Ext.refl _⟩
        case stay => trivial
        case rest =>
          intro W7 hE7
          simp only [forS]
          clear hrow k2 k0 g0 g1 g2
          simp only [filled, List.zip_cons_cons, List.zip_nil_left, List.foldl_cons, List.foldl_nil, Act.put, List.setIfInBounds_toArray, List.set_cons_succ, List.set_cons_zero]
          simp only [Exit.inBlock, Exit.then, Act.put]
          first | (rename_i hK; refine hK _ _ ?_; clear hK) | (rename_i hK _; refine hK _ _ ?_; clear hK) | (rename_i hK _ _; refine hK _ _ ?_; clear hK) | (rename_i hK _ _ _; refine hK _ _ ?_; clear hK)
          go_wp2
          go_ret
          exact ⟨by rw [HR.out, H.out]; rfl, hE5.trans hE7⟩
      · rw [hid] at CI0
        have CI := Lib.hid CI0
        have HA2 : Hid (idAt s.ids i = !b2) := by
          unfold Hid
          rw [HA.out, hid, ← HB2.out]; rfl
        clear CI0 hid
        go_wp2
        rw [← HW2.out]
        refine wp_region_P (by kernel_rfl) (region_sp 42 [.val (.agg #[.string (s.ids[i]).1, .string (s.ids[i]).2]), .val (.bool true), .val (.bool false), .val (.bool false), .val (.pointer (some ⟨w.heap.size, 2, none⟩)), .val (.slice (some ⟨b, o, none⟩) s.ids.length c), .val (.int .i64 i), .val (.slice (some ⟨b, o, none⟩) i c), .val (.agg #[.string (s.ids[i]).1, .string (s.ids[i]).2]), .val (.bool b2), .val (.bool b2)] ?stay rfl (by decide) rfl ?duties ?rest)
        case duties =>
          refine ⟨?_, ?_, ?_, ?_, ?_, ?_, ?_, ?_, ?_, ?_, ?_, trivial⟩
          · refine duty_free rfl fun a w' hE hF hA => ?_
            have x1 := hF.slot 4 _ (by decide) rfl
            exact wp_value (ex_load_row rfl _ x1 139 _ (0, 0) _ ((hE.block _ (Array.getElem?_eq_some_iff.1 hrow).1).trans hrow) Tryz.underlying139 rfl sizeId) ⟨_, rfl, rfl, Ext.refl _⟩
          · refine duty_free rfl fun a w' hE hF hA => ?_
            have x1 := hA.pick 0 30 (.agg #[.string (s.ids[i]).1, .string (s.ids[i]).2]) rfl rfl ⟨⟨0, .data⟩, by simp, rfl, rfl⟩ (fun u h => h)
            refine wp_enter (ex_call rfl (enters_f Tryz.func79 (by kernel_rfl) rfl)) (by simp only [List.map_toArray, List.map_cons, List.map_nil, x1]; exact CI.out _ hE) ?_
            rintro e w4 ⟨rfl, hb⟩
            exact ⟨_, rfl, _, rfl, rfl, hb⟩
          · refine duty_free rfl fun a w' hE hF hA => ?_
            have x1 := hA.pick 1 31 (.bool true) rfl rfl ⟨⟨1, .data⟩, by simp, rfl, rfl⟩ (fun u h => h)
            exact wp_value (w' := w') (v := .bool false) (by simp only [execOp, x1]; simp [go_sem]) ⟨_, rfl, rfl, Ext.refl _⟩
          · refine duty_free rfl fun a w' hE hF hA => ?_
            have x1 := hA.pick 2 32 (.bool false) rfl rfl ⟨⟨2, .data⟩, by simp, rfl, rfl⟩ (fun u h => h)
            exact wp_value (w' := w') (ex_move rfl) ⟨_, rfl, x1, Ext.refl _⟩
          · refine duty_yes rfl (p := _) rfl (d := 33) rfl (show 33 < 42 by decide) ⟨⟨3, .guard⟩, by simp, rfl, rfl⟩ (fun v w h => h) fun a w' hE hF hA => ?_
            have x1 := hF.slot 1 _ (by decide) rfl
            exact wp_value (w' := w') (v := .pointer (some ⟨w.heap.size, 2, none⟩)) (by simp only [execOp, x1]; simp [go_sem]) ⟨_, rfl, rfl, Ext.refl _⟩
          · refine duty_yes rfl (p := _) rfl (d := 33) rfl (show 33 < 42 by decide) ⟨⟨3, .guard⟩, by simp, rfl, rfl⟩ (fun v w h => h) fun a w' hE hF hA => ?_
            have x1 := hA.pick 4 34 (.pointer (some ⟨w.heap.size, 2, none⟩)) rfl rfl ⟨⟨4, .data⟩, by simp, rfl, rfl⟩ (fun u h => h)
            exact wp_value (ex_cell rfl _ _ x1 ((hE.cell (World.block_lt_of_cell? _ _ k2)).trans k2) rfl Tryz.underlying60) ⟨_, rfl, rfl, Ext.refl _⟩
          · refine duty_yes rfl (p := _) rfl (d := 33) rfl (show 33 < 42 by decide) ⟨⟨3, .guard⟩, by simp, rfl, rfl⟩ (fun v w h => h) fun a w' hE hF hA => ?_
            have x1 := hF.slot 3 _ (by decide) rfl
            exact wp_value (w' := w') (ex_move rfl) ⟨_, rfl, x1, Ext.refl _⟩
          · refine duty_yes rfl (p := _) rfl (d := 33) rfl (show 33 < 42 by decide) ⟨⟨3, .guard⟩, by simp, rfl, rfl⟩ (fun v w h => h) fun a w' hE hF hA => ?_
            have x1 := hA.pick 5 35 (.slice (some ⟨b, o, none⟩) s.ids.length c) rfl rfl ⟨⟨5, .data⟩, by simp, rfl, rfl⟩ (fun u h => h)
            have x2 := hA.pick 6 36 (.int .i64 i) rfl rfl ⟨⟨6, .data⟩, by simp, rfl, rfl⟩ (fun u h => h)
            exact wp_value (w' := w') (v := .slice (some ⟨b, o, none⟩) i c) (by simp only [execOp, x1, x2, Option.map_some, Option.map_none]; simp only [Sem.run_bind, SLC.out w', Result.andThen_ok, Sem.run_pure]) ⟨_, rfl, rfl, Ext.refl _⟩
          · refine duty_yes rfl (p := _) rfl (d := 33) rfl (show 33 < 42 by decide) ⟨⟨3, .guard⟩, by simp, rfl, rfl⟩ (fun v w h => h) fun a w' hE hF hA => ?_
            have x1 := hF.slot 4 _ (by decide) rfl
            exact wp_value (ex_load_row rfl _ x1 139 _ (0, 0) _ ((hE.block _ (Array.getElem?_eq_some_iff.1 hrow).1).trans hrow) Tryz.underlying139 rfl sizeId) ⟨_, rfl, rfl, Ext.refl _⟩
          · refine duty_yes rfl (p := _) rfl (d := 33) rfl (show 33 < 42 by decide) ⟨⟨3, .guard⟩, by simp, rfl, rfl⟩ (fun v w h => h) fun a w' hE hF hA => ?_
            have x1 := hA.pick 7 37 (.slice (some ⟨b, o, none⟩) i c) rfl rfl ⟨⟨7, .data⟩, by simp, rfl, rfl⟩ (fun u h => h)
            have x2 := hA.pick 8 38 (.agg #[.string (s.ids[i]).1, .string (s.ids[i]).2]) rfl rfl ⟨⟨8, .data⟩, by simp, rfl, rfl⟩ (fun u h => h)
            refine wp_enter (ex_call rfl (enters_f Tryz.func80 (by kernel_rfl) rfl)) (by simp only [List.map_toArray, List.map_cons, List.map_nil, x1, x2]; exact CN.out _ hE) ?_
            rintro e w4 ⟨rfl, hb⟩
            exact ⟨_, rfl, _, rfl, rfl, hb⟩
          · refine duty_free rfl fun a w' hE hF hA => ?_
            have x1 := hA.pick 3 33 (.bool false) rfl rfl ⟨⟨3, .data⟩, by simp, rfl, rfl⟩ (fun u h => h)
            have x2 := hA.pick 9 39 (.bool b2) rfl rfl ⟨⟨9, .data⟩, by simp, rfl, rfl⟩ (fun u h => h)
            exact wp_value (w' := w') (ex_pick rfl x1) ⟨_, rfl, x2, Ext.refl _⟩
        case stay => trivial
        case rest =>
          intro W7 hE7
          simp only [forS]
          have hE8 : Ext Wq W7 := hE.trans (hE4.trans hE7)
          have k7 : W7.cell? ⟨w.heap.size, 2, none⟩ = some (.slice (some ⟨b, o, none⟩) s.ids.length c) := (hE7.cell (World.block_lt_of_cell? _ _ k2)).trans k2
          clear hrow k2 k0 g0 g1 g2
          simp only [filled, List.zip_cons_cons, List.zip_nil_left, List.foldl_cons, List.foldl_nil, Act.put, List.setIfInBounds_toArray, List.set_cons_succ, List.set_cons_zero]
          simp only [Exit.inBlock, Exit.then, Act.put]
          first | (rename_i hK; refine hK _ _ ?_; clear hK) | (rename_i hK _; refine hK _ _ ?_; clear hK) | (rename_i hK _ _; refine hK _ _ ?_; clear hK) | (rename_i hK _ _ _; refine hK _ _ ?_; clear hK)
          cases b2
          · have HN : Hid (idsTo s.ids (i + 1) = true) := by
              unfold Hid
              show (idsTo s.ids i && idAt s.ids i) = true
              rw [HI.out, HA2.out]; rfl
            go_wp2
            go_roundw
            case rel => exact ⟨i + 1, by omega, by go_num, HN, hE8⟩
            case measure => simp [intOf]; omega
          · have H : Hid (idsOk s.ids = false) := idsTo_false hlt (by rw [HA2.out]; rfl)
            go_wp2
            go_ret
            exact ⟨by rw [HR.out, H.out]; rfl, hE5.trans hE7⟩
    · have hil : i = s.ids.length := by omega
      have H : Hid (idsOk s.ids = true) := by unfold Hid idsOk; rw [← hil]; exact HI.out
      go_wp2
      go_ret
      exact ⟨by rw [HR.out, H.out]; rfl, hE1.trans (hE2.trans hE)⟩
end Go.Proofs.YtclekhjnnljjlaaGreatDoor
namespace Go.Proofs.YtclekhjnnljjlaaGreatDoor
open Go.RowKit
set_option maxHeartbeats 2000000
set_option maxRecDepth 100000

def SNewOut (w : World) (e : Ending) (w' : World) : Prop := ∃ b bm, e = .returned (.pointer (some ⟨b, 0, none⟩)) ∧ TblAt (fun k => w.heap.size ≤ k ∧ k < w'.heap.size) w' b bm [] 0 ∧ Ext w w'
theorem snew_tbl (w : World) : SNewOut w (.returned (.pointer (some ⟨w.heap.size + 1, 0, none⟩))) ((w.alloc (.map #[] 0)).alloc (.cells #[.map (some w.heap.size)] 114)) := by
  have h1 : IMap Tryz.prog 2 ((w.alloc (.map #[] 0)).alloc (.cells #[.map (some w.heap.size)] 114)) w.heap.size [] := (IMap.made Tryz.prog 2 w).keep (by
    rw [Below.heap_alloc _ _ _ (by simp)])
  refine ⟨w.heap.size + 1, w.heap.size, rfl, ⟨?_, ⟨by omega, by simp⟩, ⟨by omega, by simp; omega⟩, fun k hk => hk.2, ⟨[], h1, .nil⟩, List.Pairwise.nil, fun s hs => by simp at hs, fun s hs => by simp at hs, Nat.le_refl _⟩, (Ext.alloc w _).trans (Ext.alloc _ _)⟩
  have h := heap_alloc_new (w.alloc (.map #[] 0)) (.cells #[.map (some w.heap.size)] 114)
  simp only [World.size_alloc] at h
  exact h
theorem snew_any (w : World) : Calls Tryz.prog 19 #[] w (SNewOut w) := by
  have H := Lib.hid (snew_tbl w)
  have hmm := @run_makeMap Tryz.prog
  go_enter Tryz.func19, Tryz.ntmps19
  go_wp2
  go_ret
  exact H.out
end Go.Proofs.YtclekhjnnljjlaaGreatDoor
namespace Go.Proofs.YtclekhjnnljjlaaGreatDoor
open Go.RowKit
set_option maxHeartbeats 2000000
set_option maxRecDepth 100000

def SOpenOut (S : Nat → Prop) (w : World) (bt bm : Nat) (T : List Se) (N : Nat) (s : Se) (e : Ending) (w' : World) : Prop :=
  e = .returned (.int .i64 (topenE T s)) ∧ TblAt (fun k => S k ∨ (w.heap.size ≤ k ∧ k < w'.heap.size)) w' bt bm (topenL T s) (N + 1) ∧ Mod S w w'
theorem sopen_same {S : Nat → Prop} {w w' : World} {bt bm : Nat} {T : List Se} {N : Nat} {s : Se} {x : Int} (hT : TblAt S w bt bm T N) (hE : Ext w w') (hx : topenE T s = x) (h0 : x ≠ 0) : SOpenOut S w bt bm T N s (.returned (.int .i64 x)) w' := by
  refine ⟨by rw [hx], ?_, Mod.of_ext hE⟩
  unfold topenL
  rw [if_neg (by rw [hx]; exact h0)]
  exact hT.keep (fun k hk => hE.block k (hT.bound k hk)) (fun _ h => .inl h) (fun k hk => by
    have := hE.size
    rcases hk with hk | hk
    · have := hT.bound k hk; omega
    · exact hk.2) (by omega)
theorem tbl_get {S : Nat → Prop} {w : World} {T : List Se} {m : List (IKey × Value)} (hr : RelI (fun s v => SeS S w v s) (T.map (kvS id)) m) (k : Int) : (iget m k).isSome = (tget T k).isSome := by
  have hg := iget_tget (id : Se → Se) T k
  rcases hr.get k with ⟨h1, h2⟩ | ⟨x, y, h1, h2, _⟩
  · rw [h2]; rw [h1] at hg
    cases hq : tget T k with
    | none => rfl
    | some z => rw [hq] at hg; cases hg
  · rw [h2]; rw [h1] at hg
    cases hq : tget T k with
    | none => rw [hq] at hg; cases hg
    | some z => rfl
theorem tbl_shape {S : Nat → Prop} {w : World} {T : List Se} {m : List (IKey × Value)} (hr : RelI (fun s v => SeS S w v s) (T.map (kvS id)) m) (k : Int) (v : Value) (hv : iget m k = some v) : ∃ (q : Se) (x : Option Addr) (l c : Nat), v = .agg (seC q (.slice x l c)) := by
  rcases hr.get k with ⟨_, h2⟩ | ⟨x, y, _, h2, h3⟩
  · rw [h2] at hv; cases hv
  · rw [h2] at hv
    cases hv
    obtain ⟨a, c, e, _, _⟩ := h3
    exact ⟨x, a, _, c, e⟩
def PhiO (B bt bm : Nat) (s : Se) (cs : Array Value) : Nat → Value → World → Prop
  | 0, v, _ => v = .pointer (some ⟨bt, 0, none⟩)
  | 1, v, _ => v = .pointer (some ⟨bt, 0, none⟩)
  | 2, v, _ => v = .pointer (some ⟨bt, 0, none⟩)
  | 3, v, _ => v = .map (some bm)
  | 4, v, _ => v = .pointer (some ⟨B, 0, none⟩)
  | 5, v, _ => v = .int .i64 s.id
  | 6, v, _ => v = .agg cs
  | 7, v, w => SeS (fun b => B < b ∧ b < w.heap.size) w v s
  | _, _, _ => True
theorem PhiO.stab (B bt bm : Nat) (s : Se) (cs : Array Value) (i : Nat) (v : Value) (w w' : World) (h : PhiO B bt bm s cs i v w) (he : Ext w w') : PhiO B bt bm s cs i v w' := by
  unfold PhiO at h ⊢
  split at h <;> first | exact h | exact h.imp (fun b hb => ⟨hb.1, Nat.lt_of_lt_of_le hb.2 he.size⟩) (fun b o u hb hu => (he.cell (p := ⟨b, o, none⟩) hb.2).trans hu)
/-- A session that is not there yet is stored. -/
theorem tbl_put {S : Nat → Prop} {w w2 w3 : World} {bt bm : Nat} {T : List Se} {N : Nat} {s : Se} {v : Value} {m : List (IKey × Value)} (hT : TblAt S w bt bm T N) (hr : RelI (fun s v => SeS S w v s) (T.map (kvS id)) m) (hf : FitS s) (he : Ext w w2) (hrs : rightS s = true) (hne : ∀ y ∈ T, y.id ≠ s.id)
    (h7 : SeS (fun b => w.heap.size ≤ b ∧ b < w2.heap.size) w2 v s) (hs3 : IMap Tryz.prog 2 w3 bm (iput m s.id v)) (ht3 : w2.mapTurned w3 bm) : TblAt (fun k => S k ∨ (w.heap.size ≤ k ∧ k < w3.heap.size)) w3 bt bm (tins s T) (N + 1) ∧ Mod S w w3 := by
  have hz := turned_size ht3
  have hM : Mod S w w3 := (Mod.of_ext he).trans (Mod.turned ht3 hT.sm)
  have hz2 := he.size
  refine ⟨⟨hM.cells hT.blk, .inl hT.st, .inl hT.sm, fun k hk => ?_, ⟨_, hs3, ?_⟩, tins_sorted hT.sorted hne, ?_, ?_, ?_⟩, hM⟩
  · rcases hk with hk | hk
    · have := hT.bound k hk; omega
    · exact hk.2
  · rw [← iput_tins (id : Se → Se) hne]
    refine RelI.iput (hr.imp fun _ _ _ hv => hv.imp (fun _ h => .inl h) fun b o u _ hu => hM.cell hu) s.id ?_
    exact h7.imp (fun b hb => .inr ⟨by omega, by omega⟩) fun b o u _ hu => (Mod.turned (S := fun _ => True) ht3 trivial).cell hu
  · intro x hx
    rcases mem_tins.1 hx with rfl | hx
    · exact hrs
    · exact hT.right x hx
  · intro x hx
    rcases mem_tins.1 hx with rfl | hx
    · exact hf
    · exact hT.fit x hx
  · rw [tins_length]
    have := hT.len
    omega
theorem topen_facts {T : List Se} {s : Se} (h0 : topenE T s = 0) : rightS s = true ∧ (∀ y ∈ T, y.id ≠ s.id) ∧ topenL T s = tins s T := by
  refine ⟨?_, ?_, by unfold topenL; rw [if_pos h0]⟩
  · unfold topenE at h0
    split at h0
    · omega
    · rename_i h1; simpa using h1
  · unfold topenE at h0
    split at h0
    · omega
    · split at h0
      · omega
      · rename_i h2; exact tget_none.1 (by simpa using h2)
theorem open_put {S : Nat → Prop} {w w2 w3 : World} {bt bm : Nat} {T : List Se} {N : Nat} {s : Se} {v : Value} {m : List (IKey × Value)} (hT : TblAt S w bt bm T N) (hr : RelI (fun s v => SeS S w v s) (T.map (kvS id)) m) (hf : FitS s) (he : Ext w w2) (h0 : topenE T s = 0)
    (h7 : SeS (fun b => w.heap.size < b ∧ b < w2.heap.size) w2 v s) (hs3 : IMap Tryz.prog 2 w3 bm (iput m s.id v)) (ht3 : w2.mapTurned w3 bm) : SOpenOut S w bt bm T N s (.returned (.int .i64 0)) w3 := by
  obtain ⟨h1, h2, h3⟩ := topen_facts h0
  have h := tbl_put hT hr hf he h1 h2 (h7.imp (fun b hb => ⟨by omega, hb.2⟩) fun _ _ _ _ h => h) hs3 ht3
  unfold SOpenOut
  rw [h0, h3]
  exact ⟨rfl, h⟩

theorem sopen_any (S : Nat → Prop) (w : World) (bt bm : Nat) (T : List Se) (N : Nat) (hT : TblAt S w bt bm T N) (s : Se) (a : Option Addr) (c : Nat) (hf : FitS s) (hc : Cells w.heap.size w a (idCs s.ids)) (hTb : Tabs w) (hX : Txt6 w) (hlc : s.ids.length ≤ c) (hN : N < 4611686018427387904) :
    Calls Tryz.prog 20 #[.pointer (some ⟨bt, 0, none⟩), .agg (seC s (.slice a s.ids.length c))] w (SOpenOut S w bt bm T N s) := by
  obtain ⟨W1, hW1⟩ : ∃ W1, W1 = w.alloc (.cells (seC s (.slice a s.ids.length c)) 62) := ⟨_, rfl⟩
  have hE1 : Ext w W1 := by rw [hW1]; exact Ext.alloc _ _
  have hs1 : W1.heap.size = w.heap.size + 1 := by rw [hW1]; simp
  have hr1 : W1.heap[w.heap.size]? = some (.cells (seC s (.slice a s.ids.length c)) 62 (0, 0)) := by rw [hW1]; exact heap_alloc_new w _
  obtain ⟨m, hm0, hrl0⟩ := hT.ex
  have HRL := Lib.hid hrl0
  have HM0 := Lib.hid hm0
  have CR := Lib.hid (sright_any s a c W1 hf (hc.ext hE1) (hTb.ext6 hE1) (hX.ext hE1) hlc)
  have HW := Lib.hid hW1
  have HR1 := Lib.hid hr1
  have HT := Lib.hid hT
  have HC := Lib.hid hc
  have HF := Lib.hid hf
  have HE1 := Lib.hid hE1
  unfold seC at HW HR1 CR ⊢
  clear hW1 hr1 hT hc hTb hX hf hE1 hm0 hrl0
  go_enter Tryz.func20, Tryz.ntmps20
  go_wp2_with (first | (rw [← HW.out]; refine wpList_load_row rfl 62 (.tmp 3) rfl w.heap.size rfl 62 _ (0, 0) _ HR1.out Tryz.underlying62 rfl sizeSe ?_))
  refine CR.out.mono ?_
  rintro e W2 ⟨rfl, hE2⟩
  have hE2 : Ext W1 W2 := hE2
  by_cases hr : rightS s = true
  rotate_left
  · have hr : rightS s = false := by simpa using hr
    have HFIN := Lib.hid (sopen_same HT.out (HE1.out.trans hE2) (show topenE T s = 1 by unfold topenE; rw [if_pos hr]) (by decide))
    rw [hr]
    clear CR hE2 hr
    go_wp2
    go_ret
    exact HFIN.out
  have HRS := Lib.hid hr
  rw [hr]
  have hr2 := (hE2.block w.heap.size (by omega)).trans HR1.out
  have hz2 := hE2.size
  have hE02 := HE1.out.trans hE2
  have hT2 := HT.out.ext hE02
  have hm : IMap Tryz.prog 2 W2 bm m := HM0.out.keep (hE02.block bm HM0.out.lt)
  have hblk2 := hT2.blk
  have HE02 := Lib.hid hE02
  clear CR hr hE2 hE02
  go_wp2
  refine there_regionS _ _ _ _ _ _ _ _ _ _ _ _ 0 3 _ 31 rfl (by decide) (by decide) (by decide) hblk2 hm (fun k v hv => tbl_shape HRL.out k v hv) w.heap.size s.id _ hr2 rfl HF.out.id rfl rfl ?_
  intro v0 v1 v2 v3 v4 v5 v6 v7 v8 v9 v10 w4 hE4
  rw [tbl_get HRL.out]
  simp only [Act.put]
  go_simp
  rename_i hK
  refine hK _ _ ?_
  clear hK
  have hE04 := HE02.out.trans hE4
  have hr4 := (hE4.block w.heap.size (by omega)).trans hr2
  have hz4 := hE4.size
  have hblk4 := (hE4.block bt (Array.getElem?_eq_some_iff.1 hblk2).1).trans hblk2
  have hm4 : IMap Tryz.prog 2 w4 bm m := hm.keep (hE4.block bm hm.lt)
  have hT4 := hT2.ext hE4
  clear hm
  cases hg : (tget T s.id).isSome with
  | true =>
    have HFIN := Lib.hid (sopen_same HT.out hE04 (show topenE T s = 80 by unfold topenE; rw [if_neg (by rw [HRS.out]; simp), if_pos hg]) (by decide))
    clear hE04 hr4 hblk4 hm4 hT4 hT2 hE4 hg
    go_wp2
    go_ret
    exact HFIN.out
  | false =>
    have h0 : topenE T s = 0 := by unfold topenE; rw [if_neg (by rw [HRS.out]; simp), if_neg (by rw [hg]; simp)]
    have hc4 := HC.out.ext hE04
    have HE04 := Lib.hid hE04
    have H0 := Lib.hid h0
    clear hE04 h0 hT2 hE4 hg hr2 hblk2
    go_wp2
    have hen := fun (f : FuncId) (fn : Func) (c : Code) (hf : Tryz.prog.funcs[f]? = some fn) (hname : (fn.name == "runtime.NumGoroutine") = false) (hb : fn.body = some c) => enters_f hf hname hb
    refine wp_region_last_e 31 (by kernel_rfl) (PhiO w.heap.size bt bm s (seC s (.slice a s.ids.length c))) (PhiO.stab _ _ _ _ _) (by decide) rfl 8 _ rfl rfl rfl rfl ?_ ?fin
    · refine ⟨?_, ?_, ?_, ?_, ?_, ?_, ?_, ?_, trivial⟩
      · exact duty_free rfl fun a w' hE hF hA => wp_value (w' := w') (ex_move rfl) ⟨_, rfl, hF.slot 0 _ (by decide) rfl, Ext.refl _⟩
      · refine duty_free rfl fun a w' hE hF hA => ?_
        have x1 : a.eval (.tmp 23) = _ := hA.slot 0 23 rfl rfl ⟨⟨0, .data⟩, by simp, rfl, rfl⟩
        exact wp_value (ex_nilCheck rfl _ x1) ⟨_, rfl, rfl, Ext.refl _⟩
      · refine duty_free rfl fun a w' hE hF hA => ?_
        have x1 : a.eval (.tmp 24) = _ := hA.slot 1 24 rfl rfl ⟨⟨1, .data⟩, by simp, rfl, rfl⟩
        exact wp_value (v := .pointer (some ⟨bt, 0, none⟩)) (w' := w') (by simp only [execOp, x1]; simp [go_sem]) ⟨_, rfl, rfl, Ext.refl _⟩
      · refine duty_free rfl fun a w' hE hF hA => ?_
        have x1 : a.eval (.tmp 25) = _ := hA.slot 2 25 rfl rfl ⟨⟨2, .data⟩, by simp, rfl, rfl⟩
        refine wp_value (ex_cell rfl _ (.map (some bm)) x1 ?_ rfl Tryz.underlying112) ⟨_, rfl, rfl, Ext.refl _⟩
        exact cell_of_row w' bt 0 _ _ _ ((hE.block bt (Array.getElem?_eq_some_iff.1 hblk4).1).trans hblk4)
      · refine duty_free rfl fun a w' hE hF hA => ?_
        have x1 : a.eval (.tmp 3) = _ := hF.slot 3 (.pointer (some ⟨w.heap.size, 0, none⟩)) (by decide) rfl
        exact wp_value (v := .pointer (some ⟨w.heap.size, 0, none⟩)) (w' := w') (by simp only [execOp, x1]; simp [go_sem]) ⟨_, rfl, rfl, Ext.refl _⟩
      · refine duty_free rfl fun a w' hE hF hA => ?_
        have x1 : a.eval (.tmp 27) = _ := hA.slot 4 27 rfl rfl ⟨⟨4, .data⟩, by simp, rfl, rfl⟩
        refine wp_value (ex_cell rfl _ (.int .i64 s.id) x1 ?_ rfl Tryz.underlying2) ⟨_, rfl, rfl, Ext.refl _⟩
        exact cell_of_row w' w.heap.size 0 _ _ _ ((hE.block w.heap.size (Array.getElem?_eq_some_iff.1 hr4).1).trans hr4)
      · refine duty_free rfl fun a w' hE hF hA => ?_
        have x1 : a.eval (.tmp 3) = _ := hF.slot 3 (.pointer (some ⟨w.heap.size, 0, none⟩)) (by decide) rfl
        exact wp_value (ex_load_row rfl w.heap.size x1 62 _ (0, 0) _ ((hE.block w.heap.size (Array.getElem?_eq_some_iff.1 hr4).1).trans hr4) Tryz.underlying62 rfl sizeSe) ⟨_, rfl, rfl, Ext.refl _⟩
      · refine duty_free rfl fun a' w' hE hF hA => ?_
        have x1 : a'.eval (.tmp 29) = _ := hA.slot 6 29 rfl rfl ⟨⟨6, .data⟩, by simp, rfl, rfl⟩
        refine wp_enter (ex_call rfl (hen _ _ _ Tryz.func45 (by kernel_rfl) rfl)) (by simp only [List.map_toArray, List.map_cons, List.map_nil, x1]; exact own_any s a c w' HF.out (hc4.ext hE)) ?_
        rintro e w5 ⟨v, rfl, hv, hb⟩
        exact ⟨_, rfl, v, rfl, hv.imp (fun b hb' => ⟨by have := hE.size; omega, hb'.2⟩) (fun _ _ _ _ h => h), hb⟩
    case fin =>
      intro us w2 hE hl hP
      obtain ⟨u0, u1, u2, u3, u4, u5, u6, u7, rfl⟩ := us8 us hl
      obtain rfl : u3 = .map (some bm) := hP 3 _ rfl
      obtain rfl : u5 = .int .i64 s.id := hP 5 _ rfl
      have h7 : SeS (fun b => w.heap.size < b ∧ b < w2.heap.size) w2 u7 s := hP 7 _ rfl
      clear hP hl hen
      have hm2 : IMap Tryz.prog 2 w2 bm m := hm4.keep (hE.block bm hm4.lt)
      have q1 : m.length < maxLen := by
        have h1 := HRL.out.length
        have h2 := HT.out.len
        rw [List.length_map] at h1
        unfold maxLen; omega
      have hQ := IMap.store hm2 intT Tryz.underlying112 q1 HF.out.id u7
      have hQ1 := hQ.choose_spec
      generalize hQ.choose = w3 at hQ1
      have hrun := hQ1.1
      have HFIN := Lib.hid (open_put HT.out HRL.out HF.out (HE04.out.trans hE) H0.out h7 hQ1.2.1 hQ1.2.2)
      clear hQ1 hQ hm2 hm4 h7 hE hT4 hc4 hr4 hblk4
      simp only [filled, List.take_succ_cons, List.take_zero, List.zip_cons_cons, List.zip_nil_right, List.foldl_cons, List.foldl_nil, Act.put]
      go_simp
      rename_i hK
      refine hK _ _ ?_
      clear hrun hK
      go_wp2
      go_ret
      exact HFIN.out
end Go.Proofs.YtclekhjnnljjlaaGreatDoor
