/- The walks of arborref03's last and Parent. The walks of the reference of stat.Right, and of its look at UTF-8. The walk of the reference of stat.Right. The walk of arborref07.From. The walks of arborref03's Name and arborref07's Kids. The walk of Put. Plain laws for TreePlays: where a path is taken out of the document's list; what a call makes of the nodes. The walk of After: a range over the map of nodes, in an order that nobody knows. The walk of stat.Encode, where the node may be. The walk of the sum of bytes; a node's number. The walk of a node's number. The walk of the tree's number: a range over the tree's nodes. -/
import Derived.Test.YthinpbdbhijbgaaGreatDoorJDigestDiffs8
import Derived.Test.YthinpbdbhijbgaaGreatDoorJDigestDiffs4
import Derived.Test.YthinpbdbhijbgaaGreatDoorJDigestDiffs2
import Derived.Test.YthinpbdbhijbgaaGreatDoorJDigestDiffs9
import Derived.Test.YthinpbdbhijbgaaGreatDoorJDigestDiffs6
import Derived.Maps.RangeWalk
import Derived.Test.YthinpbdbhijbgaaGreatDoorJDigestDiffs7
namespace Go.Proofs.YthinpbdbhijbgaaGreatDoor
open Go.RowKit
set_option maxHeartbeats 1000000
set_option maxRecDepth 100000

theorem rlast_any (s : ByteArray) (w : World) (hv : vpath s = true) (hs : s.size ≤ 9223372036854775800) : Calls Tryz.prog 157 #[.string s] w fun e w' => e = .returned (.int .i64 (lastS s)) ∧ w = w' := by
  obtain ⟨i, ei, hi, h47, hno⟩ := lastS_spec hv
  have HNO := Lib.hid hno
  have HI := Lib.hid ei
  have h47' := Lib.hid h47
  clear hno ei h47 hv
  go_enter Tryz.func157, Tryz.ntmps157
  go_wp2
  go_loop [3] (fun v => ∃ q : Nat, i ≤ q ∧ q < s.size ∧ v = .int .i64 q) (fun v => (intOf v).toNat)
  case atStart => exact ⟨s.size - 1, by omega, by omega, by go_num⟩
  case round =>
    obtain ⟨q, hq1, hq2, rfl⟩ := hrel
    have e2 := bat_get s q hq2
    by_cases hq : q = i
    · subst hq
      have h := h47'.out
      rw [e2] at h
      have hb : ((s[q].toNat : Int) != 47) = false := by simp; omega
      have hb2 : ¬ (s[q].toNat : Int) ≠ 47 := by omega
      clear e2 h h47' HNO
      go_wp2
      go_ret
      exact ⟨by rw [HI.out]; rfl, rfl⟩
    · have h := HNO.out q (by omega) hq2
      rw [e2] at h
      have hb : ((s[q].toNat : Int) != 47) = true := by simp; omega
      clear e2 h h47' HNO HI
      go_wp2
      go_round
      case rel => exact ⟨q - 1, by omega, by omega, by go_num⟩
      case measure => simp [intOf]; omega

theorem rparent_any (s : ByteArray) (w : World) (hs : s.size ≤ 9223372036854775800) : Calls Tryz.prog 101 #[.string s] w fun e w' => e = .returned (parV s) ∧ Below w.heap.size w w' := by
  have C1 := rvalid_any s w (by omega)
  by_cases hv : vpath s = true
  · have hroot := root_iff hv
    rw [hv] at C1
    by_cases h1 : s.size = 1
    · have e1 : (s.toList == [47]) = true := by rw [ByteArray.toList_eq]; simpa using hroot.1 h1
      have e2 : s.toList = [47] := by simpa using e1
      have R : Hid (parV s = .tuple #[.string ⟨#[]⟩, .int .i64 30]) := by unfold Hid parV; rw [if_neg (by simp [h1])]
      have C1 := Lib.hid C1
      clear h1 hroot hv
      go_enter Tryz.func101, Tryz.ntmps101
      go_wp2_with fail
      refine C1.out.mono ?_
      rintro e w1 ⟨rfl, hb1⟩
      clear C1
      go_wp2
      go_ret2
      exact ⟨by rw [R.out]; rfl, hb1⟩
    · have e1 : (s.toList == [47]) = false := by rw [ByteArray.toList_eq]; simpa using fun h => h1 (hroot.2 h)
      have e2 : ¬ s.toList = [47] := by simpa using e1
      have R : Hid (parV s = .tuple #[.string (s.extract 0 (max (lastS s) 1).toNat), .int .i64 0]) := by unfold Hid parV parentB; rw [if_pos ⟨hv, h1⟩]
      have C1 := Lib.hid C1
      have C2 := fun w => rlast_any s w hv hs
      obtain ⟨i, e, hi, _, _⟩ := lastS_spec hv
      rw [e] at C2 R
      have C2 := Lib.hid C2
      have hf := vpath_facts hv
      by_cases h0 : i = 0
      · subst h0
        have R2 : Hid (parV s = .tuple #[.string ⟨#[47]⟩, .int .i64 0]) := by
          unfold Hid
          rw [R.out]
          congr 3
          apply congrArg Value.string
          apply ba_ext
          have h3 : bat s 0 = 47 := hf.2.2.1
          have h4 := drop_at_slash (s := s) (i := 0) (by omega) h3
          rw [List.drop_zero] at h4
          rw [show (max ((0 : Nat) : Int) 1).toNat = 1 from rfl, ByteArray.data_extract, Array.toList_extract, List.extract_eq_take_drop]
          rw [List.drop_zero, h4]
          rfl
        clear hroot hf hv h1 e R
        go_enter Tryz.func101, Tryz.ntmps101
        go_wp2_with fail
        refine C1.out.mono ?_
        rintro e w1 ⟨rfl, hb1⟩
        clear C1
        go_wp2_with fail
        refine (C2.out _).mono ?_
        rintro e w2 ⟨rfl, rfl⟩
        clear C2
        go_wp2
        go_ret2
        exact ⟨by rw [R2.out]; rfl, hb1⟩
      · have hm : (max (i : Int) 1).toNat = i := by omega
        rw [hm] at R
        have hi0 : ((i : Int) == 0) = false := by simp; omega
        have hi1 : ¬ (i : Int) = 0 := by omega
        have hi2 : (i : Int) ≤ s.size := by omega
        clear hroot hf hv h1 e hm
        go_enter Tryz.func101, Tryz.ntmps101
        go_wp2_with fail
        refine C1.out.mono ?_
        rintro e w1 ⟨rfl, hb1⟩
        clear C1
        go_wp2_with fail
        refine (C2.out _).mono ?_
        rintro e w2 ⟨rfl, rfl⟩
        go_wp2_with fail
        refine (C2.out _).mono ?_
        rintro e w2 ⟨rfl, rfl⟩
        clear C2
        go_wp2
        go_ret2
        exact ⟨by rw [R.out]; rfl, hb1⟩
  · have hv' : vpath s = false := by simpa using hv
    have R : Hid (parV s = .tuple #[.string ⟨#[]⟩, .int .i64 30]) := by unfold Hid parV; rw [if_neg (by simp [hv'])]
    rw [hv'] at C1
    have C1 := Lib.hid C1
    clear hv hv'
    go_enter Tryz.func101, Tryz.ntmps101
    go_wp2_with fail
    refine C1.out.mono ?_
    rintro e w1 ⟨rfl, hb1⟩
    clear C1
    go_wp2
    go_ret2
    exact ⟨by rw [R.out]; rfl, hb1⟩
end Go.Proofs.YthinpbdbhijbgaaGreatDoor
namespace Go.Proofs.YthinpbdbhijbgaaGreatDoor
open Go.RowKit
set_option maxHeartbeats 1000000
set_option maxRecDepth 100000

theorem more_any (b : Nat) (w : World) : Calls Tryz.prog 270 #[.int .u8 b] w fun e w' => e = .returned (.tuple #[.int .i64 (moreF b).1, .int .u8 (moreF b).2.1, .int .u8 (moreF b).2.2]) ∧ w = w' := by
  go_enter Tryz.func270, Tryz.ntmps270
  go_wp2
  all_goals (try go_ret3)
  all_goals (refine ⟨?_, rfl⟩; go_light; (try simp only [beq_iff_eq, beq_eq_false_iff_ne, ne_eq] at *))
  all_goals (have key : ∀ n lo h, moreF b = (n, lo, h) → Ending.returned (.tuple #[.int .i64 n, .int .u8 lo, .int .u8 h]) = Ending.returned (.tuple #[.int .i64 (moreF b).1, .int .u8 (moreF b).2.1, .int .u8 (moreF b).2.2]) := fun n lo h e => by rw [e])
  all_goals (refine key _ _ _ ?_; unfold moreF; repeat' split)
  all_goals (first | rfl | (exfalso; omega))

theorem utf8_any (s : ByteArray) (w : World) (hs : s.size ≤ 9223372036854775800) : Calls Tryz.prog 238 #[.string s] w fun e w' => e = .returned (.bool (Lib.validD s.data.toList)) ∧ w = w' := by
  have hz := Lib.hid (validAt_zero s)
  go_enter Tryz.func238, Tryz.ntmps238
  go_wp2
  go_loop [3] (fun i => ∃ q : Nat, i = .int .i64 q ∧ q ≤ s.size ∧ Hid (validAt s 0 = validAt s q)) (fun i => s.size - (intOf i).toNat)
  case atStart => exact ⟨0, rfl, Nat.zero_le _, rfl⟩
  case round =>
    obtain ⟨q, rfl, hq, Hv⟩ := hrel
    by_cases hlt : q < s.size
    · have hbg := bat_get s q hlt
      have hb := bat_lt s q
      have hC := more_any (bat s q)
      obtain ⟨n0, lo0, hi0, hm⟩ : Exists fun n => Exists fun lo => Exists fun h => moreF (bat s q) = (n, lo, h) := ⟨_, _, _, rfl⟩
      have hcs := moreF_cases (bat s q) hb
      rw [hm] at hC hcs
      simp only [Prod.mk.injEq] at hcs
      by_cases hneg : n0 = -1
      · subst hneg
        have H1 : Hid (Lib.validD s.data.toList = false) := by
          unfold Hid; rw [← hz.out, Hv.out]; exact validAt_bad s q hlt (ut_none s q _ _ hm)
        rw [hbg] at hC
        have HC := Lib.hid hC
        clear hm hcs hC Hv hbg hb
        go_wp2_with fail
        refine (HC.out _).mono ?_
        rintro e w' ⟨rfl, rfl⟩
        go_wp2
        go_ret
        exact ⟨by rw [H1.out]; rfl, rfl⟩
      · obtain ⟨n, rfl⟩ : Exists fun n : Nat => n0 = (n : Int) := ⟨n0.toNat, by omega⟩
        have hn3 : n ≤ 3 := by omega
        have hlo : 0 ≤ lo0 ∧ lo0 ≤ 255 ∧ 0 ≤ hi0 ∧ hi0 ≤ 255 := by omega
        have hd := ut_dec s q hlt n lo0 hi0 hm
        have D1 := Lib.hid hd.1
        have D2 := Lib.hid hd.2.1
        have D3 := Lib.hid hd.2.2
        have hok1 : ∀ j, okAt s q lo0 hi0 j ↔ if j = 1 then lo0 ≤ bat s (q + 1) ∧ (bat s (q + 1) : Int) ≤ hi0 else 128 ≤ bat s (q + j) ∧ bat s (q + j) ≤ 191 := fun j => Iff.rfl
        have OK := Lib.hid hok1
        rw [hbg] at hC
        have HC := Lib.hid hC
        clear hd hm hcs hC hbg hb hok1
        by_cases hout : 0 < n ∧ s.size ≤ q + n
        · have H1 : Hid (Lib.validD s.data.toList = false) := by
            unfold Hid; rw [← hz.out, Hv.out]; exact validAt_bad s q hlt (D2.out hout.1 hout.2)
          obtain ⟨h0, h1⟩ := hout
          have h1' : (s.size : Int) ≤ (q : Int) + n := by omega
          go_wp2_with fail
          refine (HC.out _).mono ?_
          rintro e w' ⟨rfl, rfl⟩
          go_wp2
          go_ret
          exact ⟨by rw [H1.out]; rfl, rfl⟩
        · have hin : q + n < s.size := by omega
          have hin' : (q : Int) + n < s.size := by omega
          have hnn : (0 : Int) ≤ n := by omega
          clear hout
          go_wp2_with fail
          refine (HC.out _).mono ?_
          rintro e w' ⟨rfl, rfl⟩
          clear HC
          go_wp2
          go_loop [5, 6, 7] (fun lo h k => ∃ (m : Nat) (lk hk : Int), k = .int .i64 m ∧ 1 ≤ m ∧ m ≤ n + 1 ∧ lo = .int .u8 lk ∧ h = .int .u8 hk ∧ 0 ≤ lk ∧ lk ≤ 255 ∧ 0 ≤ hk ∧ hk ≤ 255 ∧ Hid (okAt s q lo0 hi0 m ↔ (lk ≤ bat s (q + m) ∧ (bat s (q + m) : Int) ≤ hk)) ∧ Hid (∀ j, 1 ≤ j → j < m → okAt s q lo0 hi0 j)) (fun _ _ k => n + 1 - (intOf k).toNat)
          case atStart => exact ⟨1, lo0, hi0, rfl, by omega, by omega, rfl, rfl, hlo.1, hlo.2.1, hlo.2.2.1, hlo.2.2.2, by unfold Hid; rw [OK.out 1, if_pos rfl], fun j h1 h2 => by omega⟩
          case round =>
            obtain ⟨m, lk, hk, rfl, hm1, hm2, rfl, rfl, hl0, hl1, hk0, hk1, HO, HA⟩ := hrel
            by_cases hmn : m ≤ n
            · have hpos : q + m < s.size := by omega
              have hbg := bat_get s (q + m) hpos
              by_cases hok : okAt s q lo0 hi0 m
              · have h2 := HO.out.1 hok
                rw [hbg] at h2
                obtain ⟨h3, h4⟩ := h2
                have HN : Hid (∀ j, 1 ≤ j → j < m + 1 → okAt s q lo0 hi0 j) := fun j h1 h2 => by
                  by_cases e : j = m
                  · rw [e]; exact hok
                  · exact HA.out j h1 (by omega)
                clear hbg hok HO HA
                go_wp2
                go_round
                case rel => exact ⟨m + 1, 128, 191, by go_num, by omega, by omega, rfl, rfl, by omega, by omega, by omega, by omega, by unfold Hid; rw [OK.out (m + 1), if_neg (by omega)]; omega, HN⟩
                case measure => simp [intOf]; omega
              · have H1 : Hid (Lib.validD s.data.toList = false) := by
                  unfold Hid; rw [← hz.out, Hv.out]; exact validAt_bad s q hlt (D3.out m hm1 hmn hin hok)
                have h2 : (s[q + m].toNat : Int) < lk ∨ (lk ≤ (s[q + m].toNat : Int) ∧ hk < (s[q + m].toNat : Int)) := by
                  have : ¬ (lk ≤ (bat s (q + m) : Int) ∧ (bat s (q + m) : Int) ≤ hk) := fun h => hok (HO.out.2 h)
                  rw [hbg] at this
                  omega
                clear hbg hok HO HA
                rcases h2 with h2 | ⟨h2, h3⟩
                all_goals
                  go_wp2
                  go_ret
                  exact ⟨by rw [H1.out]; rfl, rfl⟩
            · have hd := D1.out (.inr hin) (fun j h1 h2 => HA.out j h1 (by omega))
              have H1 : Hid (validAt s 0 = validAt s (q + 1 + n)) := by
                unfold Hid; rw [Hv.out, validAt_good s q hlt hd.1, hd.2]; congr 1; omega
              clear HO HA hd Hv
              go_wp2
              go_round
              case rel => exact ⟨q + 1 + n, by go_num, by omega, H1⟩
              case measure => simp [intOf]; omega
    · have H1 : Hid (Lib.validD s.data.toList = true) := by
        unfold Hid; rw [← hz.out, Hv.out]; exact validAt_end s q (by omega)
      clear Hv
      go_wp2
      go_ret
      exact ⟨by rw [H1.out]; rfl, rfl⟩

/-- What the reference says of a list's texts. -/
def textsN (l : List Ac) : Int := if l.any bigAc then 3 else if l.any badAc then 1 else 0

theorem textsN_eq (n : Nd) : rightN n = if !vpath n.path then 30 else if 1048575 < n.data.length ∨ 16 < n.acl.length then 3 else if textsN n.acl ≠ 0 then textsN n.acl else if badQ n then 1 else 0 := by
  unfold rightN textsN
  generalize n.acl.any bigAc = B
  generalize n.acl.any badAc = A
  generalize vpath n.path = v
  by_cases h : 1048575 < n.data.length ∨ 16 < n.acl.length
  · have h' : 1048575 < n.data.length ∨ 16 < n.acl.length ∨ B = true := h.elim .inl (fun k => .inr (.inl k))
    rw [if_pos h, if_pos h']
  · have h' : (1048575 < n.data.length ∨ 16 < n.acl.length ∨ B = true) ↔ B = true := ⟨fun k => k.elim (fun k => absurd (.inl k) h) (fun k => k.elim (fun k => absurd (.inr k) h) id), fun k => .inr (.inr k)⟩
    rw [if_neg h]
    simp only [h']
    cases B <;> cases A <;> simp

theorem texts_any (a : Option Addr) (c : Nat) (l : List Ac) (w : World) (hc : Cells w.heap.size w a (acCs l)) (hm : l.length ≤ 9223372036854775807) (ht : ∀ x ∈ l, x.scheme.size ≤ 9223372036854775800 ∧ x.id.size ≤ 9223372036854775800) :
    Calls Tryz.prog 191 #[.slice a l.length c] w fun e w' => e = .returned (.int .i64 (textsN l)) ∧ w = w' := by
  have HT := Lib.hid ht
  clear ht
  go_enter Tryz.func191, Tryz.ntmps191
  go_wp2
  go_loop [3, 4] (fun e i => ∃ (k : Nat) (ev : Int), k ≤ l.length ∧ i = .int .i64 k ∧ e = .int .i64 ev ∧ Hid (ev = if (l.take k).any badAc then 1 else 0) ∧ Hid ((l.take k).any bigAc = false)) (fun _ i => l.length - (intOf i).toNat)
  case atStart => exact ⟨0, 0, Nat.zero_le _, rfl, rfl, by simp [Hid], by simp [Hid]⟩
  case round =>
    obtain ⟨k, ev, hk, rfl, rfl, HE, HB⟩ := hrel
    by_cases hlt : k < l.length
    · obtain ⟨b, off, rfl, hb, c0, c1, c2⟩ := acCells hc k hlt
      have htk := HT.out l[k] (List.getElem_mem hlt)
      have ht1 := htk.1
      have ht2 := htk.2
      clear htk
      have hts : ∀ p : Ac → Bool, (l.take (k + 1)).any p = ((l.take k).any p || p l[k]) := fun p => by
        rw [List.take_succ_eq_append_getElem hlt, List.any_append]; simp
      have HTS := Lib.hid hts
      have hbig : l[k] ∈ l := List.getElem_mem hlt
      clear hts
      by_cases hbg : bigAc l[k] = true
      · have H1 : Hid (textsN l = 3) := by
          unfold Hid textsN
          rw [if_pos (List.any_eq_true.2 ⟨l[k], hbig, hbg⟩)]
        have h2 : 256 < (l[k].scheme.size : Int) ∨ ((l[k].scheme.size : Int) ≤ 256 ∧ 256 < (l[k].id.size : Int)) := by
          simp [bigAc] at hbg; omega
        clear hbg
        rcases h2 with h2 | ⟨h2, h3⟩
        all_goals
          go_wp2
          go_ret
          exact ⟨ret_int H1.out.symm, rfl⟩
      · have h2 : (l[k].scheme.size : Int) ≤ 256 ∧ (l[k].id.size : Int) ≤ 256 := by simp [bigAc] at hbg; omega
        obtain ⟨h2, h3⟩ := h2
        have hbf : bigAc l[k] = false := by simpa using hbg
        have HB2 : Hid ((l.take (k + 1)).any bigAc = false) := by unfold Hid; rw [HTS.out, HB.out, hbf]; rfl
        clear hbg hbf
        have U1 := utf8_any l[k].scheme
        have U2 := utf8_any l[k].id
        cases hv1 : Lib.validD l[k].scheme.data.toList
        · have HE2 : Hid ((1 : Int) = if (l.take (k + 1)).any badAc then 1 else 0) := by
            unfold Hid; rw [HTS.out, show badAc l[k] = true from by simp [badAc, hv1]]; simp
          rw [hv1] at U1
          have U1 := Lib.hid U1
          clear hv1 U2
          go_wp2_with fail
          refine (U1.out _ (by omega)).mono ?_
          rintro e w' ⟨rfl, rfl⟩
          go_wp2
          go_round
          case rel => exact ⟨k + 1, 1, by omega, by go_num, rfl, HE2, HB2⟩
          case measure => simp [intOf]; omega
        · rw [hv1] at U1
          have U1 := Lib.hid U1
          cases hv2 : Lib.validD l[k].id.data.toList
          · have HE2 : Hid ((1 : Int) = if (l.take (k + 1)).any badAc then 1 else 0) := by
              unfold Hid; rw [HTS.out, show badAc l[k] = true from by simp [badAc, hv2]]; simp
            rw [hv2] at U2
            have U2 := Lib.hid U2
            clear hv1 hv2
            go_wp2_with fail
            refine (U1.out _ (by omega)).mono ?_
            rintro e w' ⟨rfl, rfl⟩
            go_wp2_with fail
            refine (U2.out _ (by omega)).mono ?_
            rintro e w' ⟨rfl, rfl⟩
            go_wp2
            go_round
            case rel => exact ⟨k + 1, 1, by omega, by go_num, rfl, HE2, HB2⟩
            case measure => simp [intOf]; omega
          · have HE2 : Hid (ev = if (l.take (k + 1)).any badAc then 1 else 0) := by
              unfold Hid; rw [HTS.out, show badAc l[k] = false from by simp [badAc, hv1, hv2], Bool.or_false]; exact HE.out
            rw [hv2] at U2
            have U2 := Lib.hid U2
            clear hv1 hv2
            go_wp2_with fail
            refine (U1.out _ (by omega)).mono ?_
            rintro e w' ⟨rfl, rfl⟩
            go_wp2_with fail
            refine (U2.out _ (by omega)).mono ?_
            rintro e w' ⟨rfl, rfl⟩
            go_wp2
            go_round
            case rel => exact ⟨k + 1, ev, by omega, by go_num, rfl, HE2, HB2⟩
            case measure => simp [intOf]; omega
    · obtain rfl : k = l.length := by omega
      have H1 : Hid (textsN l = ev) := by
        unfold Hid textsN
        have e1 := HE.out
        have e2 := HB.out
        rw [List.take_length] at e1 e2
        rw [e2, e1]; simp
      clear HE HB
      go_wp2
      go_ret
      exact ⟨ret_int H1.out.symm, rfl⟩
end Go.Proofs.YthinpbdbhijbgaaGreatDoor
namespace Go.Proofs.YthinpbdbhijbgaaGreatDoor
open Go.RowKit
set_option maxHeartbeats 1000000
set_option maxRecDepth 100000

theorem rright_any (n : Nd) (da aa : Option Addr) (dc ac : Nat) (w : World) (hf : Fit n) (hT : Tabs w) (hA : Cells w.heap.size w aa (acCs n.acl)) :
    Calls Tryz.prog 142 #[.agg (ndC n (.slice da n.data.length dc) (.slice aa n.acl.length ac))] w (RightOut (rightN n) w) := by
  have hfp := hf.path
  have hfd := hf.data
  have hfa := hf.acl
  have HT := Lib.hid hf.texts
  have hbox := Box.alloc w (ndC n (.slice da n.data.length dc) (.slice aa n.acl.length ac)) 44
  have hb0 : Below w.heap.size w (w.alloc (.cells (ndC n (.slice da n.data.length dc) (.slice aa n.acl.length ac)) 44)) := (Below.refl _ _).alloc (Nat.le_refl _) _
  unfold ndC at hbox hb0 ⊢
  by_cases h1 : vpath n.path = true
  · have C1 := fun w => rvalid_any n.path w (by omega)
    simp only [h1] at C1
    have C1 := Lib.hid C1
    go_enter Tryz.func142, Tryz.ntmps142
    go_wp2_with fail
    refine (C1.out _).mono ?_
    rintro e w1 ⟨rfl, hb1⟩
    have hx1 := hbox.below hb1 (by simp)
    have hb : Below w.heap.size w w1 := hb0.trans (hb1.mono (by simp))
    clear hbox hb1 hb0
    unfold Box at hx1
    by_cases h2 : 1048575 < (n.data.length : Int)
    · have R : Hid (rightN n = 3) := by unfold Hid rightN; simp [h1]; omega
      clear h1 C1
      go_wp2
      go_ret
      exact ⟨ret_int R.out.symm, hb⟩
    by_cases h3 : 16 < (n.acl.length : Int)
    · have R : Hid (rightN n = 3) := by unfold Hid rightN; simp [h1]; omega
      have h2' : decide (1048575 < (n.data.length : Int)) = false := by simpa using h2
      clear h1 C1
      go_wp2
      go_ret
      exact ⟨ret_int R.out.symm, hb⟩
    have h2' : decide (1048575 < (n.data.length : Int)) = false := by simpa using h2
    have h3' : decide (16 < (n.acl.length : Int)) = false := by simpa using h3
    have hA1 := hA.below hb
    have hr4 : rightN n = if textsN n.acl ≠ 0 then textsN n.acl else if badQ n then 1 else 0 := by
      rw [textsN_eq, if_neg (by simp [h1]), if_neg (by omega)]
    have R4 := Lib.hid hr4
    have C2 := texts_any aa ac n.acl w1 (hA1.mono hb.size) (by omega) HT.out
    clear h1 C1 hr4
    by_cases h5 : ¬ textsN n.acl = 0
    · have R : Hid (rightN n = textsN n.acl) := by unfold Hid; rw [R4.out, if_pos h5]
      have hne : (textsN n.acl != 0) = true := by simpa using h5
      have C2 := Lib.hid C2
      clear h5 R4
      go_wp2_with fail
      refine C2.out.mono ?_
      rintro e w3 ⟨rfl, rfl⟩
      clear C2
      go_wp2
      go_ret
      exact ⟨ret_int R.out.symm, hb⟩
    have h5 : textsN n.acl = 0 := by omega
    have R : Hid (rightN n = if badQ n then 1 else 0) := by unfold Hid; rw [R4.out, h5]; simp
    rw [h5] at C2
    have C2 := Lib.hid C2
    clear R4 h5
    go_wp2_with fail
    refine C2.out.mono ?_
    rintro e w3 ⟨rfl, rfl⟩
    have hsz3 : w.heap.size < w1.heap.size := by
      have := block_lt_of_cell (show w1.cell? ⟨w.heap.size, 0, none⟩ = _ from hx1 0)
      exact this
    have hfin : ∀ o, Below w.heap.size w (w1.alloc o) := fun o => hb.alloc (by omega) o
    have HFIN := Lib.hid hfin
    have hx3 := hx1
    clear C2 hfin hx1
    have HR : ∀ b : Bool, badQ n = b → rightN n = if b then 1 else 0 := fun b hbq => by rw [R.out, hbq]
    have HR := Lib.hid HR
    cases hh : n.has
    · have hq0 : badQ n = (n.count != 0 || n.bytes != 0) := by unfold badQ; rw [hh]; simp
      rw [hh] at hx3
      by_cases hc0 : n.count = 0
      · by_cases hb0 : n.bytes = 0
        · have R0 := Lib.hid (HR.out false (by rw [hq0, hc0, hb0]; rfl))
          have e1 : (n.count != 0) = false := by simp [hc0]
          have e2 : (n.bytes != 0) = false := by simp [hb0]
          clear hc0 hb0 hq0 hh
          go_wp2
          go_ret
          exact ⟨ret_int R0.out.symm, HFIN.out _⟩
        · have R0 := Lib.hid (HR.out true (by rw [hq0]; simp [hb0]))
          have e1 : (n.count != 0) = false := by simp [hc0]
          have e2 : (n.bytes != 0) = true := by simp [hb0]
          clear hc0 hb0 hq0 hh
          go_wp2
          go_ret
          exact ⟨ret_int R0.out.symm, HFIN.out _⟩
      · have R0 := Lib.hid (HR.out true (by rw [hq0]; simp [hc0]))
        have e1 : (n.count != 0) = true := by simp [hc0]
        clear hc0 hq0 hh
        go_wp2
        go_ret
        exact ⟨ret_int R0.out.symm, HFIN.out _⟩
    · have hq0 : badQ n = (decide (n.count < -1) || decide (n.bytes < -1)) := by unfold badQ; rw [hh]; simp
      rw [hh] at hx3
      by_cases hc0 : n.count < -1
      · have R0 := Lib.hid (HR.out true (by rw [hq0]; simp [hc0]))
        clear hq0 hh
        go_wp2
        go_ret
        exact ⟨ret_int R0.out.symm, HFIN.out _⟩
      · by_cases hb0 : n.bytes < -1
        · have R0 := Lib.hid (HR.out true (by rw [hq0]; simp [hb0]))
          have e1 : decide (n.count < -1) = false := by simpa using hc0
          clear hq0 hh
          go_wp2
          go_ret
          exact ⟨ret_int R0.out.symm, HFIN.out _⟩
        · have R0 := Lib.hid (HR.out false (by rw [hq0]; simp [hc0, hb0]))
          have e1 : decide (n.count < -1) = false := by simpa using hc0
          have e2 : decide (n.bytes < -1) = false := by simpa using hb0
          clear hq0 hh
          go_wp2
          go_ret
          exact ⟨ret_int R0.out.symm, HFIN.out _⟩
  · have C1 := fun w => rvalid_any n.path w (by omega)
    have h1' : vpath n.path = false := by simpa using h1
    have R : Hid (rightN n = 30) := by unfold Hid rightN; simp [h1']
    simp only [h1'] at C1
    have C1 := Lib.hid C1
    clear h1 h1'
    go_enter Tryz.func142, Tryz.ntmps142
    go_wp2_with fail
    refine (C1.out _).mono ?_
    rintro e w1 ⟨rfl, hb1⟩
    have hb : Below w.heap.size w w1 := hb0.trans (hb1.mono (by simp))
    clear hbox hb1 hb0
    go_wp2
    go_ret
    exact ⟨ret_int R.out.symm, hb⟩
end Go.Proofs.YthinpbdbhijbgaaGreatDoor
namespace Go.Proofs.YthinpbdbhijbgaaGreatDoor
open Go.RowKit
set_option maxHeartbeats 2000000
set_option maxRecDepth 100000

def RFromOut (L : List Nd) (w : World) (e : Ending) (w' : World) : Prop :=
  match fromN L with
  | .error (i, x) => e = .returned (.tuple #[.pointer none, .int .i64 i, .int .i64 x]) ∧ Ext w w'
  | .ok M => ∃ b, e = .returned (.tuple #[.pointer (some ⟨b, 0, none⟩), .int .i64 0, .int .i64 0]) ∧ w.heap.size ≤ b ∧ RT w' b (nds M) ∧ Ext w w'
theorem rfromOut_err {L : List Nd} {w w' : World} {i : Nat} {x : Int} (h : fromN L = .error (i, x)) (hb : Ext w w') : RFromOut L w (.returned (.tuple #[.pointer none, .int .i64 i, .int .i64 x])) w' := by
  unfold RFromOut; rw [h]; exact ⟨rfl, hb⟩

theorem nds_fit {M : List (Key × Nd)} (hM : MOk M) : ∀ m ∈ nds M, Fit m := fun m hm => by
  obtain ⟨x, hx, rfl⟩ := List.mem_map.1 hm
  exact (right_fit (hM.right x hx)).1
theorem rfind_isSome {M : List (Key × Nd)} (hM : MOk M) (s : ByteArray) : (rfind (nds M) s).2 = (mget M s.data.toList).isSome := rfind_there hM.sorted hM.key s
theorem rt_nil (w : World) : RT (w.alloc (.cells #[.slice none 0 0] 53)) w.heap.size [] :=
  ⟨none, 0, [], heap_alloc_new w _, Nat.le_refl _, Nat.zero_le _, fun _ h => h, ⟨rfl, fun j u hj => by simp at hj, fun j cs hj => by simp at hj⟩, .inl ⟨rfl, rfl⟩⟩

set_option maxHeartbeats 8000000 in
theorem rfrom_any (L : List Nd) (a : Option Addr) (c : Nat) (w : World) (hT0 : Tabs w) (hL : NdsAt w.heap.size w a L) (hf : ∀ n ∈ L, Fit n) (hl : L.length * 168 ≤ 140737488355328) : Calls Tryz.prog 99 #[.slice a L.length c] w (RFromOut L w) := by
  have hR0 := rt_nil w
  have hE0 : Ext w (w.alloc (.cells #[.slice none 0 0] 53)) := Ext.alloc _ _
  have hl2 : L.length ≤ 9223372036854775807 := by omega
  have hsz := hT0.size
  have HR0 := Lib.hid hR0
  have HE0 := Lib.hid hE0
  have HT := Lib.hid hT0
  have HL := Lib.hid hL
  have HF := Lib.hid hf
  clear hR0 hE0 hT0 hL hf
  go_enter Tryz.func99, Tryz.ntmps99
  go_wp2
  go_loopw [6] (fun i wr => ∃ (k : Nat) (M : List (Key × Nd)), k ≤ L.length ∧ i = .int .i64 k ∧ Hid (fromL L 0 [] = fromL (L.drop k) k M) ∧ Hid (MOk M) ∧ RT wr w.heap.size (nds M) ∧ M.length ≤ k ∧ Ext w wr) (fun i _ => L.length - (intOf i).toNat)
  case atStart => exact ⟨0, [], Nat.zero_le _, rfl, rfl, MOk.nil, HR0.out, Nat.le_refl _, HE0.out⟩
  case round =>
    obtain ⟨k, M, hk, rfl, HFL, HM, hR, hMk, hE⟩ := hrel
    by_cases hlt : k < L.length
    · have hLk : L[k]? = some L[k] := List.getElem?_eq_getElem hlt
      have hfk := HF.out L[k] (List.getElem_mem hlt)
      have HS := Lib.hid (HFL.out.trans (fromL_step L k L[k] M hLk))
      obtain ⟨b, off, v, rfl, hb, hv, hc⟩ := HL.out k L[k] hLk
      generalize L[k] = n at *
      obtain ⟨da, dc, aa, ac, rfl, hD, hA⟩ := hv
      have hcw : ∀ W, Ext w W → ∀ j u, (ndC n (.slice da n.data.length dc) (.slice aa n.acl.length ac))[j]? = some u → W.cell? ((⟨b, off + k * 17, none⟩ : Addr).add j) = some u := fun W h j u hj => by
        rw [addr_add, h.cell (p := ⟨b, off + k * 17 + j, none⟩) hb]
        exact hc j u hj
      have hc1 := hcw wr hE
      have CR := Lib.hid (rright_any n da aa dc ac wr hfk (HT.out.below hE hsz) ((hA.ext hE)))
      have HR := Lib.hid hR
      have HE := Lib.hid hE
      have HCW := Lib.hid hcw
      have HC1 := Lib.hid hc1
      have HD := Lib.hid hD
      have HA := Lib.hid hA
      unfold ndC at HC1
      clear hcw hc1 hc hR hE hD hA
      go_wp2_with (refine wpList_load_at rfl 44 (.tmp 27) rfl _ rfl _ _ HC1.out Tryz.underlying44 rfl sizeNd ?_)
      refine CR.out.mono ?_
      rintro e w2 ⟨rfl, hE2⟩
      have hE2 : Ext wr w2 := hE2
      have hEw2 := HE.out.trans hE2
      by_cases hr : rightN n = 0
      · have hp0 : w2.cell? ⟨b, off + k * 17, none⟩ = some (.string n.path) := by
          have := HCW.out w2 hEw2 0 (.string n.path) rfl
          rwa [addr_add] at this
        have CF := Lib.hid (rfind_any _ w2 w.heap.size (nds M) (HR.out.ext hE2) (nds_fit HM.out) n.path hfk.path)
        have hthere := rfind_isSome HM.out n.path
        have HS2 := Lib.hid (HS.out.trans (by rw [if_neg (by simpa using hr)]))
        have HR2 := Lib.hid (HR.out.ext hE2)
        have HE2 := Lib.hid hEw2
        rw [hr]
        have HRT := Lib.hid hr
        clear hE2 hEw2 CR HS HR HC1 hr
        rw [hthere] at CF
        cases hg : mget M n.path.data.toList with
        | some y =>
          rw [hg] at CF
          have hgK : mget M (keyN n) = some y := hg
          have HERR := Lib.hid (show fromN L = .error (k, 71) by
            unfold fromN
            rw [HS2.out, if_pos (by rw [hgK]; rfl)])
          clear hg hgK hthere HS2
          go_wp2_with fail
          refine CF.out.mono ?_
          rintro e w3 ⟨rfl, hE3⟩
          have HFIN := Lib.hid (rfromOut_err HERR.out (HE2.out.trans hE3))
          clear CF hE3 HERR hp0
          go_wp2
          go_ret3
          exact HFIN.out
        | none =>
          rw [hg] at CF
          have hgK : mget M (keyN n) = none := hg
          have HS3 := Lib.hid (HS2.out.trans (by rw [if_neg (by rw [hgK]; simp)]))
          have HINS := Lib.hid (rfind_ins HM.out n hgK)
          have HM2 := Lib.hid (HM.out.put n HRT.out)
          have hml : (mput M (keyN n) n).length ≤ k + 1 := by
            unfold mput; rw [mins_length]
            have := List.length_filter_le (fun x : Key × Nd => !(x.1 == keyN n)) M
            show (mdel M (keyN n)).length + 1 ≤ k + 1
            unfold mdel; omega
          clear hg hgK hthere HS2
          go_wp2_with fail
          refine CF.out.mono ?_
          rintro e w3 ⟨rfl, hE3⟩
          have hE3 : Ext w2 w3 := hE3
          have hEw3 := HE2.out.trans hE3
          have HC3 := Lib.hid (HCW.out w3 hEw3)
          have CI := Lib.hid (rinsert_any w3 w.heap.size (nds M) n da aa dc ac (HR2.out.ext hE3) (nds_fit HM.out) hfk (HD.out.ext hEw3) (HA.out.ext hEw3) (by rw [nds_length]; omega))
          have HE3 := Lib.hid hEw3
          unfold ndC at HC3
          clear hE3 hEw3 CF HR2 hp0
          go_wp2_with (refine wpList_load_at rfl 44 (.tmp 49) rfl _ rfl _ _ HC3.out Tryz.underlying44 rfl sizeNd ?_)
          refine CI.out.mono ?_
          rintro e w4 ⟨rfl, hR4, hC4⟩
          rw [← HINS.out] at hR4
          have HR4 := Lib.hid hR4
          have HE4 := Lib.hid (HE3.out.trans' (hC4.below (fun x hx => by subst hx; exact Nat.le_refl _) HE3.out.size))
          clear CI hR4 hC4 HC3
          go_wp2
          go_roundw
          case rel => exact ⟨k + 1, _, by omega, by go_num, HS3.out, HM2.out, HR4.out, hml, HE4.out⟩
          case measure => simp [intOf]; omega
      · have hr1 : (rightN n != 0) = true := by simpa using hr
        have HERR := Lib.hid (show fromN L = .error (k, rightN n) by
          unfold fromN
          rw [HS.out, if_pos (by simpa using hr)])
        have HFIN := Lib.hid (rfromOut_err HERR.out hEw2)
        clear hE2 hEw2 CR HS HERR HC1
        go_wp2
        go_ret3
        exact HFIN.out
    · obtain rfl : k = L.length := by omega
      have HF2 : Hid (fromL L 0 [] = .ok M) := by
        unfold Hid; rw [HFL.out, List.drop_length]; rfl
      have CF := Lib.hid (rfind_any _ wr w.heap.size (nds M) hR (nds_fit HM.out) ⟨#[47]⟩ (by decide))
      have hthere := rfind_isSome HM.out ⟨#[47]⟩
      rw [hthere] at CF
      have hkl : ((⟨#[47]⟩ : ByteArray)).data.toList = [47] := rfl
      rw [hkl] at CF
      have HR := Lib.hid hR
      have HE := Lib.hid hE
      clear hR hE hthere hkl
      cases hg : mget M [47] with
      | none =>
        rw [hg] at CF
        have HERR := Lib.hid (show fromN L = .error (0, 70) by
          unfold fromN
          rw [HF2.out]
          simp only
          rw [if_pos hg])
        clear hg
        go_wp2_with fail
        refine CF.out.mono ?_
        rintro e w3 ⟨rfl, hE3⟩
        have HFIN := Lib.hid (rfromOut_err HERR.out (HE.out.trans hE3))
        clear CF hE3 HERR
        go_wp2
        go_ret3
        exact HFIN.out
      | some y0 =>
        rw [hg] at CF
        have HG := Lib.hid hg
        have HRt := Lib.hid (fromL_right L 0 [] M HF2.out)
        clear hg
        go_wp2_with fail
        refine CF.out.mono ?_
        rintro e W5 ⟨rfl, hE5⟩
        have hE5 : Ext wr W5 := hE5
        have HR5 := Lib.hid (HR.out.ext hE5)
        have HE5 := Lib.hid (HE.out.trans hE5)
        clear CF hE5 HR HE
        go_wp2
        go_loopw [12] (fun i wt => ∃ k : Nat, k ≤ L.length ∧ i = .int .i64 k ∧ Hid (parL M L 0 = parL M (L.drop k) k) ∧ Ext W5 wt) (fun i _ => L.length - (intOf i).toNat)
        case atStart => exact ⟨0, Nat.zero_le _, rfl, rfl, Ext.refl _⟩
        case round =>
          obtain ⟨k, hk, rfl, HP, hE⟩ := hrel
          by_cases hlt : k < L.length
          · have hLk : L[k]? = some L[k] := List.getElem?_eq_getElem hlt
            have hrk := HRt.out L[k] (List.getElem_mem hlt)
            have HS := Lib.hid (HP.out.trans (parL_step M L k L[k] hLk))
            obtain ⟨b, off, v, rfl, hb, hv, hc⟩ := HL.out k L[k] hLk
            generalize L[k] = n at *
            obtain ⟨da, dc, aa, ac, rfl, _⟩ := hv
            have hEw := HE5.out.trans hE
            have hp0 : wr.cell? ⟨b, off + k * 17, none⟩ = some (.string n.path) := (hEw.cell (p := ⟨b, off + k * 17, none⟩) hb).trans (hc 0 (.string n.path) rfl)
            have hvp := right_vpath hrk
            have hvf := (vpath_facts hvp).2.1
            have HE := Lib.hid hE
            clear hc hE
            by_cases hroot : n.path.size = 1
            · have hroot' := (root_iff hvp).1 hroot
              have e1 : (n.path.toList == [47]) = true := by rw [ByteArray.toList_eq]; simpa using hroot'
              have e2 : n.path.toList = [47] := by simpa using e1
              have HS2 := Lib.hid (HS.out.trans (by rw [if_neg (fun h => h.1 hroot)]))
              clear hroot hroot' HS hvp hrk
              go_wp2
              go_roundw
              case rel => exact ⟨k + 1, by omega, by go_num, HS2.out, HE.out⟩
              case measure => simp [intOf]; omega
            · have e1 : (n.path.toList == [47]) = false := by rw [ByteArray.toList_eq]; simpa using fun h => hroot ((root_iff hvp).2 h)
              have e2 : ¬ n.path.toList = [47] := by simpa using e1
              have CP := rparent_any n.path wr (by omega)
              rw [show parV n.path = .tuple #[.string (parentB n.path), .int .i64 0] by unfold parV; rw [if_pos ⟨hvp, hroot⟩]] at CP
              have hps : (parentB n.path).size ≤ 9223372036854775800 := by
                have := (path_split hvp hroot).2.2.1
                omega
              have CP := Lib.hid CP
              have HRoot := Lib.hid hroot
              have HTH := Lib.hid (rfind_isSome HM.out (parentB n.path))
              clear hroot hvp hrk
              go_wp2_with fail
              refine CP.out.mono ?_
              rintro e w6 ⟨rfl, hE6⟩
              have hE6 : Ext wr w6 := hE6
              have hE56 := HE.out.trans hE6
              have CF := Lib.hid (rfind_any _ w6 w.heap.size (nds M) (HR5.out.ext hE56) (nds_fit HM.out) (parentB n.path) hps)
              rw [HTH.out] at CF
              have HE6 := Lib.hid hE56
              clear CP hE6 hE56 hp0
              cases hg : mget M (parentB n.path).data.toList with
              | none =>
                rw [hg] at CF
                have HERR := Lib.hid (show fromN L = .error (k, 73) by
                  unfold fromN
                  rw [HF2.out]
                  simp only
                  rw [if_neg (by rw [HG.out]; simp), HS.out, if_pos ⟨HRoot.out, hg⟩])
                clear hg HS
                go_wp2_with fail
                refine CF.out.mono ?_
                rintro e w7 ⟨rfl, hE7⟩
                have HFIN := Lib.hid (rfromOut_err HERR.out (HE5.out.trans (HE6.out.trans hE7)))
                clear CF hE7 HERR
                go_wp2
                go_ret3
                exact HFIN.out
              | some y1 =>
                rw [hg] at CF
                have HS2 := Lib.hid (HS.out.trans (by rw [if_neg (fun h => by rw [hg] at h; cases h.2)]))
                clear hg HS
                go_wp2_with fail
                refine CF.out.mono ?_
                rintro e w7 ⟨rfl, hE7⟩
                have HE7 := Lib.hid (HE6.out.trans hE7)
                clear CF hE7
                go_wp2
                go_roundw
                case rel => exact ⟨k + 1, by omega, by go_num, HS2.out, HE7.out⟩
                case measure => simp [intOf]; omega
          · obtain rfl : k = L.length := by omega
            have hfin : RFromOut L w (.returned (.tuple #[.pointer (some ⟨w.heap.size, 0, none⟩), .int .i64 0, .int .i64 0])) wr := by
              unfold RFromOut fromN
              rw [HF2.out]
              simp only
              rw [if_neg (by rw [HG.out]; simp), HP.out, List.drop_length]
              exact ⟨_, rfl, Nat.le_refl _, HR5.out.ext hE, HE5.out.trans hE⟩
            have HFIN := Lib.hid hfin
            clear hfin hE HP HG HF2
            go_wp2
            go_ret3
            exact HFIN.out
end Go.Proofs.YthinpbdbhijbgaaGreatDoor
namespace Go.Proofs.YthinpbdbhijbgaaGreatDoor
open Go.RowKit Go.Sort
set_option maxHeartbeats 4000000
set_option maxRecDepth 100000

end Go.Proofs.YthinpbdbhijbgaaGreatDoor
namespace Go.Proofs.YthinpbdbhijbgaaGreatDoor
open Go.RowKit
set_option maxHeartbeats 4000000
set_option maxRecDepth 100000

end Go.Proofs.YthinpbdbhijbgaaGreatDoor
namespace Go.Proofs.YthinpbdbhijbgaaGreatDoor
open Go.RowKit
set_option maxHeartbeats 1000000

/-- A call of a script: its kind, its path, its node. -/
structure Opn where
  k : Int
  p : ByteArray
  n : Nd
instance : Inhabited Opn := ⟨⟨0, ⟨#[]⟩, zeroN⟩⟩
end Go.Proofs.YthinpbdbhijbgaaGreatDoor
namespace Go.Proofs.YthinpbdbhijbgaaGreatDoor
open Go.RowKit
set_option maxHeartbeats 2000000
set_option maxRecDepth 100000

section
variable {P : Program} {ops : Array Oper} {rest : List Oper} {o : Oper} {a : Act} {Q : Exit → Act → World → Prop}

end

/-- The first behind a text. -/
def afterN (M : List (Key × Nd)) (s : ByteArray) : Option (Key × Nd) := M.find? fun x => bytesBefore s.data.toList x.1

/-- What the rounds of the range have found. -/
structure Aft (M : List (Key × Nd)) (s : Key) (left : Lit → Bool) (best : ByteArray) (found : Bool) : Prop where
  there : found = true → (∃ n, (best.data.toList, n) ∈ M) ∧ bytesBefore s best.data.toList = true
  no : found = false → best = ⟨#[]⟩
  le : ∀ x ∈ M, left (.string x.1) = false → bytesBefore s x.1 = true → found = true ∧ bytesBefore x.1 best.data.toList = false

theorem Aft.step {M : List (Key × Nd)} {s : Key} {left : Lit → Bool} {best : ByteArray} {found : Bool} (h : Aft M s left best found) (p : ByteArray) {n : Nd} (hp : (p.data.toList, n) ∈ M) :
    Aft M s (fun z => left z && !z.sameKey (.string p.data.toList)) (if bytesBefore s p.data.toList = true ∧ (found = false ∨ bytesBefore p.data.toList best.data.toList = true) then p else best)
      (if bytesBefore s p.data.toList = true ∧ (found = false ∨ bytesBefore p.data.toList best.data.toList = true) then true else found) := by
  have hsame : ∀ k : Key, (Lit.string k).sameKey (.string p.data.toList) = (k == p.data.toList) := fun k => rfl
  have tr : ∀ a b c : Key, bytesBefore a b = true → bytesBefore b c = true → bytesBefore a c = true := fun a b c => WideShapes.bytes_trans a b c
  split
  · rename_i hc
    refine ⟨fun _ => ⟨⟨n, hp⟩, hc.1⟩, fun e => (by cases e), fun x hx hl hs => ⟨rfl, ?_⟩⟩
    simp only [hsame, Bool.and_eq_false_iff, Bool.not_eq_false'] at hl
    rcases hl with hl | hl
    · obtain ⟨h1, h2⟩ := h.le x hx hl hs
      rcases hc.2 with h3 | h3
      · rw [h1] at h3; cases h3
      · cases h4 : bytesBefore x.1 p.data.toList with
        | false => rfl
        | true => rw [tr _ _ _ h4 h3] at h2; cases h2
    · have : x.1 = p.data.toList := by simpa using hl
      rw [this, WideAt.bytes_irrefl]
  · rename_i hc
    refine ⟨h.there, h.no, fun x hx hl hs => ?_⟩
    simp only [hsame, Bool.and_eq_false_iff, Bool.not_eq_false'] at hl
    rcases hl with hl | hl
    · exact h.le x hx hl hs
    · have e : x.1 = p.data.toList := by simpa using hl
      rw [e] at hs ⊢
      cases hf : found with
      | false => exact absurd ⟨hs, .inl hf⟩ hc
      | true =>
        refine ⟨rfl, ?_⟩
        cases h4 : bytesBefore p.data.toList best.data.toList with
        | false => rfl
        | true => exact absurd ⟨hs, .inr h4⟩ hc

theorem Aft.done {M : List (Key × Nd)} (hM : MOk M) {s : ByteArray} {left : Lit → Bool} {best : ByteArray} {found : Bool} (h : Aft M s.data.toList left best found) (hl : ∀ kl, left kl = false) :
    (afterN M s).isSome = found ∧ (mget M best.data.toList).getD zeroN = ((afterN M s).map (·.2)).getD zeroN := by
  unfold afterN
  cases hf : M.find? fun x => bytesBefore s.data.toList x.1 with
  | none =>
    have hno := List.find?_eq_none.1 hf
    cases found with
    | true =>
      obtain ⟨⟨n, hn⟩, hs⟩ := h.there rfl
      exact absurd hs (hno _ hn)
    | false =>
      refine ⟨rfl, ?_⟩
      rw [h.no rfl]
      rw [mget_none_of fun x hx => ?_]
      · rfl
      · intro e
        have h1 := (vpath_facts (right_vpath (hM.right x hx))).1
        have h2 := hM.key x hx
        rw [e] at h2
        have h3 : x.2.path.data.toList = [] := h2.symm
        have h4 : x.2.path.size = 0 := by rw [← size_list, h3]; rfl
        omega
  | some y =>
    have hy := List.find?_some hf
    have hm := List.mem_of_find?_eq_some hf
    obtain ⟨h1, h2⟩ := h.le y hm (hl _) (by simpa using hy)
    subst h1
    refine ⟨rfl, ?_⟩
    obtain ⟨⟨n, hn⟩, hs⟩ := h.there rfl
    have hb : best.data.toList = y.1 := by
      by_cases e : best.data.toList = y.1
      · exact e
      · exfalso
        rcases WideAt.bytes_total _ _ e with h3 | h3
        · have hp := List.find?_eq_some_iff_append.1 hf
          obtain ⟨_, l1, l2, e1, h4⟩ := hp
          have hso := hM.sorted
          rw [e1] at hn hso
          rcases List.mem_append.1 hn with h5 | h5
          · have := h4 _ h5
            rw [hs] at this; cases this
          · rcases List.mem_cons.1 h5 with h6 | h6
            · exact e (by rw [← h6])
            · have h7 := (List.pairwise_append.1 hso).2.1
              have h8 := (List.pairwise_cons.1 h7).1 _ h6
              have h9 := WideShapes.bytes_trans _ _ _ h3 h8
              rw [WideAt.bytes_irrefl] at h9; cases h9
        · rw [h3] at h2; cases h2
    rw [hb, mget_of_mem hM.sorted (show (y.1, y.2) ∈ M from hm)]
    rfl

end Go.Proofs.YthinpbdbhijbgaaGreatDoor
namespace Go.Proofs.YthinpbdbhijbgaaGreatDoor
open Go.RowKit
set_option maxHeartbeats 4000000
set_option maxRecDepth 100000

theorem encode_yes (n : Nd) (da aa : Option Addr) (dc ac : Nat) (w : World) (hf : Fit n) (hT : Tabs w) (hD : Cells w.heap.size w da (n.data.map u8v)) (hA : Cells w.heap.size w aa (acCs n.acl)) (hr : rightN n = 0) :
    Calls Tryz.prog 172 #[.agg (ndC n (.slice da n.data.length dc) (.slice aa n.acl.length ac))] w (EncOut n w) := by
  have hrs := right_sizes n hr
  have hs1 := hrs.1
  have hs2 := hrs.2.1
  have hs3 := hrs.2.2.1
  have HS4 := Lib.hid hrs.2.2.2
  clear hrs
  have hbox := Box.alloc w (ndC n (.slice da n.data.length dc) (.slice aa n.acl.length ac)) 44
  have hb0 : Below w.heap.size w (w.alloc (.cells (ndC n (.slice da n.data.length dc) (.slice aa n.acl.length ac)) 44)) := (Below.refl _ _).alloc (Nat.le_refl _) _
  have hD0 := hD.below hb0
  have hA0 := hA.below hb0
  have hT0 := hT.below hb0 hT.size
  have CR := right_any n da aa dc ac (w.alloc (.cells (ndC n (.slice da n.data.length dc) (.slice aa n.acl.length ac)) 44)) hf hT0 (hA0.mono (by simp))
  rw [hr] at CR
  have hh := heap_alloc_new w (.cells (ndC n (.slice da n.data.length dc) (.slice aa n.acl.length ac)) 44)
  have HR := Lib.hid hr
  have hne : (rightN n != 0) = false := by simp [hr]
  clear hD hA hT0 hr hne
  unfold ndC at hbox hb0 hD0 hA0 CR hh ⊢
  have HH := Lib.hid hh
  clear hh
  go_enter Tryz.func172, Tryz.ntmps172
  go_wp2_with (refine wpList_load_row rfl 44 (.tmp 1) rfl w.heap.size rfl 44 _ (0, 0) _ HH.out Tryz.underlying44 rfl sizeNd ?_)
  refine CR.mono ?_
  rintro e w1 ⟨rfl, hb1⟩
  have hsz1 : w.heap.size < w1.heap.size := by have := hb1.size; simp at this; omega
  have hx1 := hbox.below hb1 (by simp)
  have hb : Below w.heap.size w w1 := hb0.trans (hb1.mono (by simp))
  have hD1 := (hD0.below (hb1.mono (by simp)))
  have hA1 := (hA0.below (hb1.mono (by simp)))
  clear CR hbox hb0 hb1 hD0 hA0 HH
  have hw2 := Wr.empty w1
  have hb2 : Below w1.heap.size w1 (w1.alloc (.cells #[.slice none 0 0] 272)) := (Below.refl _ _).alloc (Nat.le_refl _) _
  have hx2 := hx1.below hb2 hsz1
  have hD2 := (hD1.mono (Nat.le_of_lt hsz1)).below hb2
  have hA2 := (hA1.mono (Nat.le_of_lt hsz1)).below hb2
  have hbw2 : Below w.heap.size w (w1.alloc (.cells #[.slice none 0 0] 272)) := hb.trans (hb2.mono (Nat.le_of_lt hsz1))
  clear hx1 hD1 hA1 hb hb2
  have hq := hx2
  unfold Box at hq
  go_wp2_with fail
  have HB := Lib.hid hsz1
  generalize w1.alloc (.cells #[.slice none 0 0] 272) = w2 at hw2 hx2 hD2 hA2 hbw2 hq ⊢
  generalize w1.heap.size = B at hw2 hD2 hA2 HB hsz1 ⊢
  refine (text_any B B [] n.path w2 hw2 (by omega) (by simp; omega)).mono ?_
  rintro e w3 ⟨rfl, k1, k2, k3⟩
  clear hq
  have hx3 := hx2.below k2 HB.out
  have hq := hx3
  unfold Box at hq
  go_wp2_with fail
  refine (buffer_any B B _ da _ dc n.data w3 k1 (Cells.away k1 (hD2.below k2)) rfl (by omega) (by simp [be_length]; omega)).mono ?_
  rintro e w4 ⟨rfl, m1, m2, m3⟩
  have hbw4 := k2.trans m2
  clear hq k1 k3 hx3 m3
  have hx4 := hx2.below hbw4 HB.out
  have hq := hx4
  unfold Box at hq
  go_wp2_with fail
  refine (list_any B B _ aa ac n.acl w4 m1 (hA2.below hbw4) hs3 HS4.out (by simp [be_length]; omega)).mono ?_
  rintro e w5 ⟨rfl, n1, n2, n3⟩
  have hbw5 := hbw4.trans n2
  clear hq m1 n3 hx4 k2 m2 hbw4 n2
  obtain ⟨l5, hl5, he5, n1⟩ : Exists fun l5 => l5.length ≤ 2000000 ∧ Hid (l5 = txt n.path ++ (be n.data.length 4 ++ n.data) ++ (be n.acl.length 4 ++ acBs n.acl)) ∧ Wr B w5 B l5 := by
    refine ⟨_, ?_, rfl, by simpa [txt, List.append_assoc] using n1⟩
    have := acBs_le n.acl HS4.out n.acl.length (Nat.le_refl _)
    rw [List.take_length] at this
    simp [txt_length, be_length]; omega
  have hx5 := hx2.below hbw5 HB.out
  have hq := hx5
  unfold Box at hq
  go_wp2_with fail
  refine (steps_any w.heap.size w5).mono ?_
  rintro e w6 ⟨g1, g2, rfl, p1, p2, p3, p4, p5⟩
  have hB5 : B ≤ w5.heap.size := Nat.le_of_lt n1.size
  have hw6 := n1.below (fun g _ hg => p1.block g hg)
  have hG1 := AwayBox.fresh n1 p1 p2 p4
  have hG2 := AwayBox.fresh n1 p1 p3 p5
  have hbw6 := hbw5.trans (p1.mono hB5)
  clear hq hx5 hbw5 n1 p1 p2 p3 p4 p5 hB5
  go_wp2
  go_loopw [37] (fun i wr => ∃ k : Nat, k ≤ 8 ∧ i = .int .i64 k ∧ Wr B wr B (l5 ++ longsB ((longsN n).take k)) ∧ Below B w6 wr ∧ Keeps B w6 wr) (fun i _ => 8 - (intOf i).toNat)
  case atStart => exact ⟨0, by omega, rfl, by simpa [longsB] using hw6, Below.refl _ _, Keeps.refl _ _⟩
  case round =>
    obtain ⟨k, hk, rfl, q1, q2, q3⟩ := hrel
    by_cases hlt : k < 8
    · obtain ⟨x, x1, x2⟩ := longs_get n k hlt
      have c1 : wr.cell? ⟨g1, k, none⟩ = some (.pointer (some ⟨w.heap.size, 3 + k, none⟩)) := ((hG1.keeps q3).2.2 k).trans (ptrs8_get w.heap.size k hlt)
      have c2 : wr.cell? ⟨w.heap.size, 3 + k, none⟩ = some (.int .i64 x) := ((hx2.below (hbw6.trans q2) HB.out) (3 + k)).trans (x2 _ _)
      have htk : Hid (longsB ((longsN n).take (k + 1)) = longsB ((longsN n).take k) ++ be (IntKind.u64.wrap x) 8) := by
        have hl : k < (longsN n).length := hlt
        unfold Hid
        rw [longsB_take _ k hl]
        rw [List.getElem?_eq_getElem hl] at x1
        rw [Option.some.inj x1]
      clear x1 x2
      go_wp2_with fail
      refine (long_any B B _ x wr q1 (by simp [longsB_length]; omega)).mono ?_
      rintro e w' ⟨rfl, r1, r2, r3⟩
      rw [List.append_assoc, ← htk.out] at r1
      have hB' := q2.trans r2
      have hK' := q3.trans r3
      clear c1 c2 q1 q2 q3 r2 r3
      go_wp2
      go_roundw
      case rel => exact ⟨k + 1, by omega, by go_num, r1, hB', hK'⟩
      case measure => simp [intOf]; omega
    · obtain rfl : k = 8 := by omega
      have q1 : Wr B wr B (l5 ++ longsB (longsN n)) := q1
      have hG2' := hG2.keeps q3
      have hbw7 := hbw6.trans q2
      clear q2 q3 hG1 hG2 hw6 hbw6
      obtain ⟨wo, rfl⟩ : ∃ wo : World, wo = wr := ⟨_, rfl⟩
      rw [show ((8 : Nat) : Int) = 8 from rfl]
      go_wp2
      go_loopw [49] (fun i wr => ∃ k : Nat, k ≤ 3 ∧ i = .int .i64 k ∧ Wr B wr B (l5 ++ longsB (longsN n) ++ intsB ((intsN n).take k)) ∧ Below B wo wr ∧ Keeps B wo wr) (fun i _ => 3 - (intOf i).toNat)
      case atStart => exact ⟨0, by omega, rfl, by simpa [intsB] using q1, Below.refl _ _, Keeps.refl _ _⟩
      case round =>
        obtain ⟨k, hk, rfl, s1, s2, s3⟩ := hrel
        by_cases hlt : k < 3
        · obtain ⟨x, x1, x2⟩ := ints_get n k hlt
          have c1 : wr.cell? ⟨g2, k, none⟩ = some (.pointer (some ⟨w.heap.size, 11 + k, none⟩)) := ((hG2'.keeps s3).2.2 k).trans (ptrs3_get w.heap.size k hlt)
          have c2 : wr.cell? ⟨w.heap.size, 11 + k, none⟩ = some (.int .i32 x) := ((hx2.below (hbw7.trans s2) HB.out) (11 + k)).trans (x2 _ _)
          have htk : Hid (intsB ((intsN n).take (k + 1)) = intsB ((intsN n).take k) ++ be (x % 4294967296) 4) := by
            have hl : k < (intsN n).length := hlt
            unfold Hid
            rw [intsB_take _ k hl]
            rw [List.getElem?_eq_getElem hl] at x1
            rw [Option.some.inj x1]
          have hll : (longsB (longsN n)).length = 64 := by rw [longsB_length]; rfl
          clear x1 x2
          go_wp2_with fail
          refine (int_any B B _ x wr s1 (by simp [intsB_length]; omega)).mono ?_
          rintro e w' ⟨rfl, r1, r2, r3⟩
          rw [List.append_assoc, ← htk.out] at r1
          have hB' := s2.trans r2
          have hK' := s3.trans r3
          clear c1 c2 s1 s2 s3 r2 r3
          go_wp2
          go_roundw
          case rel => exact ⟨k + 1, by omega, by go_num, r1, hB', hK'⟩
          case measure => simp [intOf]; omega
        · obtain rfl : k = 3 := by omega
          have s1 : Wr B wr B (l5 ++ longsB (longsN n) ++ intsB (intsN n)) := s1
          have hbw8 := hbw7.trans s2
          have hx8 := hx2.below hbw8 HB.out
          have hq := hx8
          have hl1 : (longsB (longsN n)).length = 64 := by rw [longsB_length]; rfl
          have hl2 : (intsB (intsN n)).length = 12 := by rw [intsB_length]; rfl
          have HL1 := Lib.hid hl1
          have HL2 := Lib.hid hl2
          clear s2 s3 hbw7 hG2' hl1 hl2
          unfold Box at hq
          go_wp2_with fail
          refine (bool_any B B _ n.has wr s1 (by have := HL1.out; have := HL2.out; simp; omega)).mono ?_
          rintro e w9 ⟨rfl, a1, a2, a3⟩
          have hbw9 := hbw8.trans a2
          have hx9 := hx2.below hbw9 HB.out
          clear hq hx8 s1 hbw8 a2 a3
          have hq := hx9
          unfold Box at hq
          go_wp2_with fail
          refine (long_any B B _ n.count w9 a1 (by have := HL1.out; have := HL2.out; simp; omega)).mono ?_
          rintro e w10 ⟨rfl, b1, b2, b3⟩
          have hbw10 := hbw9.trans b2
          have hx10 := hx2.below hbw10 HB.out
          clear hq hx9 a1 hbw9 b2 b3
          have hq := hx10
          unfold Box at hq
          go_wp2_with fail
          refine (long_any B B _ n.bytes w10 b1 (by have := HL1.out; have := HL2.out; simp [be_length]; omega)).mono ?_
          rintro e w11 ⟨rfl, d1, d2, d3⟩
          have hbw11 := hbw10.trans d2
          clear hq hx10 b1 hbw10 d2 d3
          go_wp2_with fail
          refine (bytes_any B B _ w11 d1 (by have := HL1.out; have := HL2.out; simp [be_length]; omega)).mono ?_
          rintro e w12 ⟨a', c', rfl, f1, f2⟩
          have hfin : Below w.heap.size w w12 := hbw2.trans ((hbw11.mono (Nat.le_of_lt HB.out)).trans (f2.mono (by have := hbw11.size; have := hw2.size; have := HB.out; omega)))
          have he : Hid (l5 ++ longsB (longsN n) ++ intsB (intsN n) ++ [if n.has then 1 else 0] ++ be (IntKind.u64.wrap n.count) 8 ++ be (IntKind.u64.wrap n.bytes) 8 = encN n) := by
            unfold Hid encN; rw [he5.out]
          rw [he.out] at f1 d1 ⊢
          clear hbw11 f2 d1
          go_wp2
          go_ret2
          exact ⟨hfin, .inr ⟨HR.out, a', c', rfl, f1⟩⟩

theorem encode_any (n : Nd) (da aa : Option Addr) (dc ac : Nat) (w : World) (hf : Fit n) (hT : Tabs w) (hD : Cells w.heap.size w da (n.data.map u8v)) (hA : Cells w.heap.size w aa (acCs n.acl)) :
    Calls Tryz.prog 172 #[.agg (ndC n (.slice da n.data.length dc) (.slice aa n.acl.length ac))] w (EncOut n w) := by
  by_cases hr : rightN n = 0
  · exact encode_yes n da aa dc ac w hf hT hD hA hr
  · exact encode_no n da aa dc ac w hf hT hA hr
end Go.Proofs.YthinpbdbhijbgaaGreatDoor
namespace Go.Proofs.YthinpbdbhijbgaaGreatDoor
open Go.RowKit
set_option maxHeartbeats 2000000
set_option maxRecDepth 100000

def fnvStep (h : Int) (c : UInt8) : Int := IntKind.u64.wrap (bits .xor .u64 h (IntKind.u64.wrap c.toNat) * 1099511628211)
def fnv0 : Int := 14695981039346656037
def fnv (l : List UInt8) : Int := l.foldl fnvStep fnv0
theorem fnv_take (l : List UInt8) (k : Nat) (h : k < l.length) : fnv (l.take (k + 1)) = fnvStep (fnv (l.take k)) l[k] := by
  unfold fnv; rw [List.take_succ_eq_append_getElem h, List.foldl_append]; rfl

theorem byteCell {B : Nat} {w : World} {a : Option Addr} {l : List UInt8} (h : Cells B w a (l.map u8v)) (k : Nat) (hk : k < l.length) : ∃ b off, a = some ⟨b, off, none⟩ ∧ b < B ∧ w.cell? ⟨b, off + k, none⟩ = some (.int .u8 l[k].toNat) := by
  obtain ⟨b, off, h1, h2, h3⟩ := h k (u8v l[k]) (by simp [List.getElem?_eq_getElem hk])
  exact ⟨b, off, h1, h2, h3⟩

theorem sum_any (a : Option Addr) (c : Nat) (l : List UInt8) (w : World) (hc : Cells w.heap.size w a (l.map u8v)) (hl : l.length ≤ 9223372036854775800) :
    Calls Tryz.prog 113 #[.slice a l.length c] w fun e w' => e = .returned (.int .u64 (fnv l)) ∧ w = w' := by
  go_enter Tryz.func113, Tryz.ntmps113
  go_wp2
  go_loop [3, 8] (fun h i => ∃ k : Nat, k ≤ l.length ∧ i = .int .i64 k ∧ h = .int .u64 (fnv (l.take k))) (fun _ i => l.length - (intOf i).toNat)
  case atStart => exact ⟨0, Nat.zero_le _, rfl, rfl⟩
  case round =>
    obtain ⟨k, hk, rfl, rfl⟩ := hrel
    by_cases hlt : k < l.length
    · obtain ⟨b, off, rfl, hb, c0⟩ := byteCell hc k hlt
      have H := Lib.hid (fnv_take l k hlt)
      generalize fnv (l.take k) = h0 at *
      go_wp2
      go_round
      case rel => exact ⟨k + 1, by omega, by go_num, by rw [H.out]; rfl⟩
      case measure => simp [intOf]; omega
    · obtain rfl : k = l.length := by omega
      rw [List.take_length]
      clear hc
      go_wp2
      go_ret
      exact ⟨rfl, rfl⟩

/-- A node's number. -/
def nodeN (n : Nd) : Int := if rightN n = 0 then fnv (encN n) else 0
def NodeOut (n : Nd) (w : World) (e : Ending) (w' : World) : Prop := e = .returned (.int .u64 (nodeN n)) ∧ Below w.heap.size w w'

theorem encN_length (n : Nd) (hr : rightN n = 0) : (encN n).length ≤ 2000000 := by
  have hrs := right_sizes n hr
  have h1 := acBs_le n.acl hrs.2.2.2 n.acl.length (Nat.le_refl _)
  rw [List.take_length] at h1
  have e1 : (longsN n).length = 8 := rfl
  have e2 : (intsN n).length = 3 := rfl
  simp only [encN, List.length_append, txt_length, be_length, longsB_length, intsB_length, e1, e2, List.length_cons, List.length_nil]
  omega
end Go.Proofs.YthinpbdbhijbgaaGreatDoor
namespace Go.Proofs.YthinpbdbhijbgaaGreatDoor
open Go.RowKit
set_option maxHeartbeats 2000000
set_option maxRecDepth 100000

theorem node_any (n : Nd) (da aa : Option Addr) (dc ac : Nat) (w : World) (hf : Fit n) (hT : Tabs w) (hD : Cells w.heap.size w da (n.data.map u8v)) (hA : Cells w.heap.size w aa (acCs n.acl)) :
    Calls Tryz.prog 126 #[.agg (ndC n (.slice da n.data.length dc) (.slice aa n.acl.length ac))] w (NodeOut n w) := by
  have hb0 : Below w.heap.size w (w.alloc (.cells (ndC n (.slice da n.data.length dc) (.slice aa n.acl.length ac)) 44)) := (Below.refl _ _).alloc (Nat.le_refl _) _
  have CR := encode_any n da aa dc ac (w.alloc (.cells (ndC n (.slice da n.data.length dc) (.slice aa n.acl.length ac)) 44)) hf (hT.below hb0 hT.size) ((hD.below hb0).mono (by simp)) ((hA.below hb0).mono (by simp))
  have hh := heap_alloc_new w (.cells (ndC n (.slice da n.data.length dc) (.slice aa n.acl.length ac)) 44)
  unfold ndC at hb0 CR hh ⊢
  have HH := Lib.hid hh
  have CR := Lib.hid CR
  clear hh hD hA hT
  by_cases hr : rightN n = 0
  · have HL := Lib.hid (encN_length n hr)
    have HN : Hid (nodeN n = fnv (encN n)) := by unfold Hid nodeN; rw [if_pos hr]
    have HR := Lib.hid hr
    clear hr
    go_enter Tryz.func126, Tryz.ntmps126
    go_wp2_with (refine wpList_load_row rfl 44 (.tmp 1) rfl w.heap.size rfl 44 _ (0, 0) _ HH.out Tryz.underlying44 rfl sizeNd ?_)
    refine CR.out.mono ?_
    rintro e w1 ⟨hb1, h⟩
    rcases h with ⟨h, _⟩ | ⟨_, a, c, rfl, hcs⟩
    · exact absurd HR.out h
    have hb : Below w.heap.size w w1 := hb0.trans (hb1.mono (by simp))
    clear CR hb0 hb1 HH
    go_wp2_with fail
    refine (sum_any a c (encN n) w1 hcs (by have := HL.out; omega)).mono ?_
    rintro e w2 ⟨rfl, rfl⟩
    clear hcs
    go_wp2
    go_ret
    exact ⟨by rw [HN.out]; rfl, hb⟩
  · have hne : (rightN n != 0) = true := by simpa using hr
    have HN : Hid (nodeN n = 0) := by unfold Hid nodeN; rw [if_neg hr]
    have HR := Lib.hid hr
    clear hr
    go_enter Tryz.func126, Tryz.ntmps126
    go_wp2_with (refine wpList_load_row rfl 44 (.tmp 1) rfl w.heap.size rfl 44 _ (0, 0) _ HH.out Tryz.underlying44 rfl sizeNd ?_)
    refine CR.out.mono ?_
    rintro e w1 ⟨hb1, h⟩
    have h := h.resolve_right (fun h => HR.out h.1)
    obtain ⟨_, rfl⟩ := h
    have hb : Below w.heap.size w w1 := hb0.trans (hb1.mono (by simp))
    clear CR hb0 hb1 HH
    go_wp2
    go_ret
    exact ⟨by rw [HN.out]; rfl, hb⟩
end Go.Proofs.YthinpbdbhijbgaaGreatDoor
namespace Go.Proofs.YthinpbdbhijbgaaGreatDoor
open Go.RowKit Go.Sort
set_option maxHeartbeats 4000000
set_option maxRecDepth 100000
attribute [local go_sem] Oper.semAt_some

/-- The numbers of nodes, added to and taken off a number, round. -/
def addN (s : Int) (ns : List Nd) : Int := ns.foldl (fun s n => IntKind.u64.wrap (s + nodeN n)) s
theorem addN_snoc (s : Int) (ns : List Nd) (n : Nd) : addN s (ns ++ [n]) = IntKind.u64.wrap (addN s ns + nodeN n) := by unfold addN; rw [List.foldl_append]; rfl
theorem infoU64 : (Tryz.prog.info? 96).map (·.size) = some 1 := by kernel_rfl

structure OfI (w W7 : World) (pre : List (Value × Nd)) (W : World) : Prop where
  box : W.heap[w.heap.size]? = some (.cells #[.int .u64 (addN 0 (pre.map (·.2)))] 96 (0, 0))
  size : W7.heap.size ≤ W.heap.size
  keep : Below w.heap.size w W

theorem MOk.keys_le {M : List (Key × Nd)} (hok : MOk M) : ∀ k ∈ M.map (·.1), k.length ≤ maxLen := fun k hk => by
  obtain ⟨x, hx, rfl⟩ := List.mem_map.1 hk
  rw [hok.key x hx]
  unfold keyN
  rw [size_list]
  have := (vpath_facts (right_vpath (hok.right x hx))).2.1
  unfold maxLen; omega

theorem dof_any (S : Nat → Prop) (w : World) (bt : Nat) (M : List (Key × Nd)) (N : Nat) (hT : TreeAt S w bt M N) (hTb : Tabs w) (hks : M.length * 168 ≤ 140737488355328) :
    Calls Tryz.prog 116 #[.pointer (some ⟨bt, 0, none⟩)] w fun e w' => e = .returned (.int .u64 (addN 0 (M.map (·.2)))) ∧ Ext w w' := by
  obtain ⟨W0, hW0⟩ : ∃ W0, W0 = w.alloc (.cells #[.int .u64 0] 96) := ⟨_, rfl⟩
  have hE0 : Ext w W0 := by rw [hW0]; exact Ext.alloc _ _
  have hz0 : W0.heap.size = w.heap.size + 1 := by rw [hW0]; simp
  have hg0 : W0.heap[w.heap.size]? = some (.cells #[.int .u64 0] 96 (0, 0)) := by rw [hW0]; exact heap_alloc_new w _
  have C1 := Lib.hid (tall_any bt W0)
  have HW0 := Lib.hid hW0
  have HT := Lib.hid hT
  have HE0 := Lib.hid hE0
  have HG0 := Lib.hid hg0
  have HTb := Lib.hid hTb
  have hzT := hTb.size
  clear hT hW0 hE0 hg0 hTb
  refine (callsIn_wide (n := 6)).1 (callsIn_of_wp_marks Tryz.func116 rfl trivial ?_)
  simp only [Tryz.ntmps116, List.size_toArray, List.length_cons, List.length_nil, Nat.reduceAdd, Nat.reduceSub, Array.replicate_succ, Array.replicate_zero, List.push_toArray, List.append_toArray, List.nil_append, List.cons_append]
  gi_wp2_with fail
  rw [← HW0.out]
  refine ⟨trivial, (callsIn_wide.2 C1.out).mono ?_⟩
  rintro e W1 ⟨bw, btb, rfl, hcw, hct, hE1⟩
  have hz1 := hE1.size
  have hE01 := HE0.out.trans hE1
  have hT1 := HT.out.ext hE01
  have hbd := HT.out.bound
  have hok := HT.out.ok
  have hs1 : ∀ k, S k → k ≠ w.heap.size := fun k hk => by have := hbd k hk; omega
  have hg1 := (hE1.block _ (Array.getElem?_eq_some_iff.1 HG0.out).1).trans HG0.out
  have TT := told_tells (fun _ k => k ≠ w.heap.size) S W1 bt M N hT1 hs1 bw btb 152 #[.pointer (some ⟨bt, 0, none⟩)] #[] hcw hct (enters_of Tryz.func152 (by kernel_rfl) rfl) (M.map (·.1))
    (fun W hW => by simpa using tsorted_any S W bt M N (hT1.ext hW) (by omega)) (by simpa using hks) hok.keys_le
  rw [nodesOf_vals hok.sorted] at TT
  have hI0 : OfI w W1 [] W1 := ⟨hg1, Nat.le_refl _, hE01⟩
  have hnn := told_not_nil #[.pointer (some ⟨bw, 0, none⟩), .pointer (some ⟨btb, 0, none⟩)] W1
  have TT := Lib.hid TT
  have HI0 := Lib.hid hI0
  have HTB1 := Lib.hid (HTb.out.below hE01 hzT)
  have HOK := Lib.hid hok
  clear hcw hct hE1 hE01 hT1 hs1 hg1 hI0 C1 hok
  gi_wp2
  refine wpIn_tells_nd (Safe := fun _ k => k ≠ w.heap.size) (by omega) (gf := 195) (lb := #[.pointer (some ⟨bw, 0, none⟩), .pointer (some ⟨btb, 0, none⟩)]) rfl (enters_of Tryz.func195 (by kernel_rfl) rfl) TT.out (show 7 < 13 by decide) (show 4 < 13 by decide) (by decide)
    (OfI w W1) (fun _ _ _ => False) (fun _ _ _ _ h => h) ?hI ?hIx HI0.out ?body ?done ?stop
  case hI =>
    rintro pre X Y ⟨h1, h2, h3⟩ hTn
    exact ⟨⟨hTn.cells h1, Nat.le_trans h2 hTn.size, h3.trans (hTn.below (by omega) h3.size)⟩, fun k hk => by omega⟩
  case hIx => exact fun _ _ _ _ h _ => h
  case stop => exact fun _ _ _ _ _ _ h => h.elim
  case body =>
    rintro l pre n da dc aa ac bl W hl0 hrec ⟨rest, hSp⟩ ⟨hbx, hsz, hEw⟩ hG hbl
    simp only [List.setIfInBounds_toArray, List.set_cons_succ, List.set_cons_zero]
    have hs : W.cell? ⟨w.heap.size, 0, none⟩ = some (.int .u64 (addN 0 (pre.map (·.2)))) := cell_of_row _ _ _ _ _ _ hbx
    obtain ⟨hDW, hAW⟩ := nds_parts hG
    have hDW := hDW.cells fun b hb => hb.2
    have hAW := hAW.cells fun b hb => hb.2
    have hTW : Tabs W := HTb.out.below hEw hzT
    have hmem : n ∈ M.map (·.2) := by
      have : n ∈ (pre ++ [(Value.agg (ndC n (.slice da n.data.length dc) (.slice aa n.acl.length ac)), n)]).map (·.2) ++ rest := by simp
      rw [hSp] at this; exact this
    obtain ⟨x, hx, hxe⟩ := List.mem_map.1 hmem
    have hfit : Fit n := by rw [← hxe]; exact (right_fit (HOK.out.right x hx)).1
    have HS := Lib.hid (addN_snoc 0 (pre.map (·.2)) n)
    have HBX := Lib.hid hbx
    have HEW := Lib.hid hEw
    clear hbx hEw hmem hx hSp
    generalize addN 0 (pre.map (·.2)) = s at *
    refine wpIn_block ?_
    refine wpIn_region_P l (by kernel_rfl) (by rfl) (region_store_vals 13 [.int .u64 s, .agg (ndC n (.slice da n.data.length dc) (.slice aa n.acl.length ac)), .int .u64 (nodeN n), .int .u64 (IntKind.u64.wrap (s + nodeN n))] 4 _ rfl rfl rfl rfl rfl (by decide) rfl ?duties ?last)
    case duties =>
      refine ⟨?_, ?_, ?_, ?_, trivial⟩
      · refine duty_free rfl fun a w' hE hF hA => ?_
        have x1 := hF.slot 3 _ (by decide) rfl
        exact wp_value (ex_cell rfl _ _ x1 ((hE.cell (World.block_lt_of_cell? _ _ hs)).trans hs) rfl Tryz.underlying96) ⟨_, rfl, rfl, Ext.refl _⟩
      · refine duty_free rfl fun a w' hE hF hA => ?_
        have x1 := hF.slot 4 _ (by decide) rfl
        exact wp_value (ex_load_row rfl _ x1 44 _ (0, 0) _ ((hE.block _ (Array.getElem?_eq_some_iff.1 hbl).1).trans hbl) Tryz.underlying44 rfl sizeNd) ⟨_, rfl, rfl, Ext.refl _⟩
      · refine duty_free rfl fun a w' hE hF hA => ?_
        have x1 := hA.val 1 9 rfl rfl ⟨⟨1, .data⟩, by simp, rfl, rfl⟩ rfl
        refine wp_enter (ex_call rfl (enters_f Tryz.func126 (by kernel_rfl) rfl)) (by simp only [List.map_toArray, List.map_cons, List.map_nil, x1]; exact node_any n da aa dc ac w' hfit (hTW.below hE hTW.size) (hDW.ext hE) (hAW.ext hE)) ?_
        rintro e w4 ⟨rfl, hb⟩
        exact ⟨_, rfl, _, rfl, rfl, hb⟩
      · refine duty_free rfl fun a w' hE hF hA => ?_
        have x1 := hA.val 0 8 rfl rfl ⟨⟨0, .data⟩, by simp, rfl, rfl⟩ rfl
        have x2 := hA.val 2 10 rfl rfl ⟨⟨2, .data⟩, by simp, rfl, rfl⟩ rfl
        exact wp_value (w' := w') (v := .int .u64 (IntKind.u64.wrap (s + nodeN n))) (by simp only [execOp, x1, x2]; simp [go_sem]) ⟨_, rfl, rfl, Ext.refl _⟩
    case last =>
      intro W8 hE8
      have hbx8 := (hE8.block _ (Array.getElem?_eq_some_iff.1 HBX.out).1).trans HBX.out
      simp only [filled, List.take_succ_cons, List.take_zero, List.zip_cons_cons, List.zip_nil_left, List.foldl_cons, List.foldl_nil, Act.put, List.setIfInBounds_toArray, List.set_cons_succ, List.set_cons_zero]
      refine wp_skipped (w' := W8.setRow w.heap.size #[.int .u64 (IntKind.u64.wrap (s + nodeN n))]) (by refine run_store_one 96 (.tmp 3) (.tmp 11) ?_ w.heap.size (.int .u64 (IntKind.u64.wrap (s + nodeN n))) ?_ ?_ ?_ 96 (.int .u64 s) hbx8 infoU64 <;> rfl) ?_
      have hKp := (Kp.ext (B := W1.heap.size) (ga := w.heap.size) hE8).trans (Kp.set W8 #[.int .u64 (IntKind.u64.wrap (s + nodeN n))] (by omega))
      have hB8 : Below w.heap.size w (W8.setRow w.heap.size #[.int .u64 (IntKind.u64.wrap (s + nodeN n))]) := (HEW.out.trans (hE8.mono HEW.out.size)).trans ⟨rfl, rfl, rfl, by simp, fun k hk => setRow_other _ _ _ _ (by omega)⟩
      have hz8 := hE8.size
      simp only [Exit.inBlock, Act.put, tellPost]
      refine ⟨hKp.recs, hKp.cells, ?_, by simp; omega, hB8⟩
      simp only [List.map_append, List.map_cons, List.map_nil]
      rw [HS.out]
      exact setRow_heap _ _ _ _ _ _ hbx8
  case done =>
    rintro D xs W hD hS ⟨hbx, hsz, hEw⟩ hK
    have hfin : Ext w (W.putObj D (.deferred none)) := hEw.trans ((Turn.putObj (B := W1.heap.size) (.deferred none) hD hK rfl).below (by omega) hEw.size)
    have hv : W.cell? ⟨w.heap.size, 0, none⟩ = some (.int .u64 (addN 0 (xs.map (·.2)))) := cell_of_row _ _ _ _ _ _ hbx
    rw [hS] at hv
    have HFIN := Lib.hid hfin
    have HK := Lib.hid hK
    clear hfin hK hS TT HI0 hbx
    gi_wp2
    refine ⟨by simp, .inl ⟨_, _, rfl, run_takeDeferred HK.out, ?_⟩⟩
    refine ⟨_, results_tmp rfl _ _ _, ?_⟩
    exact ⟨rfl, HFIN.out⟩
end Go.Proofs.YthinpbdbhijbgaaGreatDoor
