/- The walks of the reference of stat.Right, and of its look at UTF-8. -/
import Derived.Test.YtmpgfblcfgefjaaDoorRight2
import Derived.Test.YtmpgfblcfgefjaaDoorRef3
namespace Go.Proofs.YtmpgfblcfgefjaaDoor
open Go.RowKit
set_option maxHeartbeats 1000000
set_option maxRecDepth 100000

theorem more_any (b : Nat) (w : World) : Calls Tryd.prog 49 #[.int .u8 b] w fun e w' => e = .returned (.tuple #[.int .i64 (moreF b).1, .int .u8 (moreF b).2.1, .int .u8 (moreF b).2.2]) ∧ w = w' := by
  go_enter Tryd.func49, Tryd.ntmps49
  go_wp2
  all_goals (try go_ret3)
  all_goals (refine ⟨?_, rfl⟩; go_light; (try simp only [beq_iff_eq, beq_eq_false_iff_ne, ne_eq] at *))
  all_goals (have key : ∀ n lo h, moreF b = (n, lo, h) → Ending.returned (.tuple #[.int .i64 n, .int .u8 lo, .int .u8 h]) = Ending.returned (.tuple #[.int .i64 (moreF b).1, .int .u8 (moreF b).2.1, .int .u8 (moreF b).2.2]) := fun n lo h e => by rw [e])
  all_goals (refine key _ _ _ ?_; unfold moreF; repeat' split)
  all_goals (first | rfl | (exfalso; omega))

theorem utf8_any (s : ByteArray) (w : World) (hs : s.size ≤ 9223372036854775800) : Calls Tryd.prog 43 #[.string s] w fun e w' => e = .returned (.bool (Lib.validD s.data.toList)) ∧ w = w' := by
  have hz := Lib.hid (validAt_zero s)
  go_enter Tryd.func43, Tryd.ntmps43
  go_wp2
  go_loop [3] (fun i => ∃ q : Nat, i = .int .i64 q ∧ q ≤ s.size ∧ Hid (validAt s 0 = validAt s q)) (fun i => s.size - (intOf i).toNat)
  case atStart => exact ⟨0, rfl, Nat.zero_le _, rfl⟩
  case round =>
    obtain ⟨q, rfl, hq, Hv⟩ := hrel
    by_cases hlt : q < s.size
    · have hbg := bat_get s q hlt
      have hb := bat_lt s q
      have hC := more_any (bat s q)
      obtain ⟨n0, lo0, hi0, hm⟩ : Exists fun n => Exists fun lo => Exists fun h => moreF (bat s q) = (n, lo, h) := ⟨_, _, _, rfl⟩
      have hcs := moreF_cases (bat s q) hb
      rw [hm] at hC hcs
      simp only [Prod.mk.injEq] at hcs
      by_cases hneg : n0 = -1
      · subst hneg
        have H1 : Hid (Lib.validD s.data.toList = false) := by
          unfold Hid; rw [← hz.out, Hv.out]; exact validAt_bad s q hlt (ut_none s q _ _ hm)
        rw [hbg] at hC
        have HC := Lib.hid hC
        clear hm hcs hC Hv hbg hb
        go_wp2_with fail
        refine (HC.out _).mono ?_
        rintro e w' ⟨rfl, rfl⟩
        go_wp2
        go_ret
        exact ⟨by rw [H1.out]; rfl, rfl⟩
      · obtain ⟨n, rfl⟩ : Exists fun n : Nat => n0 = (n : Int) := ⟨n0.toNat, by omega⟩
        have hn3 : n ≤ 3 := by omega
        have hlo : 0 ≤ lo0 ∧ lo0 ≤ 255 ∧ 0 ≤ hi0 ∧ hi0 ≤ 255 := by omega
        have hd := ut_dec s q hlt n lo0 hi0 hm
        have D1 := Lib.hid hd.1
        have D2 := Lib.hid hd.2.1
        have D3 := Lib.hid hd.2.2
        have hok1 : ∀ j, okAt s q lo0 hi0 j ↔ if j = 1 then lo0 ≤ bat s (q + 1) ∧ (bat s (q + 1) : Int) ≤ hi0 else 128 ≤ bat s (q + j) ∧ bat s (q + j) ≤ 191 := fun j => Iff.rfl
        have OK := Lib.hid hok1
        rw [hbg] at hC
        have HC := Lib.hid hC
        clear hd hm hcs hC hbg hb hok1
        by_cases hout : 0 < n ∧ s.size ≤ q + n
        · have H1 : Hid (Lib.validD s.data.toList = false) := by
            unfold Hid; rw [← hz.out, Hv.out]; exact validAt_bad s q hlt (D2.out hout.1 hout.2)
          obtain ⟨h0, h1⟩ := hout
          have h1' : (s.size : Int) ≤ (q : Int) + n := by omega
          go_wp2_with fail
          refine (HC.out _).mono ?_
          rintro e w' ⟨rfl, rfl⟩
          go_wp2
          go_ret
          exact ⟨by rw [H1.out]; rfl, rfl⟩
        · have hin : q + n < s.size := by omega
          have hin' : (q : Int) + n < s.size := by omega
          have hnn : (0 : Int) ≤ n := by omega
          clear hout
          go_wp2_with fail
          refine (HC.out _).mono ?_
          rintro e w' ⟨rfl, rfl⟩
          clear HC
          go_wp2
          go_loop [5, 6, 7] (fun lo h k => ∃ (m : Nat) (lk hk : Int), k = .int .i64 m ∧ 1 ≤ m ∧ m ≤ n + 1 ∧ lo = .int .u8 lk ∧ h = .int .u8 hk ∧ 0 ≤ lk ∧ lk ≤ 255 ∧ 0 ≤ hk ∧ hk ≤ 255 ∧ Hid (okAt s q lo0 hi0 m ↔ (lk ≤ bat s (q + m) ∧ (bat s (q + m) : Int) ≤ hk)) ∧ Hid (∀ j, 1 ≤ j → j < m → okAt s q lo0 hi0 j)) (fun _ _ k => n + 1 - (intOf k).toNat)
          case atStart => exact ⟨1, lo0, hi0, rfl, by omega, by omega, rfl, rfl, hlo.1, hlo.2.1, hlo.2.2.1, hlo.2.2.2, by unfold Hid; rw [OK.out 1, if_pos rfl], fun j h1 h2 => by omega⟩
          case round =>
            obtain ⟨m, lk, hk, rfl, hm1, hm2, rfl, rfl, hl0, hl1, hk0, hk1, HO, HA⟩ := hrel
            by_cases hmn : m ≤ n
            · have hpos : q + m < s.size := by omega
              have hbg := bat_get s (q + m) hpos
              by_cases hok : okAt s q lo0 hi0 m
              · have h2 := HO.out.1 hok
                rw [hbg] at h2
                obtain ⟨h3, h4⟩ := h2
                have HN : Hid (∀ j, 1 ≤ j → j < m + 1 → okAt s q lo0 hi0 j) := fun j h1 h2 => by
                  by_cases e : j = m
                  · rw [e]; exact hok
                  · exact HA.out j h1 (by omega)
                clear hbg hok HO HA
                go_wp2
                go_round
                case rel => exact ⟨m + 1, 128, 191, by go_num, by omega, by omega, rfl, rfl, by omega, by omega, by omega, by omega, by unfold Hid; rw [OK.out (m + 1), if_neg (by omega)]; omega, HN⟩
                case measure => simp [intOf]; omega
              · have H1 : Hid (Lib.validD s.data.toList = false) := by
                  unfold Hid; rw [← hz.out, Hv.out]; exact validAt_bad s q hlt (D3.out m hm1 hmn hin hok)
                have h2 : (s[q + m].toNat : Int) < lk ∨ (lk ≤ (s[q + m].toNat : Int) ∧ hk < (s[q + m].toNat : Int)) := by
                  have : ¬ (lk ≤ (bat s (q + m) : Int) ∧ (bat s (q + m) : Int) ≤ hk) := fun h => hok (HO.out.2 h)
                  rw [hbg] at this
                  omega
                clear hbg hok HO HA
                rcases h2 with h2 | ⟨h2, h3⟩
                all_goals
                  go_wp2
                  go_ret
                  exact ⟨by rw [H1.out]; rfl, rfl⟩
            · have hd := D1.out (.inr hin) (fun j h1 h2 => HA.out j h1 (by omega))
              have H1 : Hid (validAt s 0 = validAt s (q + 1 + n)) := by
                unfold Hid; rw [Hv.out, validAt_good s q hlt hd.1, hd.2]; congr 1; omega
              clear HO HA hd Hv
              go_wp2
              go_round
              case rel => exact ⟨q + 1 + n, by go_num, by omega, H1⟩
              case measure => simp [intOf]; omega
    · have H1 : Hid (Lib.validD s.data.toList = true) := by
        unfold Hid; rw [← hz.out, Hv.out]; exact validAt_end s q (by omega)
      clear Hv
      go_wp2
      go_ret
      exact ⟨by rw [H1.out]; rfl, rfl⟩

/-- What the reference says of a list's texts. -/
def textsN (l : List Ac) : Int := if l.any bigAc then 3 else if l.any badAc then 1 else 0

theorem textsN_eq (n : Nd) : rightN n = if !vpath n.path then 30 else if 1048575 < n.data.length ∨ 16 < n.acl.length then 3 else if textsN n.acl ≠ 0 then textsN n.acl else if badQ n then 1 else 0 := by
  unfold rightN textsN
  generalize n.acl.any bigAc = B
  generalize n.acl.any badAc = A
  generalize vpath n.path = v
  by_cases h : 1048575 < n.data.length ∨ 16 < n.acl.length
  · have h' : 1048575 < n.data.length ∨ 16 < n.acl.length ∨ B = true := h.elim .inl (fun k => .inr (.inl k))
    rw [if_pos h, if_pos h']
  · have h' : (1048575 < n.data.length ∨ 16 < n.acl.length ∨ B = true) ↔ B = true := ⟨fun k => k.elim (fun k => absurd (.inl k) h) (fun k => k.elim (fun k => absurd (.inr k) h) id), fun k => .inr (.inr k)⟩
    rw [if_neg h]
    simp only [h']
    cases B <;> cases A <;> simp

theorem texts_any (a : Option Addr) (c : Nat) (l : List Ac) (w : World) (hc : Cells w.heap.size w a (acCs l)) (hm : l.length ≤ 9223372036854775807) (ht : ∀ x ∈ l, x.scheme.size ≤ 9223372036854775800 ∧ x.id.size ≤ 9223372036854775800) :
    Calls Tryd.prog 35 #[.slice a l.length c] w fun e w' => e = .returned (.int .i64 (textsN l)) ∧ w = w' := by
  have HT := Lib.hid ht
  clear ht
  go_enter Tryd.func35, Tryd.ntmps35
  go_wp2
  go_loop [3, 4] (fun e i => ∃ (k : Nat) (ev : Int), k ≤ l.length ∧ i = .int .i64 k ∧ e = .int .i64 ev ∧ Hid (ev = if (l.take k).any badAc then 1 else 0) ∧ Hid ((l.take k).any bigAc = false)) (fun _ i => l.length - (intOf i).toNat)
  case atStart => exact ⟨0, 0, Nat.zero_le _, rfl, rfl, by simp [Hid], by simp [Hid]⟩
  case round =>
    obtain ⟨k, ev, hk, rfl, rfl, HE, HB⟩ := hrel
    by_cases hlt : k < l.length
    · obtain ⟨b, off, rfl, hb, c0, c1, c2⟩ := acCells hc k hlt
      have htk := HT.out l[k] (List.getElem_mem hlt)
      have ht1 := htk.1
      have ht2 := htk.2
      clear htk
      have hts : ∀ p : Ac → Bool, (l.take (k + 1)).any p = ((l.take k).any p || p l[k]) := fun p => by
        rw [List.take_succ_eq_append_getElem hlt, List.any_append]; simp
      have HTS := Lib.hid hts
      have hbig : l[k] ∈ l := List.getElem_mem hlt
      clear hts
      by_cases hbg : bigAc l[k] = true
      · have H1 : Hid (textsN l = 3) := by
          unfold Hid textsN
          rw [if_pos (List.any_eq_true.2 ⟨l[k], hbig, hbg⟩)]
        have h2 : 256 < (l[k].scheme.size : Int) ∨ ((l[k].scheme.size : Int) ≤ 256 ∧ 256 < (l[k].id.size : Int)) := by
          simp [bigAc] at hbg; omega
        clear hbg
        rcases h2 with h2 | ⟨h2, h3⟩
        all_goals
          go_wp2
          go_ret
          exact ⟨ret_int H1.out.symm, rfl⟩
      · have h2 : (l[k].scheme.size : Int) ≤ 256 ∧ (l[k].id.size : Int) ≤ 256 := by simp [bigAc] at hbg; omega
        obtain ⟨h2, h3⟩ := h2
        have hbf : bigAc l[k] = false := by simpa using hbg
        have HB2 : Hid ((l.take (k + 1)).any bigAc = false) := by unfold Hid; rw [HTS.out, HB.out, hbf]; rfl
        clear hbg hbf
        have U1 := utf8_any l[k].scheme
        have U2 := utf8_any l[k].id
        cases hv1 : Lib.validD l[k].scheme.data.toList
        · have HE2 : Hid ((1 : Int) = if (l.take (k + 1)).any badAc then 1 else 0) := by
            unfold Hid; rw [HTS.out, show badAc l[k] = true from by simp [badAc, hv1]]; simp
          rw [hv1] at U1
          have U1 := Lib.hid U1
          clear hv1 U2
          go_wp2_with fail
          refine (U1.out _ (by omega)).mono ?_
          rintro e w' ⟨rfl, rfl⟩
          go_wp2
          go_round
          case rel => exact ⟨k + 1, 1, by omega, by go_num, rfl, HE2, HB2⟩
          case measure => simp [intOf]; omega
        · rw [hv1] at U1
          have U1 := Lib.hid U1
          cases hv2 : Lib.validD l[k].id.data.toList
          · have HE2 : Hid ((1 : Int) = if (l.take (k + 1)).any badAc then 1 else 0) := by
              unfold Hid; rw [HTS.out, show badAc l[k] = true from by simp [badAc, hv2]]; simp
            rw [hv2] at U2
            have U2 := Lib.hid U2
            clear hv1 hv2
            go_wp2_with fail
            refine (U1.out _ (by omega)).mono ?_
            rintro e w' ⟨rfl, rfl⟩
            go_wp2_with fail
            refine (U2.out _ (by omega)).mono ?_
            rintro e w' ⟨rfl, rfl⟩
            go_wp2
            go_round
            case rel => exact ⟨k + 1, 1, by omega, by go_num, rfl, HE2, HB2⟩
            case measure => simp [intOf]; omega
          · have HE2 : Hid (ev = if (l.take (k + 1)).any badAc then 1 else 0) := by
              unfold Hid; rw [HTS.out, show badAc l[k] = false from by simp [badAc, hv1, hv2], Bool.or_false]; exact HE.out
            rw [hv2] at U2
            have U2 := Lib.hid U2
            clear hv1 hv2
            go_wp2_with fail
            refine (U1.out _ (by omega)).mono ?_
            rintro e w' ⟨rfl, rfl⟩
            go_wp2_with fail
            refine (U2.out _ (by omega)).mono ?_
            rintro e w' ⟨rfl, rfl⟩
            go_wp2
            go_round
            case rel => exact ⟨k + 1, ev, by omega, by go_num, rfl, HE2, HB2⟩
            case measure => simp [intOf]; omega
    · obtain rfl : k = l.length := by omega
      have H1 : Hid (textsN l = ev) := by
        unfold Hid textsN
        have e1 := HE.out
        have e2 := HB.out
        rw [List.take_length] at e1 e2
        rw [e2, e1]; simp
      clear HE HB
      go_wp2
      go_ret
      exact ⟨ret_int H1.out.symm, rfl⟩
end Go.Proofs.YtmpgfblcfgefjaaDoor
