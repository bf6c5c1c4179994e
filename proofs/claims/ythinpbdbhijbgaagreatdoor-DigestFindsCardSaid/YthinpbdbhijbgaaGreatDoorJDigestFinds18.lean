/- The law DigestFinds, walked. -/
import Derived.Test.YthinpbdbhijbgaaGreatDoorJDigestFinds16
import Derived.Test.YthinpbdbhijbgaaGreatDoorJDigestFinds17
namespace Go.Proofs.YthinpbdbhijbgaaGreatDoor
open Go.RowKit Go.Sort
set_option maxHeartbeats 8000000
set_option maxRecDepth 100000

/-- A region that fills the last slots one behind the other. -/
theorem filled_tail : ∀ (ops : List Oper) (us : List Value) (T : List Value) (d : List Deferred) (k : Nat), us.length = ops.length → k + us.length = T.length → ops.map (·.dst) = (List.range' k ops.length).map some → filled ops us { tmps := T.toArray, defers := d } = { tmps := (T.take k ++ us).toArray, defers := d }
  | [], [], T, d, k, _, hk, _ => by
    have : T.take k = T := List.take_of_length_le (by simp at hk; omega)
    rw [this, List.append_nil]; rfl
  | [], _ :: _, _, _, _, h, _, _ => by simp at h
  | _ :: _, [], _, _, _, h, _, _ => by simp at h
  | o :: ops, u :: us, T, d, k, h, hk, hd => by
    rw [List.map_cons, List.length_cons, List.range'_succ, List.map_cons, List.cons.injEq] at hd
    have ih := filled_tail ops us (T.set k u) d (k + 1) (by simpa using h) (by simp at hk ⊢; omega) hd.2
    have e : filled (o :: ops) (u :: us) { tmps := T.toArray, defers := d } = filled ops us { tmps := (T.set k u).toArray, defers := d } := by
      show filled ops us (({ tmps := T.toArray, defers := d } : Act).put o.dst u) = _
      rw [hd.1]
      congr 1
      show ({ tmps := T.toArray.setIfInBounds k u, defers := d } : Act) = _
      rw [List.setIfInBounds_toArray]
    rw [e, ih]
    have e2 : (T.set k u).take (k + 1) = T.take k ++ [u] := by
      rw [List.take_set, List.take_succ_eq_append_getElem (by simp at hk; omega)]
      rw [List.set_append_right _ _ (by simp; omega)]
      have : min k T.length = k := by simp at hk; omega
      simp [this]
    rw [e2]; simp

theorem under_root {M : List (Key × Nd)} (hM : MOk M) (hr : mget M [47] ≠ none) : (mget (undS (nds M).reverse) [47]).isSome = true := by
  obtain ⟨y, rest, e, h1, h2⟩ := und_root hM hr
  rw [e, List.reverse_cons, undS_snoc]
  unfold undStep
  rw [if_pos h1, h2]
  have hs : ∀ (L : List Nd) (m : List (Key × Int)), MSorted m → MSorted (L.foldl undStep m) := fun L => by
    induction L with
    | nil => exact fun m h => h
    | cons n L ih =>
      intro m h
      rw [List.foldl_cons]
      refine ih _ ?_
      unfold undStep
      split
      · exact mput_sorted h _ _
      · exact mput_sorted (mput_sorted h _ _) _ _
  have hsr : MSorted (undS rest.reverse) := hs _ _ List.Pairwise.nil
  rw [mget_of_mem (mput_sorted hsr _ _) (mem_mput.2 (.inl rfl))]; rfl
theorem treeL_root {L : List Nd} (h : okL L = true) : mget (treeL L) [47] ≠ none := by
  unfold okL at h; unfold treeL
  cases hf : fromN L with
  | error x => rw [hf] at h; cases h
  | ok M =>
    intro hn
    have hn : mget M [47] = none := hn
    unfold fromN at hf
    cases hl : fromL L 0 [] with
    | error e => rw [hl] at hf; cases hf
    | ok M1 =>
      rw [hl] at hf
      simp only at hf
      split at hf
      · cases hf
      · rename_i h1
        cases hp : parL M1 L 0 with
        | error e => rw [hp] at hf; cases hf
        | ok u => rw [hp] at hf; cases hf; exact h1 hn

theorem finds_walk (L : List Nd) (a : Option Addr) (c : Nat) (L' : List Nd) (a' : Option Addr) (c' : Nat) (w : World) (hT : Tabs w) (hL : NdsAt w.heap.size w a L) (hf : ∀ n ∈ L, Fit n) (hl : L.length * 168 ≤ 140737488355328) (hL' : NdsAt w.heap.size w a' L') (hf' : ∀ n ∈ L', Fit n) (hl' : L'.length * 168 ≤ 140737488355328) :
    Calls Tryz.prog 7 #[.slice a L.length c, .slice a' L'.length c'] w fun e w' => e = .returned (.bool true) ∧ Below w.heap.size w w' := by
  have hsz := hT.size
  have C1 := Lib.hid (alive9_any w hT)
  have HT := Lib.hid hT
  have HL := Lib.hid hL
  have HL' := Lib.hid hL'
  have HF := Lib.hid hf
  have HF' := Lib.hid hf'
  clear hL hL' hf hf' hT
  go_enter Tryz.func7, Tryz.ntmps7
  go_wp2_with fail
  refine C1.out.mono ?_
  rintro e W1 ⟨rfl, hE1⟩
  have hE1 : Ext w W1 := hE1
  have C2 := Lib.hid (from_o L a c W1 (HT.out.below hE1 hsz) (HL.out.ext hE1) HF.out (by omega))
  have HE1 := Lib.hid hE1
  clear C1 hE1
  go_wp2_with fail
  refine C2.out.mono ?_
  rintro e W2 ⟨pt, i1, rfl, hP1, hs1, hn1, hE2⟩
  have hE2 : Ext W1 W2 := hE2
  have hE02 := HE1.out.trans hE2
  have C3 := Lib.hid (from_o L' a' c' W2 (HT.out.below hE02 hsz) (HL'.out.ext hE02) HF'.out (by omega))
  have HE2 := Lib.hid hE02
  have HP1 := Lib.hid hP1
  have HS1 := Lib.hid hs1
  clear C2 hE2 hP1 hs1 hE02 HE1
  go_wp2_with fail
  refine C3.out.mono ?_
  rintro e W3 ⟨pu, i2, rfl, hP2, hs2, hn2, hE3⟩
  have hE3 : Ext W2 W3 := hE3
  have HE3 := Lib.hid (HE2.out.trans hE3)
  have HP1 := Lib.hid (HP1.out.ext hE3)
  have HP2 := Lib.hid hP2
  have HS2 := Lib.hid hs2
  clear C3 hE3 hP2 hs2 HE2
  cases hok1 : okL L with
  | false =>
    have hx := errL_not hok1
    have hpn : pt = none := by
      have := HS1.out; rw [hok1] at this
      cases pt with
      | none => rfl
      | some x => cases this
    subst hpn
    cases hok2 : okL L' with
    | false =>
      have hy := errL_not hok2
      have hpn : pu = none := by
        have := HS2.out; rw [hok2] at this
        cases pu with
        | none => rfl
        | some x => cases this
      subst hpn
      generalize errL L = x at *
      generalize errL L' = y at *
      have hx1 : (x != 0) = true := by simpa using hx
      have hy1 : (y != 0) = true := by simpa using hy
      clear hok1 hok2 HP1 HP2 HS1 HS2
      go_wp2
      go_ret
      exact ⟨rfl, HE3.out⟩
    | true =>
      have hy := errL_ok hok2
      obtain ⟨u, hpu⟩ : ∃ u, pu = some u := by
        have := HS2.out; rw [hok2] at this
        cases pu with
        | none => cases this
        | some x => exact ⟨x, rfl⟩
      subst hpu
      rw [hy]
      generalize errL L = x at *
      have hx1 : (x != 0) = true := by simpa using hx
      clear hok1 hok2 HP1 HP2 HS1 HS2 hy
      go_wp2
      go_ret
      exact ⟨rfl, HE3.out⟩
  | true =>
    have hx := errL_ok hok1
    obtain ⟨t, hpt⟩ : ∃ t, pt = some t := by
      have := HS1.out; rw [hok1] at this
      cases pt with
      | none => cases this
      | some x => exact ⟨x, rfl⟩
    subst hpt
    rw [hx]
    cases hok2 : okL L' with
    | false =>
      have hy := errL_not hok2
      have hpn : pu = none := by
        have := HS2.out; rw [hok2] at this
        cases pu with
        | none => rfl
        | some x => cases this
      subst hpn
      generalize errL L' = y at *
      have hy1 : (y != 0) = true := by simpa using hy
      clear hok1 hok2 HP1 HP2 HS1 HS2 hx
      go_wp2
      go_ret
      exact ⟨rfl, HE3.out⟩
    | true =>
      have hy := errL_ok hok2
      obtain ⟨u, hpu⟩ : ∃ u, pu = some u := by
        have := HS2.out; rw [hok2] at this
        cases pu with
        | none => cases this
        | some x => exact ⟨x, rfl⟩
      subst hpu
      rw [hy]
      have hA := HP1.out.ok
      have hB := HP2.out.ok
      have hrA := treeL_root hok1
      have hrB := treeL_root hok2
      generalize treeL L = A at *
      generalize treeL L' = B at *
      obtain ⟨bt, S1, N1, e1, hT1⟩ : ∃ bt S N, t = ⟨bt, 0, none⟩ ∧ TreeAt S W3 bt A N := by
        rcases HP1.out with ⟨h, _⟩ | ⟨bt, S, N, h, hT⟩
        · cases h
        · cases h; exact ⟨bt, S, N, rfl, hT⟩
      obtain ⟨bu, S2, N2, e2, hT2⟩ : ∃ bt S N, u = ⟨bt, 0, none⟩ ∧ TreeAt S W3 bt B N := by
        rcases HP2.out with ⟨h, _⟩ | ⟨bt, S, N, h, hT⟩
        · cases h
        · cases h; exact ⟨bt, S, N, rfl, hT⟩
      subst e1 e2
      have hdlen := diff_len hA hB
      have hlA : A.length * 168 ≤ 140737488355328 := by omega
      have hlB : B.length * 168 ≤ 140737488355328 := by omega
      have HV := Lib.hid (diff_val hA hB)
      have HKI := Lib.hid (fun z (hz : z ∈ diffM A B) => diff_kinds hA hB hz)
      have HSW := Lib.hid (diffM_swap hA hB)
      have HSM := Lib.hid (diffM_same hA hB)
      have HSA := Lib.hid ((diffM_same hA hA).2 rfl)
      have hpab : ∀ W, Ext W3 W → Calls Tryz.prog 47 #[.pointer (some ⟨bt, 0, none⟩), .pointer (some ⟨bu, 0, none⟩)] W (DiffOut (diffM A B) W) := fun W hE =>
        pdiff_any _ _ A B W hA hB ((HP1.out.ext hE).alls hlA _ (by omega)) ((HP2.out.ext hE).alls hlB _ (by omega)) (HP1.out.ext hE).gets (HP2.out.ext hE).gets hlA hlB
      have hpba : ∀ W, Ext W3 W → Calls Tryz.prog 47 #[.pointer (some ⟨bu, 0, none⟩), .pointer (some ⟨bt, 0, none⟩)] W (DiffOut (diffM B A) W) := fun W hE =>
        pdiff_any _ _ B A W hB hA ((HP2.out.ext hE).alls hlB _ (by omega)) ((HP1.out.ext hE).alls hlA _ (by omega)) (HP2.out.ext hE).gets (HP1.out.ext hE).gets hlB hlA
      have hpaa : ∀ W, Ext W3 W → Calls Tryz.prog 47 #[.pointer (some ⟨bt, 0, none⟩), .pointer (some ⟨bt, 0, none⟩)] W (DiffOut (diffM A A) W) := fun W hE =>
        pdiff_any _ _ A A W hA hA ((HP1.out.ext hE).alls hlA _ (by omega)) ((HP1.out.ext hE).alls hlA _ (by omega)) (HP1.out.ext hE).gets (HP1.out.ext hE).gets hlA hlA
      have HPAB := Lib.hid hpab
      have HPBA := Lib.hid hpba
      have HPAA := Lib.hid hpaa
      have HTA := Lib.hid hT1
      have HTB := Lib.hid hT2
      have HA := Lib.hid hA
      have HB := Lib.hid hB
      have HRA := Lib.hid (under_root hA hrA)
      have HRB := Lib.hid (under_root hB hrB)
      have C4 := Lib.hid (hpab W3 (Ext.refl _))
      clear hok1 hok2 HP1 HP2 HS1 HS2 hx hy hA hB hrA hrB hT1 hT2 hpab hpba hpaa HL HL' HF HF'
      go_wp2_with fail
      refine C4.out.mono ?_
      rintro e W4 ⟨a1, c1, rfl, hD4, hE4⟩
      have hE4 : Ext W3 W4 := hE4
      have C5 := Lib.hid (HPBA.out W4 hE4)
      have HD4 := Lib.hid hD4
      have HF4 := Lib.hid hE4
      clear C4 hE4 hD4
      go_wp2_with fail
      refine C5.out.mono ?_
      rintro e W5 ⟨a2, c2, rfl, hD5, hE5⟩
      have hE5 : Ext W4 W5 := hE5
      have hE35 := HF4.out.trans hE5
      have HD4 := Lib.hid (HD4.out.ext hE5)
      rw [HSW.out, List.length_map]
      rw [HSW.out] at hD5
      have HD5 := Lib.hid hD5
      have C6 := Lib.hid (pparted_any _ _ (diffM A B) W5 (HPAB.out W5 hE35) HV.out (by omega))
      have HF5 := Lib.hid hE35
      clear C5 hE5 hE35 hD5 HF4 HSW
      go_wp2_with fail
      refine C6.out.mono ?_
      rintro e W6 ⟨rfl, hE6⟩
      have hE6 : Ext W5 W6 := hE6
      have hE36 := HF5.out.trans hE6
      have HD4 := Lib.hid (HD4.out.ext hE6)
      have HD5 := Lib.hid (HD5.out.ext hE6)
      have HF6 := Lib.hid hE36
      have C7 := Lib.hid (tsame_any S1 S2 W6 bt bu A B N1 N2 (HTA.out.ext hE36) (HTB.out.ext hE36))
      have HAB := Lib.hid (fun z (hz : z ∈ diffM A B) => parted_above HV.out hz)
      have hpbl := partedB_len (diffM A B)
      have hsm : (((diffM A B).length : Int) == 0) = sameM A B := by
        by_cases h : A = B
        · have := HSM.out.2 h
          rw [this, h, sameM_self]; rfl
        · rw [sameM_not h, beq_eq_false_iff_ne]
          intro h2
          exact h (HSM.out.1 (by omega))
      have hpb2 : decide ((0 : Int) < ((diffM A B).length : Int)) = partedB (diffM A B) := by rw [hpbl]; exact decide_eq_decide.2 (by omega)
      have hsum : partedB (diffM A B) = false → A = B := fun h => by
        rw [hpbl] at h
        exact HSM.out.1 (by simpa using h)
      have HSUM := Lib.hid hsum
      clear C6 hE6 hE36 HF5 HSM hpbl hsum
      generalize diffM A B = D at *
      generalize sameM A B = sm at *
      generalize partedP D = pp at *
      generalize partedB D = pb at *
      have hsm2 : (sm != sm) = false := by simp
      have hpb3 : (pb != pb) = false := by simp
      obtain ⟨dl, hdl⟩ : ∃ dl, D.length = dl := ⟨_, rfl⟩
      rw [hdl] at hsm hpb2 hdlen ⊢
      have HDL := Lib.hid hdl
      have hdn : ((dl : Int) != (dl : Int)) = false := by simp
      have hsmN : decide (dl = 0) = sm := by rw [← hsm, Bool.eq_iff_iff, decide_eq_true_iff, beq_iff_eq]; omega
      have hsmB : (dl == 0) = sm := by rw [← hsmN, Bool.eq_iff_iff, decide_eq_true_iff, beq_iff_eq]
      have hpbN : decide (0 < dl) = pb := by rw [← hpb2]; exact decide_eq_decide.2 (by omega)
      clear hdl
      go_wp2_with fail
      refine C7.out.mono ?_
      rintro e W7 ⟨rfl, hE7⟩
      have hE7 : Ext W6 W7 := hE7
      have hE37 := HF6.out.trans hE7
      have HD4 := Lib.hid (HD4.out.ext hE7)
      have HD5 := Lib.hid (HD5.out.ext hE7)
      have C8 := Lib.hid (HPAA.out W7 hE37)
      have HF7 := Lib.hid hE37
      clear C7 hE7 hE37 HF6
      go_wp2_with fail
      refine C8.out.mono ?_
      rintro e W8 ⟨a3, c3, rfl, _, hE8⟩
      rw [HSA.out]
      have hE8 : Ext W7 W8 := hE8
      have hE38 := HF7.out.trans hE8
      have HD4 := Lib.hid (HD4.out.ext hE8)
      have HD5 := Lib.hid (HD5.out.ext hE8)
      have hE08 := HE3.out.trans hE38
      have C9 := Lib.hid (under9_any S1 W8 bt A N1 (HTA.out.ext hE38) (HT.out.below hE08 hsz) hlA)
      have HF8 := Lib.hid hE38
      clear C8 hE8 hE38 hE08 HF7 HSA HPAA HPBA HPAB
      go_wp2_with fail
      refine C9.out.mono ?_
      rintro e W9 ⟨s1, m1, rfl, hs1, hm1, hE9⟩
      have hE9 : Ext W8 W9 := hE9
      have hE39 := HF8.out.trans hE9
      have HD4 := Lib.hid (HD4.out.ext hE9)
      have HD5 := Lib.hid (HD5.out.ext hE9)
      have hE09 := HE3.out.trans hE39
      have C10 := Lib.hid (under9_any S2 W9 bu B N2 (HTB.out.ext hE39) (HT.out.below hE09 hsz) hlB)
      have HF9 := Lib.hid hE39
      have HS1 := Lib.hid hs1
      have HM1 := Lib.hid hm1
      clear C9 hE9 hE39 hE09 HF8 hs1 hm1
      go_wp2_with fail
      refine C10.out.mono ?_
      rintro e V1 ⟨s2, m2, rfl, hs2, hm2, hE10⟩
      have hE10 : Ext W9 V1 := hE10
      have hE310 := HF9.out.trans hE10
      have HD4 := Lib.hid (HD4.out.ext hE10)
      have HD5 := Lib.hid (HD5.out.ext hE10)
      have C11 := Lib.hid (sums_at s1 m1 (undS (nds A).reverse) ⟨#[47]⟩ (by decide) V1 ((hE10.block _ (Array.getElem?_eq_some_iff.1 HS1.out).1).trans HS1.out) (HM1.out.keep (hE10.block _ HM1.out.lt)))
      have C12 := Lib.hid (sums_at s2 m2 (undS (nds B).reverse) ⟨#[47]⟩ (by decide) V1 hs2 hm2)
      have HF10 := Lib.hid hE310
      have hk47 : (⟨#[47]⟩ : ByteArray).data.toList = [47] := rfl
      rw [hk47, HRA.out] at C11
      rw [hk47, HRB.out] at C12
      have hvv : pb = false → (mget (undS (nds A).reverse) [47]).getD 0 = (mget (undS (nds B).reverse) [47]).getD 0 := fun h => by rw [HSUM.out h]
      generalize (mget (undS (nds A).reverse) [47]).getD 0 = v1 at *
      generalize (mget (undS (nds B).reverse) [47]).getD 0 = v2 at *
      have HVV := Lib.hid hvv
      clear C10 hE10 hE310 HF9 hs2 hm2 HS1 HM1 HRA HRB hk47 hvv HSUM
      go_wp2_with fail
      refine C11.out.mono ?_
      rintro e V1' ⟨rfl, rfl⟩
      clear C11
      go_wp2_with fail
      refine C12.out.mono ?_
      rintro e V1' ⟨rfl, rfl⟩
      clear C12
      have HALL := Lib.hid (HE3.out.trans HF10.out)
      have hloop : pb = true ∨ (pb = false ∧ v1 = v2) := by
        cases hpb : pb with
        | true => exact .inl rfl
        | false => exact .inr ⟨rfl, HVV.out hpb⟩
      clear HVV hpb2 hsm hsmN hsmB hpbN
      rcases hloop with rfl | ⟨rfl, rfl⟩
      · skip
        go_wp2
        go_loopw [21] (fun i wr => ∃ k : Nat, k ≤ dl ∧ i = .int .i64 k ∧ Hid (Ext V1 wr)) (fun i _ => dl - (intOf i).toNat)
        case atStart => exact ⟨0, Nat.zero_le _, rfl, Ext.refl _⟩
        case round =>
          obtain ⟨k, hk, rfl, HE⟩ := hrel
          by_cases hlt2 : k < dl
          · have hlt : k < D.length := by rw [HDL.out]; exact hlt2
            have hDk := List.getElem_mem hlt
            obtain ⟨b1, o1, e1, hb1, hx1, hy1⟩ := HD4.out k D[k] (List.getElem?_eq_getElem hlt)
            obtain ⟨b2, o2, e2, hb2, hx2, hy2⟩ := HD5.out k (D[k].1, backK D[k].2) (by rw [List.getElem?_map, List.getElem?_eq_getElem hlt]; rfl)
            subst e1 e2
            have p1 : wr.cell? ⟨b1, o1 + k * 2, none⟩ = some (.string (pathK D[k])) := (HE.out.cell (p := ⟨b1, o1 + k * 2, none⟩) hb1).trans hx1
            have p2 : wr.cell? ⟨b2, o2 + k * 2, none⟩ = some (.string (pathK D[k])) := (HE.out.cell (p := ⟨b2, o2 + k * 2, none⟩) hb2).trans hx2
            have r1 : wr.cell? ⟨b1, o1 + k * 2 + 1, none⟩ = some (.int .i64 D[k].2) := (HE.out.cell (p := ⟨b1, o1 + k * 2 + 1, none⟩) hb1).trans hy1
            have r2 : wr.cell? ⟨b2, o2 + k * 2 + 1, none⟩ = some (.int .i64 (backK D[k].2)) := (HE.out.cell (p := ⟨b2, o2 + k * 2 + 1, none⟩) hb2).trans hy2
            have hki := HKI.out D[k] hDk
            have hab := HAB.out D[k] hDk
            have hvq := HV.out D[k] hDk
            have hkq : D[k].1 = (pathK D[k]).data.toList := by unfold pathK; simp
            rw [hkq] at hki
            generalize pathK D[k] = q at p1 p2 hki hab hvq
            generalize D[k].2 = kd at r1 r2 hki
            have hq1 := (vpath_facts hvq).2.1
            have hq2 := (vpath_facts hab.1).2.1
            have hk0 : (0 : Int) ≤ k := by omega
            have hk1 : (k : Int) < (dl : Int) := by omega
            have CU := Lib.hid (show ∀ W, Calls Tryz.prog 56 #[.string pp, .string q] W fun e w' => e = .returned (.bool true) ∧ Ext W w' from fun W => by
              have := pund_any q pp W (by omega) (by omega)
              rw [hab.1, hvq, hab.2] at this
              exact this)
            have CG1 := Lib.hid (fun W (hE : Ext V1 W) => tget_any S1 W bt A N1 (HTA.out.ext (HF10.out.trans hE)) q (by unfold maxLen; omega))
            have CG2 := Lib.hid (fun W (hE : Ext V1 W) => tget_any S2 W bu B N2 (HTB.out.ext (HF10.out.trans hE)) q (by unfold maxLen; omega))
            clear hx1 hx2 hy1 hy2 hDk hab hvq hkq hlt
            rcases hki with ⟨rfl, ⟨n, hgA⟩, hgB⟩ | ⟨rfl, hgA, y, hgB⟩ | ⟨rfl, n, y, hgA, hgB, hs⟩
            · have r2 : wr.cell? ⟨b2, o2 + k * 2 + 1, none⟩ = some (.int .i64 2) := r2
              have C1 := Lib.hid (CG1.out wr HE.out)
              clear CG1
              go_wp2_with fail
              refine C1.out.mono ?_
              rintro e W10 ⟨v3, rfl, hv3, hE10⟩
              rw [hgA] at hv3 ⊢
              simp only [Option.getD_some, Option.getD_none] at hv3
              simp only [Option.isSome_some, Option.isSome_none]
              obtain ⟨da, dc, aa, ac, X10, e0, hset3, hbx3, hEX3, hD3, hA3⟩ := box_node hv3 fun b hb => hb.2
              subst e0
              have hE10 : Ext wr W10 := hE10
              have hEX := hE10.trans hEX3
              have hEV := HE.out.trans hEX
              have p1 : X10.cell? ⟨b1, o1 + k * 2, none⟩ = some (.string q) := (hEX.cell (World.block_lt_of_cell? _ _ p1)).trans p1
              have p2 : X10.cell? ⟨b2, o2 + k * 2, none⟩ = some (.string q) := (hEX.cell (World.block_lt_of_cell? _ _ p2)).trans p2
              have r1 : X10.cell? ⟨b1, o1 + k * 2 + 1, none⟩ = some (.int .i64 1) := (hEX.cell (World.block_lt_of_cell? _ _ r1)).trans r1
              have r2 : X10.cell? ⟨b2, o2 + k * 2 + 1, none⟩ = some (.int .i64 2) := (hEX.cell (World.block_lt_of_cell? _ _ r2)).trans r2
              have C2 := Lib.hid (CG2.out X10 hEV)
              have HSET1 := Lib.hid hset3
              have HNEW1 := Lib.hid (heap_alloc_new W10 (.cells zeroNd 44))
              have HBX := Lib.hid hbx3
              have HEV := Lib.hid hEV
              have HD3 := Lib.hid hD3
              have HA3 := Lib.hid hA3
              unfold ndC at HSET1 ⊢
              unfold zeroNd at HSET1 HNEW1
              clear hset3 hbx3 hEX3 hE10 hEX hEV hv3 C1 CG2 hD3 hA3 HE
              go_wp2_with (refine wpList_store_row rfl 44 (.tmp 23) (.tmp 157) rfl W10.heap.size _ rfl rfl 44 _ HNEW1.out sizeNd rfl (cells_node _ da aa _ _ dc ac) ?_; rw [HSET1.out])
              refine C2.out.mono ?_
              rintro e W11 ⟨v4, rfl, hv4, hE11⟩
              rw [hgB] at hv4 ⊢
              simp only [Option.getD_some, Option.getD_none] at hv4
              simp only [Option.isSome_some, Option.isSome_none]
              obtain ⟨db, eb, ab, fb, X11, e0, hset4, hbx4, hEX4, hD4, hA4⟩ := box_node hv4 fun b hb => hb.2
              subst e0
              have hE11 : Ext X10 W11 := hE11
              have hEX := hE11.trans hEX4
              have p1 : X11.cell? ⟨b1, o1 + k * 2, none⟩ = some (.string q) := (hEX.cell (World.block_lt_of_cell? _ _ p1)).trans p1
              have p2 : X11.cell? ⟨b2, o2 + k * 2, none⟩ = some (.string q) := (hEX.cell (World.block_lt_of_cell? _ _ p2)).trans p2
              have r1 : X11.cell? ⟨b1, o1 + k * 2 + 1, none⟩ = some (.int .i64 1) := (hEX.cell (World.block_lt_of_cell? _ _ r1)).trans r1
              have r2 : X11.cell? ⟨b2, o2 + k * 2 + 1, none⟩ = some (.int .i64 2) := (hEX.cell (World.block_lt_of_cell? _ _ r2)).trans r2
              have HSET2 := Lib.hid hset4
              have HNEW2 := Lib.hid (heap_alloc_new W11 (.cells zeroNd 44))
              have HBN := Lib.hid ((hEX.block _ (Array.getElem?_eq_some_iff.1 HBX.out).1).trans HBX.out)
              have HBY := Lib.hid hbx4
              have HEX := Lib.hid (HEV.out.trans hEX)
              unfold ndC at HSET2 ⊢
              unfold zeroNd at HSET2 HNEW2
              clear hset4 hbx4 hEX4 hE11 hEX hv4 C2 hD4 hA4 HD3 HA3 HBX HEV hgA hgB
              have hbn := HBN.out
              have hby := HBY.out
              go_wp2_with (first | (refine wpList_store_row rfl 44 (.tmp 25) (.tmp 167) rfl W11.heap.size _ rfl rfl 44 _ HNEW2.out sizeNd rfl (cells_node _ db ab _ _ eb fb) ?_; rw [HSET2.out]))
              refine wp_region_P (by kernel_rfl) (region_sp 230 [.val (.slice (some ⟨b2, o2, none⟩) dl c2), .val (.int .i64 k), .val (.pointer (some ⟨b2, o2 + k * 2, none⟩)), .val (.pointer (some ⟨b2, o2 + k * 2, none⟩)), .val (.string q), .val (.slice (some ⟨b1, o1, none⟩) dl c1), .val (.int .i64 k), .val (.pointer (some ⟨b1, o1 + k * 2, none⟩)), .val (.pointer (some ⟨b1, o1 + k * 2, none⟩)), .val (.string q), .val (.bool false), .val (.bool false), .val (.slice (some ⟨b2, o2, none⟩) dl c2), .val (.int .i64 k), .val (.pointer (some ⟨b2, o2 + k * 2, none⟩)), .val (.pointer (some ⟨b2, o2 + k * 2 + 1, none⟩)), .val (.int .i64 2), .val (.int .i64 2), .val (.bool false), .val (.bool false), .val (.bool false), .val (.bool true), .val (.slice (some ⟨b1, o1, none⟩) dl c1), .val (.int .i64 k), .val (.pointer (some ⟨b1, o1 + k * 2, none⟩)), .val (.pointer (some ⟨b1, o1 + k * 2 + 1, none⟩)), .val (.int .i64 1), .val (.bool true), .val (.bool false), .val (.bool false), .val (.bool false), .val (.bool false), .val (.slice (some ⟨b1, o1, none⟩) dl c1), .val (.int .i64 k), .val (.pointer (some ⟨b1, o1 + k * 2, none⟩)), .val (.pointer (some ⟨b1, o1 + k * 2 + 1, none⟩)), .val (.int .i64 1), .val (.bool false), .val (.bool false), .val (.bool false), .val (.bool false), .val (.bool true), .val (.bool true), .val (.bool false), .val (.bool false), .val (.bool false), .val (undef), .val (undef), .val (undef), .val (.bool false), .val (.bool false), .val (.bool false), .val (.string pp), .val (.slice (some ⟨b1, o1, none⟩) dl c1), .val (.int .i64 k), .val (.pointer (some ⟨b1, o1 + k * 2, none⟩)), .val (.pointer (some ⟨b1, o1 + k * 2, none⟩)), .val (.string q), .val (.bool true), .val (.bool false), .val (.bool false)] ?stay rfl (by decide) rfl ?duties ?rest)
              case duties =>
                refine ⟨?_, ?_, ?_, ?_, ?_, ?_, ?_, ?_, ?_, ?_, ?_, ?_, ?_, ?_, ?_, ?_, ?_, ?_, ?_, ?_, ?_, ?_, ?_, ?_, ?_, ?_, ?_, ?_, ?_, ?_, ?_, ?_, ?_, ?_, ?_, ?_, ?_, ?_, ?_, ?_, ?_, ?_, ?_, ?_, ?_, ?_, ?_, ?_, ?_, ?_, ?_, ?_, ?_, ?_, ?_, ?_, ?_, ?_, ?_, ?_, ?_, trivial⟩
                · refine duty_free rfl fun a w' hE hF hA => ?_
                  have x1 := hF.slot 12 _ (by decide) rfl
                  exact wp_value (w' := w') (ex_move rfl) ⟨_, rfl, x1, Ext.refl _⟩
                · refine duty_free rfl fun a w' hE hF hA => ?_
                  have x1 := hF.slot 21 _ (by decide) rfl
                  exact wp_value (w' := w') (ex_move rfl) ⟨_, rfl, x1, Ext.refl _⟩
                · refine duty_free rfl fun a w' hE hF hA => ?_
                  have x1 := hA.pick 0 169 (.slice (some ⟨b2, o2, none⟩) dl c2) rfl rfl ⟨⟨0, .data⟩, by simp, rfl, rfl⟩ (fun u h => h)
                  have x2 := hA.pick 1 170 (.int .i64 k) rfl rfl ⟨⟨1, .data⟩, by simp, rfl, rfl⟩ (fun u h => h)
                  exact wp_value (w' := w') (v := .pointer (some ⟨b2, o2 + k * 2, none⟩)) (by simp only [execOp, x1, x2]; simp [go_sem, hk0, hk1]) ⟨_, rfl, rfl, Ext.refl _⟩
                · refine duty_free rfl fun a w' hE hF hA => ?_
                  have x1 := hA.pick 2 171 (.pointer (some ⟨b2, o2 + k * 2, none⟩)) rfl rfl ⟨⟨2, .data⟩, by simp, rfl, rfl⟩ (fun u h => h)
                  exact wp_value (w' := w') (v := .pointer (some ⟨b2, o2 + k * 2, none⟩)) (by simp only [execOp, x1]; simp [go_sem]) ⟨_, rfl, rfl, Ext.refl _⟩
                · refine duty_free rfl fun a w' hE hF hA => ?_
                  have x1 := hA.pick 3 172 (.pointer (some ⟨b2, o2 + k * 2, none⟩)) rfl rfl ⟨⟨3, .data⟩, by simp, rfl, rfl⟩ (fun u h => h)
                  exact wp_value (ex_cell rfl _ _ x1 ((hE.cell (World.block_lt_of_cell? _ _ p2)).trans p2) rfl Tryz.underlying9) ⟨_, rfl, rfl, Ext.refl _⟩
                · refine duty_free rfl fun a w' hE hF hA => ?_
                  have x1 := hF.slot 11 _ (by decide) rfl
                  exact wp_value (w' := w') (ex_move rfl) ⟨_, rfl, x1, Ext.refl _⟩
                · refine duty_free rfl fun a w' hE hF hA => ?_
                  have x1 := hF.slot 21 _ (by decide) rfl
                  exact wp_value (w' := w') (ex_move rfl) ⟨_, rfl, x1, Ext.refl _⟩
                · refine duty_free rfl fun a w' hE hF hA => ?_
                  have x1 := hA.pick 5 174 (.slice (some ⟨b1, o1, none⟩) dl c1) rfl rfl ⟨⟨5, .data⟩, by simp, rfl, rfl⟩ (fun u h => h)
                  have x2 := hA.pick 6 175 (.int .i64 k) rfl rfl ⟨⟨6, .data⟩, by simp, rfl, rfl⟩ (fun u h => h)
                  exact wp_value (w' := w') (v := .pointer (some ⟨b1, o1 + k * 2, none⟩)) (by simp only [execOp, x1, x2]; simp [go_sem, hk0, hk1]) ⟨_, rfl, rfl, Ext.refl _⟩
                · refine duty_free rfl fun a w' hE hF hA => ?_
                  have x1 := hA.pick 7 176 (.pointer (some ⟨b1, o1 + k * 2, none⟩)) rfl rfl ⟨⟨7, .data⟩, by simp, rfl, rfl⟩ (fun u h => h)
                  exact wp_value (w' := w') (v := .pointer (some ⟨b1, o1 + k * 2, none⟩)) (by simp only [execOp, x1]; simp [go_sem]) ⟨_, rfl, rfl, Ext.refl _⟩
                · refine duty_free rfl fun a w' hE hF hA => ?_
                  have x1 := hA.pick 8 177 (.pointer (some ⟨b1, o1 + k * 2, none⟩)) rfl rfl ⟨⟨8, .data⟩, by simp, rfl, rfl⟩ (fun u h => h)
                  exact wp_value (ex_cell rfl _ _ x1 ((hE.cell (World.block_lt_of_cell? _ _ p1)).trans p1) rfl Tryz.underlying9) ⟨_, rfl, rfl, Ext.refl _⟩
                · refine duty_free rfl fun a w' hE hF hA => ?_
                  have x1 := hA.pick 4 173 (.string q) rfl rfl ⟨⟨4, .data⟩, by simp, rfl, rfl⟩ (fun u h => h)
                  have x2 := hA.pick 9 178 (.string q) rfl rfl ⟨⟨9, .data⟩, by simp, rfl, rfl⟩ (fun u h => h)
                  exact wp_value (w' := w') (v := .bool false) (by simp only [execOp, x1, x2]; simp [go_sem]) ⟨_, rfl, rfl, Ext.refl _⟩
                · refine duty_free rfl fun a w' hE hF hA => ?_
                  have x1 := hA.pick 10 179 (.bool false) rfl rfl ⟨⟨10, .data⟩, by simp, rfl, rfl⟩ (fun u h => h)
                  exact wp_value (w' := w') (ex_move rfl) ⟨_, rfl, x1, Ext.refl _⟩
                · refine duty_yes rfl (p := _) rfl (d := 180) rfl (show 180 < 230 by decide) ⟨⟨11, .guard⟩, by simp, rfl, rfl⟩ (fun v w h => h) fun a w' hE hF hA => ?_
                  have x1 := hF.slot 12 _ (by decide) rfl
                  exact wp_value (w' := w') (ex_move rfl) ⟨_, rfl, x1, Ext.refl _⟩
                · refine duty_yes rfl (p := _) rfl (d := 180) rfl (show 180 < 230 by decide) ⟨⟨11, .guard⟩, by simp, rfl, rfl⟩ (fun v w h => h) fun a w' hE hF hA => ?_
                  have x1 := hF.slot 21 _ (by decide) rfl
                  exact wp_value (w' := w') (ex_move rfl) ⟨_, rfl, x1, Ext.refl _⟩
                · refine duty_yes rfl (p := _) rfl (d := 180) rfl (show 180 < 230 by decide) ⟨⟨11, .guard⟩, by simp, rfl, rfl⟩ (fun v w h => h) fun a w' hE hF hA => ?_
                  have x1 := hA.pick 12 181 (.slice (some ⟨b2, o2, none⟩) dl c2) rfl rfl ⟨⟨12, .data⟩, by simp, rfl, rfl⟩ (fun u h => h)
                  have x2 := hA.pick 13 182 (.int .i64 k) rfl rfl ⟨⟨13, .data⟩, by simp, rfl, rfl⟩ (fun u h => h)
                  exact wp_value (w' := w') (v := .pointer (some ⟨b2, o2 + k * 2, none⟩)) (by simp only [execOp, x1, x2]; simp [go_sem, hk0, hk1]) ⟨_, rfl, rfl, Ext.refl _⟩
                · refine duty_yes rfl (p := _) rfl (d := 180) rfl (show 180 < 230 by decide) ⟨⟨11, .guard⟩, by simp, rfl, rfl⟩ (fun v w h => h) fun a w' hE hF hA => ?_
                  have x1 := hA.pick 14 183 (.pointer (some ⟨b2, o2 + k * 2, none⟩)) rfl rfl ⟨⟨14, .data⟩, by simp, rfl, rfl⟩ (fun u h => h)
                  exact wp_value (w' := w') (v := .pointer (some ⟨b2, o2 + k * 2 + 1, none⟩)) (by simp only [execOp, x1]; simp [go_sem]) ⟨_, rfl, rfl, Ext.refl _⟩
                · refine duty_yes rfl (p := _) rfl (d := 180) rfl (show 180 < 230 by decide) ⟨⟨11, .guard⟩, by simp, rfl, rfl⟩ (fun v w h => h) fun a w' hE hF hA => ?_
                  have x1 := hA.pick 15 184 (.pointer (some ⟨b2, o2 + k * 2 + 1, none⟩)) rfl rfl ⟨⟨15, .data⟩, by simp, rfl, rfl⟩ (fun u h => h)
                  exact wp_value (ex_cell rfl _ _ x1 ((hE.cell (World.block_lt_of_cell? _ _ r2)).trans r2) rfl Tryz.underlying3) ⟨_, rfl, rfl, Ext.refl _⟩
                · refine duty_yes rfl (p := _) rfl (d := 180) rfl (show 180 < 230 by decide) ⟨⟨11, .guard⟩, by simp, rfl, rfl⟩ (fun v w h => h) fun a w' hE hF hA => ?_
                  have x1 := hF.slot 22 _ (by decide) rfl
                  exact wp_value (w' := w') (ex_move rfl) ⟨_, rfl, x1, Ext.refl _⟩
                · refine duty_yes rfl (p := _) rfl (d := 180) rfl (show 180 < 230 by decide) ⟨⟨11, .guard⟩, by simp, rfl, rfl⟩ (fun v w h => h) fun a w' hE hF hA => ?_
                  have x1 := hA.pick 16 185 (.int .i64 2) rfl rfl ⟨⟨16, .data⟩, by simp, rfl, rfl⟩ (fun u h => h)
                  have x2 := hA.pick 17 186 (.int .i64 2) rfl rfl ⟨⟨17, .data⟩, by simp, rfl, rfl⟩ (fun u h => h)
                  exact wp_value (w' := w') (v := .bool false) (by simp only [execOp, x1, x2]; simp [go_sem]) ⟨_, rfl, rfl, Ext.refl _⟩
                · refine duty_free rfl fun a w' hE hF hA => ?_
                  have x1 := hA.pick 11 180 (.bool false) rfl rfl ⟨⟨11, .data⟩, by simp, rfl, rfl⟩ (fun u h => h)
                  have x2 := hA.pick 18 187 (.bool false) rfl rfl ⟨⟨18, .data⟩, by simp, rfl, rfl⟩ (fun u h => h)
                  exact wp_value (w' := w') (ex_pick rfl x1) ⟨_, rfl, x2, Ext.refl _⟩
                · refine duty_free rfl fun a w' hE hF hA => ?_
                  have x1 := hA.pick 19 188 (.bool false) rfl rfl ⟨⟨19, .data⟩, by simp, rfl, rfl⟩ (fun u h => h)
                  exact wp_value (w' := w') (ex_move rfl) ⟨_, rfl, x1, Ext.refl _⟩
                · refine duty_yes rfl (p := _) rfl (d := 189) rfl (show 189 < 230 by decide) ⟨⟨20, .guard⟩, by simp, rfl, rfl⟩ (fun v w h => h) fun a w' hE hF hA => ?_
                  have x1 := hF.slot 24 _ (by decide) rfl
                  exact wp_value (w' := w') (ex_move rfl) ⟨_, rfl, x1, Ext.refl _⟩
                · refine duty_yes rfl (p := _) rfl (d := 189) rfl (show 189 < 230 by decide) ⟨⟨20, .guard⟩, by simp, rfl, rfl⟩ (fun v w h => h) fun a w' hE hF hA => ?_
                  have x1 := hF.slot 11 _ (by decide) rfl
                  exact wp_value (w' := w') (ex_move rfl) ⟨_, rfl, x1, Ext.refl _⟩
                · refine duty_yes rfl (p := _) rfl (d := 189) rfl (show 189 < 230 by decide) ⟨⟨20, .guard⟩, by simp, rfl, rfl⟩ (fun v w h => h) fun a w' hE hF hA => ?_
                  have x1 := hF.slot 21 _ (by decide) rfl
                  exact wp_value (w' := w') (ex_move rfl) ⟨_, rfl, x1, Ext.refl _⟩
                · refine duty_yes rfl (p := _) rfl (d := 189) rfl (show 189 < 230 by decide) ⟨⟨20, .guard⟩, by simp, rfl, rfl⟩ (fun v w h => h) fun a w' hE hF hA => ?_
                  have x1 := hA.pick 22 191 (.slice (some ⟨b1, o1, none⟩) dl c1) rfl rfl ⟨⟨22, .data⟩, by simp, rfl, rfl⟩ (fun u h => h)
                  have x2 := hA.pick 23 192 (.int .i64 k) rfl rfl ⟨⟨23, .data⟩, by simp, rfl, rfl⟩ (fun u h => h)
                  exact wp_value (w' := w') (v := .pointer (some ⟨b1, o1 + k * 2, none⟩)) (by simp only [execOp, x1, x2]; simp [go_sem, hk0, hk1]) ⟨_, rfl, rfl, Ext.refl _⟩
                · refine duty_yes rfl (p := _) rfl (d := 189) rfl (show 189 < 230 by decide) ⟨⟨20, .guard⟩, by simp, rfl, rfl⟩ (fun v w h => h) fun a w' hE hF hA => ?_
                  have x1 := hA.pick 24 193 (.pointer (some ⟨b1, o1 + k * 2, none⟩)) rfl rfl ⟨⟨24, .data⟩, by simp, rfl, rfl⟩ (fun u h => h)
                  exact wp_value (w' := w') (v := .pointer (some ⟨b1, o1 + k * 2 + 1, none⟩)) (by simp only [execOp, x1]; simp [go_sem]) ⟨_, rfl, rfl, Ext.refl _⟩
                · refine duty_yes rfl (p := _) rfl (d := 189) rfl (show 189 < 230 by decide) ⟨⟨20, .guard⟩, by simp, rfl, rfl⟩ (fun v w h => h) fun a w' hE hF hA => ?_
                  have x1 := hA.pick 25 194 (.pointer (some ⟨b1, o1 + k * 2 + 1, none⟩)) rfl rfl ⟨⟨25, .data⟩, by simp, rfl, rfl⟩ (fun u h => h)
                  exact wp_value (ex_cell rfl _ _ x1 ((hE.cell (World.block_lt_of_cell? _ _ r1)).trans r1) rfl Tryz.underlying3) ⟨_, rfl, rfl, Ext.refl _⟩
                · refine duty_yes rfl (p := _) rfl (d := 189) rfl (show 189 < 230 by decide) ⟨⟨20, .guard⟩, by simp, rfl, rfl⟩ (fun v w h => h) fun a w' hE hF hA => ?_
                  have x1 := hA.pick 26 195 (.int .i64 1) rfl rfl ⟨⟨26, .data⟩, by simp, rfl, rfl⟩ (fun u h => h)
                  exact wp_value (w' := w') (v := .bool true) (by simp only [execOp, x1]; simp [go_sem]) ⟨_, rfl, rfl, Ext.refl _⟩
                · refine duty_yes rfl (p := _) rfl (d := 189) rfl (show 189 < 230 by decide) ⟨⟨20, .guard⟩, by simp, rfl, rfl⟩ (fun v w h => h) fun a w' hE hF hA => ?_
                  have x1 := hA.pick 21 190 (.bool true) rfl rfl ⟨⟨21, .data⟩, by simp, rfl, rfl⟩ (fun u h => h)
                  have x2 := hA.pick 27 196 (.bool true) rfl rfl ⟨⟨27, .data⟩, by simp, rfl, rfl⟩ (fun u h => h)
                  exact wp_value (w' := w') (v := .bool false) (by simp only [execOp, x1, x2]; simp [go_sem]) ⟨_, rfl, rfl, Ext.refl _⟩
                · refine duty_free rfl fun a w' hE hF hA => ?_
                  have x1 := hA.pick 20 189 (.bool false) rfl rfl ⟨⟨20, .data⟩, by simp, rfl, rfl⟩ (fun u h => h)
                  have x2 := hA.pick 28 197 (.bool false) rfl rfl ⟨⟨28, .data⟩, by simp, rfl, rfl⟩ (fun u h => h)
                  exact wp_value (w' := w') (ex_pick rfl x1) ⟨_, rfl, x2, Ext.refl _⟩
                · refine duty_free rfl fun a w' hE hF hA => ?_
                  have x1 := hA.pick 29 198 (.bool false) rfl rfl ⟨⟨29, .data⟩, by simp, rfl, rfl⟩ (fun u h => h)
                  exact wp_value (w' := w') (ex_move rfl) ⟨_, rfl, x1, Ext.refl _⟩
                · refine duty_yes rfl (p := _) rfl (d := 199) rfl (show 199 < 230 by decide) ⟨⟨30, .guard⟩, by simp, rfl, rfl⟩ (fun v w h => h) fun a w' hE hF hA => ?_
                  have x1 := hF.slot 26 _ (by decide) rfl
                  exact wp_value (w' := w') (ex_move rfl) ⟨_, rfl, x1, Ext.refl _⟩
                · refine duty_yes rfl (p := _) rfl (d := 199) rfl (show 199 < 230 by decide) ⟨⟨30, .guard⟩, by simp, rfl, rfl⟩ (fun v w h => h) fun a w' hE hF hA => ?_
                  have x1 := hF.slot 11 _ (by decide) rfl
                  exact wp_value (w' := w') (ex_move rfl) ⟨_, rfl, x1, Ext.refl _⟩
                · refine duty_yes rfl (p := _) rfl (d := 199) rfl (show 199 < 230 by decide) ⟨⟨30, .guard⟩, by simp, rfl, rfl⟩ (fun v w h => h) fun a w' hE hF hA => ?_
                  have x1 := hF.slot 21 _ (by decide) rfl
                  exact wp_value (w' := w') (ex_move rfl) ⟨_, rfl, x1, Ext.refl _⟩
                · refine duty_yes rfl (p := _) rfl (d := 199) rfl (show 199 < 230 by decide) ⟨⟨30, .guard⟩, by simp, rfl, rfl⟩ (fun v w h => h) fun a w' hE hF hA => ?_
                  have x1 := hA.pick 32 201 (.slice (some ⟨b1, o1, none⟩) dl c1) rfl rfl ⟨⟨32, .data⟩, by simp, rfl, rfl⟩ (fun u h => h)
                  have x2 := hA.pick 33 202 (.int .i64 k) rfl rfl ⟨⟨33, .data⟩, by simp, rfl, rfl⟩ (fun u h => h)
                  exact wp_value (w' := w') (v := .pointer (some ⟨b1, o1 + k * 2, none⟩)) (by simp only [execOp, x1, x2]; simp [go_sem, hk0, hk1]) ⟨_, rfl, rfl, Ext.refl _⟩
                · refine duty_yes rfl (p := _) rfl (d := 199) rfl (show 199 < 230 by decide) ⟨⟨30, .guard⟩, by simp, rfl, rfl⟩ (fun v w h => h) fun a w' hE hF hA => ?_
                  have x1 := hA.pick 34 203 (.pointer (some ⟨b1, o1 + k * 2, none⟩)) rfl rfl ⟨⟨34, .data⟩, by simp, rfl, rfl⟩ (fun u h => h)
                  exact wp_value (w' := w') (v := .pointer (some ⟨b1, o1 + k * 2 + 1, none⟩)) (by simp only [execOp, x1]; simp [go_sem]) ⟨_, rfl, rfl, Ext.refl _⟩
                · refine duty_yes rfl (p := _) rfl (d := 199) rfl (show 199 < 230 by decide) ⟨⟨30, .guard⟩, by simp, rfl, rfl⟩ (fun v w h => h) fun a w' hE hF hA => ?_
                  have x1 := hA.pick 35 204 (.pointer (some ⟨b1, o1 + k * 2 + 1, none⟩)) rfl rfl ⟨⟨35, .data⟩, by simp, rfl, rfl⟩ (fun u h => h)
                  exact wp_value (ex_cell rfl _ _ x1 ((hE.cell (World.block_lt_of_cell? _ _ r1)).trans r1) rfl Tryz.underlying3) ⟨_, rfl, rfl, Ext.refl _⟩
                · refine duty_yes rfl (p := _) rfl (d := 199) rfl (show 199 < 230 by decide) ⟨⟨30, .guard⟩, by simp, rfl, rfl⟩ (fun v w h => h) fun a w' hE hF hA => ?_
                  have x1 := hA.pick 36 205 (.int .i64 1) rfl rfl ⟨⟨36, .data⟩, by simp, rfl, rfl⟩ (fun u h => h)
                  exact wp_value (w' := w') (v := .bool false) (by simp only [execOp, x1]; simp [go_sem]) ⟨_, rfl, rfl, Ext.refl _⟩
                · refine duty_yes rfl (p := _) rfl (d := 199) rfl (show 199 < 230 by decide) ⟨⟨30, .guard⟩, by simp, rfl, rfl⟩ (fun v w h => h) fun a w' hE hF hA => ?_
                  have x1 := hA.pick 31 200 (.bool false) rfl rfl ⟨⟨31, .data⟩, by simp, rfl, rfl⟩ (fun u h => h)
                  have x2 := hA.pick 37 206 (.bool false) rfl rfl ⟨⟨37, .data⟩, by simp, rfl, rfl⟩ (fun u h => h)
                  exact wp_value (w' := w') (v := .bool false) (by simp only [execOp, x1, x2]; simp [go_sem]) ⟨_, rfl, rfl, Ext.refl _⟩
                · refine duty_free rfl fun a w' hE hF hA => ?_
                  have x1 := hA.pick 30 199 (.bool false) rfl rfl ⟨⟨30, .data⟩, by simp, rfl, rfl⟩ (fun u h => h)
                  have x2 := hA.pick 38 207 (.bool false) rfl rfl ⟨⟨38, .data⟩, by simp, rfl, rfl⟩ (fun u h => h)
                  exact wp_value (w' := w') (ex_pick rfl x1) ⟨_, rfl, x2, Ext.refl _⟩
                · refine duty_free rfl fun a w' hE hF hA => ?_
                  have x1 := hA.pick 39 208 (.bool false) rfl rfl ⟨⟨39, .data⟩, by simp, rfl, rfl⟩ (fun u h => h)
                  exact wp_value (w' := w') (ex_move rfl) ⟨_, rfl, x1, Ext.refl _⟩
                · refine duty_yes rfl (p := _) rfl (d := 209) rfl (show 209 < 230 by decide) ⟨⟨40, .guard⟩, by simp, rfl, rfl⟩ (fun v w h => h) fun a w' hE hF hA => ?_
                  have x1 := hF.slot 24 _ (by decide) rfl
                  exact wp_value (w' := w') (ex_move rfl) ⟨_, rfl, x1, Ext.refl _⟩
                · refine duty_yes rfl (p := _) rfl (d := 209) rfl (show 209 < 230 by decide) ⟨⟨40, .guard⟩, by simp, rfl, rfl⟩ (fun v w h => h) fun a w' hE hF hA => ?_
                  have x1 := hA.pick 41 210 (.bool true) rfl rfl ⟨⟨41, .data⟩, by simp, rfl, rfl⟩ (fun u h => h)
                  exact wp_value (w' := w') (ex_move rfl) ⟨_, rfl, x1, Ext.refl _⟩
                · refine duty_yes rfl (p := _) rfl (d := 211) rfl (show 211 < 230 by decide) ⟨⟨42, .guard⟩, by simp, rfl, rfl⟩ (fun v w h => h) fun a w' hE hF hA => ?_
                  have x1 := hF.slot 26 _ (by decide) rfl
                  exact wp_value (w' := w') (ex_move rfl) ⟨_, rfl, x1, Ext.refl _⟩
                · refine duty_yes rfl (p := _) rfl (d := 209) rfl (show 209 < 230 by decide) ⟨⟨40, .guard⟩, by simp, rfl, rfl⟩ (fun v w h => h) fun a w' hE hF hA => ?_
                  have x1 := hA.pick 42 211 (.bool true) rfl rfl ⟨⟨42, .data⟩, by simp, rfl, rfl⟩ (fun u h => h)
                  have x2 := hA.pick 43 212 (.bool false) rfl rfl ⟨⟨43, .data⟩, by simp, rfl, rfl⟩ (fun u h => h)
                  exact wp_value (w' := w') (ex_pick rfl x1) ⟨_, rfl, x2, Ext.refl _⟩
                · refine duty_yes rfl (p := _) rfl (d := 209) rfl (show 209 < 230 by decide) ⟨⟨40, .guard⟩, by simp, rfl, rfl⟩ (fun v w h => h) fun a w' hE hF hA => ?_
                  have x1 := hA.pick 44 213 (.bool false) rfl rfl ⟨⟨44, .data⟩, by simp, rfl, rfl⟩ (fun u h => h)
                  exact wp_value (w' := w') (ex_move rfl) ⟨_, rfl, x1, Ext.refl _⟩
                · exact duty_no rfl (p := _) rfl (d := 214) rfl (show 214 < 230 by decide) ⟨⟨45, .guard⟩, by simp, rfl, rfl⟩ (fun v w h => h) fun w => rfl
                · exact duty_no rfl (p := _) rfl (d := 214) rfl (show 214 < 230 by decide) ⟨⟨45, .guard⟩, by simp, rfl, rfl⟩ (fun v w h => h) fun w => rfl
                · exact duty_no rfl (p := _) rfl (d := 214) rfl (show 214 < 230 by decide) ⟨⟨45, .guard⟩, by simp, rfl, rfl⟩ (fun v w h => h) fun w => rfl
                · refine duty_yes rfl (p := _) rfl (d := 209) rfl (show 209 < 230 by decide) ⟨⟨40, .guard⟩, by simp, rfl, rfl⟩ (fun v w h => h) fun a w' hE hF hA => ?_
                  have x1 := hA.pick 45 214 (.bool false) rfl rfl ⟨⟨45, .data⟩, by simp, rfl, rfl⟩ (fun u h => h)
                  exact wp_value (w' := w') (ex_pick rfl x1) ⟨_, rfl, rfl, Ext.refl _⟩
                · refine duty_free rfl fun a w' hE hF hA => ?_
                  have x1 := hA.pick 40 209 (.bool false) rfl rfl ⟨⟨40, .data⟩, by simp, rfl, rfl⟩ (fun u h => h)
                  have x2 := hA.pick 49 218 (.bool false) rfl rfl ⟨⟨49, .data⟩, by simp, rfl, rfl⟩ (fun u h => h)
                  exact wp_value (w' := w') (ex_pick rfl x1) ⟨_, rfl, x2, Ext.refl _⟩
                · refine duty_free rfl fun a w' hE hF hA => ?_
                  have x1 := hA.pick 50 219 (.bool false) rfl rfl ⟨⟨50, .data⟩, by simp, rfl, rfl⟩ (fun u h => h)
                  exact wp_value (w' := w') (ex_move rfl) ⟨_, rfl, x1, Ext.refl _⟩
                · refine duty_yes rfl (p := _) rfl (d := 220) rfl (show 220 < 230 by decide) ⟨⟨51, .guard⟩, by simp, rfl, rfl⟩ (fun v w h => h) fun a w' hE hF hA => ?_
                  have x1 := hF.slot 13 _ (by decide) rfl
                  exact wp_value (w' := w') (ex_move rfl) ⟨_, rfl, x1, Ext.refl _⟩
                · refine duty_yes rfl (p := _) rfl (d := 220) rfl (show 220 < 230 by decide) ⟨⟨51, .guard⟩, by simp, rfl, rfl⟩ (fun v w h => h) fun a w' hE hF hA => ?_
                  have x1 := hF.slot 11 _ (by decide) rfl
                  exact wp_value (w' := w') (ex_move rfl) ⟨_, rfl, x1, Ext.refl _⟩
                · refine duty_yes rfl (p := _) rfl (d := 220) rfl (show 220 < 230 by decide) ⟨⟨51, .guard⟩, by simp, rfl, rfl⟩ (fun v w h => h) fun a w' hE hF hA => ?_
                  have x1 := hF.slot 21 _ (by decide) rfl
                  exact wp_value (w' := w') (ex_move rfl) ⟨_, rfl, x1, Ext.refl _⟩
                · refine duty_yes rfl (p := _) rfl (d := 220) rfl (show 220 < 230 by decide) ⟨⟨51, .guard⟩, by simp, rfl, rfl⟩ (fun v w h => h) fun a w' hE hF hA => ?_
                  have x1 := hA.pick 53 222 (.slice (some ⟨b1, o1, none⟩) dl c1) rfl rfl ⟨⟨53, .data⟩, by simp, rfl, rfl⟩ (fun u h => h)
                  have x2 := hA.pick 54 223 (.int .i64 k) rfl rfl ⟨⟨54, .data⟩, by simp, rfl, rfl⟩ (fun u h => h)
                  exact wp_value (w' := w') (v := .pointer (some ⟨b1, o1 + k * 2, none⟩)) (by simp only [execOp, x1, x2]; simp [go_sem, hk0, hk1]) ⟨_, rfl, rfl, Ext.refl _⟩
                · refine duty_yes rfl (p := _) rfl (d := 220) rfl (show 220 < 230 by decide) ⟨⟨51, .guard⟩, by simp, rfl, rfl⟩ (fun v w h => h) fun a w' hE hF hA => ?_
                  have x1 := hA.pick 55 224 (.pointer (some ⟨b1, o1 + k * 2, none⟩)) rfl rfl ⟨⟨55, .data⟩, by simp, rfl, rfl⟩ (fun u h => h)
                  exact wp_value (w' := w') (v := .pointer (some ⟨b1, o1 + k * 2, none⟩)) (by simp only [execOp, x1]; simp [go_sem]) ⟨_, rfl, rfl, Ext.refl _⟩
                · refine duty_yes rfl (p := _) rfl (d := 220) rfl (show 220 < 230 by decide) ⟨⟨51, .guard⟩, by simp, rfl, rfl⟩ (fun v w h => h) fun a w' hE hF hA => ?_
                  have x1 := hA.pick 56 225 (.pointer (some ⟨b1, o1 + k * 2, none⟩)) rfl rfl ⟨⟨56, .data⟩, by simp, rfl, rfl⟩ (fun u h => h)
                  exact wp_value (ex_cell rfl _ _ x1 ((hE.cell (World.block_lt_of_cell? _ _ p1)).trans p1) rfl Tryz.underlying9) ⟨_, rfl, rfl, Ext.refl _⟩
                · refine duty_yes rfl (p := _) rfl (d := 220) rfl (show 220 < 230 by decide) ⟨⟨51, .guard⟩, by simp, rfl, rfl⟩ (fun v w h => h) fun a w' hE hF hA => ?_
                  have x1 := hA.pick 52 221 (.string pp) rfl rfl ⟨⟨52, .data⟩, by simp, rfl, rfl⟩ (fun u h => h)
                  have x2 := hA.pick 57 226 (.string q) rfl rfl ⟨⟨57, .data⟩, by simp, rfl, rfl⟩ (fun u h => h)
                  refine wp_enter (ex_call rfl (enters_f Tryz.func56 (by kernel_rfl) rfl)) (by simp only [List.map_toArray, List.map_cons, List.map_nil, x1, x2]; exact CU.out _) ?_
                  rintro e w4 ⟨rfl, hb⟩
                  exact ⟨_, rfl, _, rfl, rfl, hb⟩
                · refine duty_yes rfl (p := _) rfl (d := 220) rfl (show 220 < 230 by decide) ⟨⟨51, .guard⟩, by simp, rfl, rfl⟩ (fun v w h => h) fun a w' hE hF hA => ?_
                  have x1 := hA.pick 58 227 (.bool true) rfl rfl ⟨⟨58, .data⟩, by simp, rfl, rfl⟩ (fun u h => h)
                  exact wp_value (w' := w') (v := .bool false) (by simp only [execOp, x1]; simp [go_sem]) ⟨_, rfl, rfl, Ext.refl _⟩
                · refine duty_free rfl fun a w' hE hF hA => ?_
                  have x1 := hA.pick 51 220 (.bool false) rfl rfl ⟨⟨51, .data⟩, by simp, rfl, rfl⟩ (fun u h => h)
                  have x2 := hA.pick 59 228 (.bool false) rfl rfl ⟨⟨59, .data⟩, by simp, rfl, rfl⟩ (fun u h => h)
                  exact wp_value (w' := w') (ex_pick rfl x1) ⟨_, rfl, x2, Ext.refl _⟩
              case stay => trivial
              case rest =>
                intro W12 hE12
                simp only [forS]
                have HE12 := Lib.hid (HEX.out.trans hE12)
                clear hE12 p1 p2 r1 r2 hbn hby CU
                rw [filled_tail _ _ _ _ 169 rfl rfl rfl]
                simp only [List.take_succ_cons, List.take_zero, List.cons_append, List.nil_append]
                simp only [Exit.inBlock, Exit.then, Act.put]
                first | (rename_i hK; refine hK _ _ ?_; clear hK) | (rename_i hK _; refine hK _ _ ?_; clear hK) | (rename_i hK _ _; refine hK _ _ ?_; clear hK) | (rename_i hK _ _ _; refine hK _ _ ?_; clear hK)
                go_wp2
                go_roundw
                case rel => exact ⟨k + 1, by omega, by go_num, HE12.out⟩
                case measure => simp [intOf]; omega
            · have r2 : wr.cell? ⟨b2, o2 + k * 2 + 1, none⟩ = some (.int .i64 1) := r2
              have C1 := Lib.hid (CG1.out wr HE.out)
              clear CG1
              go_wp2_with fail
              refine C1.out.mono ?_
              rintro e W10 ⟨v3, rfl, hv3, hE10⟩
              rw [hgA] at hv3 ⊢
              simp only [Option.getD_some, Option.getD_none] at hv3
              simp only [Option.isSome_some, Option.isSome_none]
              obtain ⟨da, dc, aa, ac, X10, e0, hset3, hbx3, hEX3, hD3, hA3⟩ := box_node hv3 fun b hb => hb.2
              subst e0
              have hE10 : Ext wr W10 := hE10
              have hEX := hE10.trans hEX3
              have hEV := HE.out.trans hEX
              have p1 : X10.cell? ⟨b1, o1 + k * 2, none⟩ = some (.string q) := (hEX.cell (World.block_lt_of_cell? _ _ p1)).trans p1
              have p2 : X10.cell? ⟨b2, o2 + k * 2, none⟩ = some (.string q) := (hEX.cell (World.block_lt_of_cell? _ _ p2)).trans p2
              have r1 : X10.cell? ⟨b1, o1 + k * 2 + 1, none⟩ = some (.int .i64 2) := (hEX.cell (World.block_lt_of_cell? _ _ r1)).trans r1
              have r2 : X10.cell? ⟨b2, o2 + k * 2 + 1, none⟩ = some (.int .i64 1) := (hEX.cell (World.block_lt_of_cell? _ _ r2)).trans r2
              have C2 := Lib.hid (CG2.out X10 hEV)
              have HSET1 := Lib.hid hset3
              have HNEW1 := Lib.hid (heap_alloc_new W10 (.cells zeroNd 44))
              have HBX := Lib.hid hbx3
              have HEV := Lib.hid hEV
              have HD3 := Lib.hid hD3
              have HA3 := Lib.hid hA3
              unfold ndC at HSET1 ⊢
              unfold zeroNd at HSET1 HNEW1
              clear hset3 hbx3 hEX3 hE10 hEX hEV hv3 C1 CG2 hD3 hA3 HE
              go_wp2_with (refine wpList_store_row rfl 44 (.tmp 23) (.tmp 157) rfl W10.heap.size _ rfl rfl 44 _ HNEW1.out sizeNd rfl (cells_node _ da aa _ _ dc ac) ?_; rw [HSET1.out])
              refine C2.out.mono ?_
              rintro e W11 ⟨v4, rfl, hv4, hE11⟩
              rw [hgB] at hv4 ⊢
              simp only [Option.getD_some, Option.getD_none] at hv4
              simp only [Option.isSome_some, Option.isSome_none]
              obtain ⟨db, eb, ab, fb, X11, e0, hset4, hbx4, hEX4, hD4, hA4⟩ := box_node hv4 fun b hb => hb.2
              subst e0
              have hE11 : Ext X10 W11 := hE11
              have hEX := hE11.trans hEX4
              have p1 : X11.cell? ⟨b1, o1 + k * 2, none⟩ = some (.string q) := (hEX.cell (World.block_lt_of_cell? _ _ p1)).trans p1
              have p2 : X11.cell? ⟨b2, o2 + k * 2, none⟩ = some (.string q) := (hEX.cell (World.block_lt_of_cell? _ _ p2)).trans p2
              have r1 : X11.cell? ⟨b1, o1 + k * 2 + 1, none⟩ = some (.int .i64 2) := (hEX.cell (World.block_lt_of_cell? _ _ r1)).trans r1
              have r2 : X11.cell? ⟨b2, o2 + k * 2 + 1, none⟩ = some (.int .i64 1) := (hEX.cell (World.block_lt_of_cell? _ _ r2)).trans r2
              have HSET2 := Lib.hid hset4
              have HNEW2 := Lib.hid (heap_alloc_new W11 (.cells zeroNd 44))
              have HBN := Lib.hid ((hEX.block _ (Array.getElem?_eq_some_iff.1 HBX.out).1).trans HBX.out)
              have HBY := Lib.hid hbx4
              have HEX := Lib.hid (HEV.out.trans hEX)
              unfold ndC at HSET2 ⊢
              unfold zeroNd at HSET2 HNEW2
              clear hset4 hbx4 hEX4 hE11 hEX hv4 C2 hD4 hA4 HD3 HA3 HBX HEV hgA hgB
              have hbn := HBN.out
              have hby := HBY.out
              go_wp2_with (first | (refine wpList_store_row rfl 44 (.tmp 25) (.tmp 167) rfl W11.heap.size _ rfl rfl 44 _ HNEW2.out sizeNd rfl (cells_node _ db ab _ _ eb fb) ?_; rw [HSET2.out]))
              refine wp_region_P (by kernel_rfl) (region_sp 230 [.val (.slice (some ⟨b2, o2, none⟩) dl c2), .val (.int .i64 k), .val (.pointer (some ⟨b2, o2 + k * 2, none⟩)), .val (.pointer (some ⟨b2, o2 + k * 2, none⟩)), .val (.string q), .val (.slice (some ⟨b1, o1, none⟩) dl c1), .val (.int .i64 k), .val (.pointer (some ⟨b1, o1 + k * 2, none⟩)), .val (.pointer (some ⟨b1, o1 + k * 2, none⟩)), .val (.string q), .val (.bool false), .val (.bool false), .val (.slice (some ⟨b2, o2, none⟩) dl c2), .val (.int .i64 k), .val (.pointer (some ⟨b2, o2 + k * 2, none⟩)), .val (.pointer (some ⟨b2, o2 + k * 2 + 1, none⟩)), .val (.int .i64 1), .val (.int .i64 1), .val (.bool false), .val (.bool false), .val (.bool false), .val (.bool false), .val (.slice (some ⟨b1, o1, none⟩) dl c1), .val (.int .i64 k), .val (.pointer (some ⟨b1, o1 + k * 2, none⟩)), .val (.pointer (some ⟨b1, o1 + k * 2 + 1, none⟩)), .val (.int .i64 2), .val (.bool false), .val (.bool false), .val (.bool false), .val (.bool false), .val (.bool true), .val (.slice (some ⟨b1, o1, none⟩) dl c1), .val (.int .i64 k), .val (.pointer (some ⟨b1, o1 + k * 2, none⟩)), .val (.pointer (some ⟨b1, o1 + k * 2 + 1, none⟩)), .val (.int .i64 2), .val (.bool true), .val (.bool false), .val (.bool false), .val (.bool false), .val (.bool false), .val (.bool false), .val (undef), .val (.bool false), .val (.bool false), .val (undef), .val (undef), .val (undef), .val (.bool false), .val (.bool false), .val (.bool false), .val (.string pp), .val (.slice (some ⟨b1, o1, none⟩) dl c1), .val (.int .i64 k), .val (.pointer (some ⟨b1, o1 + k * 2, none⟩)), .val (.pointer (some ⟨b1, o1 + k * 2, none⟩)), .val (.string q), .val (.bool true), .val (.bool false), .val (.bool false)] ?stay rfl (by decide) rfl ?duties ?rest)
              case duties =>
                refine ⟨?_, ?_, ?_, ?_, ?_, ?_, ?_, ?_, ?_, ?_, ?_, ?_, ?_, ?_, ?_, ?_, ?_, ?_, ?_, ?_, ?_, ?_, ?_, ?_, ?_, ?_, ?_, ?_, ?_, ?_, ?_, ?_, ?_, ?_, ?_, ?_, ?_, ?_, ?_, ?_, ?_, ?_, ?_, ?_, ?_, ?_, ?_, ?_, ?_, ?_, ?_, ?_, ?_, ?_, ?_, ?_, ?_, ?_, ?_, ?_, ?_, trivial⟩
                · refine duty_free rfl fun a w' hE hF hA => ?_
                  have x1 := hF.slot 12 _ (by decide) rfl
                  exact wp_value (w' := w') (ex_move rfl) ⟨_, rfl, x1, Ext.refl _⟩
                · refine duty_free rfl fun a w' hE hF hA => ?_
                  have x1 := hF.slot 21 _ (by decide) rfl
                  exact wp_value (w' := w') (ex_move rfl) ⟨_, rfl, x1, Ext.refl _⟩
                · refine duty_free rfl fun a w' hE hF hA => ?_
                  have x1 := hA.pick 0 169 (.slice (some ⟨b2, o2, none⟩) dl c2) rfl rfl ⟨⟨0, .data⟩, by simp, rfl, rfl⟩ (fun u h => h)
                  have x2 := hA.pick 1 170 (.int .i64 k) rfl rfl ⟨⟨1, .data⟩, by simp, rfl, rfl⟩ (fun u h => h)
                  exact wp_value (w' := w') (v := .pointer (some ⟨b2, o2 + k * 2, none⟩)) (by simp only [execOp, x1, x2]; simp [go_sem, hk0, hk1]) ⟨_, rfl, rfl, Ext.refl _⟩
                · refine duty_free rfl fun a w' hE hF hA => ?_
                  have x1 := hA.pick 2 171 (.pointer (some ⟨b2, o2 + k * 2, none⟩)) rfl rfl ⟨⟨2, .data⟩, by simp, rfl, rfl⟩ (fun u h => h)
                  exact wp_value (w' := w') (v := .pointer (some ⟨b2, o2 + k * 2, none⟩)) (by simp only [execOp, x1]; simp [go_sem]) ⟨_, rfl, rfl, Ext.refl _⟩
                · refine duty_free rfl fun a w' hE hF hA => ?_
                  have x1 := hA.pick 3 172 (.pointer (some ⟨b2, o2 + k * 2, none⟩)) rfl rfl ⟨⟨3, .data⟩, by simp, rfl, rfl⟩ (fun u h => h)
                  exact wp_value (ex_cell rfl _ _ x1 ((hE.cell (World.block_lt_of_cell? _ _ p2)).trans p2) rfl Tryz.underlying9) ⟨_, rfl, rfl, Ext.refl _⟩
                · refine duty_free rfl fun a w' hE hF hA => ?_
                  have x1 := hF.slot 11 _ (by decide) rfl
                  exact wp_value (w' := w') (ex_move rfl) ⟨_, rfl, x1, Ext.refl _⟩
                · refine duty_free rfl fun a w' hE hF hA => ?_
                  have x1 := hF.slot 21 _ (by decide) rfl
                  exact wp_value (w' := w') (ex_move rfl) ⟨_, rfl, x1, Ext.refl _⟩
                · refine duty_free rfl fun a w' hE hF hA => ?_
                  have x1 := hA.pick 5 174 (.slice (some ⟨b1, o1, none⟩) dl c1) rfl rfl ⟨⟨5, .data⟩, by simp, rfl, rfl⟩ (fun u h => h)
                  have x2 := hA.pick 6 175 (.int .i64 k) rfl rfl ⟨⟨6, .data⟩, by simp, rfl, rfl⟩ (fun u h => h)
                  exact wp_value (w' := w') (v := .pointer (some ⟨b1, o1 + k * 2, none⟩)) (by simp only [execOp, x1, x2]; simp [go_sem, hk0, hk1]) ⟨_, rfl, rfl, Ext.refl _⟩
                · refine duty_free rfl fun a w' hE hF hA => ?_
                  have x1 := hA.pick 7 176 (.pointer (some ⟨b1, o1 + k * 2, none⟩)) rfl rfl ⟨⟨7, .data⟩, by simp, rfl, rfl⟩ (fun u h => h)
                  exact wp_value (w' := w') (v := .pointer (some ⟨b1, o1 + k * 2, none⟩)) (by simp only [execOp, x1]; simp [go_sem]) ⟨_, rfl, rfl, Ext.refl _⟩
                · refine duty_free rfl fun a w' hE hF hA => ?_
                  have x1 := hA.pick 8 177 (.pointer (some ⟨b1, o1 + k * 2, none⟩)) rfl rfl ⟨⟨8, .data⟩, by simp, rfl, rfl⟩ (fun u h => h)
                  exact wp_value (ex_cell rfl _ _ x1 ((hE.cell (World.block_lt_of_cell? _ _ p1)).trans p1) rfl Tryz.underlying9) ⟨_, rfl, rfl, Ext.refl _⟩
                · refine duty_free rfl fun a w' hE hF hA => ?_
                  have x1 := hA.pick 4 173 (.string q) rfl rfl ⟨⟨4, .data⟩, by simp, rfl, rfl⟩ (fun u h => h)
                  have x2 := hA.pick 9 178 (.string q) rfl rfl ⟨⟨9, .data⟩, by simp, rfl, rfl⟩ (fun u h => h)
                  exact wp_value (w' := w') (v := .bool false) (by simp only [execOp, x1, x2]; simp [go_sem]) ⟨_, rfl, rfl, Ext.refl _⟩
                · refine duty_free rfl fun a w' hE hF hA => ?_
                  have x1 := hA.pick 10 179 (.bool false) rfl rfl ⟨⟨10, .data⟩, by simp, rfl, rfl⟩ (fun u h => h)
                  exact wp_value (w' := w') (ex_move rfl) ⟨_, rfl, x1, Ext.refl _⟩
                · refine duty_yes rfl (p := _) rfl (d := 180) rfl (show 180 < 230 by decide) ⟨⟨11, .guard⟩, by simp, rfl, rfl⟩ (fun v w h => h) fun a w' hE hF hA => ?_
                  have x1 := hF.slot 12 _ (by decide) rfl
                  exact wp_value (w' := w') (ex_move rfl) ⟨_, rfl, x1, Ext.refl _⟩
                · refine duty_yes rfl (p := _) rfl (d := 180) rfl (show 180 < 230 by decide) ⟨⟨11, .guard⟩, by simp, rfl, rfl⟩ (fun v w h => h) fun a w' hE hF hA => ?_
                  have x1 := hF.slot 21 _ (by decide) rfl
                  exact wp_value (w' := w') (ex_move rfl) ⟨_, rfl, x1, Ext.refl _⟩
                · refine duty_yes rfl (p := _) rfl (d := 180) rfl (show 180 < 230 by decide) ⟨⟨11, .guard⟩, by simp, rfl, rfl⟩ (fun v w h => h) fun a w' hE hF hA => ?_
                  have x1 := hA.pick 12 181 (.slice (some ⟨b2, o2, none⟩) dl c2) rfl rfl ⟨⟨12, .data⟩, by simp, rfl, rfl⟩ (fun u h => h)
                  have x2 := hA.pick 13 182 (.int .i64 k) rfl rfl ⟨⟨13, .data⟩, by simp, rfl, rfl⟩ (fun u h => h)
                  exact wp_value (w' := w') (v := .pointer (some ⟨b2, o2 + k * 2, none⟩)) (by simp only [execOp, x1, x2]; simp [go_sem, hk0, hk1]) ⟨_, rfl, rfl, Ext.refl _⟩
                · refine duty_yes rfl (p := _) rfl (d := 180) rfl (show 180 < 230 by decide) ⟨⟨11, .guard⟩, by simp, rfl, rfl⟩ (fun v w h => h) fun a w' hE hF hA => ?_
                  have x1 := hA.pick 14 183 (.pointer (some ⟨b2, o2 + k * 2, none⟩)) rfl rfl ⟨⟨14, .data⟩, by simp, rfl, rfl⟩ (fun u h => h)
                  exact wp_value (w' := w') (v := .pointer (some ⟨b2, o2 + k * 2 + 1, none⟩)) (by simp only [execOp, x1]; simp [go_sem]) ⟨_, rfl, rfl, Ext.refl _⟩
                · refine duty_yes rfl (p := _) rfl (d := 180) rfl (show 180 < 230 by decide) ⟨⟨11, .guard⟩, by simp, rfl, rfl⟩ (fun v w h => h) fun a w' hE hF hA => ?_
                  have x1 := hA.pick 15 184 (.pointer (some ⟨b2, o2 + k * 2 + 1, none⟩)) rfl rfl ⟨⟨15, .data⟩, by simp, rfl, rfl⟩ (fun u h => h)
                  exact wp_value (ex_cell rfl _ _ x1 ((hE.cell (World.block_lt_of_cell? _ _ r2)).trans r2) rfl Tryz.underlying3) ⟨_, rfl, rfl, Ext.refl _⟩
                · refine duty_yes rfl (p := _) rfl (d := 180) rfl (show 180 < 230 by decide) ⟨⟨11, .guard⟩, by simp, rfl, rfl⟩ (fun v w h => h) fun a w' hE hF hA => ?_
                  have x1 := hF.slot 22 _ (by decide) rfl
                  exact wp_value (w' := w') (ex_move rfl) ⟨_, rfl, x1, Ext.refl _⟩
                · refine duty_yes rfl (p := _) rfl (d := 180) rfl (show 180 < 230 by decide) ⟨⟨11, .guard⟩, by simp, rfl, rfl⟩ (fun v w h => h) fun a w' hE hF hA => ?_
                  have x1 := hA.pick 16 185 (.int .i64 1) rfl rfl ⟨⟨16, .data⟩, by simp, rfl, rfl⟩ (fun u h => h)
                  have x2 := hA.pick 17 186 (.int .i64 1) rfl rfl ⟨⟨17, .data⟩, by simp, rfl, rfl⟩ (fun u h => h)
                  exact wp_value (w' := w') (v := .bool false) (by simp only [execOp, x1, x2]; simp [go_sem]) ⟨_, rfl, rfl, Ext.refl _⟩
                · refine duty_free rfl fun a w' hE hF hA => ?_
                  have x1 := hA.pick 11 180 (.bool false) rfl rfl ⟨⟨11, .data⟩, by simp, rfl, rfl⟩ (fun u h => h)
                  have x2 := hA.pick 18 187 (.bool false) rfl rfl ⟨⟨18, .data⟩, by simp, rfl, rfl⟩ (fun u h => h)
                  exact wp_value (w' := w') (ex_pick rfl x1) ⟨_, rfl, x2, Ext.refl _⟩
                · refine duty_free rfl fun a w' hE hF hA => ?_
                  have x1 := hA.pick 19 188 (.bool false) rfl rfl ⟨⟨19, .data⟩, by simp, rfl, rfl⟩ (fun u h => h)
                  exact wp_value (w' := w') (ex_move rfl) ⟨_, rfl, x1, Ext.refl _⟩
                · refine duty_yes rfl (p := _) rfl (d := 189) rfl (show 189 < 230 by decide) ⟨⟨20, .guard⟩, by simp, rfl, rfl⟩ (fun v w h => h) fun a w' hE hF hA => ?_
                  have x1 := hF.slot 24 _ (by decide) rfl
                  exact wp_value (w' := w') (ex_move rfl) ⟨_, rfl, x1, Ext.refl _⟩
                · refine duty_yes rfl (p := _) rfl (d := 189) rfl (show 189 < 230 by decide) ⟨⟨20, .guard⟩, by simp, rfl, rfl⟩ (fun v w h => h) fun a w' hE hF hA => ?_
                  have x1 := hF.slot 11 _ (by decide) rfl
                  exact wp_value (w' := w') (ex_move rfl) ⟨_, rfl, x1, Ext.refl _⟩
                · refine duty_yes rfl (p := _) rfl (d := 189) rfl (show 189 < 230 by decide) ⟨⟨20, .guard⟩, by simp, rfl, rfl⟩ (fun v w h => h) fun a w' hE hF hA => ?_
                  have x1 := hF.slot 21 _ (by decide) rfl
                  exact wp_value (w' := w') (ex_move rfl) ⟨_, rfl, x1, Ext.refl _⟩
                · refine duty_yes rfl (p := _) rfl (d := 189) rfl (show 189 < 230 by decide) ⟨⟨20, .guard⟩, by simp, rfl, rfl⟩ (fun v w h => h) fun a w' hE hF hA => ?_
                  have x1 := hA.pick 22 191 (.slice (some ⟨b1, o1, none⟩) dl c1) rfl rfl ⟨⟨22, .data⟩, by simp, rfl, rfl⟩ (fun u h => h)
                  have x2 := hA.pick 23 192 (.int .i64 k) rfl rfl ⟨⟨23, .data⟩, by simp, rfl, rfl⟩ (fun u h => h)
                  exact wp_value (w' := w') (v := .pointer (some ⟨b1, o1 + k * 2, none⟩)) (by simp only [execOp, x1, x2]; simp [go_sem, hk0, hk1]) ⟨_, rfl, rfl, Ext.refl _⟩
                · refine duty_yes rfl (p := _) rfl (d := 189) rfl (show 189 < 230 by decide) ⟨⟨20, .guard⟩, by simp, rfl, rfl⟩ (fun v w h => h) fun a w' hE hF hA => ?_
                  have x1 := hA.pick 24 193 (.pointer (some ⟨b1, o1 + k * 2, none⟩)) rfl rfl ⟨⟨24, .data⟩, by simp, rfl, rfl⟩ (fun u h => h)
                  exact wp_value (w' := w') (v := .pointer (some ⟨b1, o1 + k * 2 + 1, none⟩)) (by simp only [execOp, x1]; simp [go_sem]) ⟨_, rfl, rfl, Ext.refl _⟩
                · refine duty_yes rfl (p := _) rfl (d := 189) rfl (show 189 < 230 by decide) ⟨⟨20, .guard⟩, by simp, rfl, rfl⟩ (fun v w h => h) fun a w' hE hF hA => ?_
                  have x1 := hA.pick 25 194 (.pointer (some ⟨b1, o1 + k * 2 + 1, none⟩)) rfl rfl ⟨⟨25, .data⟩, by simp, rfl, rfl⟩ (fun u h => h)
                  exact wp_value (ex_cell rfl _ _ x1 ((hE.cell (World.block_lt_of_cell? _ _ r1)).trans r1) rfl Tryz.underlying3) ⟨_, rfl, rfl, Ext.refl _⟩
                · refine duty_yes rfl (p := _) rfl (d := 189) rfl (show 189 < 230 by decide) ⟨⟨20, .guard⟩, by simp, rfl, rfl⟩ (fun v w h => h) fun a w' hE hF hA => ?_
                  have x1 := hA.pick 26 195 (.int .i64 2) rfl rfl ⟨⟨26, .data⟩, by simp, rfl, rfl⟩ (fun u h => h)
                  exact wp_value (w' := w') (v := .bool false) (by simp only [execOp, x1]; simp [go_sem]) ⟨_, rfl, rfl, Ext.refl _⟩
                · refine duty_yes rfl (p := _) rfl (d := 189) rfl (show 189 < 230 by decide) ⟨⟨20, .guard⟩, by simp, rfl, rfl⟩ (fun v w h => h) fun a w' hE hF hA => ?_
                  have x1 := hA.pick 21 190 (.bool false) rfl rfl ⟨⟨21, .data⟩, by simp, rfl, rfl⟩ (fun u h => h)
                  have x2 := hA.pick 27 196 (.bool false) rfl rfl ⟨⟨27, .data⟩, by simp, rfl, rfl⟩ (fun u h => h)
                  exact wp_value (w' := w') (v := .bool false) (by simp only [execOp, x1, x2]; simp [go_sem]) ⟨_, rfl, rfl, Ext.refl _⟩
                · refine duty_free rfl fun a w' hE hF hA => ?_
                  have x1 := hA.pick 20 189 (.bool false) rfl rfl ⟨⟨20, .data⟩, by simp, rfl, rfl⟩ (fun u h => h)
                  have x2 := hA.pick 28 197 (.bool false) rfl rfl ⟨⟨28, .data⟩, by simp, rfl, rfl⟩ (fun u h => h)
                  exact wp_value (w' := w') (ex_pick rfl x1) ⟨_, rfl, x2, Ext.refl _⟩
                · refine duty_free rfl fun a w' hE hF hA => ?_
                  have x1 := hA.pick 29 198 (.bool false) rfl rfl ⟨⟨29, .data⟩, by simp, rfl, rfl⟩ (fun u h => h)
                  exact wp_value (w' := w') (ex_move rfl) ⟨_, rfl, x1, Ext.refl _⟩
                · refine duty_yes rfl (p := _) rfl (d := 199) rfl (show 199 < 230 by decide) ⟨⟨30, .guard⟩, by simp, rfl, rfl⟩ (fun v w h => h) fun a w' hE hF hA => ?_
                  have x1 := hF.slot 26 _ (by decide) rfl
                  exact wp_value (w' := w') (ex_move rfl) ⟨_, rfl, x1, Ext.refl _⟩
                · refine duty_yes rfl (p := _) rfl (d := 199) rfl (show 199 < 230 by decide) ⟨⟨30, .guard⟩, by simp, rfl, rfl⟩ (fun v w h => h) fun a w' hE hF hA => ?_
                  have x1 := hF.slot 11 _ (by decide) rfl
                  exact wp_value (w' := w') (ex_move rfl) ⟨_, rfl, x1, Ext.refl _⟩
                · refine duty_yes rfl (p := _) rfl (d := 199) rfl (show 199 < 230 by decide) ⟨⟨30, .guard⟩, by simp, rfl, rfl⟩ (fun v w h => h) fun a w' hE hF hA => ?_
                  have x1 := hF.slot 21 _ (by decide) rfl
                  exact wp_value (w' := w') (ex_move rfl) ⟨_, rfl, x1, Ext.refl _⟩
                · refine duty_yes rfl (p := _) rfl (d := 199) rfl (show 199 < 230 by decide) ⟨⟨30, .guard⟩, by simp, rfl, rfl⟩ (fun v w h => h) fun a w' hE hF hA => ?_
                  have x1 := hA.pick 32 201 (.slice (some ⟨b1, o1, none⟩) dl c1) rfl rfl ⟨⟨32, .data⟩, by simp, rfl, rfl⟩ (fun u h => h)
                  have x2 := hA.pick 33 202 (.int .i64 k) rfl rfl ⟨⟨33, .data⟩, by simp, rfl, rfl⟩ (fun u h => h)
                  exact wp_value (w' := w') (v := .pointer (some ⟨b1, o1 + k * 2, none⟩)) (by simp only [execOp, x1, x2]; simp [go_sem, hk0, hk1]) ⟨_, rfl, rfl, Ext.refl _⟩
                · refine duty_yes rfl (p := _) rfl (d := 199) rfl (show 199 < 230 by decide) ⟨⟨30, .guard⟩, by simp, rfl, rfl⟩ (fun v w h => h) fun a w' hE hF hA => ?_
                  have x1 := hA.pick 34 203 (.pointer (some ⟨b1, o1 + k * 2, none⟩)) rfl rfl ⟨⟨34, .data⟩, by simp, rfl, rfl⟩ (fun u h => h)
                  exact wp_value (w' := w') (v := .pointer (some ⟨b1, o1 + k * 2 + 1, none⟩)) (by simp only [execOp, x1]; simp [go_sem]) ⟨_, rfl, rfl, Ext.refl _⟩
                · refine duty_yes rfl (p := _) rfl (d := 199) rfl (show 199 < 230 by decide) ⟨⟨30, .guard⟩, by simp, rfl, rfl⟩ (fun v w h => h) fun a w' hE hF hA => ?_
                  have x1 := hA.pick 35 204 (.pointer (some ⟨b1, o1 + k * 2 + 1, none⟩)) rfl rfl ⟨⟨35, .data⟩, by simp, rfl, rfl⟩ (fun u h => h)
                  exact wp_value (ex_cell rfl _ _ x1 ((hE.cell (World.block_lt_of_cell? _ _ r1)).trans r1) rfl Tryz.underlying3) ⟨_, rfl, rfl, Ext.refl _⟩
                · refine duty_yes rfl (p := _) rfl (d := 199) rfl (show 199 < 230 by decide) ⟨⟨30, .guard⟩, by simp, rfl, rfl⟩ (fun v w h => h) fun a w' hE hF hA => ?_
                  have x1 := hA.pick 36 205 (.int .i64 2) rfl rfl ⟨⟨36, .data⟩, by simp, rfl, rfl⟩ (fun u h => h)
                  exact wp_value (w' := w') (v := .bool true) (by simp only [execOp, x1]; simp [go_sem]) ⟨_, rfl, rfl, Ext.refl _⟩
                · refine duty_yes rfl (p := _) rfl (d := 199) rfl (show 199 < 230 by decide) ⟨⟨30, .guard⟩, by simp, rfl, rfl⟩ (fun v w h => h) fun a w' hE hF hA => ?_
                  have x1 := hA.pick 31 200 (.bool true) rfl rfl ⟨⟨31, .data⟩, by simp, rfl, rfl⟩ (fun u h => h)
                  have x2 := hA.pick 37 206 (.bool true) rfl rfl ⟨⟨37, .data⟩, by simp, rfl, rfl⟩ (fun u h => h)
                  exact wp_value (w' := w') (v := .bool false) (by simp only [execOp, x1, x2]; simp [go_sem]) ⟨_, rfl, rfl, Ext.refl _⟩
                · refine duty_free rfl fun a w' hE hF hA => ?_
                  have x1 := hA.pick 30 199 (.bool false) rfl rfl ⟨⟨30, .data⟩, by simp, rfl, rfl⟩ (fun u h => h)
                  have x2 := hA.pick 38 207 (.bool false) rfl rfl ⟨⟨38, .data⟩, by simp, rfl, rfl⟩ (fun u h => h)
                  exact wp_value (w' := w') (ex_pick rfl x1) ⟨_, rfl, x2, Ext.refl _⟩
                · refine duty_free rfl fun a w' hE hF hA => ?_
                  have x1 := hA.pick 39 208 (.bool false) rfl rfl ⟨⟨39, .data⟩, by simp, rfl, rfl⟩ (fun u h => h)
                  exact wp_value (w' := w') (ex_move rfl) ⟨_, rfl, x1, Ext.refl _⟩
                · refine duty_yes rfl (p := _) rfl (d := 209) rfl (show 209 < 230 by decide) ⟨⟨40, .guard⟩, by simp, rfl, rfl⟩ (fun v w h => h) fun a w' hE hF hA => ?_
                  have x1 := hF.slot 24 _ (by decide) rfl
                  exact wp_value (w' := w') (ex_move rfl) ⟨_, rfl, x1, Ext.refl _⟩
                · refine duty_yes rfl (p := _) rfl (d := 209) rfl (show 209 < 230 by decide) ⟨⟨40, .guard⟩, by simp, rfl, rfl⟩ (fun v w h => h) fun a w' hE hF hA => ?_
                  have x1 := hA.pick 41 210 (.bool false) rfl rfl ⟨⟨41, .data⟩, by simp, rfl, rfl⟩ (fun u h => h)
                  exact wp_value (w' := w') (ex_move rfl) ⟨_, rfl, x1, Ext.refl _⟩
                · exact duty_no rfl (p := _) rfl (d := 211) rfl (show 211 < 230 by decide) ⟨⟨42, .guard⟩, by simp, rfl, rfl⟩ (fun v w h => h) fun w => rfl
                · refine duty_yes rfl (p := _) rfl (d := 209) rfl (show 209 < 230 by decide) ⟨⟨40, .guard⟩, by simp, rfl, rfl⟩ (fun v w h => h) fun a w' hE hF hA => ?_
                  have x1 := hA.pick 42 211 (.bool false) rfl rfl ⟨⟨42, .data⟩, by simp, rfl, rfl⟩ (fun u h => h)
                  exact wp_value (w' := w') (ex_pick rfl x1) ⟨_, rfl, rfl, Ext.refl _⟩
                · refine duty_yes rfl (p := _) rfl (d := 209) rfl (show 209 < 230 by decide) ⟨⟨40, .guard⟩, by simp, rfl, rfl⟩ (fun v w h => h) fun a w' hE hF hA => ?_
                  have x1 := hA.pick 44 213 (.bool false) rfl rfl ⟨⟨44, .data⟩, by simp, rfl, rfl⟩ (fun u h => h)
                  exact wp_value (w' := w') (ex_move rfl) ⟨_, rfl, x1, Ext.refl _⟩
                · exact duty_no rfl (p := _) rfl (d := 214) rfl (show 214 < 230 by decide) ⟨⟨45, .guard⟩, by simp, rfl, rfl⟩ (fun v w h => h) fun w => rfl
                · exact duty_no rfl (p := _) rfl (d := 214) rfl (show 214 < 230 by decide) ⟨⟨45, .guard⟩, by simp, rfl, rfl⟩ (fun v w h => h) fun w => rfl
                · exact duty_no rfl (p := _) rfl (d := 214) rfl (show 214 < 230 by decide) ⟨⟨45, .guard⟩, by simp, rfl, rfl⟩ (fun v w h => h) fun w => rfl
                · refine duty_yes rfl (p := _) rfl (d := 209) rfl (show 209 < 230 by decide) ⟨⟨40, .guard⟩, by simp, rfl, rfl⟩ (fun v w h => h) fun a w' hE hF hA => ?_
                  have x1 := hA.pick 45 214 (.bool false) rfl rfl ⟨⟨45, .data⟩, by simp, rfl, rfl⟩ (fun u h => h)
                  exact wp_value (w' := w') (ex_pick rfl x1) ⟨_, rfl, rfl, Ext.refl _⟩
                · refine duty_free rfl fun a w' hE hF hA => ?_
                  have x1 := hA.pick 40 209 (.bool false) rfl rfl ⟨⟨40, .data⟩, by simp, rfl, rfl⟩ (fun u h => h)
                  have x2 := hA.pick 49 218 (.bool false) rfl rfl ⟨⟨49, .data⟩, by simp, rfl, rfl⟩ (fun u h => h)
                  exact wp_value (w' := w') (ex_pick rfl x1) ⟨_, rfl, x2, Ext.refl _⟩
                · refine duty_free rfl fun a w' hE hF hA => ?_
                  have x1 := hA.pick 50 219 (.bool false) rfl rfl ⟨⟨50, .data⟩, by simp, rfl, rfl⟩ (fun u h => h)
                  exact wp_value (w' := w') (ex_move rfl) ⟨_, rfl, x1, Ext.refl _⟩
                · refine duty_yes rfl (p := _) rfl (d := 220) rfl (show 220 < 230 by decide) ⟨⟨51, .guard⟩, by simp, rfl, rfl⟩ (fun v w h => h) fun a w' hE hF hA => ?_
                  have x1 := hF.slot 13 _ (by decide) rfl
                  exact wp_value (w' := w') (ex_move rfl) ⟨_, rfl, x1, Ext.refl _⟩
                · refine duty_yes rfl (p := _) rfl (d := 220) rfl (show 220 < 230 by decide) ⟨⟨51, .guard⟩, by simp, rfl, rfl⟩ (fun v w h => h) fun a w' hE hF hA => ?_
                  have x1 := hF.slot 11 _ (by decide) rfl
                  exact wp_value (w' := w') (ex_move rfl) ⟨_, rfl, x1, Ext.refl _⟩
                · refine duty_yes rfl (p := _) rfl (d := 220) rfl (show 220 < 230 by decide) ⟨⟨51, .guard⟩, by simp, rfl, rfl⟩ (fun v w h => h) fun a w' hE hF hA => ?_
                  have x1 := hF.slot 21 _ (by decide) rfl
                  exact wp_value (w' := w') (ex_move rfl) ⟨_, rfl, x1, Ext.refl _⟩
                · refine duty_yes rfl (p := _) rfl (d := 220) rfl (show 220 < 230 by decide) ⟨⟨51, .guard⟩, by simp, rfl, rfl⟩ (fun v w h => h) fun a w' hE hF hA => ?_
                  have x1 := hA.pick 53 222 (.slice (some ⟨b1, o1, none⟩) dl c1) rfl rfl ⟨⟨53, .data⟩, by simp, rfl, rfl⟩ (fun u h => h)
                  have x2 := hA.pick 54 223 (.int .i64 k) rfl rfl ⟨⟨54, .data⟩, by simp, rfl, rfl⟩ (fun u h => h)
                  exact wp_value (w' := w') (v := .pointer (some ⟨b1, o1 + k * 2, none⟩)) (by simp only [execOp, x1, x2]; simp [go_sem, hk0, hk1]) ⟨_, rfl, rfl, Ext.refl _⟩
                · refine duty_yes rfl (p := _) rfl (d := 220) rfl (show 220 < 230 by decide) ⟨⟨51, .guard⟩, by simp, rfl, rfl⟩ (fun v w h => h) fun a w' hE hF hA => ?_
                  have x1 := hA.pick 55 224 (.pointer (some ⟨b1, o1 + k * 2, none⟩)) rfl rfl ⟨⟨55, .data⟩, by simp, rfl, rfl⟩ (fun u h => h)
                  exact wp_value (w' := w') (v := .pointer (some ⟨b1, o1 + k * 2, none⟩)) (by simp only [execOp, x1]; simp [go_sem]) ⟨_, rfl, rfl, Ext.refl _⟩
                · refine duty_yes rfl (p := _) rfl (d := 220) rfl (show 220 < 230 by decide) ⟨⟨51, .guard⟩, by simp, rfl, rfl⟩ (fun v w h => h) fun a w' hE hF hA => ?_
                  have x1 := hA.pick 56 225 (.pointer (some ⟨b1, o1 + k * 2, none⟩)) rfl rfl ⟨⟨56, .data⟩, by simp, rfl, rfl⟩ (fun u h => h)
                  exact wp_value (ex_cell rfl _ _ x1 ((hE.cell (World.block_lt_of_cell? _ _ p1)).trans p1) rfl Tryz.underlying9) ⟨_, rfl, rfl, Ext.refl _⟩
                · refine duty_yes rfl (p := _) rfl (d := 220) rfl (show 220 < 230 by decide) ⟨⟨51, .guard⟩, by simp, rfl, rfl⟩ (fun v w h => h) fun a w' hE hF hA => ?_
                  have x1 := hA.pick 52 221 (.string pp) rfl rfl ⟨⟨52, .data⟩, by simp, rfl, rfl⟩ (fun u h => h)
                  have x2 := hA.pick 57 226 (.string q) rfl rfl ⟨⟨57, .data⟩, by simp, rfl, rfl⟩ (fun u h => h)
                  refine wp_enter (ex_call rfl (enters_f Tryz.func56 (by kernel_rfl) rfl)) (by simp only [List.map_toArray, List.map_cons, List.map_nil, x1, x2]; exact CU.out _) ?_
                  rintro e w4 ⟨rfl, hb⟩
                  exact ⟨_, rfl, _, rfl, rfl, hb⟩
                · refine duty_yes rfl (p := _) rfl (d := 220) rfl (show 220 < 230 by decide) ⟨⟨51, .guard⟩, by simp, rfl, rfl⟩ (fun v w h => h) fun a w' hE hF hA => ?_
                  have x1 := hA.pick 58 227 (.bool true) rfl rfl ⟨⟨58, .data⟩, by simp, rfl, rfl⟩ (fun u h => h)
                  exact wp_value (w' := w') (v := .bool false) (by simp only [execOp, x1]; simp [go_sem]) ⟨_, rfl, rfl, Ext.refl _⟩
                · refine duty_free rfl fun a w' hE hF hA => ?_
                  have x1 := hA.pick 51 220 (.bool false) rfl rfl ⟨⟨51, .data⟩, by simp, rfl, rfl⟩ (fun u h => h)
                  have x2 := hA.pick 59 228 (.bool false) rfl rfl ⟨⟨59, .data⟩, by simp, rfl, rfl⟩ (fun u h => h)
                  exact wp_value (w' := w') (ex_pick rfl x1) ⟨_, rfl, x2, Ext.refl _⟩
              case stay => trivial
              case rest =>
                intro W12 hE12
                simp only [forS]
                have HE12 := Lib.hid (HEX.out.trans hE12)
                clear hE12 p1 p2 r1 r2 hbn hby CU
                rw [filled_tail _ _ _ _ 169 rfl rfl rfl]
                simp only [List.take_succ_cons, List.take_zero, List.cons_append, List.nil_append]
                simp only [Exit.inBlock, Exit.then, Act.put]
                first | (rename_i hK; refine hK _ _ ?_; clear hK) | (rename_i hK _; refine hK _ _ ?_; clear hK) | (rename_i hK _ _; refine hK _ _ ?_; clear hK) | (rename_i hK _ _ _; refine hK _ _ ?_; clear hK)
                go_wp2
                go_roundw
                case rel => exact ⟨k + 1, by omega, by go_num, HE12.out⟩
                case measure => simp [intOf]; omega
            · have r2 : wr.cell? ⟨b2, o2 + k * 2 + 1, none⟩ = some (.int .i64 3) := r2
              have C1 := Lib.hid (CG1.out wr HE.out)
              clear CG1
              go_wp2_with fail
              refine C1.out.mono ?_
              rintro e W10 ⟨v3, rfl, hv3, hE10⟩
              rw [hgA] at hv3 ⊢
              simp only [Option.getD_some, Option.getD_none] at hv3
              simp only [Option.isSome_some, Option.isSome_none]
              obtain ⟨da, dc, aa, ac, X10, e0, hset3, hbx3, hEX3, hD3, hA3⟩ := box_node hv3 fun b hb => hb.2
              subst e0
              have hE10 : Ext wr W10 := hE10
              have hEX := hE10.trans hEX3
              have hEV := HE.out.trans hEX
              have p1 : X10.cell? ⟨b1, o1 + k * 2, none⟩ = some (.string q) := (hEX.cell (World.block_lt_of_cell? _ _ p1)).trans p1
              have p2 : X10.cell? ⟨b2, o2 + k * 2, none⟩ = some (.string q) := (hEX.cell (World.block_lt_of_cell? _ _ p2)).trans p2
              have r1 : X10.cell? ⟨b1, o1 + k * 2 + 1, none⟩ = some (.int .i64 3) := (hEX.cell (World.block_lt_of_cell? _ _ r1)).trans r1
              have r2 : X10.cell? ⟨b2, o2 + k * 2 + 1, none⟩ = some (.int .i64 3) := (hEX.cell (World.block_lt_of_cell? _ _ r2)).trans r2
              have C2 := Lib.hid (CG2.out X10 hEV)
              have HSET1 := Lib.hid hset3
              have HNEW1 := Lib.hid (heap_alloc_new W10 (.cells zeroNd 44))
              have HBX := Lib.hid hbx3
              have HEV := Lib.hid hEV
              have HD3 := Lib.hid hD3
              have HA3 := Lib.hid hA3
              unfold ndC at HSET1 ⊢
              unfold zeroNd at HSET1 HNEW1
              clear hset3 hbx3 hEX3 hE10 hEX hEV hv3 C1 CG2 hD3 hA3 HE
              go_wp2_with (refine wpList_store_row rfl 44 (.tmp 23) (.tmp 157) rfl W10.heap.size _ rfl rfl 44 _ HNEW1.out sizeNd rfl (cells_node _ da aa _ _ dc ac) ?_; rw [HSET1.out])
              refine C2.out.mono ?_
              rintro e W11 ⟨v4, rfl, hv4, hE11⟩
              rw [hgB] at hv4 ⊢
              simp only [Option.getD_some, Option.getD_none] at hv4
              simp only [Option.isSome_some, Option.isSome_none]
              obtain ⟨db, eb, ab, fb, X11, e0, hset4, hbx4, hEX4, hD4, hA4⟩ := box_node hv4 fun b hb => hb.2
              subst e0
              have hE11 : Ext X10 W11 := hE11
              have hEX := hE11.trans hEX4
              have p1 : X11.cell? ⟨b1, o1 + k * 2, none⟩ = some (.string q) := (hEX.cell (World.block_lt_of_cell? _ _ p1)).trans p1
              have p2 : X11.cell? ⟨b2, o2 + k * 2, none⟩ = some (.string q) := (hEX.cell (World.block_lt_of_cell? _ _ p2)).trans p2
              have r1 : X11.cell? ⟨b1, o1 + k * 2 + 1, none⟩ = some (.int .i64 3) := (hEX.cell (World.block_lt_of_cell? _ _ r1)).trans r1
              have r2 : X11.cell? ⟨b2, o2 + k * 2 + 1, none⟩ = some (.int .i64 3) := (hEX.cell (World.block_lt_of_cell? _ _ r2)).trans r2
              have HSET2 := Lib.hid hset4
              have HNEW2 := Lib.hid (heap_alloc_new W11 (.cells zeroNd 44))
              have HBN := Lib.hid ((hEX.block _ (Array.getElem?_eq_some_iff.1 HBX.out).1).trans HBX.out)
              have HBY := Lib.hid hbx4
              have HEX := Lib.hid (HEV.out.trans hEX)
              have hfn : Fit n := (right_fit (HA.out.at hgA).2).1
              have hfy : Fit y := (right_fit (HB.out.at hgB).2).1
              have CS := Lib.hid (show ∀ W, Ext X11 W → Calls Tryz.prog 55 #[.agg (ndC n (.slice da n.data.length dc) (.slice aa n.acl.length ac)), .agg (ndC y (.slice db y.data.length eb) (.slice ab y.acl.length fb))] W fun e w' => e = .returned (.bool false) ∧ Ext W w' from fun W hE => by
                have := rsame_any n y da aa db ab dc ac eb fb W hfn hfy (HD3.out.ext (hEX.trans hE)) (HA3.out.ext (hEX.trans hE)) (hD4.ext hE) (hA4.ext hE)
                rw [hs] at this
                exact this)
              clear hfn hfy hs
              unfold ndC at HSET2 ⊢
              unfold zeroNd at HSET2 HNEW2
              clear hset4 hbx4 hEX4 hE11 hEX hv4 C2 hD4 hA4 HD3 HA3 HBX HEV hgA hgB
              have hbn := HBN.out
              have hby := HBY.out
              go_wp2_with (first | (refine wpList_store_row rfl 44 (.tmp 25) (.tmp 167) rfl W11.heap.size _ rfl rfl 44 _ HNEW2.out sizeNd rfl (cells_node _ db ab _ _ eb fb) ?_; rw [HSET2.out]))
              refine wp_region_P (by kernel_rfl) (region_sp 230 [.val (.slice (some ⟨b2, o2, none⟩) dl c2), .val (.int .i64 k), .val (.pointer (some ⟨b2, o2 + k * 2, none⟩)), .val (.pointer (some ⟨b2, o2 + k * 2, none⟩)), .val (.string q), .val (.slice (some ⟨b1, o1, none⟩) dl c1), .val (.int .i64 k), .val (.pointer (some ⟨b1, o1 + k * 2, none⟩)), .val (.pointer (some ⟨b1, o1 + k * 2, none⟩)), .val (.string q), .val (.bool false), .val (.bool false), .val (.slice (some ⟨b2, o2, none⟩) dl c2), .val (.int .i64 k), .val (.pointer (some ⟨b2, o2 + k * 2, none⟩)), .val (.pointer (some ⟨b2, o2 + k * 2 + 1, none⟩)), .val (.int .i64 3), .val (.int .i64 3), .val (.bool false), .val (.bool false), .val (.bool false), .val (.bool true), .val (.slice (some ⟨b1, o1, none⟩) dl c1), .val (.int .i64 k), .val (.pointer (some ⟨b1, o1 + k * 2, none⟩)), .val (.pointer (some ⟨b1, o1 + k * 2 + 1, none⟩)), .val (.int .i64 3), .val (.bool true), .val (.bool false), .val (.bool false), .val (.bool false), .val (.bool true), .val (.slice (some ⟨b1, o1, none⟩) dl c1), .val (.int .i64 k), .val (.pointer (some ⟨b1, o1 + k * 2, none⟩)), .val (.pointer (some ⟨b1, o1 + k * 2 + 1, none⟩)), .val (.int .i64 3), .val (.bool true), .val (.bool false), .val (.bool false), .val (.bool false), .val (.bool true), .val (.bool true), .val (.bool true), .val (.bool true), .val (.bool true), .val (.agg (ndC n (.slice da n.data.length dc) (.slice aa n.acl.length ac))), .val (.agg (ndC y (.slice db y.data.length eb) (.slice ab y.acl.length fb))), .val (.bool false), .val (.bool false), .val (.bool false), .val (.bool false), .val (.string pp), .val (.slice (some ⟨b1, o1, none⟩) dl c1), .val (.int .i64 k), .val (.pointer (some ⟨b1, o1 + k * 2, none⟩)), .val (.pointer (some ⟨b1, o1 + k * 2, none⟩)), .val (.string q), .val (.bool true), .val (.bool false), .val (.bool false)] ?stay rfl (by decide) rfl ?duties ?rest)
              case duties =>
                refine ⟨?_, ?_, ?_, ?_, ?_, ?_, ?_, ?_, ?_, ?_, ?_, ?_, ?_, ?_, ?_, ?_, ?_, ?_, ?_, ?_, ?_, ?_, ?_, ?_, ?_, ?_, ?_, ?_, ?_, ?_, ?_, ?_, ?_, ?_, ?_, ?_, ?_, ?_, ?_, ?_, ?_, ?_, ?_, ?_, ?_, ?_, ?_, ?_, ?_, ?_, ?_, ?_, ?_, ?_, ?_, ?_, ?_, ?_, ?_, ?_, ?_, trivial⟩
                · refine duty_free rfl fun a w' hE hF hA => ?_
                  have x1 := hF.slot 12 _ (by decide) rfl
                  exact wp_value (w' := w') (ex_move rfl) ⟨_, rfl, x1, Ext.refl _⟩
                · refine duty_free rfl fun a w' hE hF hA => ?_
                  have x1 := hF.slot 21 _ (by decide) rfl
                  exact wp_value (w' := w') (ex_move rfl) ⟨_, rfl, x1, Ext.refl _⟩
                · refine duty_free rfl fun a w' hE hF hA => ?_
                  have x1 := hA.pick 0 169 (.slice (some ⟨b2, o2, none⟩) dl c2) rfl rfl ⟨⟨0, .data⟩, by simp, rfl, rfl⟩ (fun u h => h)
                  have x2 := hA.pick 1 170 (.int .i64 k) rfl rfl ⟨⟨1, .data⟩, by simp, rfl, rfl⟩ (fun u h => h)
                  exact wp_value (w' := w') (v := .pointer (some ⟨b2, o2 + k * 2, none⟩)) (by simp only [execOp, x1, x2]; simp [go_sem, hk0, hk1]) ⟨_, rfl, rfl, Ext.refl _⟩
                · refine duty_free rfl fun a w' hE hF hA => ?_
                  have x1 := hA.pick 2 171 (.pointer (some ⟨b2, o2 + k * 2, none⟩)) rfl rfl ⟨⟨2, .data⟩, by simp, rfl, rfl⟩ (fun u h => h)
                  exact wp_value (w' := w') (v := .pointer (some ⟨b2, o2 + k * 2, none⟩)) (by simp only [execOp, x1]; simp [go_sem]) ⟨_, rfl, rfl, Ext.refl _⟩
                · refine duty_free rfl fun a w' hE hF hA => ?_
                  have x1 := hA.pick 3 172 (.pointer (some ⟨b2, o2 + k * 2, none⟩)) rfl rfl ⟨⟨3, .data⟩, by simp, rfl, rfl⟩ (fun u h => h)
                  exact wp_value (ex_cell rfl _ _ x1 ((hE.cell (World.block_lt_of_cell? _ _ p2)).trans p2) rfl Tryz.underlying9) ⟨_, rfl, rfl, Ext.refl _⟩
                · refine duty_free rfl fun a w' hE hF hA => ?_
                  have x1 := hF.slot 11 _ (by decide) rfl
                  exact wp_value (w' := w') (ex_move rfl) ⟨_, rfl, x1, Ext.refl _⟩
                · refine duty_free rfl fun a w' hE hF hA => ?_
                  have x1 := hF.slot 21 _ (by decide) rfl
                  exact wp_value (w' := w') (ex_move rfl) ⟨_, rfl, x1, Ext.refl _⟩
                · refine duty_free rfl fun a w' hE hF hA => ?_
                  have x1 := hA.pick 5 174 (.slice (some ⟨b1, o1, none⟩) dl c1) rfl rfl ⟨⟨5, .data⟩, by simp, rfl, rfl⟩ (fun u h => h)
                  have x2 := hA.pick 6 175 (.int .i64 k) rfl rfl ⟨⟨6, .data⟩, by simp, rfl, rfl⟩ (fun u h => h)
                  exact wp_value (w' := w') (v := .pointer (some ⟨b1, o1 + k * 2, none⟩)) (by simp only [execOp, x1, x2]; simp [go_sem, hk0, hk1]) ⟨_, rfl, rfl, Ext.refl _⟩
                · refine duty_free rfl fun a w' hE hF hA => ?_
                  have x1 := hA.pick 7 176 (.pointer (some ⟨b1, o1 + k * 2, none⟩)) rfl rfl ⟨⟨7, .data⟩, by simp, rfl, rfl⟩ (fun u h => h)
                  exact wp_value (w' := w') (v := .pointer (some ⟨b1, o1 + k * 2, none⟩)) (by simp only [execOp, x1]; simp [go_sem]) ⟨_, rfl, rfl, Ext.refl _⟩
                · refine duty_free rfl fun a w' hE hF hA => ?_
                  have x1 := hA.pick 8 177 (.pointer (some ⟨b1, o1 + k * 2, none⟩)) rfl rfl ⟨⟨8, .data⟩, by simp, rfl, rfl⟩ (fun u h => h)
                  exact wp_value (ex_cell rfl _ _ x1 ((hE.cell (World.block_lt_of_cell? _ _ p1)).trans p1) rfl Tryz.underlying9) ⟨_, rfl, rfl, Ext.refl _⟩
                · refine duty_free rfl fun a w' hE hF hA => ?_
                  have x1 := hA.pick 4 173 (.string q) rfl rfl ⟨⟨4, .data⟩, by simp, rfl, rfl⟩ (fun u h => h)
                  have x2 := hA.pick 9 178 (.string q) rfl rfl ⟨⟨9, .data⟩, by simp, rfl, rfl⟩ (fun u h => h)
                  exact wp_value (w' := w') (v := .bool false) (by simp only [execOp, x1, x2]; simp [go_sem]) ⟨_, rfl, rfl, Ext.refl _⟩
                · refine duty_free rfl fun a w' hE hF hA => ?_
                  have x1 := hA.pick 10 179 (.bool false) rfl rfl ⟨⟨10, .data⟩, by simp, rfl, rfl⟩ (fun u h => h)
                  exact wp_value (w' := w') (ex_move rfl) ⟨_, rfl, x1, Ext.refl _⟩
                · refine duty_yes rfl (p := _) rfl (d := 180) rfl (show 180 < 230 by decide) ⟨⟨11, .guard⟩, by simp, rfl, rfl⟩ (fun v w h => h) fun a w' hE hF hA => ?_
                  have x1 := hF.slot 12 _ (by decide) rfl
                  exact wp_value (w' := w') (ex_move rfl) ⟨_, rfl, x1, Ext.refl _⟩
                · refine duty_yes rfl (p := _) rfl (d := 180) rfl (show 180 < 230 by decide) ⟨⟨11, .guard⟩, by simp, rfl, rfl⟩ (fun v w h => h) fun a w' hE hF hA => ?_
                  have x1 := hF.slot 21 _ (by decide) rfl
                  exact wp_value (w' := w') (ex_move rfl) ⟨_, rfl, x1, Ext.refl _⟩
                · refine duty_yes rfl (p := _) rfl (d := 180) rfl (show 180 < 230 by decide) ⟨⟨11, .guard⟩, by simp, rfl, rfl⟩ (fun v w h => h) fun a w' hE hF hA => ?_
                  have x1 := hA.pick 12 181 (.slice (some ⟨b2, o2, none⟩) dl c2) rfl rfl ⟨⟨12, .data⟩, by simp, rfl, rfl⟩ (fun u h => h)
                  have x2 := hA.pick 13 182 (.int .i64 k) rfl rfl ⟨⟨13, .data⟩, by simp, rfl, rfl⟩ (fun u h => h)
                  exact wp_value (w' := w') (v := .pointer (some ⟨b2, o2 + k * 2, none⟩)) (by simp only [execOp, x1, x2]; simp [go_sem, hk0, hk1]) ⟨_, rfl, rfl, Ext.refl _⟩
                · refine duty_yes rfl (p := _) rfl (d := 180) rfl (show 180 < 230 by decide) ⟨⟨11, .guard⟩, by simp, rfl, rfl⟩ (fun v w h => h) fun a w' hE hF hA => ?_
                  have x1 := hA.pick 14 183 (.pointer (some ⟨b2, o2 + k * 2, none⟩)) rfl rfl ⟨⟨14, .data⟩, by simp, rfl, rfl⟩ (fun u h => h)
                  exact wp_value (w' := w') (v := .pointer (some ⟨b2, o2 + k * 2 + 1, none⟩)) (by simp only [execOp, x1]; simp [go_sem]) ⟨_, rfl, rfl, Ext.refl _⟩
                · refine duty_yes rfl (p := _) rfl (d := 180) rfl (show 180 < 230 by decide) ⟨⟨11, .guard⟩, by simp, rfl, rfl⟩ (fun v w h => h) fun a w' hE hF hA => ?_
                  have x1 := hA.pick 15 184 (.pointer (some ⟨b2, o2 + k * 2 + 1, none⟩)) rfl rfl ⟨⟨15, .data⟩, by simp, rfl, rfl⟩ (fun u h => h)
                  exact wp_value (ex_cell rfl _ _ x1 ((hE.cell (World.block_lt_of_cell? _ _ r2)).trans r2) rfl Tryz.underlying3) ⟨_, rfl, rfl, Ext.refl _⟩
                · refine duty_yes rfl (p := _) rfl (d := 180) rfl (show 180 < 230 by decide) ⟨⟨11, .guard⟩, by simp, rfl, rfl⟩ (fun v w h => h) fun a w' hE hF hA => ?_
                  have x1 := hF.slot 22 _ (by decide) rfl
                  exact wp_value (w' := w') (ex_move rfl) ⟨_, rfl, x1, Ext.refl _⟩
                · refine duty_yes rfl (p := _) rfl (d := 180) rfl (show 180 < 230 by decide) ⟨⟨11, .guard⟩, by simp, rfl, rfl⟩ (fun v w h => h) fun a w' hE hF hA => ?_
                  have x1 := hA.pick 16 185 (.int .i64 3) rfl rfl ⟨⟨16, .data⟩, by simp, rfl, rfl⟩ (fun u h => h)
                  have x2 := hA.pick 17 186 (.int .i64 3) rfl rfl ⟨⟨17, .data⟩, by simp, rfl, rfl⟩ (fun u h => h)
                  exact wp_value (w' := w') (v := .bool false) (by simp only [execOp, x1, x2]; simp [go_sem]) ⟨_, rfl, rfl, Ext.refl _⟩
                · refine duty_free rfl fun a w' hE hF hA => ?_
                  have x1 := hA.pick 11 180 (.bool false) rfl rfl ⟨⟨11, .data⟩, by simp, rfl, rfl⟩ (fun u h => h)
                  have x2 := hA.pick 18 187 (.bool false) rfl rfl ⟨⟨18, .data⟩, by simp, rfl, rfl⟩ (fun u h => h)
                  exact wp_value (w' := w') (ex_pick rfl x1) ⟨_, rfl, x2, Ext.refl _⟩
                · refine duty_free rfl fun a w' hE hF hA => ?_
                  have x1 := hA.pick 19 188 (.bool false) rfl rfl ⟨⟨19, .data⟩, by simp, rfl, rfl⟩ (fun u h => h)
                  exact wp_value (w' := w') (ex_move rfl) ⟨_, rfl, x1, Ext.refl _⟩
                · refine duty_yes rfl (p := _) rfl (d := 189) rfl (show 189 < 230 by decide) ⟨⟨20, .guard⟩, by simp, rfl, rfl⟩ (fun v w h => h) fun a w' hE hF hA => ?_
                  have x1 := hF.slot 24 _ (by decide) rfl
                  exact wp_value (w' := w') (ex_move rfl) ⟨_, rfl, x1, Ext.refl _⟩
                · refine duty_yes rfl (p := _) rfl (d := 189) rfl (show 189 < 230 by decide) ⟨⟨20, .guard⟩, by simp, rfl, rfl⟩ (fun v w h => h) fun a w' hE hF hA => ?_
                  have x1 := hF.slot 11 _ (by decide) rfl
                  exact wp_value (w' := w') (ex_move rfl) ⟨_, rfl, x1, Ext.refl _⟩
                · refine duty_yes rfl (p := _) rfl (d := 189) rfl (show 189 < 230 by decide) ⟨⟨20, .guard⟩, by simp, rfl, rfl⟩ (fun v w h => h) fun a w' hE hF hA => ?_
                  have x1 := hF.slot 21 _ (by decide) rfl
                  exact wp_value (w' := w') (ex_move rfl) ⟨_, rfl, x1, Ext.refl _⟩
                · refine duty_yes rfl (p := _) rfl (d := 189) rfl (show 189 < 230 by decide) ⟨⟨20, .guard⟩, by simp, rfl, rfl⟩ (fun v w h => h) fun a w' hE hF hA => ?_
                  have x1 := hA.pick 22 191 (.slice (some ⟨b1, o1, none⟩) dl c1) rfl rfl ⟨⟨22, .data⟩, by simp, rfl, rfl⟩ (fun u h => h)
                  have x2 := hA.pick 23 192 (.int .i64 k) rfl rfl ⟨⟨23, .data⟩, by simp, rfl, rfl⟩ (fun u h => h)
                  exact wp_value (w' := w') (v := .pointer (some ⟨b1, o1 + k * 2, none⟩)) (by simp only [execOp, x1, x2]; simp [go_sem, hk0, hk1]) ⟨_, rfl, rfl, Ext.refl _⟩
                · refine duty_yes rfl (p := _) rfl (d := 189) rfl (show 189 < 230 by decide) ⟨⟨20, .guard⟩, by simp, rfl, rfl⟩ (fun v w h => h) fun a w' hE hF hA => ?_
                  have x1 := hA.pick 24 193 (.pointer (some ⟨b1, o1 + k * 2, none⟩)) rfl rfl ⟨⟨24, .data⟩, by simp, rfl, rfl⟩ (fun u h => h)
                  exact wp_value (w' := w') (v := .pointer (some ⟨b1, o1 + k * 2 + 1, none⟩)) (by simp only [execOp, x1]; simp [go_sem]) ⟨_, rfl, rfl, Ext.refl _⟩
                · refine duty_yes rfl (p := _) rfl (d := 189) rfl (show 189 < 230 by decide) ⟨⟨20, .guard⟩, by simp, rfl, rfl⟩ (fun v w h => h) fun a w' hE hF hA => ?_
                  have x1 := hA.pick 25 194 (.pointer (some ⟨b1, o1 + k * 2 + 1, none⟩)) rfl rfl ⟨⟨25, .data⟩, by simp, rfl, rfl⟩ (fun u h => h)
                  exact wp_value (ex_cell rfl _ _ x1 ((hE.cell (World.block_lt_of_cell? _ _ r1)).trans r1) rfl Tryz.underlying3) ⟨_, rfl, rfl, Ext.refl _⟩
                · refine duty_yes rfl (p := _) rfl (d := 189) rfl (show 189 < 230 by decide) ⟨⟨20, .guard⟩, by simp, rfl, rfl⟩ (fun v w h => h) fun a w' hE hF hA => ?_
                  have x1 := hA.pick 26 195 (.int .i64 3) rfl rfl ⟨⟨26, .data⟩, by simp, rfl, rfl⟩ (fun u h => h)
                  exact wp_value (w' := w') (v := .bool true) (by simp only [execOp, x1]; simp [go_sem]) ⟨_, rfl, rfl, Ext.refl _⟩
                · refine duty_yes rfl (p := _) rfl (d := 189) rfl (show 189 < 230 by decide) ⟨⟨20, .guard⟩, by simp, rfl, rfl⟩ (fun v w h => h) fun a w' hE hF hA => ?_
                  have x1 := hA.pick 21 190 (.bool true) rfl rfl ⟨⟨21, .data⟩, by simp, rfl, rfl⟩ (fun u h => h)
                  have x2 := hA.pick 27 196 (.bool true) rfl rfl ⟨⟨27, .data⟩, by simp, rfl, rfl⟩ (fun u h => h)
                  exact wp_value (w' := w') (v := .bool false) (by simp only [execOp, x1, x2]; simp [go_sem]) ⟨_, rfl, rfl, Ext.refl _⟩
                · refine duty_free rfl fun a w' hE hF hA => ?_
                  have x1 := hA.pick 20 189 (.bool false) rfl rfl ⟨⟨20, .data⟩, by simp, rfl, rfl⟩ (fun u h => h)
                  have x2 := hA.pick 28 197 (.bool false) rfl rfl ⟨⟨28, .data⟩, by simp, rfl, rfl⟩ (fun u h => h)
                  exact wp_value (w' := w') (ex_pick rfl x1) ⟨_, rfl, x2, Ext.refl _⟩
                · refine duty_free rfl fun a w' hE hF hA => ?_
                  have x1 := hA.pick 29 198 (.bool false) rfl rfl ⟨⟨29, .data⟩, by simp, rfl, rfl⟩ (fun u h => h)
                  exact wp_value (w' := w') (ex_move rfl) ⟨_, rfl, x1, Ext.refl _⟩
                · refine duty_yes rfl (p := _) rfl (d := 199) rfl (show 199 < 230 by decide) ⟨⟨30, .guard⟩, by simp, rfl, rfl⟩ (fun v w h => h) fun a w' hE hF hA => ?_
                  have x1 := hF.slot 26 _ (by decide) rfl
                  exact wp_value (w' := w') (ex_move rfl) ⟨_, rfl, x1, Ext.refl _⟩
                · refine duty_yes rfl (p := _) rfl (d := 199) rfl (show 199 < 230 by decide) ⟨⟨30, .guard⟩, by simp, rfl, rfl⟩ (fun v w h => h) fun a w' hE hF hA => ?_
                  have x1 := hF.slot 11 _ (by decide) rfl
                  exact wp_value (w' := w') (ex_move rfl) ⟨_, rfl, x1, Ext.refl _⟩
                · refine duty_yes rfl (p := _) rfl (d := 199) rfl (show 199 < 230 by decide) ⟨⟨30, .guard⟩, by simp, rfl, rfl⟩ (fun v w h => h) fun a w' hE hF hA => ?_
                  have x1 := hF.slot 21 _ (by decide) rfl
                  exact wp_value (w' := w') (ex_move rfl) ⟨_, rfl, x1, Ext.refl _⟩
                · refine duty_yes rfl (p := _) rfl (d := 199) rfl (show 199 < 230 by decide) ⟨⟨30, .guard⟩, by simp, rfl, rfl⟩ (fun v w h => h) fun a w' hE hF hA => ?_
                  have x1 := hA.pick 32 201 (.slice (some ⟨b1, o1, none⟩) dl c1) rfl rfl ⟨⟨32, .data⟩, by simp, rfl, rfl⟩ (fun u h => h)
                  have x2 := hA.pick 33 202 (.int .i64 k) rfl rfl ⟨⟨33, .data⟩, by simp, rfl, rfl⟩ (fun u h => h)
                  exact wp_value (w' := w') (v := .pointer (some ⟨b1, o1 + k * 2, none⟩)) (by simp only [execOp, x1, x2]; simp [go_sem, hk0, hk1]) ⟨_, rfl, rfl, Ext.refl _⟩
                · refine duty_yes rfl (p := _) rfl (d := 199) rfl (show 199 < 230 by decide) ⟨⟨30, .guard⟩, by simp, rfl, rfl⟩ (fun v w h => h) fun a w' hE hF hA => ?_
                  have x1 := hA.pick 34 203 (.pointer (some ⟨b1, o1 + k * 2, none⟩)) rfl rfl ⟨⟨34, .data⟩, by simp, rfl, rfl⟩ (fun u h => h)
                  exact wp_value (w' := w') (v := .pointer (some ⟨b1, o1 + k * 2 + 1, none⟩)) (by simp only [execOp, x1]; simp [go_sem]) ⟨_, rfl, rfl, Ext.refl _⟩
                · refine duty_yes rfl (p := _) rfl (d := 199) rfl (show 199 < 230 by decide) ⟨⟨30, .guard⟩, by simp, rfl, rfl⟩ (fun v w h => h) fun a w' hE hF hA => ?_
                  have x1 := hA.pick 35 204 (.pointer (some ⟨b1, o1 + k * 2 + 1, none⟩)) rfl rfl ⟨⟨35, .data⟩, by simp, rfl, rfl⟩ (fun u h => h)
                  exact wp_value (ex_cell rfl _ _ x1 ((hE.cell (World.block_lt_of_cell? _ _ r1)).trans r1) rfl Tryz.underlying3) ⟨_, rfl, rfl, Ext.refl _⟩
                · refine duty_yes rfl (p := _) rfl (d := 199) rfl (show 199 < 230 by decide) ⟨⟨30, .guard⟩, by simp, rfl, rfl⟩ (fun v w h => h) fun a w' hE hF hA => ?_
                  have x1 := hA.pick 36 205 (.int .i64 3) rfl rfl ⟨⟨36, .data⟩, by simp, rfl, rfl⟩ (fun u h => h)
                  exact wp_value (w' := w') (v := .bool true) (by simp only [execOp, x1]; simp [go_sem]) ⟨_, rfl, rfl, Ext.refl _⟩
                · refine duty_yes rfl (p := _) rfl (d := 199) rfl (show 199 < 230 by decide) ⟨⟨30, .guard⟩, by simp, rfl, rfl⟩ (fun v w h => h) fun a w' hE hF hA => ?_
                  have x1 := hA.pick 31 200 (.bool true) rfl rfl ⟨⟨31, .data⟩, by simp, rfl, rfl⟩ (fun u h => h)
                  have x2 := hA.pick 37 206 (.bool true) rfl rfl ⟨⟨37, .data⟩, by simp, rfl, rfl⟩ (fun u h => h)
                  exact wp_value (w' := w') (v := .bool false) (by simp only [execOp, x1, x2]; simp [go_sem]) ⟨_, rfl, rfl, Ext.refl _⟩
                · refine duty_free rfl fun a w' hE hF hA => ?_
                  have x1 := hA.pick 30 199 (.bool false) rfl rfl ⟨⟨30, .data⟩, by simp, rfl, rfl⟩ (fun u h => h)
                  have x2 := hA.pick 38 207 (.bool false) rfl rfl ⟨⟨38, .data⟩, by simp, rfl, rfl⟩ (fun u h => h)
                  exact wp_value (w' := w') (ex_pick rfl x1) ⟨_, rfl, x2, Ext.refl _⟩
                · refine duty_free rfl fun a w' hE hF hA => ?_
                  have x1 := hA.pick 39 208 (.bool false) rfl rfl ⟨⟨39, .data⟩, by simp, rfl, rfl⟩ (fun u h => h)
                  exact wp_value (w' := w') (ex_move rfl) ⟨_, rfl, x1, Ext.refl _⟩
                · refine duty_yes rfl (p := _) rfl (d := 209) rfl (show 209 < 230 by decide) ⟨⟨40, .guard⟩, by simp, rfl, rfl⟩ (fun v w h => h) fun a w' hE hF hA => ?_
                  have x1 := hF.slot 24 _ (by decide) rfl
                  exact wp_value (w' := w') (ex_move rfl) ⟨_, rfl, x1, Ext.refl _⟩
                · refine duty_yes rfl (p := _) rfl (d := 209) rfl (show 209 < 230 by decide) ⟨⟨40, .guard⟩, by simp, rfl, rfl⟩ (fun v w h => h) fun a w' hE hF hA => ?_
                  have x1 := hA.pick 41 210 (.bool true) rfl rfl ⟨⟨41, .data⟩, by simp, rfl, rfl⟩ (fun u h => h)
                  exact wp_value (w' := w') (ex_move rfl) ⟨_, rfl, x1, Ext.refl _⟩
                · refine duty_yes rfl (p := _) rfl (d := 211) rfl (show 211 < 230 by decide) ⟨⟨42, .guard⟩, by simp, rfl, rfl⟩ (fun v w h => h) fun a w' hE hF hA => ?_
                  have x1 := hF.slot 26 _ (by decide) rfl
                  exact wp_value (w' := w') (ex_move rfl) ⟨_, rfl, x1, Ext.refl _⟩
                · refine duty_yes rfl (p := _) rfl (d := 209) rfl (show 209 < 230 by decide) ⟨⟨40, .guard⟩, by simp, rfl, rfl⟩ (fun v w h => h) fun a w' hE hF hA => ?_
                  have x1 := hA.pick 42 211 (.bool true) rfl rfl ⟨⟨42, .data⟩, by simp, rfl, rfl⟩ (fun u h => h)
                  have x2 := hA.pick 43 212 (.bool true) rfl rfl ⟨⟨43, .data⟩, by simp, rfl, rfl⟩ (fun u h => h)
                  exact wp_value (w' := w') (ex_pick rfl x1) ⟨_, rfl, x2, Ext.refl _⟩
                · refine duty_yes rfl (p := _) rfl (d := 209) rfl (show 209 < 230 by decide) ⟨⟨40, .guard⟩, by simp, rfl, rfl⟩ (fun v w h => h) fun a w' hE hF hA => ?_
                  have x1 := hA.pick 44 213 (.bool true) rfl rfl ⟨⟨44, .data⟩, by simp, rfl, rfl⟩ (fun u h => h)
                  exact wp_value (w' := w') (ex_move rfl) ⟨_, rfl, x1, Ext.refl _⟩
                · refine duty_yes rfl (p := _) rfl (d := 214) rfl (show 214 < 230 by decide) ⟨⟨45, .guard⟩, by simp, rfl, rfl⟩ (fun v w h => h) fun a w' hE hF hA => ?_
                  have x1 := hF.slot 23 _ (by decide) rfl
                  exact wp_value (ex_load_row rfl _ x1 44 _ (0, 0) _ ((hE.block _ (Array.getElem?_eq_some_iff.1 hbn).1).trans hbn) Tryz.underlying44 rfl sizeNd) ⟨_, rfl, rfl, Ext.refl _⟩
                · refine duty_yes rfl (p := _) rfl (d := 214) rfl (show 214 < 230 by decide) ⟨⟨45, .guard⟩, by simp, rfl, rfl⟩ (fun v w h => h) fun a w' hE hF hA => ?_
                  have x1 := hF.slot 25 _ (by decide) rfl
                  exact wp_value (ex_load_row rfl _ x1 44 _ (0, 0) _ ((hE.block _ (Array.getElem?_eq_some_iff.1 hby).1).trans hby) Tryz.underlying44 rfl sizeNd) ⟨_, rfl, rfl, Ext.refl _⟩
                · refine duty_yes rfl (p := _) rfl (d := 214) rfl (show 214 < 230 by decide) ⟨⟨45, .guard⟩, by simp, rfl, rfl⟩ (fun v w h => h) fun a w' hE hF hA => ?_
                  have x1 := hA.pick 46 215 (.agg (ndC n (.slice da n.data.length dc) (.slice aa n.acl.length ac))) rfl rfl ⟨⟨46, .data⟩, by simp, rfl, rfl⟩ (fun u h => h)
                  have x2 := hA.pick 47 216 (.agg (ndC y (.slice db y.data.length eb) (.slice ab y.acl.length fb))) rfl rfl ⟨⟨47, .data⟩, by simp, rfl, rfl⟩ (fun u h => h)
                  refine wp_enter (ex_call rfl (enters_f Tryz.func55 (by kernel_rfl) rfl)) (by simp only [List.map_toArray, List.map_cons, List.map_nil, x1, x2]; exact CS.out _ hE) ?_
                  rintro e w4 ⟨rfl, hb⟩
                  exact ⟨_, rfl, _, rfl, rfl, hb⟩
                · refine duty_yes rfl (p := _) rfl (d := 209) rfl (show 209 < 230 by decide) ⟨⟨40, .guard⟩, by simp, rfl, rfl⟩ (fun v w h => h) fun a w' hE hF hA => ?_
                  have x1 := hA.pick 45 214 (.bool true) rfl rfl ⟨⟨45, .data⟩, by simp, rfl, rfl⟩ (fun u h => h)
                  have x2 := hA.pick 48 217 (.bool false) rfl rfl ⟨⟨48, .data⟩, by simp, rfl, rfl⟩ (fun u h => h)
                  exact wp_value (w' := w') (ex_pick rfl x1) ⟨_, rfl, x2, Ext.refl _⟩
                · refine duty_free rfl fun a w' hE hF hA => ?_
                  have x1 := hA.pick 40 209 (.bool false) rfl rfl ⟨⟨40, .data⟩, by simp, rfl, rfl⟩ (fun u h => h)
                  have x2 := hA.pick 49 218 (.bool false) rfl rfl ⟨⟨49, .data⟩, by simp, rfl, rfl⟩ (fun u h => h)
                  exact wp_value (w' := w') (ex_pick rfl x1) ⟨_, rfl, x2, Ext.refl _⟩
                · refine duty_free rfl fun a w' hE hF hA => ?_
                  have x1 := hA.pick 50 219 (.bool false) rfl rfl ⟨⟨50, .data⟩, by simp, rfl, rfl⟩ (fun u h => h)
                  exact wp_value (w' := w') (ex_move rfl) ⟨_, rfl, x1, Ext.refl _⟩
                · refine duty_yes rfl (p := _) rfl (d := 220) rfl (show 220 < 230 by decide) ⟨⟨51, .guard⟩, by simp, rfl, rfl⟩ (fun v w h => h) fun a w' hE hF hA => ?_
                  have x1 := hF.slot 13 _ (by decide) rfl
                  exact wp_value (w' := w') (ex_move rfl) ⟨_, rfl, x1, Ext.refl _⟩
                · refine duty_yes rfl (p := _) rfl (d := 220) rfl (show 220 < 230 by decide) ⟨⟨51, .guard⟩, by simp, rfl, rfl⟩ (fun v w h => h) fun a w' hE hF hA => ?_
                  have x1 := hF.slot 11 _ (by decide) rfl
                  exact wp_value (w' := w') (ex_move rfl) ⟨_, rfl, x1, Ext.refl _⟩
                · refine duty_yes rfl (p := _) rfl (d := 220) rfl (show 220 < 230 by decide) ⟨⟨51, .guard⟩, by simp, rfl, rfl⟩ (fun v w h => h) fun a w' hE hF hA => ?_
                  have x1 := hF.slot 21 _ (by decide) rfl
                  exact wp_value (w' := w') (ex_move rfl) ⟨_, rfl, x1, Ext.refl _⟩
                · refine duty_yes rfl (p := _) rfl (d := 220) rfl (show 220 < 230 by decide) ⟨⟨51, .guard⟩, by simp, rfl, rfl⟩ (fun v w h => h) fun a w' hE hF hA => ?_
                  have x1 := hA.pick 53 222 (.slice (some ⟨b1, o1, none⟩) dl c1) rfl rfl ⟨⟨53, .data⟩, by simp, rfl, rfl⟩ (fun u h => h)
                  have x2 := hA.pick 54 223 (.int .i64 k) rfl rfl ⟨⟨54, .data⟩, by simp, rfl, rfl⟩ (fun u h => h)
                  exact wp_value (w' := w') (v := .pointer (some ⟨b1, o1 + k * 2, none⟩)) (by simp only [execOp, x1, x2]; simp [go_sem, hk0, hk1]) ⟨_, rfl, rfl, Ext.refl _⟩
                · refine duty_yes rfl (p := _) rfl (d := 220) rfl (show 220 < 230 by decide) ⟨⟨51, .guard⟩, by simp, rfl, rfl⟩ (fun v w h => h) fun a w' hE hF hA => ?_
                  have x1 := hA.pick 55 224 (.pointer (some ⟨b1, o1 + k * 2, none⟩)) rfl rfl ⟨⟨55, .data⟩, by simp, rfl, rfl⟩ (fun u h => h)
                  exact wp_value (w' := w') (v := .pointer (some ⟨b1, o1 + k * 2, none⟩)) (by simp only [execOp, x1]; simp [go_sem]) ⟨_, rfl, rfl, Ext.refl _⟩
                · refine duty_yes rfl (p := _) rfl (d := 220) rfl (show 220 < 230 by decide) ⟨⟨51, .guard⟩, by simp, rfl, rfl⟩ (fun v w h => h) fun a w' hE hF hA => ?_
                  have x1 := hA.pick 56 225 (.pointer (some ⟨b1, o1 + k * 2, none⟩)) rfl rfl ⟨⟨56, .data⟩, by simp, rfl, rfl⟩ (fun u h => h)
                  exact wp_value (ex_cell rfl _ _ x1 ((hE.cell (World.block_lt_of_cell? _ _ p1)).trans p1) rfl Tryz.underlying9) ⟨_, rfl, rfl, Ext.refl _⟩
                · refine duty_yes rfl (p := _) rfl (d := 220) rfl (show 220 < 230 by decide) ⟨⟨51, .guard⟩, by simp, rfl, rfl⟩ (fun v w h => h) fun a w' hE hF hA => ?_
                  have x1 := hA.pick 52 221 (.string pp) rfl rfl ⟨⟨52, .data⟩, by simp, rfl, rfl⟩ (fun u h => h)
                  have x2 := hA.pick 57 226 (.string q) rfl rfl ⟨⟨57, .data⟩, by simp, rfl, rfl⟩ (fun u h => h)
                  refine wp_enter (ex_call rfl (enters_f Tryz.func56 (by kernel_rfl) rfl)) (by simp only [List.map_toArray, List.map_cons, List.map_nil, x1, x2]; exact CU.out _) ?_
                  rintro e w4 ⟨rfl, hb⟩
                  exact ⟨_, rfl, _, rfl, rfl, hb⟩
                · refine duty_yes rfl (p := _) rfl (d := 220) rfl (show 220 < 230 by decide) ⟨⟨51, .guard⟩, by simp, rfl, rfl⟩ (fun v w h => h) fun a w' hE hF hA => ?_
                  have x1 := hA.pick 58 227 (.bool true) rfl rfl ⟨⟨58, .data⟩, by simp, rfl, rfl⟩ (fun u h => h)
                  exact wp_value (w' := w') (v := .bool false) (by simp only [execOp, x1]; simp [go_sem]) ⟨_, rfl, rfl, Ext.refl _⟩
                · refine duty_free rfl fun a w' hE hF hA => ?_
                  have x1 := hA.pick 51 220 (.bool false) rfl rfl ⟨⟨51, .data⟩, by simp, rfl, rfl⟩ (fun u h => h)
                  have x2 := hA.pick 59 228 (.bool false) rfl rfl ⟨⟨59, .data⟩, by simp, rfl, rfl⟩ (fun u h => h)
                  exact wp_value (w' := w') (ex_pick rfl x1) ⟨_, rfl, x2, Ext.refl _⟩
              case stay => trivial
              case rest =>
                intro W12 hE12
                simp only [forS]
                have HE12 := Lib.hid (HEX.out.trans hE12)
                clear hE12 p1 p2 r1 r2 hbn hby CS CU
                rw [filled_tail _ _ _ _ 169 rfl rfl rfl]
                simp only [List.take_succ_cons, List.take_zero, List.cons_append, List.nil_append]
                simp only [Exit.inBlock, Exit.then, Act.put]
                first | (rename_i hK; refine hK _ _ ?_; clear hK) | (rename_i hK _; refine hK _ _ ?_; clear hK) | (rename_i hK _ _; refine hK _ _ ?_; clear hK) | (rename_i hK _ _ _; refine hK _ _ ?_; clear hK)
                go_wp2
                go_roundw
                case rel => exact ⟨k + 1, by omega, by go_num, HE12.out⟩
                case measure => simp [intOf]; omega
          · obtain rfl : k = dl := by omega
            have HFIN := Lib.hid (HALL.out.trans HE.out)
            clear HE HD4 HD5
            go_wp2
            go_ret
            exact ⟨rfl, HFIN.out⟩
      · skip
        go_wp2
        go_loopw [21] (fun i wr => ∃ k : Nat, k ≤ dl ∧ i = .int .i64 k ∧ Hid (Ext V1 wr)) (fun i _ => dl - (intOf i).toNat)
        case atStart => exact ⟨0, Nat.zero_le _, rfl, Ext.refl _⟩
        case round =>
          obtain ⟨k, hk, rfl, HE⟩ := hrel
          by_cases hlt2 : k < dl
          · have hlt : k < D.length := by rw [HDL.out]; exact hlt2
            have hDk := List.getElem_mem hlt
            obtain ⟨b1, o1, e1, hb1, hx1, hy1⟩ := HD4.out k D[k] (List.getElem?_eq_getElem hlt)
            obtain ⟨b2, o2, e2, hb2, hx2, hy2⟩ := HD5.out k (D[k].1, backK D[k].2) (by rw [List.getElem?_map, List.getElem?_eq_getElem hlt]; rfl)
            subst e1 e2
            have p1 : wr.cell? ⟨b1, o1 + k * 2, none⟩ = some (.string (pathK D[k])) := (HE.out.cell (p := ⟨b1, o1 + k * 2, none⟩) hb1).trans hx1
            have p2 : wr.cell? ⟨b2, o2 + k * 2, none⟩ = some (.string (pathK D[k])) := (HE.out.cell (p := ⟨b2, o2 + k * 2, none⟩) hb2).trans hx2
            have r1 : wr.cell? ⟨b1, o1 + k * 2 + 1, none⟩ = some (.int .i64 D[k].2) := (HE.out.cell (p := ⟨b1, o1 + k * 2 + 1, none⟩) hb1).trans hy1
            have r2 : wr.cell? ⟨b2, o2 + k * 2 + 1, none⟩ = some (.int .i64 (backK D[k].2)) := (HE.out.cell (p := ⟨b2, o2 + k * 2 + 1, none⟩) hb2).trans hy2
            have hki := HKI.out D[k] hDk
            have hab := HAB.out D[k] hDk
            have hvq := HV.out D[k] hDk
            have hkq : D[k].1 = (pathK D[k]).data.toList := by unfold pathK; simp
            rw [hkq] at hki
            generalize pathK D[k] = q at p1 p2 hki hab hvq
            generalize D[k].2 = kd at r1 r2 hki
            have hq1 := (vpath_facts hvq).2.1
            have hq2 := (vpath_facts hab.1).2.1
            have hk0 : (0 : Int) ≤ k := by omega
            have hk1 : (k : Int) < (dl : Int) := by omega
            have CU := Lib.hid (show ∀ W, Calls Tryz.prog 56 #[.string pp, .string q] W fun e w' => e = .returned (.bool true) ∧ Ext W w' from fun W => by
              have := pund_any q pp W (by omega) (by omega)
              rw [hab.1, hvq, hab.2] at this
              exact this)
            have CG1 := Lib.hid (fun W (hE : Ext V1 W) => tget_any S1 W bt A N1 (HTA.out.ext (HF10.out.trans hE)) q (by unfold maxLen; omega))
            have CG2 := Lib.hid (fun W (hE : Ext V1 W) => tget_any S2 W bu B N2 (HTB.out.ext (HF10.out.trans hE)) q (by unfold maxLen; omega))
            clear hx1 hx2 hy1 hy2 hDk hab hvq hkq hlt
            rcases hki with ⟨rfl, ⟨n, hgA⟩, hgB⟩ | ⟨rfl, hgA, y, hgB⟩ | ⟨rfl, n, y, hgA, hgB, hs⟩
            · have r2 : wr.cell? ⟨b2, o2 + k * 2 + 1, none⟩ = some (.int .i64 2) := r2
              have C1 := Lib.hid (CG1.out wr HE.out)
              clear CG1
              go_wp2_with fail
              refine C1.out.mono ?_
              rintro e W10 ⟨v3, rfl, hv3, hE10⟩
              rw [hgA] at hv3 ⊢
              simp only [Option.getD_some, Option.getD_none] at hv3
              simp only [Option.isSome_some, Option.isSome_none]
              obtain ⟨da, dc, aa, ac, X10, e0, hset3, hbx3, hEX3, hD3, hA3⟩ := box_node hv3 fun b hb => hb.2
              subst e0
              have hE10 : Ext wr W10 := hE10
              have hEX := hE10.trans hEX3
              have hEV := HE.out.trans hEX
              have p1 : X10.cell? ⟨b1, o1 + k * 2, none⟩ = some (.string q) := (hEX.cell (World.block_lt_of_cell? _ _ p1)).trans p1
              have p2 : X10.cell? ⟨b2, o2 + k * 2, none⟩ = some (.string q) := (hEX.cell (World.block_lt_of_cell? _ _ p2)).trans p2
              have r1 : X10.cell? ⟨b1, o1 + k * 2 + 1, none⟩ = some (.int .i64 1) := (hEX.cell (World.block_lt_of_cell? _ _ r1)).trans r1
              have r2 : X10.cell? ⟨b2, o2 + k * 2 + 1, none⟩ = some (.int .i64 2) := (hEX.cell (World.block_lt_of_cell? _ _ r2)).trans r2
              have C2 := Lib.hid (CG2.out X10 hEV)
              have HSET1 := Lib.hid hset3
              have HNEW1 := Lib.hid (heap_alloc_new W10 (.cells zeroNd 44))
              have HBX := Lib.hid hbx3
              have HEV := Lib.hid hEV
              have HD3 := Lib.hid hD3
              have HA3 := Lib.hid hA3
              unfold ndC at HSET1 ⊢
              unfold zeroNd at HSET1 HNEW1
              clear hset3 hbx3 hEX3 hE10 hEX hEV hv3 C1 CG2 hD3 hA3 HE
              go_wp2_with (refine wpList_store_row rfl 44 (.tmp 23) (.tmp 157) rfl W10.heap.size _ rfl rfl 44 _ HNEW1.out sizeNd rfl (cells_node _ da aa _ _ dc ac) ?_; rw [HSET1.out])
              refine C2.out.mono ?_
              rintro e W11 ⟨v4, rfl, hv4, hE11⟩
              rw [hgB] at hv4 ⊢
              simp only [Option.getD_some, Option.getD_none] at hv4
              simp only [Option.isSome_some, Option.isSome_none]
              obtain ⟨db, eb, ab, fb, X11, e0, hset4, hbx4, hEX4, hD4, hA4⟩ := box_node hv4 fun b hb => hb.2
              subst e0
              have hE11 : Ext X10 W11 := hE11
              have hEX := hE11.trans hEX4
              have p1 : X11.cell? ⟨b1, o1 + k * 2, none⟩ = some (.string q) := (hEX.cell (World.block_lt_of_cell? _ _ p1)).trans p1
              have p2 : X11.cell? ⟨b2, o2 + k * 2, none⟩ = some (.string q) := (hEX.cell (World.block_lt_of_cell? _ _ p2)).trans p2
              have r1 : X11.cell? ⟨b1, o1 + k * 2 + 1, none⟩ = some (.int .i64 1) := (hEX.cell (World.block_lt_of_cell? _ _ r1)).trans r1
              have r2 : X11.cell? ⟨b2, o2 + k * 2 + 1, none⟩ = some (.int .i64 2) := (hEX.cell (World.block_lt_of_cell? _ _ r2)).trans r2
              have HSET2 := Lib.hid hset4
              have HNEW2 := Lib.hid (heap_alloc_new W11 (.cells zeroNd 44))
              have HBN := Lib.hid ((hEX.block _ (Array.getElem?_eq_some_iff.1 HBX.out).1).trans HBX.out)
              have HBY := Lib.hid hbx4
              have HEX := Lib.hid (HEV.out.trans hEX)
              unfold ndC at HSET2 ⊢
              unfold zeroNd at HSET2 HNEW2
              clear hset4 hbx4 hEX4 hE11 hEX hv4 C2 hD4 hA4 HD3 HA3 HBX HEV hgA hgB
              have hbn := HBN.out
              have hby := HBY.out
              go_wp2_with (first | (refine wpList_store_row rfl 44 (.tmp 25) (.tmp 167) rfl W11.heap.size _ rfl rfl 44 _ HNEW2.out sizeNd rfl (cells_node _ db ab _ _ eb fb) ?_; rw [HSET2.out]))
              refine wp_region_P (by kernel_rfl) (region_sp 230 [.val (.slice (some ⟨b2, o2, none⟩) dl c2), .val (.int .i64 k), .val (.pointer (some ⟨b2, o2 + k * 2, none⟩)), .val (.pointer (some ⟨b2, o2 + k * 2, none⟩)), .val (.string q), .val (.slice (some ⟨b1, o1, none⟩) dl c1), .val (.int .i64 k), .val (.pointer (some ⟨b1, o1 + k * 2, none⟩)), .val (.pointer (some ⟨b1, o1 + k * 2, none⟩)), .val (.string q), .val (.bool false), .val (.bool false), .val (.slice (some ⟨b2, o2, none⟩) dl c2), .val (.int .i64 k), .val (.pointer (some ⟨b2, o2 + k * 2, none⟩)), .val (.pointer (some ⟨b2, o2 + k * 2 + 1, none⟩)), .val (.int .i64 2), .val (.int .i64 2), .val (.bool false), .val (.bool false), .val (.bool false), .val (.bool true), .val (.slice (some ⟨b1, o1, none⟩) dl c1), .val (.int .i64 k), .val (.pointer (some ⟨b1, o1 + k * 2, none⟩)), .val (.pointer (some ⟨b1, o1 + k * 2 + 1, none⟩)), .val (.int .i64 1), .val (.bool true), .val (.bool false), .val (.bool false), .val (.bool false), .val (.bool false), .val (.slice (some ⟨b1, o1, none⟩) dl c1), .val (.int .i64 k), .val (.pointer (some ⟨b1, o1 + k * 2, none⟩)), .val (.pointer (some ⟨b1, o1 + k * 2 + 1, none⟩)), .val (.int .i64 1), .val (.bool false), .val (.bool false), .val (.bool false), .val (.bool false), .val (.bool true), .val (.bool true), .val (.bool false), .val (.bool false), .val (.bool false), .val (undef), .val (undef), .val (undef), .val (.bool false), .val (.bool false), .val (.bool false), .val (.string pp), .val (.slice (some ⟨b1, o1, none⟩) dl c1), .val (.int .i64 k), .val (.pointer (some ⟨b1, o1 + k * 2, none⟩)), .val (.pointer (some ⟨b1, o1 + k * 2, none⟩)), .val (.string q), .val (.bool true), .val (.bool false), .val (.bool false)] ?stay rfl (by decide) rfl ?duties ?rest)
              case duties =>
                refine ⟨?_, ?_, ?_, ?_, ?_, ?_, ?_, ?_, ?_, ?_, ?_, ?_, ?_, ?_, ?_, ?_, ?_, ?_, ?_, ?_, ?_, ?_, ?_, ?_, ?_, ?_, ?_, ?_, ?_, ?_, ?_, ?_, ?_, ?_, ?_, ?_, ?_, ?_, ?_, ?_, ?_, ?_, ?_, ?_, ?_, ?_, ?_, ?_, ?_, ?_, ?_, ?_, ?_, ?_, ?_, ?_, ?_, ?_, ?_, ?_, ?_, trivial⟩
                · refine duty_free rfl fun a w' hE hF hA => ?_
                  have x1 := hF.slot 12 _ (by decide) rfl
                  exact wp_value (w' := w') (ex_move rfl) ⟨_, rfl, x1, Ext.refl _⟩
                · refine duty_free rfl fun a w' hE hF hA => ?_
                  have x1 := hF.slot 21 _ (by decide) rfl
                  exact wp_value (w' := w') (ex_move rfl) ⟨_, rfl, x1, Ext.refl _⟩
                · refine duty_free rfl fun a w' hE hF hA => ?_
                  have x1 := hA.pick 0 169 (.slice (some ⟨b2, o2, none⟩) dl c2) rfl rfl ⟨⟨0, .data⟩, by simp, rfl, rfl⟩ (fun u h => h)
                  have x2 := hA.pick 1 170 (.int .i64 k) rfl rfl ⟨⟨1, .data⟩, by simp, rfl, rfl⟩ (fun u h => h)
                  exact wp_value (w' := w') (v := .pointer (some ⟨b2, o2 + k * 2, none⟩)) (by simp only [execOp, x1, x2]; simp [go_sem, hk0, hk1]) ⟨_, rfl, rfl, Ext.refl _⟩
                · refine duty_free rfl fun a w' hE hF hA => ?_
                  have x1 := hA.pick 2 171 (.pointer (some ⟨b2, o2 + k * 2, none⟩)) rfl rfl ⟨⟨2, .data⟩, by simp, rfl, rfl⟩ (fun u h => h)
                  exact wp_value (w' := w') (v := .pointer (some ⟨b2, o2 + k * 2, none⟩)) (by simp only [execOp, x1]; simp [go_sem]) ⟨_, rfl, rfl, Ext.refl _⟩
                · refine duty_free rfl fun a w' hE hF hA => ?_
                  have x1 := hA.pick 3 172 (.pointer (some ⟨b2, o2 + k * 2, none⟩)) rfl rfl ⟨⟨3, .data⟩, by simp, rfl, rfl⟩ (fun u h => h)
                  exact wp_value (ex_cell rfl _ _ x1 ((hE.cell (World.block_lt_of_cell? _ _ p2)).trans p2) rfl Tryz.underlying9) ⟨_, rfl, rfl, Ext.refl _⟩
                · refine duty_free rfl fun a w' hE hF hA => ?_
                  have x1 := hF.slot 11 _ (by decide) rfl
                  exact wp_value (w' := w') (ex_move rfl) ⟨_, rfl, x1, Ext.refl _⟩
                · refine duty_free rfl fun a w' hE hF hA => ?_
                  have x1 := hF.slot 21 _ (by decide) rfl
                  exact wp_value (w' := w') (ex_move rfl) ⟨_, rfl, x1, Ext.refl _⟩
                · refine duty_free rfl fun a w' hE hF hA => ?_
                  have x1 := hA.pick 5 174 (.slice (some ⟨b1, o1, none⟩) dl c1) rfl rfl ⟨⟨5, .data⟩, by simp, rfl, rfl⟩ (fun u h => h)
                  have x2 := hA.pick 6 175 (.int .i64 k) rfl rfl ⟨⟨6, .data⟩, by simp, rfl, rfl⟩ (fun u h => h)
                  exact wp_value (w' := w') (v := .pointer (some ⟨b1, o1 + k * 2, none⟩)) (by simp only [execOp, x1, x2]; simp [go_sem, hk0, hk1]) ⟨_, rfl, rfl, Ext.refl _⟩
                · refine duty_free rfl fun a w' hE hF hA => ?_
                  have x1 := hA.pick 7 176 (.pointer (some ⟨b1, o1 + k * 2, none⟩)) rfl rfl ⟨⟨7, .data⟩, by simp, rfl, rfl⟩ (fun u h => h)
                  exact wp_value (w' := w') (v := .pointer (some ⟨b1, o1 + k * 2, none⟩)) (by simp only [execOp, x1]; simp [go_sem]) ⟨_, rfl, rfl, Ext.refl _⟩
                · refine duty_free rfl fun a w' hE hF hA => ?_
                  have x1 := hA.pick 8 177 (.pointer (some ⟨b1, o1 + k * 2, none⟩)) rfl rfl ⟨⟨8, .data⟩, by simp, rfl, rfl⟩ (fun u h => h)
                  exact wp_value (ex_cell rfl _ _ x1 ((hE.cell (World.block_lt_of_cell? _ _ p1)).trans p1) rfl Tryz.underlying9) ⟨_, rfl, rfl, Ext.refl _⟩
                · refine duty_free rfl fun a w' hE hF hA => ?_
                  have x1 := hA.pick 4 173 (.string q) rfl rfl ⟨⟨4, .data⟩, by simp, rfl, rfl⟩ (fun u h => h)
                  have x2 := hA.pick 9 178 (.string q) rfl rfl ⟨⟨9, .data⟩, by simp, rfl, rfl⟩ (fun u h => h)
                  exact wp_value (w' := w') (v := .bool false) (by simp only [execOp, x1, x2]; simp [go_sem]) ⟨_, rfl, rfl, Ext.refl _⟩
                · refine duty_free rfl fun a w' hE hF hA => ?_
                  have x1 := hA.pick 10 179 (.bool false) rfl rfl ⟨⟨10, .data⟩, by simp, rfl, rfl⟩ (fun u h => h)
                  exact wp_value (w' := w') (ex_move rfl) ⟨_, rfl, x1, Ext.refl _⟩
                · refine duty_yes rfl (p := _) rfl (d := 180) rfl (show 180 < 230 by decide) ⟨⟨11, .guard⟩, by simp, rfl, rfl⟩ (fun v w h => h) fun a w' hE hF hA => ?_
                  have x1 := hF.slot 12 _ (by decide) rfl
                  exact wp_value (w' := w') (ex_move rfl) ⟨_, rfl, x1, Ext.refl _⟩
                · refine duty_yes rfl (p := _) rfl (d := 180) rfl (show 180 < 230 by decide) ⟨⟨11, .guard⟩, by simp, rfl, rfl⟩ (fun v w h => h) fun a w' hE hF hA => ?_
                  have x1 := hF.slot 21 _ (by decide) rfl
                  exact wp_value (w' := w') (ex_move rfl) ⟨_, rfl, x1, Ext.refl _⟩
                · refine duty_yes rfl (p := _) rfl (d := 180) rfl (show 180 < 230 by decide) ⟨⟨11, .guard⟩, by simp, rfl, rfl⟩ (fun v w h => h) fun a w' hE hF hA => ?_
                  have x1 := hA.pick 12 181 (.slice (some ⟨b2, o2, none⟩) dl c2) rfl rfl ⟨⟨12, .data⟩, by simp, rfl, rfl⟩ (fun u h => h)
                  have x2 := hA.pick 13 182 (.int .i64 k) rfl rfl ⟨⟨13, .data⟩, by simp, rfl, rfl⟩ (fun u h => h)
                  exact wp_value (w' := w') (v := .pointer (some ⟨b2, o2 + k * 2, none⟩)) (by simp only [execOp, x1, x2]; simp [go_sem, hk0, hk1]) ⟨_, rfl, rfl, Ext.refl _⟩
                · refine duty_yes rfl (p := _) rfl (d := 180) rfl (show 180 < 230 by decide) ⟨⟨11, .guard⟩, by simp, rfl, rfl⟩ (fun v w h => h) fun a w' hE hF hA => ?_
                  have x1 := hA.pick 14 183 (.pointer (some ⟨b2, o2 + k * 2, none⟩)) rfl rfl ⟨⟨14, .data⟩, by simp, rfl, rfl⟩ (fun u h => h)
                  exact wp_value (w' := w') (v := .pointer (some ⟨b2, o2 + k * 2 + 1, none⟩)) (by simp only [execOp, x1]; simp [go_sem]) ⟨_, rfl, rfl, Ext.refl _⟩
                · refine duty_yes rfl (p := _) rfl (d := 180) rfl (show 180 < 230 by decide) ⟨⟨11, .guard⟩, by simp, rfl, rfl⟩ (fun v w h => h) fun a w' hE hF hA => ?_
                  have x1 := hA.pick 15 184 (.pointer (some ⟨b2, o2 + k * 2 + 1, none⟩)) rfl rfl ⟨⟨15, .data⟩, by simp, rfl, rfl⟩ (fun u h => h)
                  exact wp_value (ex_cell rfl _ _ x1 ((hE.cell (World.block_lt_of_cell? _ _ r2)).trans r2) rfl Tryz.underlying3) ⟨_, rfl, rfl, Ext.refl _⟩
                · refine duty_yes rfl (p := _) rfl (d := 180) rfl (show 180 < 230 by decide) ⟨⟨11, .guard⟩, by simp, rfl, rfl⟩ (fun v w h => h) fun a w' hE hF hA => ?_
                  have x1 := hF.slot 22 _ (by decide) rfl
                  exact wp_value (w' := w') (ex_move rfl) ⟨_, rfl, x1, Ext.refl _⟩
                · refine duty_yes rfl (p := _) rfl (d := 180) rfl (show 180 < 230 by decide) ⟨⟨11, .guard⟩, by simp, rfl, rfl⟩ (fun v w h => h) fun a w' hE hF hA => ?_
                  have x1 := hA.pick 16 185 (.int .i64 2) rfl rfl ⟨⟨16, .data⟩, by simp, rfl, rfl⟩ (fun u h => h)
                  have x2 := hA.pick 17 186 (.int .i64 2) rfl rfl ⟨⟨17, .data⟩, by simp, rfl, rfl⟩ (fun u h => h)
                  exact wp_value (w' := w') (v := .bool false) (by simp only [execOp, x1, x2]; simp [go_sem]) ⟨_, rfl, rfl, Ext.refl _⟩
                · refine duty_free rfl fun a w' hE hF hA => ?_
                  have x1 := hA.pick 11 180 (.bool false) rfl rfl ⟨⟨11, .data⟩, by simp, rfl, rfl⟩ (fun u h => h)
                  have x2 := hA.pick 18 187 (.bool false) rfl rfl ⟨⟨18, .data⟩, by simp, rfl, rfl⟩ (fun u h => h)
                  exact wp_value (w' := w') (ex_pick rfl x1) ⟨_, rfl, x2, Ext.refl _⟩
                · refine duty_free rfl fun a w' hE hF hA => ?_
                  have x1 := hA.pick 19 188 (.bool false) rfl rfl ⟨⟨19, .data⟩, by simp, rfl, rfl⟩ (fun u h => h)
                  exact wp_value (w' := w') (ex_move rfl) ⟨_, rfl, x1, Ext.refl _⟩
                · refine duty_yes rfl (p := _) rfl (d := 189) rfl (show 189 < 230 by decide) ⟨⟨20, .guard⟩, by simp, rfl, rfl⟩ (fun v w h => h) fun a w' hE hF hA => ?_
                  have x1 := hF.slot 24 _ (by decide) rfl
                  exact wp_value (w' := w') (ex_move rfl) ⟨_, rfl, x1, Ext.refl _⟩
                · refine duty_yes rfl (p := _) rfl (d := 189) rfl (show 189 < 230 by decide) ⟨⟨20, .guard⟩, by simp, rfl, rfl⟩ (fun v w h => h) fun a w' hE hF hA => ?_
                  have x1 := hF.slot 11 _ (by decide) rfl
                  exact wp_value (w' := w') (ex_move rfl) ⟨_, rfl, x1, Ext.refl _⟩
                · refine duty_yes rfl (p := _) rfl (d := 189) rfl (show 189 < 230 by decide) ⟨⟨20, .guard⟩, by simp, rfl, rfl⟩ (fun v w h => h) fun a w' hE hF hA => ?_
                  have x1 := hF.slot 21 _ (by decide) rfl
                  exact wp_value (w' := w') (ex_move rfl) ⟨_, rfl, x1, Ext.refl _⟩
                · refine duty_yes rfl (p := _) rfl (d := 189) rfl (show 189 < 230 by decide) ⟨⟨20, .guard⟩, by simp, rfl, rfl⟩ (fun v w h => h) fun a w' hE hF hA => ?_
                  have x1 := hA.pick 22 191 (.slice (some ⟨b1, o1, none⟩) dl c1) rfl rfl ⟨⟨22, .data⟩, by simp, rfl, rfl⟩ (fun u h => h)
                  have x2 := hA.pick 23 192 (.int .i64 k) rfl rfl ⟨⟨23, .data⟩, by simp, rfl, rfl⟩ (fun u h => h)
                  exact wp_value (w' := w') (v := .pointer (some ⟨b1, o1 + k * 2, none⟩)) (by simp only [execOp, x1, x2]; simp [go_sem, hk0, hk1]) ⟨_, rfl, rfl, Ext.refl _⟩
                · refine duty_yes rfl (p := _) rfl (d := 189) rfl (show 189 < 230 by decide) ⟨⟨20, .guard⟩, by simp, rfl, rfl⟩ (fun v w h => h) fun a w' hE hF hA => ?_
                  have x1 := hA.pick 24 193 (.pointer (some ⟨b1, o1 + k * 2, none⟩)) rfl rfl ⟨⟨24, .data⟩, by simp, rfl, rfl⟩ (fun u h => h)
                  exact wp_value (w' := w') (v := .pointer (some ⟨b1, o1 + k * 2 + 1, none⟩)) (by simp only [execOp, x1]; simp [go_sem]) ⟨_, rfl, rfl, Ext.refl _⟩
                · refine duty_yes rfl (p := _) rfl (d := 189) rfl (show 189 < 230 by decide) ⟨⟨20, .guard⟩, by simp, rfl, rfl⟩ (fun v w h => h) fun a w' hE hF hA => ?_
                  have x1 := hA.pick 25 194 (.pointer (some ⟨b1, o1 + k * 2 + 1, none⟩)) rfl rfl ⟨⟨25, .data⟩, by simp, rfl, rfl⟩ (fun u h => h)
                  exact wp_value (ex_cell rfl _ _ x1 ((hE.cell (World.block_lt_of_cell? _ _ r1)).trans r1) rfl Tryz.underlying3) ⟨_, rfl, rfl, Ext.refl _⟩
                · refine duty_yes rfl (p := _) rfl (d := 189) rfl (show 189 < 230 by decide) ⟨⟨20, .guard⟩, by simp, rfl, rfl⟩ (fun v w h => h) fun a w' hE hF hA => ?_
                  have x1 := hA.pick 26 195 (.int .i64 1) rfl rfl ⟨⟨26, .data⟩, by simp, rfl, rfl⟩ (fun u h => h)
                  exact wp_value (w' := w') (v := .bool true) (by simp only [execOp, x1]; simp [go_sem]) ⟨_, rfl, rfl, Ext.refl _⟩
                · refine duty_yes rfl (p := _) rfl (d := 189) rfl (show 189 < 230 by decide) ⟨⟨20, .guard⟩, by simp, rfl, rfl⟩ (fun v w h => h) fun a w' hE hF hA => ?_
                  have x1 := hA.pick 21 190 (.bool true) rfl rfl ⟨⟨21, .data⟩, by simp, rfl, rfl⟩ (fun u h => h)
                  have x2 := hA.pick 27 196 (.bool true) rfl rfl ⟨⟨27, .data⟩, by simp, rfl, rfl⟩ (fun u h => h)
                  exact wp_value (w' := w') (v := .bool false) (by simp only [execOp, x1, x2]; simp [go_sem]) ⟨_, rfl, rfl, Ext.refl _⟩
                · refine duty_free rfl fun a w' hE hF hA => ?_
                  have x1 := hA.pick 20 189 (.bool false) rfl rfl ⟨⟨20, .data⟩, by simp, rfl, rfl⟩ (fun u h => h)
                  have x2 := hA.pick 28 197 (.bool false) rfl rfl ⟨⟨28, .data⟩, by simp, rfl, rfl⟩ (fun u h => h)
                  exact wp_value (w' := w') (ex_pick rfl x1) ⟨_, rfl, x2, Ext.refl _⟩
                · refine duty_free rfl fun a w' hE hF hA => ?_
                  have x1 := hA.pick 29 198 (.bool false) rfl rfl ⟨⟨29, .data⟩, by simp, rfl, rfl⟩ (fun u h => h)
                  exact wp_value (w' := w') (ex_move rfl) ⟨_, rfl, x1, Ext.refl _⟩
                · refine duty_yes rfl (p := _) rfl (d := 199) rfl (show 199 < 230 by decide) ⟨⟨30, .guard⟩, by simp, rfl, rfl⟩ (fun v w h => h) fun a w' hE hF hA => ?_
                  have x1 := hF.slot 26 _ (by decide) rfl
                  exact wp_value (w' := w') (ex_move rfl) ⟨_, rfl, x1, Ext.refl _⟩
                · refine duty_yes rfl (p := _) rfl (d := 199) rfl (show 199 < 230 by decide) ⟨⟨30, .guard⟩, by simp, rfl, rfl⟩ (fun v w h => h) fun a w' hE hF hA => ?_
                  have x1 := hF.slot 11 _ (by decide) rfl
                  exact wp_value (w' := w') (ex_move rfl) ⟨_, rfl, x1, Ext.refl _⟩
                · refine duty_yes rfl (p := _) rfl (d := 199) rfl (show 199 < 230 by decide) ⟨⟨30, .guard⟩, by simp, rfl, rfl⟩ (fun v w h => h) fun a w' hE hF hA => ?_
                  have x1 := hF.slot 21 _ (by decide) rfl
                  exact wp_value (w' := w') (ex_move rfl) ⟨_, rfl, x1, Ext.refl _⟩
                · refine duty_yes rfl (p := _) rfl (d := 199) rfl (show 199 < 230 by decide) ⟨⟨30, .guard⟩, by simp, rfl, rfl⟩ (fun v w h => h) fun a w' hE hF hA => ?_
                  have x1 := hA.pick 32 201 (.slice (some ⟨b1, o1, none⟩) dl c1) rfl rfl ⟨⟨32, .data⟩, by simp, rfl, rfl⟩ (fun u h => h)
                  have x2 := hA.pick 33 202 (.int .i64 k) rfl rfl ⟨⟨33, .data⟩, by simp, rfl, rfl⟩ (fun u h => h)
                  exact wp_value (w' := w') (v := .pointer (some ⟨b1, o1 + k * 2, none⟩)) (by simp only [execOp, x1, x2]; simp [go_sem, hk0, hk1]) ⟨_, rfl, rfl, Ext.refl _⟩
                · refine duty_yes rfl (p := _) rfl (d := 199) rfl (show 199 < 230 by decide) ⟨⟨30, .guard⟩, by simp, rfl, rfl⟩ (fun v w h => h) fun a w' hE hF hA => ?_
                  have x1 := hA.pick 34 203 (.pointer (some ⟨b1, o1 + k * 2, none⟩)) rfl rfl ⟨⟨34, .data⟩, by simp, rfl, rfl⟩ (fun u h => h)
                  exact wp_value (w' := w') (v := .pointer (some ⟨b1, o1 + k * 2 + 1, none⟩)) (by simp only [execOp, x1]; simp [go_sem]) ⟨_, rfl, rfl, Ext.refl _⟩
                · refine duty_yes rfl (p := _) rfl (d := 199) rfl (show 199 < 230 by decide) ⟨⟨30, .guard⟩, by simp, rfl, rfl⟩ (fun v w h => h) fun a w' hE hF hA => ?_
                  have x1 := hA.pick 35 204 (.pointer (some ⟨b1, o1 + k * 2 + 1, none⟩)) rfl rfl ⟨⟨35, .data⟩, by simp, rfl, rfl⟩ (fun u h => h)
                  exact wp_value (ex_cell rfl _ _ x1 ((hE.cell (World.block_lt_of_cell? _ _ r1)).trans r1) rfl Tryz.underlying3) ⟨_, rfl, rfl, Ext.refl _⟩
                · refine duty_yes rfl (p := _) rfl (d := 199) rfl (show 199 < 230 by decide) ⟨⟨30, .guard⟩, by simp, rfl, rfl⟩ (fun v w h => h) fun a w' hE hF hA => ?_
                  have x1 := hA.pick 36 205 (.int .i64 1) rfl rfl ⟨⟨36, .data⟩, by simp, rfl, rfl⟩ (fun u h => h)
                  exact wp_value (w' := w') (v := .bool false) (by simp only [execOp, x1]; simp [go_sem]) ⟨_, rfl, rfl, Ext.refl _⟩
                · refine duty_yes rfl (p := _) rfl (d := 199) rfl (show 199 < 230 by decide) ⟨⟨30, .guard⟩, by simp, rfl, rfl⟩ (fun v w h => h) fun a w' hE hF hA => ?_
                  have x1 := hA.pick 31 200 (.bool false) rfl rfl ⟨⟨31, .data⟩, by simp, rfl, rfl⟩ (fun u h => h)
                  have x2 := hA.pick 37 206 (.bool false) rfl rfl ⟨⟨37, .data⟩, by simp, rfl, rfl⟩ (fun u h => h)
                  exact wp_value (w' := w') (v := .bool false) (by simp only [execOp, x1, x2]; simp [go_sem]) ⟨_, rfl, rfl, Ext.refl _⟩
                · refine duty_free rfl fun a w' hE hF hA => ?_
                  have x1 := hA.pick 30 199 (.bool false) rfl rfl ⟨⟨30, .data⟩, by simp, rfl, rfl⟩ (fun u h => h)
                  have x2 := hA.pick 38 207 (.bool false) rfl rfl ⟨⟨38, .data⟩, by simp, rfl, rfl⟩ (fun u h => h)
                  exact wp_value (w' := w') (ex_pick rfl x1) ⟨_, rfl, x2, Ext.refl _⟩
                · refine duty_free rfl fun a w' hE hF hA => ?_
                  have x1 := hA.pick 39 208 (.bool false) rfl rfl ⟨⟨39, .data⟩, by simp, rfl, rfl⟩ (fun u h => h)
                  exact wp_value (w' := w') (ex_move rfl) ⟨_, rfl, x1, Ext.refl _⟩
                · refine duty_yes rfl (p := _) rfl (d := 209) rfl (show 209 < 230 by decide) ⟨⟨40, .guard⟩, by simp, rfl, rfl⟩ (fun v w h => h) fun a w' hE hF hA => ?_
                  have x1 := hF.slot 24 _ (by decide) rfl
                  exact wp_value (w' := w') (ex_move rfl) ⟨_, rfl, x1, Ext.refl _⟩
                · refine duty_yes rfl (p := _) rfl (d := 209) rfl (show 209 < 230 by decide) ⟨⟨40, .guard⟩, by simp, rfl, rfl⟩ (fun v w h => h) fun a w' hE hF hA => ?_
                  have x1 := hA.pick 41 210 (.bool true) rfl rfl ⟨⟨41, .data⟩, by simp, rfl, rfl⟩ (fun u h => h)
                  exact wp_value (w' := w') (ex_move rfl) ⟨_, rfl, x1, Ext.refl _⟩
                · refine duty_yes rfl (p := _) rfl (d := 211) rfl (show 211 < 230 by decide) ⟨⟨42, .guard⟩, by simp, rfl, rfl⟩ (fun v w h => h) fun a w' hE hF hA => ?_
                  have x1 := hF.slot 26 _ (by decide) rfl
                  exact wp_value (w' := w') (ex_move rfl) ⟨_, rfl, x1, Ext.refl _⟩
                · refine duty_yes rfl (p := _) rfl (d := 209) rfl (show 209 < 230 by decide) ⟨⟨40, .guard⟩, by simp, rfl, rfl⟩ (fun v w h => h) fun a w' hE hF hA => ?_
                  have x1 := hA.pick 42 211 (.bool true) rfl rfl ⟨⟨42, .data⟩, by simp, rfl, rfl⟩ (fun u h => h)
                  have x2 := hA.pick 43 212 (.bool false) rfl rfl ⟨⟨43, .data⟩, by simp, rfl, rfl⟩ (fun u h => h)
                  exact wp_value (w' := w') (ex_pick rfl x1) ⟨_, rfl, x2, Ext.refl _⟩
                · refine duty_yes rfl (p := _) rfl (d := 209) rfl (show 209 < 230 by decide) ⟨⟨40, .guard⟩, by simp, rfl, rfl⟩ (fun v w h => h) fun a w' hE hF hA => ?_
                  have x1 := hA.pick 44 213 (.bool false) rfl rfl ⟨⟨44, .data⟩, by simp, rfl, rfl⟩ (fun u h => h)
                  exact wp_value (w' := w') (ex_move rfl) ⟨_, rfl, x1, Ext.refl _⟩
                · exact duty_no rfl (p := _) rfl (d := 214) rfl (show 214 < 230 by decide) ⟨⟨45, .guard⟩, by simp, rfl, rfl⟩ (fun v w h => h) fun w => rfl
                · exact duty_no rfl (p := _) rfl (d := 214) rfl (show 214 < 230 by decide) ⟨⟨45, .guard⟩, by simp, rfl, rfl⟩ (fun v w h => h) fun w => rfl
                · exact duty_no rfl (p := _) rfl (d := 214) rfl (show 214 < 230 by decide) ⟨⟨45, .guard⟩, by simp, rfl, rfl⟩ (fun v w h => h) fun w => rfl
                · refine duty_yes rfl (p := _) rfl (d := 209) rfl (show 209 < 230 by decide) ⟨⟨40, .guard⟩, by simp, rfl, rfl⟩ (fun v w h => h) fun a w' hE hF hA => ?_
                  have x1 := hA.pick 45 214 (.bool false) rfl rfl ⟨⟨45, .data⟩, by simp, rfl, rfl⟩ (fun u h => h)
                  exact wp_value (w' := w') (ex_pick rfl x1) ⟨_, rfl, rfl, Ext.refl _⟩
                · refine duty_free rfl fun a w' hE hF hA => ?_
                  have x1 := hA.pick 40 209 (.bool false) rfl rfl ⟨⟨40, .data⟩, by simp, rfl, rfl⟩ (fun u h => h)
                  have x2 := hA.pick 49 218 (.bool false) rfl rfl ⟨⟨49, .data⟩, by simp, rfl, rfl⟩ (fun u h => h)
                  exact wp_value (w' := w') (ex_pick rfl x1) ⟨_, rfl, x2, Ext.refl _⟩
                · refine duty_free rfl fun a w' hE hF hA => ?_
                  have x1 := hA.pick 50 219 (.bool false) rfl rfl ⟨⟨50, .data⟩, by simp, rfl, rfl⟩ (fun u h => h)
                  exact wp_value (w' := w') (ex_move rfl) ⟨_, rfl, x1, Ext.refl _⟩
                · refine duty_yes rfl (p := _) rfl (d := 220) rfl (show 220 < 230 by decide) ⟨⟨51, .guard⟩, by simp, rfl, rfl⟩ (fun v w h => h) fun a w' hE hF hA => ?_
                  have x1 := hF.slot 13 _ (by decide) rfl
                  exact wp_value (w' := w') (ex_move rfl) ⟨_, rfl, x1, Ext.refl _⟩
                · refine duty_yes rfl (p := _) rfl (d := 220) rfl (show 220 < 230 by decide) ⟨⟨51, .guard⟩, by simp, rfl, rfl⟩ (fun v w h => h) fun a w' hE hF hA => ?_
                  have x1 := hF.slot 11 _ (by decide) rfl
                  exact wp_value (w' := w') (ex_move rfl) ⟨_, rfl, x1, Ext.refl _⟩
                · refine duty_yes rfl (p := _) rfl (d := 220) rfl (show 220 < 230 by decide) ⟨⟨51, .guard⟩, by simp, rfl, rfl⟩ (fun v w h => h) fun a w' hE hF hA => ?_
                  have x1 := hF.slot 21 _ (by decide) rfl
                  exact wp_value (w' := w') (ex_move rfl) ⟨_, rfl, x1, Ext.refl _⟩
                · refine duty_yes rfl (p := _) rfl (d := 220) rfl (show 220 < 230 by decide) ⟨⟨51, .guard⟩, by simp, rfl, rfl⟩ (fun v w h => h) fun a w' hE hF hA => ?_
                  have x1 := hA.pick 53 222 (.slice (some ⟨b1, o1, none⟩) dl c1) rfl rfl ⟨⟨53, .data⟩, by simp, rfl, rfl⟩ (fun u h => h)
                  have x2 := hA.pick 54 223 (.int .i64 k) rfl rfl ⟨⟨54, .data⟩, by simp, rfl, rfl⟩ (fun u h => h)
                  exact wp_value (w' := w') (v := .pointer (some ⟨b1, o1 + k * 2, none⟩)) (by simp only [execOp, x1, x2]; simp [go_sem, hk0, hk1]) ⟨_, rfl, rfl, Ext.refl _⟩
                · refine duty_yes rfl (p := _) rfl (d := 220) rfl (show 220 < 230 by decide) ⟨⟨51, .guard⟩, by simp, rfl, rfl⟩ (fun v w h => h) fun a w' hE hF hA => ?_
                  have x1 := hA.pick 55 224 (.pointer (some ⟨b1, o1 + k * 2, none⟩)) rfl rfl ⟨⟨55, .data⟩, by simp, rfl, rfl⟩ (fun u h => h)
                  exact wp_value (w' := w') (v := .pointer (some ⟨b1, o1 + k * 2, none⟩)) (by simp only [execOp, x1]; simp [go_sem]) ⟨_, rfl, rfl, Ext.refl _⟩
                · refine duty_yes rfl (p := _) rfl (d := 220) rfl (show 220 < 230 by decide) ⟨⟨51, .guard⟩, by simp, rfl, rfl⟩ (fun v w h => h) fun a w' hE hF hA => ?_
                  have x1 := hA.pick 56 225 (.pointer (some ⟨b1, o1 + k * 2, none⟩)) rfl rfl ⟨⟨56, .data⟩, by simp, rfl, rfl⟩ (fun u h => h)
                  exact wp_value (ex_cell rfl _ _ x1 ((hE.cell (World.block_lt_of_cell? _ _ p1)).trans p1) rfl Tryz.underlying9) ⟨_, rfl, rfl, Ext.refl _⟩
                · refine duty_yes rfl (p := _) rfl (d := 220) rfl (show 220 < 230 by decide) ⟨⟨51, .guard⟩, by simp, rfl, rfl⟩ (fun v w h => h) fun a w' hE hF hA => ?_
                  have x1 := hA.pick 52 221 (.string pp) rfl rfl ⟨⟨52, .data⟩, by simp, rfl, rfl⟩ (fun u h => h)
                  have x2 := hA.pick 57 226 (.string q) rfl rfl ⟨⟨57, .data⟩, by simp, rfl, rfl⟩ (fun u h => h)
                  refine wp_enter (ex_call rfl (enters_f Tryz.func56 (by kernel_rfl) rfl)) (by simp only [List.map_toArray, List.map_cons, List.map_nil, x1, x2]; exact CU.out _) ?_
                  rintro e w4 ⟨rfl, hb⟩
                  exact ⟨_, rfl, _, rfl, rfl, hb⟩
                · refine duty_yes rfl (p := _) rfl (d := 220) rfl (show 220 < 230 by decide) ⟨⟨51, .guard⟩, by simp, rfl, rfl⟩ (fun v w h => h) fun a w' hE hF hA => ?_
                  have x1 := hA.pick 58 227 (.bool true) rfl rfl ⟨⟨58, .data⟩, by simp, rfl, rfl⟩ (fun u h => h)
                  exact wp_value (w' := w') (v := .bool false) (by simp only [execOp, x1]; simp [go_sem]) ⟨_, rfl, rfl, Ext.refl _⟩
                · refine duty_free rfl fun a w' hE hF hA => ?_
                  have x1 := hA.pick 51 220 (.bool false) rfl rfl ⟨⟨51, .data⟩, by simp, rfl, rfl⟩ (fun u h => h)
                  have x2 := hA.pick 59 228 (.bool false) rfl rfl ⟨⟨59, .data⟩, by simp, rfl, rfl⟩ (fun u h => h)
                  exact wp_value (w' := w') (ex_pick rfl x1) ⟨_, rfl, x2, Ext.refl _⟩
              case stay => trivial
              case rest =>
                intro W12 hE12
                simp only [forS]
                have HE12 := Lib.hid (HEX.out.trans hE12)
                clear hE12 p1 p2 r1 r2 hbn hby CU
                rw [filled_tail _ _ _ _ 169 rfl rfl rfl]
                simp only [List.take_succ_cons, List.take_zero, List.cons_append, List.nil_append]
                simp only [Exit.inBlock, Exit.then, Act.put]
                first | (rename_i hK; refine hK _ _ ?_; clear hK) | (rename_i hK _; refine hK _ _ ?_; clear hK) | (rename_i hK _ _; refine hK _ _ ?_; clear hK) | (rename_i hK _ _ _; refine hK _ _ ?_; clear hK)
                go_wp2
                go_roundw
                case rel => exact ⟨k + 1, by omega, by go_num, HE12.out⟩
                case measure => simp [intOf]; omega
            · have r2 : wr.cell? ⟨b2, o2 + k * 2 + 1, none⟩ = some (.int .i64 1) := r2
              have C1 := Lib.hid (CG1.out wr HE.out)
              clear CG1
              go_wp2_with fail
              refine C1.out.mono ?_
              rintro e W10 ⟨v3, rfl, hv3, hE10⟩
              rw [hgA] at hv3 ⊢
              simp only [Option.getD_some, Option.getD_none] at hv3
              simp only [Option.isSome_some, Option.isSome_none]
              obtain ⟨da, dc, aa, ac, X10, e0, hset3, hbx3, hEX3, hD3, hA3⟩ := box_node hv3 fun b hb => hb.2
              subst e0
              have hE10 : Ext wr W10 := hE10
              have hEX := hE10.trans hEX3
              have hEV := HE.out.trans hEX
              have p1 : X10.cell? ⟨b1, o1 + k * 2, none⟩ = some (.string q) := (hEX.cell (World.block_lt_of_cell? _ _ p1)).trans p1
              have p2 : X10.cell? ⟨b2, o2 + k * 2, none⟩ = some (.string q) := (hEX.cell (World.block_lt_of_cell? _ _ p2)).trans p2
              have r1 : X10.cell? ⟨b1, o1 + k * 2 + 1, none⟩ = some (.int .i64 2) := (hEX.cell (World.block_lt_of_cell? _ _ r1)).trans r1
              have r2 : X10.cell? ⟨b2, o2 + k * 2 + 1, none⟩ = some (.int .i64 1) := (hEX.cell (World.block_lt_of_cell? _ _ r2)).trans r2
              have C2 := Lib.hid (CG2.out X10 hEV)
              have HSET1 := Lib.hid hset3
              have HNEW1 := Lib.hid (heap_alloc_new W10 (.cells zeroNd 44))
              have HBX := Lib.hid hbx3
              have HEV := Lib.hid hEV
              have HD3 := Lib.hid hD3
              have HA3 := Lib.hid hA3
              unfold ndC at HSET1 ⊢
              unfold zeroNd at HSET1 HNEW1
              clear hset3 hbx3 hEX3 hE10 hEX hEV hv3 C1 CG2 hD3 hA3 HE
              go_wp2_with (refine wpList_store_row rfl 44 (.tmp 23) (.tmp 157) rfl W10.heap.size _ rfl rfl 44 _ HNEW1.out sizeNd rfl (cells_node _ da aa _ _ dc ac) ?_; rw [HSET1.out])
              refine C2.out.mono ?_
              rintro e W11 ⟨v4, rfl, hv4, hE11⟩
              rw [hgB] at hv4 ⊢
              simp only [Option.getD_some, Option.getD_none] at hv4
              simp only [Option.isSome_some, Option.isSome_none]
              obtain ⟨db, eb, ab, fb, X11, e0, hset4, hbx4, hEX4, hD4, hA4⟩ := box_node hv4 fun b hb => hb.2
              subst e0
              have hE11 : Ext X10 W11 := hE11
              have hEX := hE11.trans hEX4
              have p1 : X11.cell? ⟨b1, o1 + k * 2, none⟩ = some (.string q) := (hEX.cell (World.block_lt_of_cell? _ _ p1)).trans p1
              have p2 : X11.cell? ⟨b2, o2 + k * 2, none⟩ = some (.string q) := (hEX.cell (World.block_lt_of_cell? _ _ p2)).trans p2
              have r1 : X11.cell? ⟨b1, o1 + k * 2 + 1, none⟩ = some (.int .i64 2) := (hEX.cell (World.block_lt_of_cell? _ _ r1)).trans r1
              have r2 : X11.cell? ⟨b2, o2 + k * 2 + 1, none⟩ = some (.int .i64 1) := (hEX.cell (World.block_lt_of_cell? _ _ r2)).trans r2
              have HSET2 := Lib.hid hset4
              have HNEW2 := Lib.hid (heap_alloc_new W11 (.cells zeroNd 44))
              have HBN := Lib.hid ((hEX.block _ (Array.getElem?_eq_some_iff.1 HBX.out).1).trans HBX.out)
              have HBY := Lib.hid hbx4
              have HEX := Lib.hid (HEV.out.trans hEX)
              unfold ndC at HSET2 ⊢
              unfold zeroNd at HSET2 HNEW2
              clear hset4 hbx4 hEX4 hE11 hEX hv4 C2 hD4 hA4 HD3 HA3 HBX HEV hgA hgB
              have hbn := HBN.out
              have hby := HBY.out
              go_wp2_with (first | (refine wpList_store_row rfl 44 (.tmp 25) (.tmp 167) rfl W11.heap.size _ rfl rfl 44 _ HNEW2.out sizeNd rfl (cells_node _ db ab _ _ eb fb) ?_; rw [HSET2.out]))
              refine wp_region_P (by kernel_rfl) (region_sp 230 [.val (.slice (some ⟨b2, o2, none⟩) dl c2), .val (.int .i64 k), .val (.pointer (some ⟨b2, o2 + k * 2, none⟩)), .val (.pointer (some ⟨b2, o2 + k * 2, none⟩)), .val (.string q), .val (.slice (some ⟨b1, o1, none⟩) dl c1), .val (.int .i64 k), .val (.pointer (some ⟨b1, o1 + k * 2, none⟩)), .val (.pointer (some ⟨b1, o1 + k * 2, none⟩)), .val (.string q), .val (.bool false), .val (.bool false), .val (.slice (some ⟨b2, o2, none⟩) dl c2), .val (.int .i64 k), .val (.pointer (some ⟨b2, o2 + k * 2, none⟩)), .val (.pointer (some ⟨b2, o2 + k * 2 + 1, none⟩)), .val (.int .i64 1), .val (.int .i64 1), .val (.bool false), .val (.bool false), .val (.bool false), .val (.bool false), .val (.slice (some ⟨b1, o1, none⟩) dl c1), .val (.int .i64 k), .val (.pointer (some ⟨b1, o1 + k * 2, none⟩)), .val (.pointer (some ⟨b1, o1 + k * 2 + 1, none⟩)), .val (.int .i64 2), .val (.bool false), .val (.bool false), .val (.bool false), .val (.bool false), .val (.bool true), .val (.slice (some ⟨b1, o1, none⟩) dl c1), .val (.int .i64 k), .val (.pointer (some ⟨b1, o1 + k * 2, none⟩)), .val (.pointer (some ⟨b1, o1 + k * 2 + 1, none⟩)), .val (.int .i64 2), .val (.bool true), .val (.bool false), .val (.bool false), .val (.bool false), .val (.bool false), .val (.bool false), .val (undef), .val (.bool false), .val (.bool false), .val (undef), .val (undef), .val (undef), .val (.bool false), .val (.bool false), .val (.bool false), .val (.string pp), .val (.slice (some ⟨b1, o1, none⟩) dl c1), .val (.int .i64 k), .val (.pointer (some ⟨b1, o1 + k * 2, none⟩)), .val (.pointer (some ⟨b1, o1 + k * 2, none⟩)), .val (.string q), .val (.bool true), .val (.bool false), .val (.bool false)] ?stay rfl (by decide) rfl ?duties ?rest)
              case duties =>
                refine ⟨?_, ?_, ?_, ?_, ?_, ?_, ?_, ?_, ?_, ?_, ?_, ?_, ?_, ?_, ?_, ?_, ?_, ?_, ?_, ?_, ?_, ?_, ?_, ?_, ?_, ?_, ?_, ?_, ?_, ?_, ?_, ?_, ?_, ?_, ?_, ?_, ?_, ?_, ?_, ?_, ?_, ?_, ?_, ?_, ?_, ?_, ?_, ?_, ?_, ?_, ?_, ?_, ?_, ?_, ?_, ?_, ?_, ?_, ?_, ?_, ?_, trivial⟩
                · refine duty_free rfl fun a w' hE hF hA => ?_
                  have x1 := hF.slot 12 _ (by decide) rfl
                  exact wp_value (w' := w') (ex_move rfl) ⟨_, rfl, x1, Ext.refl _⟩
                · refine duty_free rfl fun a w' hE hF hA => ?_
                  have x1 := hF.slot 21 _ (by decide) rfl
                  exact wp_value (w' := w') (ex_move rfl) ⟨_, rfl, x1, Ext.refl _⟩
                · refine duty_free rfl fun a w' hE hF hA => ?_
                  have x1 := hA.pick 0 169 (.slice (some ⟨b2, o2, none⟩) dl c2) rfl rfl ⟨⟨0, .data⟩, by simp, rfl, rfl⟩ (fun u h => h)
                  have x2 := hA.pick 1 170 (.int .i64 k) rfl rfl ⟨⟨1, .data⟩, by simp, rfl, rfl⟩ (fun u h => h)
                  exact wp_value (w' := w') (v := .pointer (some ⟨b2, o2 + k * 2, none⟩)) (by simp only [execOp, x1, x2]; simp [go_sem, hk0, hk1]) ⟨_, rfl, rfl, Ext.refl _⟩
                · refine duty_free rfl fun a w' hE hF hA => ?_
                  have x1 := hA.pick 2 171 (.pointer (some ⟨b2, o2 + k * 2, none⟩)) rfl rfl ⟨⟨2, .data⟩, by simp, rfl, rfl⟩ (fun u h => h)
                  exact wp_value (w' := w') (v := .pointer (some ⟨b2, o2 + k * 2, none⟩)) (by simp only [execOp, x1]; simp [go_sem]) ⟨_, rfl, rfl, Ext.refl _⟩
                · refine duty_free rfl fun a w' hE hF hA => ?_
                  have x1 := hA.pick 3 172 (.pointer (some ⟨b2, o2 + k * 2, none⟩)) rfl rfl ⟨⟨3, .data⟩, by simp, rfl, rfl⟩ (fun u h => h)
                  exact wp_value (ex_cell rfl _ _ x1 ((hE.cell (World.block_lt_of_cell? _ _ p2)).trans p2) rfl Tryz.underlying9) ⟨_, rfl, rfl, Ext.refl _⟩
                · refine duty_free rfl fun a w' hE hF hA => ?_
                  have x1 := hF.slot 11 _ (by decide) rfl
                  exact wp_value (w' := w') (ex_move rfl) ⟨_, rfl, x1, Ext.refl _⟩
                · refine duty_free rfl fun a w' hE hF hA => ?_
                  have x1 := hF.slot 21 _ (by decide) rfl
                  exact wp_value (w' := w') (ex_move rfl) ⟨_, rfl, x1, Ext.refl _⟩
                · refine duty_free rfl fun a w' hE hF hA => ?_
                  have x1 := hA.pick 5 174 (.slice (some ⟨b1, o1, none⟩) dl c1) rfl rfl ⟨⟨5, .data⟩, by simp, rfl, rfl⟩ (fun u h => h)
                  have x2 := hA.pick 6 175 (.int .i64 k) rfl rfl ⟨⟨6, .data⟩, by simp, rfl, rfl⟩ (fun u h => h)
                  exact wp_value (w' := w') (v := .pointer (some ⟨b1, o1 + k * 2, none⟩)) (by simp only [execOp, x1, x2]; simp [go_sem, hk0, hk1]) ⟨_, rfl, rfl, Ext.refl _⟩
                · refine duty_free rfl fun a w' hE hF hA => ?_
                  have x1 := hA.pick 7 176 (.pointer (some ⟨b1, o1 + k * 2, none⟩)) rfl rfl ⟨⟨7, .data⟩, by simp, rfl, rfl⟩ (fun u h => h)
                  exact wp_value (w' := w') (v := .pointer (some ⟨b1, o1 + k * 2, none⟩)) (by simp only [execOp, x1]; simp [go_sem]) ⟨_, rfl, rfl, Ext.refl _⟩
                · refine duty_free rfl fun a w' hE hF hA => ?_
                  have x1 := hA.pick 8 177 (.pointer (some ⟨b1, o1 + k * 2, none⟩)) rfl rfl ⟨⟨8, .data⟩, by simp, rfl, rfl⟩ (fun u h => h)
                  exact wp_value (ex_cell rfl _ _ x1 ((hE.cell (World.block_lt_of_cell? _ _ p1)).trans p1) rfl Tryz.underlying9) ⟨_, rfl, rfl, Ext.refl _⟩
                · refine duty_free rfl fun a w' hE hF hA => ?_
                  have x1 := hA.pick 4 173 (.string q) rfl rfl ⟨⟨4, .data⟩, by simp, rfl, rfl⟩ (fun u h => h)
                  have x2 := hA.pick 9 178 (.string q) rfl rfl ⟨⟨9, .data⟩, by simp, rfl, rfl⟩ (fun u h => h)
                  exact wp_value (w' := w') (v := .bool false) (by simp only [execOp, x1, x2]; simp [go_sem]) ⟨_, rfl, rfl, Ext.refl _⟩
                · refine duty_free rfl fun a w' hE hF hA => ?_
                  have x1 := hA.pick 10 179 (.bool false) rfl rfl ⟨⟨10, .data⟩, by simp, rfl, rfl⟩ (fun u h => h)
                  exact wp_value (w' := w') (ex_move rfl) ⟨_, rfl, x1, Ext.refl _⟩
                · refine duty_yes rfl (p := _) rfl (d := 180) rfl (show 180 < 230 by decide) ⟨⟨11, .guard⟩, by simp, rfl, rfl⟩ (fun v w h => h) fun a w' hE hF hA => ?_
                  have x1 := hF.slot 12 _ (by decide) rfl
                  exact wp_value (w' := w') (ex_move rfl) ⟨_, rfl, x1, Ext.refl _⟩
                · refine duty_yes rfl (p := _) rfl (d := 180) rfl (show 180 < 230 by decide) ⟨⟨11, .guard⟩, by simp, rfl, rfl⟩ (fun v w h => h) fun a w' hE hF hA => ?_
                  have x1 := hF.slot 21 _ (by decide) rfl
                  exact wp_value (w' := w') (ex_move rfl) ⟨_, rfl, x1, Ext.refl _⟩
                · refine duty_yes rfl (p := _) rfl (d := 180) rfl (show 180 < 230 by decide) ⟨⟨11, .guard⟩, by simp, rfl, rfl⟩ (fun v w h => h) fun a w' hE hF hA => ?_
                  have x1 := hA.pick 12 181 (.slice (some ⟨b2, o2, none⟩) dl c2) rfl rfl ⟨⟨12, .data⟩, by simp, rfl, rfl⟩ (fun u h => h)
                  have x2 := hA.pick 13 182 (.int .i64 k) rfl rfl ⟨⟨13, .data⟩, by simp, rfl, rfl⟩ (fun u h => h)
                  exact wp_value (w' := w') (v := .pointer (some ⟨b2, o2 + k * 2, none⟩)) (by simp only [execOp, x1, x2]; simp [go_sem, hk0, hk1]) ⟨_, rfl, rfl, Ext.refl _⟩
                · refine duty_yes rfl (p := _) rfl (d := 180) rfl (show 180 < 230 by decide) ⟨⟨11, .guard⟩, by simp, rfl, rfl⟩ (fun v w h => h) fun a w' hE hF hA => ?_
                  have x1 := hA.pick 14 183 (.pointer (some ⟨b2, o2 + k * 2, none⟩)) rfl rfl ⟨⟨14, .data⟩, by simp, rfl, rfl⟩ (fun u h => h)
                  exact wp_value (w' := w') (v := .pointer (some ⟨b2, o2 + k * 2 + 1, none⟩)) (by simp only [execOp, x1]; simp [go_sem]) ⟨_, rfl, rfl, Ext.refl _⟩
                · refine duty_yes rfl (p := _) rfl (d := 180) rfl (show 180 < 230 by decide) ⟨⟨11, .guard⟩, by simp, rfl, rfl⟩ (fun v w h => h) fun a w' hE hF hA => ?_
                  have x1 := hA.pick 15 184 (.pointer (some ⟨b2, o2 + k * 2 + 1, none⟩)) rfl rfl ⟨⟨15, .data⟩, by simp, rfl, rfl⟩ (fun u h => h)
                  exact wp_value (ex_cell rfl _ _ x1 ((hE.cell (World.block_lt_of_cell? _ _ r2)).trans r2) rfl Tryz.underlying3) ⟨_, rfl, rfl, Ext.refl _⟩
                · refine duty_yes rfl (p := _) rfl (d := 180) rfl (show 180 < 230 by decide) ⟨⟨11, .guard⟩, by simp, rfl, rfl⟩ (fun v w h => h) fun a w' hE hF hA => ?_
                  have x1 := hF.slot 22 _ (by decide) rfl
                  exact wp_value (w' := w') (ex_move rfl) ⟨_, rfl, x1, Ext.refl _⟩
                · refine duty_yes rfl (p := _) rfl (d := 180) rfl (show 180 < 230 by decide) ⟨⟨11, .guard⟩, by simp, rfl, rfl⟩ (fun v w h => h) fun a w' hE hF hA => ?_
                  have x1 := hA.pick 16 185 (.int .i64 1) rfl rfl ⟨⟨16, .data⟩, by simp, rfl, rfl⟩ (fun u h => h)
                  have x2 := hA.pick 17 186 (.int .i64 1) rfl rfl ⟨⟨17, .data⟩, by simp, rfl, rfl⟩ (fun u h => h)
                  exact wp_value (w' := w') (v := .bool false) (by simp only [execOp, x1, x2]; simp [go_sem]) ⟨_, rfl, rfl, Ext.refl _⟩
                · refine duty_free rfl fun a w' hE hF hA => ?_
                  have x1 := hA.pick 11 180 (.bool false) rfl rfl ⟨⟨11, .data⟩, by simp, rfl, rfl⟩ (fun u h => h)
                  have x2 := hA.pick 18 187 (.bool false) rfl rfl ⟨⟨18, .data⟩, by simp, rfl, rfl⟩ (fun u h => h)
                  exact wp_value (w' := w') (ex_pick rfl x1) ⟨_, rfl, x2, Ext.refl _⟩
                · refine duty_free rfl fun a w' hE hF hA => ?_
                  have x1 := hA.pick 19 188 (.bool false) rfl rfl ⟨⟨19, .data⟩, by simp, rfl, rfl⟩ (fun u h => h)
                  exact wp_value (w' := w') (ex_move rfl) ⟨_, rfl, x1, Ext.refl _⟩
                · refine duty_yes rfl (p := _) rfl (d := 189) rfl (show 189 < 230 by decide) ⟨⟨20, .guard⟩, by simp, rfl, rfl⟩ (fun v w h => h) fun a w' hE hF hA => ?_
                  have x1 := hF.slot 24 _ (by decide) rfl
                  exact wp_value (w' := w') (ex_move rfl) ⟨_, rfl, x1, Ext.refl _⟩
                · refine duty_yes rfl (p := _) rfl (d := 189) rfl (show 189 < 230 by decide) ⟨⟨20, .guard⟩, by simp, rfl, rfl⟩ (fun v w h => h) fun a w' hE hF hA => ?_
                  have x1 := hF.slot 11 _ (by decide) rfl
                  exact wp_value (w' := w') (ex_move rfl) ⟨_, rfl, x1, Ext.refl _⟩
                · refine duty_yes rfl (p := _) rfl (d := 189) rfl (show 189 < 230 by decide) ⟨⟨20, .guard⟩, by simp, rfl, rfl⟩ (fun v w h => h) fun a w' hE hF hA => ?_
                  have x1 := hF.slot 21 _ (by decide) rfl
                  exact wp_value (w' := w') (ex_move rfl) ⟨_, rfl, x1, Ext.refl _⟩
                · refine duty_yes rfl (p := _) rfl (d := 189) rfl (show 189 < 230 by decide) ⟨⟨20, .guard⟩, by simp, rfl, rfl⟩ (fun v w h => h) fun a w' hE hF hA => ?_
                  have x1 := hA.pick 22 191 (.slice (some ⟨b1, o1, none⟩) dl c1) rfl rfl ⟨⟨22, .data⟩, by simp, rfl, rfl⟩ (fun u h => h)
                  have x2 := hA.pick 23 192 (.int .i64 k) rfl rfl ⟨⟨23, .data⟩, by simp, rfl, rfl⟩ (fun u h => h)
                  exact wp_value (w' := w') (v := .pointer (some ⟨b1, o1 + k * 2, none⟩)) (by simp only [execOp, x1, x2]; simp [go_sem, hk0, hk1]) ⟨_, rfl, rfl, Ext.refl _⟩
                · refine duty_yes rfl (p := _) rfl (d := 189) rfl (show 189 < 230 by decide) ⟨⟨20, .guard⟩, by simp, rfl, rfl⟩ (fun v w h => h) fun a w' hE hF hA => ?_
                  have x1 := hA.pick 24 193 (.pointer (some ⟨b1, o1 + k * 2, none⟩)) rfl rfl ⟨⟨24, .data⟩, by simp, rfl, rfl⟩ (fun u h => h)
                  exact wp_value (w' := w') (v := .pointer (some ⟨b1, o1 + k * 2 + 1, none⟩)) (by simp only [execOp, x1]; simp [go_sem]) ⟨_, rfl, rfl, Ext.refl _⟩
                · refine duty_yes rfl (p := _) rfl (d := 189) rfl (show 189 < 230 by decide) ⟨⟨20, .guard⟩, by simp, rfl, rfl⟩ (fun v w h => h) fun a w' hE hF hA => ?_
                  have x1 := hA.pick 25 194 (.pointer (some ⟨b1, o1 + k * 2 + 1, none⟩)) rfl rfl ⟨⟨25, .data⟩, by simp, rfl, rfl⟩ (fun u h => h)
                  exact wp_value (ex_cell rfl _ _ x1 ((hE.cell (World.block_lt_of_cell? _ _ r1)).trans r1) rfl Tryz.underlying3) ⟨_, rfl, rfl, Ext.refl _⟩
                · refine duty_yes rfl (p := _) rfl (d := 189) rfl (show 189 < 230 by decide) ⟨⟨20, .guard⟩, by simp, rfl, rfl⟩ (fun v w h => h) fun a w' hE hF hA => ?_
                  have x1 := hA.pick 26 195 (.int .i64 2) rfl rfl ⟨⟨26, .data⟩, by simp, rfl, rfl⟩ (fun u h => h)
                  exact wp_value (w' := w') (v := .bool false) (by simp only [execOp, x1]; simp [go_sem]) ⟨_, rfl, rfl, Ext.refl _⟩
                · refine duty_yes rfl (p := _) rfl (d := 189) rfl (show 189 < 230 by decide) ⟨⟨20, .guard⟩, by simp, rfl, rfl⟩ (fun v w h => h) fun a w' hE hF hA => ?_
                  have x1 := hA.pick 21 190 (.bool false) rfl rfl ⟨⟨21, .data⟩, by simp, rfl, rfl⟩ (fun u h => h)
                  have x2 := hA.pick 27 196 (.bool false) rfl rfl ⟨⟨27, .data⟩, by simp, rfl, rfl⟩ (fun u h => h)
                  exact wp_value (w' := w') (v := .bool false) (by simp only [execOp, x1, x2]; simp [go_sem]) ⟨_, rfl, rfl, Ext.refl _⟩
                · refine duty_free rfl fun a w' hE hF hA => ?_
                  have x1 := hA.pick 20 189 (.bool false) rfl rfl ⟨⟨20, .data⟩, by simp, rfl, rfl⟩ (fun u h => h)
                  have x2 := hA.pick 28 197 (.bool false) rfl rfl ⟨⟨28, .data⟩, by simp, rfl, rfl⟩ (fun u h => h)
                  exact wp_value (w' := w') (ex_pick rfl x1) ⟨_, rfl, x2, Ext.refl _⟩
                · refine duty_free rfl fun a w' hE hF hA => ?_
                  have x1 := hA.pick 29 198 (.bool false) rfl rfl ⟨⟨29, .data⟩, by simp, rfl, rfl⟩ (fun u h => h)
                  exact wp_value (w' := w') (ex_move rfl) ⟨_, rfl, x1, Ext.refl _⟩
                · refine duty_yes rfl (p := _) rfl (d := 199) rfl (show 199 < 230 by decide) ⟨⟨30, .guard⟩, by simp, rfl, rfl⟩ (fun v w h => h) fun a w' hE hF hA => ?_
                  have x1 := hF.slot 26 _ (by decide) rfl
                  exact wp_value (w' := w') (ex_move rfl) ⟨_, rfl, x1, Ext.refl _⟩
                · refine duty_yes rfl (p := _) rfl (d := 199) rfl (show 199 < 230 by decide) ⟨⟨30, .guard⟩, by simp, rfl, rfl⟩ (fun v w h => h) fun a w' hE hF hA => ?_
                  have x1 := hF.slot 11 _ (by decide) rfl
                  exact wp_value (w' := w') (ex_move rfl) ⟨_, rfl, x1, Ext.refl _⟩
                · refine duty_yes rfl (p := _) rfl (d := 199) rfl (show 199 < 230 by decide) ⟨⟨30, .guard⟩, by simp, rfl, rfl⟩ (fun v w h => h) fun a w' hE hF hA => ?_
                  have x1 := hF.slot 21 _ (by decide) rfl
                  exact wp_value (w' := w') (ex_move rfl) ⟨_, rfl, x1, Ext.refl _⟩
                · refine duty_yes rfl (p := _) rfl (d := 199) rfl (show 199 < 230 by decide) ⟨⟨30, .guard⟩, by simp, rfl, rfl⟩ (fun v w h => h) fun a w' hE hF hA => ?_
                  have x1 := hA.pick 32 201 (.slice (some ⟨b1, o1, none⟩) dl c1) rfl rfl ⟨⟨32, .data⟩, by simp, rfl, rfl⟩ (fun u h => h)
                  have x2 := hA.pick 33 202 (.int .i64 k) rfl rfl ⟨⟨33, .data⟩, by simp, rfl, rfl⟩ (fun u h => h)
                  exact wp_value (w' := w') (v := .pointer (some ⟨b1, o1 + k * 2, none⟩)) (by simp only [execOp, x1, x2]; simp [go_sem, hk0, hk1]) ⟨_, rfl, rfl, Ext.refl _⟩
                · refine duty_yes rfl (p := _) rfl (d := 199) rfl (show 199 < 230 by decide) ⟨⟨30, .guard⟩, by simp, rfl, rfl⟩ (fun v w h => h) fun a w' hE hF hA => ?_
                  have x1 := hA.pick 34 203 (.pointer (some ⟨b1, o1 + k * 2, none⟩)) rfl rfl ⟨⟨34, .data⟩, by simp, rfl, rfl⟩ (fun u h => h)
                  exact wp_value (w' := w') (v := .pointer (some ⟨b1, o1 + k * 2 + 1, none⟩)) (by simp only [execOp, x1]; simp [go_sem]) ⟨_, rfl, rfl, Ext.refl _⟩
                · refine duty_yes rfl (p := _) rfl (d := 199) rfl (show 199 < 230 by decide) ⟨⟨30, .guard⟩, by simp, rfl, rfl⟩ (fun v w h => h) fun a w' hE hF hA => ?_
                  have x1 := hA.pick 35 204 (.pointer (some ⟨b1, o1 + k * 2 + 1, none⟩)) rfl rfl ⟨⟨35, .data⟩, by simp, rfl, rfl⟩ (fun u h => h)
                  exact wp_value (ex_cell rfl _ _ x1 ((hE.cell (World.block_lt_of_cell? _ _ r1)).trans r1) rfl Tryz.underlying3) ⟨_, rfl, rfl, Ext.refl _⟩
                · refine duty_yes rfl (p := _) rfl (d := 199) rfl (show 199 < 230 by decide) ⟨⟨30, .guard⟩, by simp, rfl, rfl⟩ (fun v w h => h) fun a w' hE hF hA => ?_
                  have x1 := hA.pick 36 205 (.int .i64 2) rfl rfl ⟨⟨36, .data⟩, by simp, rfl, rfl⟩ (fun u h => h)
                  exact wp_value (w' := w') (v := .bool true) (by simp only [execOp, x1]; simp [go_sem]) ⟨_, rfl, rfl, Ext.refl _⟩
                · refine duty_yes rfl (p := _) rfl (d := 199) rfl (show 199 < 230 by decide) ⟨⟨30, .guard⟩, by simp, rfl, rfl⟩ (fun v w h => h) fun a w' hE hF hA => ?_
                  have x1 := hA.pick 31 200 (.bool true) rfl rfl ⟨⟨31, .data⟩, by simp, rfl, rfl⟩ (fun u h => h)
                  have x2 := hA.pick 37 206 (.bool true) rfl rfl ⟨⟨37, .data⟩, by simp, rfl, rfl⟩ (fun u h => h)
                  exact wp_value (w' := w') (v := .bool false) (by simp only [execOp, x1, x2]; simp [go_sem]) ⟨_, rfl, rfl, Ext.refl _⟩
                · refine duty_free rfl fun a w' hE hF hA => ?_
                  have x1 := hA.pick 30 199 (.bool false) rfl rfl ⟨⟨30, .data⟩, by simp, rfl, rfl⟩ (fun u h => h)
                  have x2 := hA.pick 38 207 (.bool false) rfl rfl ⟨⟨38, .data⟩, by simp, rfl, rfl⟩ (fun u h => h)
                  exact wp_value (w' := w') (ex_pick rfl x1) ⟨_, rfl, x2, Ext.refl _⟩
                · refine duty_free rfl fun a w' hE hF hA => ?_
                  have x1 := hA.pick 39 208 (.bool false) rfl rfl ⟨⟨39, .data⟩, by simp, rfl, rfl⟩ (fun u h => h)
                  exact wp_value (w' := w') (ex_move rfl) ⟨_, rfl, x1, Ext.refl _⟩
                · refine duty_yes rfl (p := _) rfl (d := 209) rfl (show 209 < 230 by decide) ⟨⟨40, .guard⟩, by simp, rfl, rfl⟩ (fun v w h => h) fun a w' hE hF hA => ?_
                  have x1 := hF.slot 24 _ (by decide) rfl
                  exact wp_value (w' := w') (ex_move rfl) ⟨_, rfl, x1, Ext.refl _⟩
                · refine duty_yes rfl (p := _) rfl (d := 209) rfl (show 209 < 230 by decide) ⟨⟨40, .guard⟩, by simp, rfl, rfl⟩ (fun v w h => h) fun a w' hE hF hA => ?_
                  have x1 := hA.pick 41 210 (.bool false) rfl rfl ⟨⟨41, .data⟩, by simp, rfl, rfl⟩ (fun u h => h)
                  exact wp_value (w' := w') (ex_move rfl) ⟨_, rfl, x1, Ext.refl _⟩
                · exact duty_no rfl (p := _) rfl (d := 211) rfl (show 211 < 230 by decide) ⟨⟨42, .guard⟩, by simp, rfl, rfl⟩ (fun v w h => h) fun w => rfl
                · refine duty_yes rfl (p := _) rfl (d := 209) rfl (show 209 < 230 by decide) ⟨⟨40, .guard⟩, by simp, rfl, rfl⟩ (fun v w h => h) fun a w' hE hF hA => ?_
                  have x1 := hA.pick 42 211 (.bool false) rfl rfl ⟨⟨42, .data⟩, by simp, rfl, rfl⟩ (fun u h => h)
                  exact wp_value (w' := w') (ex_pick rfl x1) ⟨_, rfl, rfl, Ext.refl _⟩
                · refine duty_yes rfl (p := _) rfl (d := 209) rfl (show 209 < 230 by decide) ⟨⟨40, .guard⟩, by simp, rfl, rfl⟩ (fun v w h => h) fun a w' hE hF hA => ?_
                  have x1 := hA.pick 44 213 (.bool false) rfl rfl ⟨⟨44, .data⟩, by simp, rfl, rfl⟩ (fun u h => h)
                  exact wp_value (w' := w') (ex_move rfl) ⟨_, rfl, x1, Ext.refl _⟩
                · exact duty_no rfl (p := _) rfl (d := 214) rfl (show 214 < 230 by decide) ⟨⟨45, .guard⟩, by simp, rfl, rfl⟩ (fun v w h => h) fun w => rfl
                · exact duty_no rfl (p := _) rfl (d := 214) rfl (show 214 < 230 by decide) ⟨⟨45, .guard⟩, by simp, rfl, rfl⟩ (fun v w h => h) fun w => rfl
                · exact duty_no rfl (p := _) rfl (d := 214) rfl (show 214 < 230 by decide) ⟨⟨45, .guard⟩, by simp, rfl, rfl⟩ (fun v w h => h) fun w => rfl
                · refine duty_yes rfl (p := _) rfl (d := 209) rfl (show 209 < 230 by decide) ⟨⟨40, .guard⟩, by simp, rfl, rfl⟩ (fun v w h => h) fun a w' hE hF hA => ?_
                  have x1 := hA.pick 45 214 (.bool false) rfl rfl ⟨⟨45, .data⟩, by simp, rfl, rfl⟩ (fun u h => h)
                  exact wp_value (w' := w') (ex_pick rfl x1) ⟨_, rfl, rfl, Ext.refl _⟩
                · refine duty_free rfl fun a w' hE hF hA => ?_
                  have x1 := hA.pick 40 209 (.bool false) rfl rfl ⟨⟨40, .data⟩, by simp, rfl, rfl⟩ (fun u h => h)
                  have x2 := hA.pick 49 218 (.bool false) rfl rfl ⟨⟨49, .data⟩, by simp, rfl, rfl⟩ (fun u h => h)
                  exact wp_value (w' := w') (ex_pick rfl x1) ⟨_, rfl, x2, Ext.refl _⟩
                · refine duty_free rfl fun a w' hE hF hA => ?_
                  have x1 := hA.pick 50 219 (.bool false) rfl rfl ⟨⟨50, .data⟩, by simp, rfl, rfl⟩ (fun u h => h)
                  exact wp_value (w' := w') (ex_move rfl) ⟨_, rfl, x1, Ext.refl _⟩
                · refine duty_yes rfl (p := _) rfl (d := 220) rfl (show 220 < 230 by decide) ⟨⟨51, .guard⟩, by simp, rfl, rfl⟩ (fun v w h => h) fun a w' hE hF hA => ?_
                  have x1 := hF.slot 13 _ (by decide) rfl
                  exact wp_value (w' := w') (ex_move rfl) ⟨_, rfl, x1, Ext.refl _⟩
                · refine duty_yes rfl (p := _) rfl (d := 220) rfl (show 220 < 230 by decide) ⟨⟨51, .guard⟩, by simp, rfl, rfl⟩ (fun v w h => h) fun a w' hE hF hA => ?_
                  have x1 := hF.slot 11 _ (by decide) rfl
                  exact wp_value (w' := w') (ex_move rfl) ⟨_, rfl, x1, Ext.refl _⟩
                · refine duty_yes rfl (p := _) rfl (d := 220) rfl (show 220 < 230 by decide) ⟨⟨51, .guard⟩, by simp, rfl, rfl⟩ (fun v w h => h) fun a w' hE hF hA => ?_
                  have x1 := hF.slot 21 _ (by decide) rfl
                  exact wp_value (w' := w') (ex_move rfl) ⟨_, rfl, x1, Ext.refl _⟩
                · refine duty_yes rfl (p := _) rfl (d := 220) rfl (show 220 < 230 by decide) ⟨⟨51, .guard⟩, by simp, rfl, rfl⟩ (fun v w h => h) fun a w' hE hF hA => ?_
                  have x1 := hA.pick 53 222 (.slice (some ⟨b1, o1, none⟩) dl c1) rfl rfl ⟨⟨53, .data⟩, by simp, rfl, rfl⟩ (fun u h => h)
                  have x2 := hA.pick 54 223 (.int .i64 k) rfl rfl ⟨⟨54, .data⟩, by simp, rfl, rfl⟩ (fun u h => h)
                  exact wp_value (w' := w') (v := .pointer (some ⟨b1, o1 + k * 2, none⟩)) (by simp only [execOp, x1, x2]; simp [go_sem, hk0, hk1]) ⟨_, rfl, rfl, Ext.refl _⟩
                · refine duty_yes rfl (p := _) rfl (d := 220) rfl (show 220 < 230 by decide) ⟨⟨51, .guard⟩, by simp, rfl, rfl⟩ (fun v w h => h) fun a w' hE hF hA => ?_
                  have x1 := hA.pick 55 224 (.pointer (some ⟨b1, o1 + k * 2, none⟩)) rfl rfl ⟨⟨55, .data⟩, by simp, rfl, rfl⟩ (fun u h => h)
                  exact wp_value (w' := w') (v := .pointer (some ⟨b1, o1 + k * 2, none⟩)) (by simp only [execOp, x1]; simp [go_sem]) ⟨_, rfl, rfl, Ext.refl _⟩
                · refine duty_yes rfl (p := _) rfl (d := 220) rfl (show 220 < 230 by decide) ⟨⟨51, .guard⟩, by simp, rfl, rfl⟩ (fun v w h => h) fun a w' hE hF hA => ?_
                  have x1 := hA.pick 56 225 (.pointer (some ⟨b1, o1 + k * 2, none⟩)) rfl rfl ⟨⟨56, .data⟩, by simp, rfl, rfl⟩ (fun u h => h)
                  exact wp_value (ex_cell rfl _ _ x1 ((hE.cell (World.block_lt_of_cell? _ _ p1)).trans p1) rfl Tryz.underlying9) ⟨_, rfl, rfl, Ext.refl _⟩
                · refine duty_yes rfl (p := _) rfl (d := 220) rfl (show 220 < 230 by decide) ⟨⟨51, .guard⟩, by simp, rfl, rfl⟩ (fun v w h => h) fun a w' hE hF hA => ?_
                  have x1 := hA.pick 52 221 (.string pp) rfl rfl ⟨⟨52, .data⟩, by simp, rfl, rfl⟩ (fun u h => h)
                  have x2 := hA.pick 57 226 (.string q) rfl rfl ⟨⟨57, .data⟩, by simp, rfl, rfl⟩ (fun u h => h)
                  refine wp_enter (ex_call rfl (enters_f Tryz.func56 (by kernel_rfl) rfl)) (by simp only [List.map_toArray, List.map_cons, List.map_nil, x1, x2]; exact CU.out _) ?_
                  rintro e w4 ⟨rfl, hb⟩
                  exact ⟨_, rfl, _, rfl, rfl, hb⟩
                · refine duty_yes rfl (p := _) rfl (d := 220) rfl (show 220 < 230 by decide) ⟨⟨51, .guard⟩, by simp, rfl, rfl⟩ (fun v w h => h) fun a w' hE hF hA => ?_
                  have x1 := hA.pick 58 227 (.bool true) rfl rfl ⟨⟨58, .data⟩, by simp, rfl, rfl⟩ (fun u h => h)
                  exact wp_value (w' := w') (v := .bool false) (by simp only [execOp, x1]; simp [go_sem]) ⟨_, rfl, rfl, Ext.refl _⟩
                · refine duty_free rfl fun a w' hE hF hA => ?_
                  have x1 := hA.pick 51 220 (.bool false) rfl rfl ⟨⟨51, .data⟩, by simp, rfl, rfl⟩ (fun u h => h)
                  have x2 := hA.pick 59 228 (.bool false) rfl rfl ⟨⟨59, .data⟩, by simp, rfl, rfl⟩ (fun u h => h)
                  exact wp_value (w' := w') (ex_pick rfl x1) ⟨_, rfl, x2, Ext.refl _⟩
              case stay => trivial
              case rest =>
                intro W12 hE12
                simp only [forS]
                have HE12 := Lib.hid (HEX.out.trans hE12)
                clear hE12 p1 p2 r1 r2 hbn hby CU
                rw [filled_tail _ _ _ _ 169 rfl rfl rfl]
                simp only [List.take_succ_cons, List.take_zero, List.cons_append, List.nil_append]
                simp only [Exit.inBlock, Exit.then, Act.put]
                first | (rename_i hK; refine hK _ _ ?_; clear hK) | (rename_i hK _; refine hK _ _ ?_; clear hK) | (rename_i hK _ _; refine hK _ _ ?_; clear hK) | (rename_i hK _ _ _; refine hK _ _ ?_; clear hK)
                go_wp2
                go_roundw
                case rel => exact ⟨k + 1, by omega, by go_num, HE12.out⟩
                case measure => simp [intOf]; omega
            · have r2 : wr.cell? ⟨b2, o2 + k * 2 + 1, none⟩ = some (.int .i64 3) := r2
              have C1 := Lib.hid (CG1.out wr HE.out)
              clear CG1
              go_wp2_with fail
              refine C1.out.mono ?_
              rintro e W10 ⟨v3, rfl, hv3, hE10⟩
              rw [hgA] at hv3 ⊢
              simp only [Option.getD_some, Option.getD_none] at hv3
              simp only [Option.isSome_some, Option.isSome_none]
              obtain ⟨da, dc, aa, ac, X10, e0, hset3, hbx3, hEX3, hD3, hA3⟩ := box_node hv3 fun b hb => hb.2
              subst e0
              have hE10 : Ext wr W10 := hE10
              have hEX := hE10.trans hEX3
              have hEV := HE.out.trans hEX
              have p1 : X10.cell? ⟨b1, o1 + k * 2, none⟩ = some (.string q) := (hEX.cell (World.block_lt_of_cell? _ _ p1)).trans p1
              have p2 : X10.cell? ⟨b2, o2 + k * 2, none⟩ = some (.string q) := (hEX.cell (World.block_lt_of_cell? _ _ p2)).trans p2
              have r1 : X10.cell? ⟨b1, o1 + k * 2 + 1, none⟩ = some (.int .i64 3) := (hEX.cell (World.block_lt_of_cell? _ _ r1)).trans r1
              have r2 : X10.cell? ⟨b2, o2 + k * 2 + 1, none⟩ = some (.int .i64 3) := (hEX.cell (World.block_lt_of_cell? _ _ r2)).trans r2
              have C2 := Lib.hid (CG2.out X10 hEV)
              have HSET1 := Lib.hid hset3
              have HNEW1 := Lib.hid (heap_alloc_new W10 (.cells zeroNd 44))
              have HBX := Lib.hid hbx3
              have HEV := Lib.hid hEV
              have HD3 := Lib.hid hD3
              have HA3 := Lib.hid hA3
              unfold ndC at HSET1 ⊢
              unfold zeroNd at HSET1 HNEW1
              clear hset3 hbx3 hEX3 hE10 hEX hEV hv3 C1 CG2 hD3 hA3 HE
              go_wp2_with (refine wpList_store_row rfl 44 (.tmp 23) (.tmp 157) rfl W10.heap.size _ rfl rfl 44 _ HNEW1.out sizeNd rfl (cells_node _ da aa _ _ dc ac) ?_; rw [HSET1.out])
              refine C2.out.mono ?_
              rintro e W11 ⟨v4, rfl, hv4, hE11⟩
              rw [hgB] at hv4 ⊢
              simp only [Option.getD_some, Option.getD_none] at hv4
              simp only [Option.isSome_some, Option.isSome_none]
              obtain ⟨db, eb, ab, fb, X11, e0, hset4, hbx4, hEX4, hD4, hA4⟩ := box_node hv4 fun b hb => hb.2
              subst e0
              have hE11 : Ext X10 W11 := hE11
              have hEX := hE11.trans hEX4
              have p1 : X11.cell? ⟨b1, o1 + k * 2, none⟩ = some (.string q) := (hEX.cell (World.block_lt_of_cell? _ _ p1)).trans p1
              have p2 : X11.cell? ⟨b2, o2 + k * 2, none⟩ = some (.string q) := (hEX.cell (World.block_lt_of_cell? _ _ p2)).trans p2
              have r1 : X11.cell? ⟨b1, o1 + k * 2 + 1, none⟩ = some (.int .i64 3) := (hEX.cell (World.block_lt_of_cell? _ _ r1)).trans r1
              have r2 : X11.cell? ⟨b2, o2 + k * 2 + 1, none⟩ = some (.int .i64 3) := (hEX.cell (World.block_lt_of_cell? _ _ r2)).trans r2
              have HSET2 := Lib.hid hset4
              have HNEW2 := Lib.hid (heap_alloc_new W11 (.cells zeroNd 44))
              have HBN := Lib.hid ((hEX.block _ (Array.getElem?_eq_some_iff.1 HBX.out).1).trans HBX.out)
              have HBY := Lib.hid hbx4
              have HEX := Lib.hid (HEV.out.trans hEX)
              have hfn : Fit n := (right_fit (HA.out.at hgA).2).1
              have hfy : Fit y := (right_fit (HB.out.at hgB).2).1
              have CS := Lib.hid (show ∀ W, Ext X11 W → Calls Tryz.prog 55 #[.agg (ndC n (.slice da n.data.length dc) (.slice aa n.acl.length ac)), .agg (ndC y (.slice db y.data.length eb) (.slice ab y.acl.length fb))] W fun e w' => e = .returned (.bool false) ∧ Ext W w' from fun W hE => by
                have := rsame_any n y da aa db ab dc ac eb fb W hfn hfy (HD3.out.ext (hEX.trans hE)) (HA3.out.ext (hEX.trans hE)) (hD4.ext hE) (hA4.ext hE)
                rw [hs] at this
                exact this)
              clear hfn hfy hs
              unfold ndC at HSET2 ⊢
              unfold zeroNd at HSET2 HNEW2
              clear hset4 hbx4 hEX4 hE11 hEX hv4 C2 hD4 hA4 HD3 HA3 HBX HEV hgA hgB
              have hbn := HBN.out
              have hby := HBY.out
              go_wp2_with (first | (refine wpList_store_row rfl 44 (.tmp 25) (.tmp 167) rfl W11.heap.size _ rfl rfl 44 _ HNEW2.out sizeNd rfl (cells_node _ db ab _ _ eb fb) ?_; rw [HSET2.out]))
              refine wp_region_P (by kernel_rfl) (region_sp 230 [.val (.slice (some ⟨b2, o2, none⟩) dl c2), .val (.int .i64 k), .val (.pointer (some ⟨b2, o2 + k * 2, none⟩)), .val (.pointer (some ⟨b2, o2 + k * 2, none⟩)), .val (.string q), .val (.slice (some ⟨b1, o1, none⟩) dl c1), .val (.int .i64 k), .val (.pointer (some ⟨b1, o1 + k * 2, none⟩)), .val (.pointer (some ⟨b1, o1 + k * 2, none⟩)), .val (.string q), .val (.bool false), .val (.bool false), .val (.slice (some ⟨b2, o2, none⟩) dl c2), .val (.int .i64 k), .val (.pointer (some ⟨b2, o2 + k * 2, none⟩)), .val (.pointer (some ⟨b2, o2 + k * 2 + 1, none⟩)), .val (.int .i64 3), .val (.int .i64 3), .val (.bool false), .val (.bool false), .val (.bool false), .val (.bool true), .val (.slice (some ⟨b1, o1, none⟩) dl c1), .val (.int .i64 k), .val (.pointer (some ⟨b1, o1 + k * 2, none⟩)), .val (.pointer (some ⟨b1, o1 + k * 2 + 1, none⟩)), .val (.int .i64 3), .val (.bool true), .val (.bool false), .val (.bool false), .val (.bool false), .val (.bool true), .val (.slice (some ⟨b1, o1, none⟩) dl c1), .val (.int .i64 k), .val (.pointer (some ⟨b1, o1 + k * 2, none⟩)), .val (.pointer (some ⟨b1, o1 + k * 2 + 1, none⟩)), .val (.int .i64 3), .val (.bool true), .val (.bool false), .val (.bool false), .val (.bool false), .val (.bool true), .val (.bool true), .val (.bool true), .val (.bool true), .val (.bool true), .val (.agg (ndC n (.slice da n.data.length dc) (.slice aa n.acl.length ac))), .val (.agg (ndC y (.slice db y.data.length eb) (.slice ab y.acl.length fb))), .val (.bool false), .val (.bool false), .val (.bool false), .val (.bool false), .val (.string pp), .val (.slice (some ⟨b1, o1, none⟩) dl c1), .val (.int .i64 k), .val (.pointer (some ⟨b1, o1 + k * 2, none⟩)), .val (.pointer (some ⟨b1, o1 + k * 2, none⟩)), .val (.string q), .val (.bool true), .val (.bool false), .val (.bool false)] ?stay rfl (by decide) rfl ?duties ?rest)
              case duties =>
                refine ⟨?_, ?_, ?_, ?_, ?_, ?_, ?_, ?_, ?_, ?_, ?_, ?_, ?_, ?_, ?_, ?_, ?_, ?_, ?_, ?_, ?_, ?_, ?_, ?_, ?_, ?_, ?_, ?_, ?_, ?_, ?_, ?_, ?_, ?_, ?_, ?_, ?_, ?_, ?_, ?_, ?_, ?_, ?_, ?_, ?_, ?_, ?_, ?_, ?_, ?_, ?_, ?_, ?_, ?_, ?_, ?_, ?_, ?_, ?_, ?_, ?_, trivial⟩
                · refine duty_free rfl fun a w' hE hF hA => ?_
                  have x1 := hF.slot 12 _ (by decide) rfl
                  exact wp_value (w' := w') (ex_move rfl) ⟨_, rfl, x1, Ext.refl _⟩
                · refine duty_free rfl fun a w' hE hF hA => ?_
                  have x1 := hF.slot 21 _ (by decide) rfl
                  exact wp_value (w' := w') (ex_move rfl) ⟨_, rfl, x1, Ext.refl _⟩
                · refine duty_free rfl fun a w' hE hF hA => ?_
                  have x1 := hA.pick 0 169 (.slice (some ⟨b2, o2, none⟩) dl c2) rfl rfl ⟨⟨0, .data⟩, by simp, rfl, rfl⟩ (fun u h => h)
                  have x2 := hA.pick 1 170 (.int .i64 k) rfl rfl ⟨⟨1, .data⟩, by simp, rfl, rfl⟩ (fun u h => h)
                  exact wp_value (w' := w') (v := .pointer (some ⟨b2, o2 + k * 2, none⟩)) (by simp only [execOp, x1, x2]; simp [go_sem, hk0, hk1]) ⟨_, rfl, rfl, Ext.refl _⟩
                · refine duty_free rfl fun a w' hE hF hA => ?_
                  have x1 := hA.pick 2 171 (.pointer (some ⟨b2, o2 + k * 2, none⟩)) rfl rfl ⟨⟨2, .data⟩, by simp, rfl, rfl⟩ (fun u h => h)
                  exact wp_value (w' := w') (v := .pointer (some ⟨b2, o2 + k * 2, none⟩)) (by simp only [execOp, x1]; simp [go_sem]) ⟨_, rfl, rfl, Ext.refl _⟩
                · refine duty_free rfl fun a w' hE hF hA => ?_
                  have x1 := hA.pick 3 172 (.pointer (some ⟨b2, o2 + k * 2, none⟩)) rfl rfl ⟨⟨3, .data⟩, by simp, rfl, rfl⟩ (fun u h => h)
                  exact wp_value (ex_cell rfl _ _ x1 ((hE.cell (World.block_lt_of_cell? _ _ p2)).trans p2) rfl Tryz.underlying9) ⟨_, rfl, rfl, Ext.refl _⟩
                · refine duty_free rfl fun a w' hE hF hA => ?_
                  have x1 := hF.slot 11 _ (by decide) rfl
                  exact wp_value (w' := w') (ex_move rfl) ⟨_, rfl, x1, Ext.refl _⟩
                · refine duty_free rfl fun a w' hE hF hA => ?_
                  have x1 := hF.slot 21 _ (by decide) rfl
                  exact wp_value (w' := w') (ex_move rfl) ⟨_, rfl, x1, Ext.refl _⟩
                · refine duty_free rfl fun a w' hE hF hA => ?_
                  have x1 := hA.pick 5 174 (.slice (some ⟨b1, o1, none⟩) dl c1) rfl rfl ⟨⟨5, .data⟩, by simp, rfl, rfl⟩ (fun u h => h)
                  have x2 := hA.pick 6 175 (.int .i64 k) rfl rfl ⟨⟨6, .data⟩, by simp, rfl, rfl⟩ (fun u h => h)
                  exact wp_value (w' := w') (v := .pointer (some ⟨b1, o1 + k * 2, none⟩)) (by simp only [execOp, x1, x2]; simp [go_sem, hk0, hk1]) ⟨_, rfl, rfl, Ext.refl _⟩
                · refine duty_free rfl fun a w' hE hF hA => ?_
                  have x1 := hA.pick 7 176 (.pointer (some ⟨b1, o1 + k * 2, none⟩)) rfl rfl ⟨⟨7, .data⟩, by simp, rfl, rfl⟩ (fun u h => h)
                  exact wp_value (w' := w') (v := .pointer (some ⟨b1, o1 + k * 2, none⟩)) (by simp only [execOp, x1]; simp [go_sem]) ⟨_, rfl, rfl, Ext.refl _⟩
                · refine duty_free rfl fun a w' hE hF hA => ?_
                  have x1 := hA.pick 8 177 (.pointer (some ⟨b1, o1 + k * 2, none⟩)) rfl rfl ⟨⟨8, .data⟩, by simp, rfl, rfl⟩ (fun u h => h)
                  exact wp_value (ex_cell rfl _ _ x1 ((hE.cell (World.block_lt_of_cell? _ _ p1)).trans p1) rfl Tryz.underlying9) ⟨_, rfl, rfl, Ext.refl _⟩
                · refine duty_free rfl fun a w' hE hF hA => ?_
                  have x1 := hA.pick 4 173 (.string q) rfl rfl ⟨⟨4, .data⟩, by simp, rfl, rfl⟩ (fun u h => h)
                  have x2 := hA.pick 9 178 (.string q) rfl rfl ⟨⟨9, .data⟩, by simp, rfl, rfl⟩ (fun u h => h)
                  exact wp_value (w' := w') (v := .bool false) (by simp only [execOp, x1, x2]; simp [go_sem]) ⟨_, rfl, rfl, Ext.refl _⟩
                · refine duty_free rfl fun a w' hE hF hA => ?_
                  have x1 := hA.pick 10 179 (.bool false) rfl rfl ⟨⟨10, .data⟩, by simp, rfl, rfl⟩ (fun u h => h)
                  exact wp_value (w' := w') (ex_move rfl) ⟨_, rfl, x1, Ext.refl _⟩
                · refine duty_yes rfl (p := _) rfl (d := 180) rfl (show 180 < 230 by decide) ⟨⟨11, .guard⟩, by simp, rfl, rfl⟩ (fun v w h => h) fun a w' hE hF hA => ?_
                  have x1 := hF.slot 12 _ (by decide) rfl
                  exact wp_value (w' := w') (ex_move rfl) ⟨_, rfl, x1, Ext.refl _⟩
                · refine duty_yes rfl (p := _) rfl (d := 180) rfl (show 180 < 230 by decide) ⟨⟨11, .guard⟩, by simp, rfl, rfl⟩ (fun v w h => h) fun a w' hE hF hA => ?_
                  have x1 := hF.slot 21 _ (by decide) rfl
                  exact wp_value (w' := w') (ex_move rfl) ⟨_, rfl, x1, Ext.refl _⟩
                · refine duty_yes rfl (p := _) rfl (d := 180) rfl (show 180 < 230 by decide) ⟨⟨11, .guard⟩, by simp, rfl, rfl⟩ (fun v w h => h) fun a w' hE hF hA => ?_
                  have x1 := hA.pick 12 181 (.slice (some ⟨b2, o2, none⟩) dl c2) rfl rfl ⟨⟨12, .data⟩, by simp, rfl, rfl⟩ (fun u h => h)
                  have x2 := hA.pick 13 182 (.int .i64 k) rfl rfl ⟨⟨13, .data⟩, by simp, rfl, rfl⟩ (fun u h => h)
                  exact wp_value (w' := w') (v := .pointer (some ⟨b2, o2 + k * 2, none⟩)) (by simp only [execOp, x1, x2]; simp [go_sem, hk0, hk1]) ⟨_, rfl, rfl, Ext.refl _⟩
                · refine duty_yes rfl (p := _) rfl (d := 180) rfl (show 180 < 230 by decide) ⟨⟨11, .guard⟩, by simp, rfl, rfl⟩ (fun v w h => h) fun a w' hE hF hA => ?_
                  have x1 := hA.pick 14 183 (.pointer (some ⟨b2, o2 + k * 2, none⟩)) rfl rfl ⟨⟨14, .data⟩, by simp, rfl, rfl⟩ (fun u h => h)
                  exact wp_value (w' := w') (v := .pointer (some ⟨b2, o2 + k * 2 + 1, none⟩)) (by simp only [execOp, x1]; simp [go_sem]) ⟨_, rfl, rfl, Ext.refl _⟩
                · refine duty_yes rfl (p := _) rfl (d := 180) rfl (show 180 < 230 by decide) ⟨⟨11, .guard⟩, by simp, rfl, rfl⟩ (fun v w h => h) fun a w' hE hF hA => ?_
                  have x1 := hA.pick 15 184 (.pointer (some ⟨b2, o2 + k * 2 + 1, none⟩)) rfl rfl ⟨⟨15, .data⟩, by simp, rfl, rfl⟩ (fun u h => h)
                  exact wp_value (ex_cell rfl _ _ x1 ((hE.cell (World.block_lt_of_cell? _ _ r2)).trans r2) rfl Tryz.underlying3) ⟨_, rfl, rfl, Ext.refl _⟩
                · refine duty_yes rfl (p := _) rfl (d := 180) rfl (show 180 < 230 by decide) ⟨⟨11, .guard⟩, by simp, rfl, rfl⟩ (fun v w h => h) fun a w' hE hF hA => ?_
                  have x1 := hF.slot 22 _ (by decide) rfl
                  exact wp_value (w' := w') (ex_move rfl) ⟨_, rfl, x1, Ext.refl _⟩
                · refine duty_yes rfl (p := _) rfl (d := 180) rfl (show 180 < 230 by decide) ⟨⟨11, .guard⟩, by simp, rfl, rfl⟩ (fun v w h => h) fun a w' hE hF hA => ?_
                  have x1 := hA.pick 16 185 (.int .i64 3) rfl rfl ⟨⟨16, .data⟩, by simp, rfl, rfl⟩ (fun u h => h)
                  have x2 := hA.pick 17 186 (.int .i64 3) rfl rfl ⟨⟨17, .data⟩, by simp, rfl, rfl⟩ (fun u h => h)
                  exact wp_value (w' := w') (v := .bool false) (by simp only [execOp, x1, x2]; simp [go_sem]) ⟨_, rfl, rfl, Ext.refl _⟩
                · refine duty_free rfl fun a w' hE hF hA => ?_
                  have x1 := hA.pick 11 180 (.bool false) rfl rfl ⟨⟨11, .data⟩, by simp, rfl, rfl⟩ (fun u h => h)
                  have x2 := hA.pick 18 187 (.bool false) rfl rfl ⟨⟨18, .data⟩, by simp, rfl, rfl⟩ (fun u h => h)
                  exact wp_value (w' := w') (ex_pick rfl x1) ⟨_, rfl, x2, Ext.refl _⟩
                · refine duty_free rfl fun a w' hE hF hA => ?_
                  have x1 := hA.pick 19 188 (.bool false) rfl rfl ⟨⟨19, .data⟩, by simp, rfl, rfl⟩ (fun u h => h)
                  exact wp_value (w' := w') (ex_move rfl) ⟨_, rfl, x1, Ext.refl _⟩
                · refine duty_yes rfl (p := _) rfl (d := 189) rfl (show 189 < 230 by decide) ⟨⟨20, .guard⟩, by simp, rfl, rfl⟩ (fun v w h => h) fun a w' hE hF hA => ?_
                  have x1 := hF.slot 24 _ (by decide) rfl
                  exact wp_value (w' := w') (ex_move rfl) ⟨_, rfl, x1, Ext.refl _⟩
                · refine duty_yes rfl (p := _) rfl (d := 189) rfl (show 189 < 230 by decide) ⟨⟨20, .guard⟩, by simp, rfl, rfl⟩ (fun v w h => h) fun a w' hE hF hA => ?_
                  have x1 := hF.slot 11 _ (by decide) rfl
                  exact wp_value (w' := w') (ex_move rfl) ⟨_, rfl, x1, Ext.refl _⟩
                · refine duty_yes rfl (p := _) rfl (d := 189) rfl (show 189 < 230 by decide) ⟨⟨20, .guard⟩, by simp, rfl, rfl⟩ (fun v w h => h) fun a w' hE hF hA => ?_
                  have x1 := hF.slot 21 _ (by decide) rfl
                  exact wp_value (w' := w') (ex_move rfl) ⟨_, rfl, x1, Ext.refl _⟩
                · refine duty_yes rfl (p := _) rfl (d := 189) rfl (show 189 < 230 by decide) ⟨⟨20, .guard⟩, by simp, rfl, rfl⟩ (fun v w h => h) fun a w' hE hF hA => ?_
                  have x1 := hA.pick 22 191 (.slice (some ⟨b1, o1, none⟩) dl c1) rfl rfl ⟨⟨22, .data⟩, by simp, rfl, rfl⟩ (fun u h => h)
                  have x2 := hA.pick 23 192 (.int .i64 k) rfl rfl ⟨⟨23, .data⟩, by simp, rfl, rfl⟩ (fun u h => h)
                  exact wp_value (w' := w') (v := .pointer (some ⟨b1, o1 + k * 2, none⟩)) (by simp only [execOp, x1, x2]; simp [go_sem, hk0, hk1]) ⟨_, rfl, rfl, Ext.refl _⟩
                · refine duty_yes rfl (p := _) rfl (d := 189) rfl (show 189 < 230 by decide) ⟨⟨20, .guard⟩, by simp, rfl, rfl⟩ (fun v w h => h) fun a w' hE hF hA => ?_
                  have x1 := hA.pick 24 193 (.pointer (some ⟨b1, o1 + k * 2, none⟩)) rfl rfl ⟨⟨24, .data⟩, by simp, rfl, rfl⟩ (fun u h => h)
                  exact wp_value (w' := w') (v := .pointer (some ⟨b1, o1 + k * 2 + 1, none⟩)) (by simp only [execOp, x1]; simp [go_sem]) ⟨_, rfl, rfl, Ext.refl _⟩
                · refine duty_yes rfl (p := _) rfl (d := 189) rfl (show 189 < 230 by decide) ⟨⟨20, .guard⟩, by simp, rfl, rfl⟩ (fun v w h => h) fun a w' hE hF hA => ?_
                  have x1 := hA.pick 25 194 (.pointer (some ⟨b1, o1 + k * 2 + 1, none⟩)) rfl rfl ⟨⟨25, .data⟩, by simp, rfl, rfl⟩ (fun u h => h)
                  exact wp_value (ex_cell rfl _ _ x1 ((hE.cell (World.block_lt_of_cell? _ _ r1)).trans r1) rfl Tryz.underlying3) ⟨_, rfl, rfl, Ext.refl _⟩
                · refine duty_yes rfl (p := _) rfl (d := 189) rfl (show 189 < 230 by decide) ⟨⟨20, .guard⟩, by simp, rfl, rfl⟩ (fun v w h => h) fun a w' hE hF hA => ?_
                  have x1 := hA.pick 26 195 (.int .i64 3) rfl rfl ⟨⟨26, .data⟩, by simp, rfl, rfl⟩ (fun u h => h)
                  exact wp_value (w' := w') (v := .bool true) (by simp only [execOp, x1]; simp [go_sem]) ⟨_, rfl, rfl, Ext.refl _⟩
                · refine duty_yes rfl (p := _) rfl (d := 189) rfl (show 189 < 230 by decide) ⟨⟨20, .guard⟩, by simp, rfl, rfl⟩ (fun v w h => h) fun a w' hE hF hA => ?_
                  have x1 := hA.pick 21 190 (.bool true) rfl rfl ⟨⟨21, .data⟩, by simp, rfl, rfl⟩ (fun u h => h)
                  have x2 := hA.pick 27 196 (.bool true) rfl rfl ⟨⟨27, .data⟩, by simp, rfl, rfl⟩ (fun u h => h)
                  exact wp_value (w' := w') (v := .bool false) (by simp only [execOp, x1, x2]; simp [go_sem]) ⟨_, rfl, rfl, Ext.refl _⟩
                · refine duty_free rfl fun a w' hE hF hA => ?_
                  have x1 := hA.pick 20 189 (.bool false) rfl rfl ⟨⟨20, .data⟩, by simp, rfl, rfl⟩ (fun u h => h)
                  have x2 := hA.pick 28 197 (.bool false) rfl rfl ⟨⟨28, .data⟩, by simp, rfl, rfl⟩ (fun u h => h)
                  exact wp_value (w' := w') (ex_pick rfl x1) ⟨_, rfl, x2, Ext.refl _⟩
                · refine duty_free rfl fun a w' hE hF hA => ?_
                  have x1 := hA.pick 29 198 (.bool false) rfl rfl ⟨⟨29, .data⟩, by simp, rfl, rfl⟩ (fun u h => h)
                  exact wp_value (w' := w') (ex_move rfl) ⟨_, rfl, x1, Ext.refl _⟩
                · refine duty_yes rfl (p := _) rfl (d := 199) rfl (show 199 < 230 by decide) ⟨⟨30, .guard⟩, by simp, rfl, rfl⟩ (fun v w h => h) fun a w' hE hF hA => ?_
                  have x1 := hF.slot 26 _ (by decide) rfl
                  exact wp_value (w' := w') (ex_move rfl) ⟨_, rfl, x1, Ext.refl _⟩
                · refine duty_yes rfl (p := _) rfl (d := 199) rfl (show 199 < 230 by decide) ⟨⟨30, .guard⟩, by simp, rfl, rfl⟩ (fun v w h => h) fun a w' hE hF hA => ?_
                  have x1 := hF.slot 11 _ (by decide) rfl
                  exact wp_value (w' := w') (ex_move rfl) ⟨_, rfl, x1, Ext.refl _⟩
                · refine duty_yes rfl (p := _) rfl (d := 199) rfl (show 199 < 230 by decide) ⟨⟨30, .guard⟩, by simp, rfl, rfl⟩ (fun v w h => h) fun a w' hE hF hA => ?_
                  have x1 := hF.slot 21 _ (by decide) rfl
                  exact wp_value (w' := w') (ex_move rfl) ⟨_, rfl, x1, Ext.refl _⟩
                · refine duty_yes rfl (p := _) rfl (d := 199) rfl (show 199 < 230 by decide) ⟨⟨30, .guard⟩, by simp, rfl, rfl⟩ (fun v w h => h) fun a w' hE hF hA => ?_
                  have x1 := hA.pick 32 201 (.slice (some ⟨b1, o1, none⟩) dl c1) rfl rfl ⟨⟨32, .data⟩, by simp, rfl, rfl⟩ (fun u h => h)
                  have x2 := hA.pick 33 202 (.int .i64 k) rfl rfl ⟨⟨33, .data⟩, by simp, rfl, rfl⟩ (fun u h => h)
                  exact wp_value (w' := w') (v := .pointer (some ⟨b1, o1 + k * 2, none⟩)) (by simp only [execOp, x1, x2]; simp [go_sem, hk0, hk1]) ⟨_, rfl, rfl, Ext.refl _⟩
                · refine duty_yes rfl (p := _) rfl (d := 199) rfl (show 199 < 230 by decide) ⟨⟨30, .guard⟩, by simp, rfl, rfl⟩ (fun v w h => h) fun a w' hE hF hA => ?_
                  have x1 := hA.pick 34 203 (.pointer (some ⟨b1, o1 + k * 2, none⟩)) rfl rfl ⟨⟨34, .data⟩, by simp, rfl, rfl⟩ (fun u h => h)
                  exact wp_value (w' := w') (v := .pointer (some ⟨b1, o1 + k * 2 + 1, none⟩)) (by simp only [execOp, x1]; simp [go_sem]) ⟨_, rfl, rfl, Ext.refl _⟩
                · refine duty_yes rfl (p := _) rfl (d := 199) rfl (show 199 < 230 by decide) ⟨⟨30, .guard⟩, by simp, rfl, rfl⟩ (fun v w h => h) fun a w' hE hF hA => ?_
                  have x1 := hA.pick 35 204 (.pointer (some ⟨b1, o1 + k * 2 + 1, none⟩)) rfl rfl ⟨⟨35, .data⟩, by simp, rfl, rfl⟩ (fun u h => h)
                  exact wp_value (ex_cell rfl _ _ x1 ((hE.cell (World.block_lt_of_cell? _ _ r1)).trans r1) rfl Tryz.underlying3) ⟨_, rfl, rfl, Ext.refl _⟩
                · refine duty_yes rfl (p := _) rfl (d := 199) rfl (show 199 < 230 by decide) ⟨⟨30, .guard⟩, by simp, rfl, rfl⟩ (fun v w h => h) fun a w' hE hF hA => ?_
                  have x1 := hA.pick 36 205 (.int .i64 3) rfl rfl ⟨⟨36, .data⟩, by simp, rfl, rfl⟩ (fun u h => h)
                  exact wp_value (w' := w') (v := .bool true) (by simp only [execOp, x1]; simp [go_sem]) ⟨_, rfl, rfl, Ext.refl _⟩
                · refine duty_yes rfl (p := _) rfl (d := 199) rfl (show 199 < 230 by decide) ⟨⟨30, .guard⟩, by simp, rfl, rfl⟩ (fun v w h => h) fun a w' hE hF hA => ?_
                  have x1 := hA.pick 31 200 (.bool true) rfl rfl ⟨⟨31, .data⟩, by simp, rfl, rfl⟩ (fun u h => h)
                  have x2 := hA.pick 37 206 (.bool true) rfl rfl ⟨⟨37, .data⟩, by simp, rfl, rfl⟩ (fun u h => h)
                  exact wp_value (w' := w') (v := .bool false) (by simp only [execOp, x1, x2]; simp [go_sem]) ⟨_, rfl, rfl, Ext.refl _⟩
                · refine duty_free rfl fun a w' hE hF hA => ?_
                  have x1 := hA.pick 30 199 (.bool false) rfl rfl ⟨⟨30, .data⟩, by simp, rfl, rfl⟩ (fun u h => h)
                  have x2 := hA.pick 38 207 (.bool false) rfl rfl ⟨⟨38, .data⟩, by simp, rfl, rfl⟩ (fun u h => h)
                  exact wp_value (w' := w') (ex_pick rfl x1) ⟨_, rfl, x2, Ext.refl _⟩
                · refine duty_free rfl fun a w' hE hF hA => ?_
                  have x1 := hA.pick 39 208 (.bool false) rfl rfl ⟨⟨39, .data⟩, by simp, rfl, rfl⟩ (fun u h => h)
                  exact wp_value (w' := w') (ex_move rfl) ⟨_, rfl, x1, Ext.refl _⟩
                · refine duty_yes rfl (p := _) rfl (d := 209) rfl (show 209 < 230 by decide) ⟨⟨40, .guard⟩, by simp, rfl, rfl⟩ (fun v w h => h) fun a w' hE hF hA => ?_
                  have x1 := hF.slot 24 _ (by decide) rfl
                  exact wp_value (w' := w') (ex_move rfl) ⟨_, rfl, x1, Ext.refl _⟩
                · refine duty_yes rfl (p := _) rfl (d := 209) rfl (show 209 < 230 by decide) ⟨⟨40, .guard⟩, by simp, rfl, rfl⟩ (fun v w h => h) fun a w' hE hF hA => ?_
                  have x1 := hA.pick 41 210 (.bool true) rfl rfl ⟨⟨41, .data⟩, by simp, rfl, rfl⟩ (fun u h => h)
                  exact wp_value (w' := w') (ex_move rfl) ⟨_, rfl, x1, Ext.refl _⟩
                · refine duty_yes rfl (p := _) rfl (d := 211) rfl (show 211 < 230 by decide) ⟨⟨42, .guard⟩, by simp, rfl, rfl⟩ (fun v w h => h) fun a w' hE hF hA => ?_
                  have x1 := hF.slot 26 _ (by decide) rfl
                  exact wp_value (w' := w') (ex_move rfl) ⟨_, rfl, x1, Ext.refl _⟩
                · refine duty_yes rfl (p := _) rfl (d := 209) rfl (show 209 < 230 by decide) ⟨⟨40, .guard⟩, by simp, rfl, rfl⟩ (fun v w h => h) fun a w' hE hF hA => ?_
                  have x1 := hA.pick 42 211 (.bool true) rfl rfl ⟨⟨42, .data⟩, by simp, rfl, rfl⟩ (fun u h => h)
                  have x2 := hA.pick 43 212 (.bool true) rfl rfl ⟨⟨43, .data⟩, by simp, rfl, rfl⟩ (fun u h => h)
                  exact wp_value (w' := w') (ex_pick rfl x1) ⟨_, rfl, x2, Ext.refl _⟩
                · refine duty_yes rfl (p := _) rfl (d := 209) rfl (show 209 < 230 by decide) ⟨⟨40, .guard⟩, by simp, rfl, rfl⟩ (fun v w h => h) fun a w' hE hF hA => ?_
                  have x1 := hA.pick 44 213 (.bool true) rfl rfl ⟨⟨44, .data⟩, by simp, rfl, rfl⟩ (fun u h => h)
                  exact wp_value (w' := w') (ex_move rfl) ⟨_, rfl, x1, Ext.refl _⟩
                · refine duty_yes rfl (p := _) rfl (d := 214) rfl (show 214 < 230 by decide) ⟨⟨45, .guard⟩, by simp, rfl, rfl⟩ (fun v w h => h) fun a w' hE hF hA => ?_
                  have x1 := hF.slot 23 _ (by decide) rfl
                  exact wp_value (ex_load_row rfl _ x1 44 _ (0, 0) _ ((hE.block _ (Array.getElem?_eq_some_iff.1 hbn).1).trans hbn) Tryz.underlying44 rfl sizeNd) ⟨_, rfl, rfl, Ext.refl _⟩
                · refine duty_yes rfl (p := _) rfl (d := 214) rfl (show 214 < 230 by decide) ⟨⟨45, .guard⟩, by simp, rfl, rfl⟩ (fun v w h => h) fun a w' hE hF hA => ?_
                  have x1 := hF.slot 25 _ (by decide) rfl
                  exact wp_value (ex_load_row rfl _ x1 44 _ (0, 0) _ ((hE.block _ (Array.getElem?_eq_some_iff.1 hby).1).trans hby) Tryz.underlying44 rfl sizeNd) ⟨_, rfl, rfl, Ext.refl _⟩
                · refine duty_yes rfl (p := _) rfl (d := 214) rfl (show 214 < 230 by decide) ⟨⟨45, .guard⟩, by simp, rfl, rfl⟩ (fun v w h => h) fun a w' hE hF hA => ?_
                  have x1 := hA.pick 46 215 (.agg (ndC n (.slice da n.data.length dc) (.slice aa n.acl.length ac))) rfl rfl ⟨⟨46, .data⟩, by simp, rfl, rfl⟩ (fun u h => h)
                  have x2 := hA.pick 47 216 (.agg (ndC y (.slice db y.data.length eb) (.slice ab y.acl.length fb))) rfl rfl ⟨⟨47, .data⟩, by simp, rfl, rfl⟩ (fun u h => h)
                  refine wp_enter (ex_call rfl (enters_f Tryz.func55 (by kernel_rfl) rfl)) (by simp only [List.map_toArray, List.map_cons, List.map_nil, x1, x2]; exact CS.out _ hE) ?_
                  rintro e w4 ⟨rfl, hb⟩
                  exact ⟨_, rfl, _, rfl, rfl, hb⟩
                · refine duty_yes rfl (p := _) rfl (d := 209) rfl (show 209 < 230 by decide) ⟨⟨40, .guard⟩, by simp, rfl, rfl⟩ (fun v w h => h) fun a w' hE hF hA => ?_
                  have x1 := hA.pick 45 214 (.bool true) rfl rfl ⟨⟨45, .data⟩, by simp, rfl, rfl⟩ (fun u h => h)
                  have x2 := hA.pick 48 217 (.bool false) rfl rfl ⟨⟨48, .data⟩, by simp, rfl, rfl⟩ (fun u h => h)
                  exact wp_value (w' := w') (ex_pick rfl x1) ⟨_, rfl, x2, Ext.refl _⟩
                · refine duty_free rfl fun a w' hE hF hA => ?_
                  have x1 := hA.pick 40 209 (.bool false) rfl rfl ⟨⟨40, .data⟩, by simp, rfl, rfl⟩ (fun u h => h)
                  have x2 := hA.pick 49 218 (.bool false) rfl rfl ⟨⟨49, .data⟩, by simp, rfl, rfl⟩ (fun u h => h)
                  exact wp_value (w' := w') (ex_pick rfl x1) ⟨_, rfl, x2, Ext.refl _⟩
                · refine duty_free rfl fun a w' hE hF hA => ?_
                  have x1 := hA.pick 50 219 (.bool false) rfl rfl ⟨⟨50, .data⟩, by simp, rfl, rfl⟩ (fun u h => h)
                  exact wp_value (w' := w') (ex_move rfl) ⟨_, rfl, x1, Ext.refl _⟩
                · refine duty_yes rfl (p := _) rfl (d := 220) rfl (show 220 < 230 by decide) ⟨⟨51, .guard⟩, by simp, rfl, rfl⟩ (fun v w h => h) fun a w' hE hF hA => ?_
                  have x1 := hF.slot 13 _ (by decide) rfl
                  exact wp_value (w' := w') (ex_move rfl) ⟨_, rfl, x1, Ext.refl _⟩
                · refine duty_yes rfl (p := _) rfl (d := 220) rfl (show 220 < 230 by decide) ⟨⟨51, .guard⟩, by simp, rfl, rfl⟩ (fun v w h => h) fun a w' hE hF hA => ?_
                  have x1 := hF.slot 11 _ (by decide) rfl
                  exact wp_value (w' := w') (ex_move rfl) ⟨_, rfl, x1, Ext.refl _⟩
                · refine duty_yes rfl (p := _) rfl (d := 220) rfl (show 220 < 230 by decide) ⟨⟨51, .guard⟩, by simp, rfl, rfl⟩ (fun v w h => h) fun a w' hE hF hA => ?_
                  have x1 := hF.slot 21 _ (by decide) rfl
                  exact wp_value (w' := w') (ex_move rfl) ⟨_, rfl, x1, Ext.refl _⟩
                · refine duty_yes rfl (p := _) rfl (d := 220) rfl (show 220 < 230 by decide) ⟨⟨51, .guard⟩, by simp, rfl, rfl⟩ (fun v w h => h) fun a w' hE hF hA => ?_
                  have x1 := hA.pick 53 222 (.slice (some ⟨b1, o1, none⟩) dl c1) rfl rfl ⟨⟨53, .data⟩, by simp, rfl, rfl⟩ (fun u h => h)
                  have x2 := hA.pick 54 223 (.int .i64 k) rfl rfl ⟨⟨54, .data⟩, by simp, rfl, rfl⟩ (fun u h => h)
                  exact wp_value (w' := w') (v := .pointer (some ⟨b1, o1 + k * 2, none⟩)) (by simp only [execOp, x1, x2]; simp [go_sem, hk0, hk1]) ⟨_, rfl, rfl, Ext.refl _⟩
                · refine duty_yes rfl (p := _) rfl (d := 220) rfl (show 220 < 230 by decide) ⟨⟨51, .guard⟩, by simp, rfl, rfl⟩ (fun v w h => h) fun a w' hE hF hA => ?_
                  have x1 := hA.pick 55 224 (.pointer (some ⟨b1, o1 + k * 2, none⟩)) rfl rfl ⟨⟨55, .data⟩, by simp, rfl, rfl⟩ (fun u h => h)
                  exact wp_value (w' := w') (v := .pointer (some ⟨b1, o1 + k * 2, none⟩)) (by simp only [execOp, x1]; simp [go_sem]) ⟨_, rfl, rfl, Ext.refl _⟩
                · refine duty_yes rfl (p := _) rfl (d := 220) rfl (show 220 < 230 by decide) ⟨⟨51, .guard⟩, by simp, rfl, rfl⟩ (fun v w h => h) fun a w' hE hF hA => ?_
                  have x1 := hA.pick 56 225 (.pointer (some ⟨b1, o1 + k * 2, none⟩)) rfl rfl ⟨⟨56, .data⟩, by simp, rfl, rfl⟩ (fun u h => h)
                  exact wp_value (ex_cell rfl _ _ x1 ((hE.cell (World.block_lt_of_cell? _ _ p1)).trans p1) rfl Tryz.underlying9) ⟨_, rfl, rfl, Ext.refl _⟩
                · refine duty_yes rfl (p := _) rfl (d := 220) rfl (show 220 < 230 by decide) ⟨⟨51, .guard⟩, by simp, rfl, rfl⟩ (fun v w h => h) fun a w' hE hF hA => ?_
                  have x1 := hA.pick 52 221 (.string pp) rfl rfl ⟨⟨52, .data⟩, by simp, rfl, rfl⟩ (fun u h => h)
                  have x2 := hA.pick 57 226 (.string q) rfl rfl ⟨⟨57, .data⟩, by simp, rfl, rfl⟩ (fun u h => h)
                  refine wp_enter (ex_call rfl (enters_f Tryz.func56 (by kernel_rfl) rfl)) (by simp only [List.map_toArray, List.map_cons, List.map_nil, x1, x2]; exact CU.out _) ?_
                  rintro e w4 ⟨rfl, hb⟩
                  exact ⟨_, rfl, _, rfl, rfl, hb⟩
                · refine duty_yes rfl (p := _) rfl (d := 220) rfl (show 220 < 230 by decide) ⟨⟨51, .guard⟩, by simp, rfl, rfl⟩ (fun v w h => h) fun a w' hE hF hA => ?_
                  have x1 := hA.pick 58 227 (.bool true) rfl rfl ⟨⟨58, .data⟩, by simp, rfl, rfl⟩ (fun u h => h)
                  exact wp_value (w' := w') (v := .bool false) (by simp only [execOp, x1]; simp [go_sem]) ⟨_, rfl, rfl, Ext.refl _⟩
                · refine duty_free rfl fun a w' hE hF hA => ?_
                  have x1 := hA.pick 51 220 (.bool false) rfl rfl ⟨⟨51, .data⟩, by simp, rfl, rfl⟩ (fun u h => h)
                  have x2 := hA.pick 59 228 (.bool false) rfl rfl ⟨⟨59, .data⟩, by simp, rfl, rfl⟩ (fun u h => h)
                  exact wp_value (w' := w') (ex_pick rfl x1) ⟨_, rfl, x2, Ext.refl _⟩
              case stay => trivial
              case rest =>
                intro W12 hE12
                simp only [forS]
                have HE12 := Lib.hid (HEX.out.trans hE12)
                clear hE12 p1 p2 r1 r2 hbn hby CS CU
                rw [filled_tail _ _ _ _ 169 rfl rfl rfl]
                simp only [List.take_succ_cons, List.take_zero, List.cons_append, List.nil_append]
                simp only [Exit.inBlock, Exit.then, Act.put]
                first | (rename_i hK; refine hK _ _ ?_; clear hK) | (rename_i hK _; refine hK _ _ ?_; clear hK) | (rename_i hK _ _; refine hK _ _ ?_; clear hK) | (rename_i hK _ _ _; refine hK _ _ ?_; clear hK)
                go_wp2
                go_roundw
                case rel => exact ⟨k + 1, by omega, by go_num, HE12.out⟩
                case measure => simp [intOf]; omega
          · obtain rfl : k = dl := by omega
            have HFIN := Lib.hid (HALL.out.trans HE.out)
            clear HE HD4 HD5
            go_wp2
            go_ret
            exact ⟨rfl, HFIN.out⟩
end Go.Proofs.YthinpbdbhijbgaaGreatDoor
