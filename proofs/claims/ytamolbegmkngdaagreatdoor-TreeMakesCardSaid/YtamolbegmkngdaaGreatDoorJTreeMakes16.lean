/- What From makes of nodes has as many, and a root. The law TreeMakes, walked. -/
import Derived.Test.YtamolbegmkngdaaGreatDoorJTreeMakes5
import Derived.Test.YtamolbegmkngdaaGreatDoorJTreeMakes9
import Derived.Test.YtamolbegmkngdaaGreatDoorJTreeMakes15
import Derived.Test.YtamolbegmkngdaaGreatDoorJTreeMakes11
namespace Go.Proofs.YtamolbegmkngdaaGreatDoor
open Go.RowKit Go.Sort
set_option maxHeartbeats 2000000

theorem fromL_count : ∀ (l : List Nd) (i : Nat) (M0 M : List (Key × Nd)), fromL l i M0 = .ok M → M.length = M0.length + l.length
  | [], i, M0, M, h => by
    simp only [fromL, Except.ok.injEq] at h
    subst h; rfl
  | n :: l, i, M0, M, h => by
    unfold fromL at h
    split at h
    · cases h
    split at h
    · cases h
    rename_i hn
    have h1 := fromL_count l _ _ _ h
    have hn' : mget M0 (keyN n) = none := by
      cases hg : mget M0 (keyN n) with
      | none => rfl
      | some y => rw [hg] at hn; simp at hn
    have h2 : (mput M0 (keyN n) n).length = M0.length + 1 := by
      unfold mput
      rw [mins_length]
      have : mdel M0 (keyN n) = M0 := by
        unfold mdel
        exact List.filter_eq_self.2 fun x hx => by simpa using mget_none hn' x hx
      rw [this]
    rw [h1, h2, List.length_cons]; omega
theorem fromN_count {L : List Nd} {M : List (Key × Nd)} (h : fromN L = .ok M) : M.length = L.length := by
  unfold fromN at h
  cases hf : fromL L 0 [] with
  | error e => rw [hf] at h; cases h
  | ok M1 =>
    rw [hf] at h
    simp only at h
    split at h
    · cases h
    cases hp : parL M1 L 0 with
    | error e => rw [hp] at h; cases h
    | ok u =>
      rw [hp] at h
      simp only [Except.ok.injEq] at h
      subst h
      have := fromL_count L 0 [] _ hf
      simpa using this
theorem fromN_rootE {L : List Nd} {M : List (Key × Nd)} (h : fromN L = .ok M) : mget M [47] ≠ none := by
  unfold fromN at h
  cases hf : fromL L 0 [] with
  | error e => rw [hf] at h; cases h
  | ok M1 =>
    rw [hf] at h
    simp only at h
    split at h
    · cases h
    rename_i hr
    cases hp : parL M1 L 0 with
    | error e => rw [hp] at h; cases h
    | ok u =>
      rw [hp] at h
      simp only [Except.ok.injEq] at h
      subst h
      exact hr

theorem fromL_mok : ∀ (l : List Nd) (i : Nat) (M0 M : List (Key × Nd)), MOk M0 → fromL l i M0 = .ok M → MOk M
  | [], i, M0, M, h0, h => by
    simp only [fromL, Except.ok.injEq] at h
    subst h; exact h0
  | n :: l, i, M0, M, h0, h => by
    unfold fromL at h
    split at h
    · cases h
    rename_i hr
    split at h
    · cases h
    exact fromL_mok l _ _ _ (h0.put n (by simpa using hr)) h
theorem fromN_mok {L : List Nd} {M : List (Key × Nd)} (h : fromN L = .ok M) : MOk M := by
  unfold fromN at h
  cases hf : fromL L 0 [] with
  | error e => rw [hf] at h; cases h
  | ok M1 =>
    rw [hf] at h
    simp only at h
    split at h
    · cases h
    cases hp : parL M1 L 0 with
    | error e => rw [hp] at h; cases h
    | ok u =>
      rw [hp] at h
      simp only [Except.ok.injEq] at h
      subst h
      exact fromL_mok L 0 [] _ MOk.nil hf
end Go.Proofs.YtamolbegmkngdaaGreatDoor
namespace Go.Proofs.YtamolbegmkngdaaGreatDoor
open Go.RowKit Go.Sort
set_option maxHeartbeats 8000000
set_option maxRecDepth 100000

theorem MOk.klen {M : List (Key × Nd)} (hok : MOk M) : ∀ k ∈ M.map (·.1), k.length ≤ maxLen := fun k hk => by
  obtain ⟨x, hx, rfl⟩ := List.mem_map.1 hk
  rw [hok.key x hx]
  unfold keyN
  rw [size_list]
  have := (vpath_facts (right_vpath (hok.right x hx))).2.1
  unfold maxLen; omega

/-- All, where it may tell all. -/
theorem lall_nds (S : Nat → Prop) (w : World) (bt : Nat) (M : List (Key × Nd)) (N : Nat) (hT : TreeAt S w bt M N) (most : Nat) (hm : M.length ≤ most) (hmost : most < maxLen) (hks : M.length * 168 ≤ 140737488355328) :
    Calls Tryz.prog 25 #[.pointer (some ⟨bt, 0, none⟩), .int .i64 most] w fun e w' => ∃ a c, e = .returned (.slice a M.length c) ∧ NdsAt w'.heap.size w' a (nds M) ∧ Ext w w' := by
  have C := lall_any S w bt M N hT most hmost hks hT.ok.klen
  rw [nodesOf_vals hT.ok.sorted, List.take_of_length_le (by rw [List.length_map]; omega)] at C
  refine C.mono ?_
  rintro e w' ⟨v, vs, rfl, hvl, hrow, hvn, hE⟩
  obtain ⟨a, c, rfl, _, _, hR, _⟩ := RowsOf.of_own (S := fun b => b < w'.heap.size) hrow rfl hvl (fun b _ h => h) hvn
  exact ⟨a, c, by rw [List.length_map], hR.nds fun _ h => h, hE⟩
theorem NdsAt.stay {M : List (Key × Nd)} (n : Nat) : ∀ v w w', (∃ a c, v = Value.slice a n c ∧ NdsAt w.heap.size w a (nds M)) → Ext w w' → ∃ a c, v = Value.slice a n c ∧ NdsAt w'.heap.size w' a (nds M) := by
  rintro v w w' ⟨a, c, h1, h2⟩ hE
  exact ⟨a, c, h1, h2.ext hE⟩

theorem makes_walk (L : List Nd) (a : Option Addr) (c : Nat) (s : ByteArray) (w : World) (hT : Tabs w) (hL : NdsAt w.heap.size w a L) (hf : ∀ n ∈ L, Fit n) (hl : L.length * 168 ≤ 140737488355328) (hs : s.size ≤ 9223372036854775800) :
    Calls Tryz.prog 5 #[.slice a L.length c, .string s] w fun e w' => e = .returned (.bool true) ∧ Below w.heap.size w w' := by
  have hsz := hT.size
  have HL := Lib.hid hL
  have HF := Lib.hid hf
  have HT := Lib.hid hT
  have hl64 : L.length ≤ 9223372036854775807 := by omega
  clear hL hf hT
  go_enter Tryz.func5, Tryz.ntmps5
  go_wp2
  go_loopw [5, 6] (fun ov i wr => ∃ k : Nat, k ≤ L.length ∧ i = .int .i64 k ∧ Hid (OwnN w.heap.size (L.take k) ov wr) ∧ Ext w wr) (fun _ i _ => L.length - (intOf i).toNat)
  case atStart => exact ⟨0, Nat.zero_le _, rfl, OwnN.nil _ _, Ext.refl _⟩
  case round =>
    obtain ⟨k, hk, rfl, HO, hE⟩ := hrel
    by_cases hlt : k < L.length
    · obtain ⟨b1, o1, v1, rfl, hb1, hv1, hc1⟩ := HL.out k L[k] (List.getElem?_eq_getElem hlt)
      have hfit := HF.out L[k] (List.getElem_mem hlt)
      have htk : L.take (k + 1) = L.take k ++ [L[k]] := List.take_succ_eq_append_getElem hlt
      generalize L[k] = n at *
      obtain ⟨da, dc, aa, ac, rfl, hD, hAc⟩ := hv1
      have hcw : ∀ j u, (ndC n (.slice da n.data.length dc) (.slice aa n.acl.length ac))[j]? = some u → wr.cell? ((⟨b1, o1 + k * 17, none⟩ : Addr).add j) = some u := fun j u hj => by
        rw [addr_add, hE.cell (p := ⟨b1, o1 + k * 17 + j, none⟩) hb1]; exact hc1 j u hj
      have CC := Lib.hid (rclone_new n da aa dc ac wr hfit (hD.ext hE) (hAc.ext hE))
      have HC := Lib.hid hcw
      have HE := Lib.hid hE
      have HTK := Lib.hid htk
      have hzr := hE.size
      have hll : ((L.take k).length + 1) * 168 ≤ 140737488355328 := by rw [List.length_take]; omega
      unfold ndC at HC
      clear hcw hc1 hD hAc hE htk hfit
      go_wp2_with (refine wpList_load_at rfl 47 (.tmp 22) rfl _ rfl _ _ HC.out Tryz.underlying47 rfl sizeNd ?_)
      refine CC.out.mono ?_
      rintro e W5 ⟨v, rfl, hN, hE5⟩
      have HE5 := Lib.hid hE5
      have HN := Lib.hid hN
      obtain ⟨qa, qc, ra, rc, rfl, _, _⟩ := hN
      unfold ndC at HN ⊢
      clear hE5 CC HC
      go_wp2_with (at_builtin; refine wpList_append_nd rfl (.tmp 19) (.tmp 25) rfl w.heap.size (L.take k) _ HO.out HE5.out (by omega) n _ HN.out hll rfl rfl ?_)
      intro v' W6 hO6 hE6
      have HO6 := Lib.hid hO6
      have HE6 := Lib.hid (hE6 w (HE.out.trans HE5.out) (Nat.le_refl _))
      clear hO6 hE6
      go_wp2
      go_roundw
      case rel => exact ⟨k + 1, by omega, by go_num, by unfold Hid; rw [HTK.out]; exact HO6.out, HE6.out⟩
      case measure => simp [intOf]; omega
    · obtain rfl : k = L.length := by omega
      rw [List.take_length] at HO
      obtain ⟨oa, oc, rfl, hOL⟩ := rows_nds HO.out
      have C1 := Lib.hid (from_any L oa oc wr (HT.out.below hE hsz) hOL HF.out (by omega))
      have HOL := Lib.hid hOL
      have HE := Lib.hid hE
      clear hE hOL HO
      go_wp2_with fail
      refine C1.out.mono ?_
      intro e W1 hout
      unfold FromOut at hout
      cases hfr : fromN L with
      | error x =>
        obtain ⟨i, x⟩ := x
        rw [hfr] at hout
        obtain ⟨rfl, hE1⟩ := hout
        have hE1 : Ext wr W1 := hE1
        have hEw1 := HE.out.trans hE1
        have C2 := Lib.hid (rfrom_any L a c W1 (HT.out.below hEw1 hsz) (HL.out.ext hEw1) HF.out hl)
        have HE1 := Lib.hid hEw1
        have HOL1 := Lib.hid (HOL.out.ext hE1)
        clear C1 hE1 hEw1
        go_wp2_with fail
        refine C2.out.mono ?_
        intro e W2 hout
        unfold RFromOut at hout
        rw [hfr] at hout
        obtain ⟨rfl, hE2⟩ := hout
        have hE2 : Ext W1 W2 := hE2
        have hx1 : (x != x) = false := by simp
        have hx2 : ((i : Int) != i) = false := by simp
        have hEw2 := HE1.out.trans hE2
        have HE2 := Lib.hid hEw2
        have C3 := Lib.hid (nodes_self L oa a oc c W2 (HOL1.out.ext hE2) (HL.out.ext hEw2) HF.out hl64)
        clear C2 hE2 hEw2 hfr
        go_wp2_with fail
        refine C3.out.mono ?_
        rintro e W3 ⟨rfl, hE3⟩
        have hEw3 := HE2.out.trans hE3
        have HE3 := Lib.hid hEw3
        have C4 := Lib.hid (alive_any W3 (HT.out.below hEw3 hsz))
        clear C3 hE3 hEw3
        go_wp2_with fail
        refine C4.out.mono ?_
        rintro e W4 ⟨rfl, hE4⟩
        have HFIN := Lib.hid (HE3.out.trans hE4)
        clear C4 hE4
        go_wp2
        go_ret
        exact ⟨rfl, HFIN.out⟩
      | ok M =>
        rw [hfr] at hout
        obtain ⟨bt, rfl, hT1, hE1⟩ := hout
        have hE1 : Ext wr W1 := hE1
        have hok := hT1.ok
        have hML := hT1.len
        have hclo := fromN_clo hok hfr
        have hEw1 := HE.out.trans hE1
        have C2 := Lib.hid (rfrom_any L a c W1 (HT.out.below hEw1 hsz) (HL.out.ext hEw1) HF.out hl)
        have HE1 := Lib.hid hEw1
        have HOL1 := Lib.hid (HOL.out.ext hE1)
        have HT1 := Lib.hid hT1
        have HOK := Lib.hid hok
        have HCLO := Lib.hid hclo
        clear C1 hE1 hEw1 hT1 hok hclo
        go_wp2_with fail
        refine C2.out.mono ?_
        intro e W2 hout
        unfold RFromOut at hout
        rw [hfr] at hout
        obtain ⟨br, rfl, hbr, hR, hE2⟩ := hout
        have hE2 : Ext W1 W2 := hE2
        have hEw2 := HE1.out.trans hE2
        have HE2 := Lib.hid hEw2
        have HT2 := Lib.hid (HT1.out.ext hE2)
        have HR := Lib.hid hR
        have C3 := Lib.hid (nodes_self L oa a oc c W2 (HOL1.out.ext hE2) (HL.out.ext hEw2) HF.out hl64)
        clear C2 hE2 hEw2 hfr hR
        go_wp2_with fail
        refine C3.out.mono ?_
        rintro e W3 ⟨rfl, hE3⟩
        have hE3 : Ext W2 W3 := hE3
        have hEw3 := HE2.out.trans hE3
        have HE3 := Lib.hid hEw3
        have C4 := Lib.hid (alive_any W3 (HT.out.below hEw3 hsz))
        have HK3 := Lib.hid hE3
        clear C3 hE3 hEw3
        go_wp2_with fail
        refine C4.out.mono ?_
        rintro e W4 ⟨rfl, hE4⟩
        have hE4 : Ext W3 W4 := hE4
        have hK4 := HK3.out.trans hE4
        have HE4 := Lib.hid (HE3.out.trans hE4)
        have hT4 := HT2.out.ext hK4
        have hR4 := HR.out.ext hK4
        obtain ⟨ra, rc, vsr, hrb, _, _, _, hrows, _⟩ := id hR4
        have hcb : W4.cell? ⟨br, 0, none⟩ = some (.slice ra M.length rc) := by rw [← nds_length M]; exact cell_of_row _ _ _ _ _ _ hrb
        have hrn : NdsAt W4.heap.size W4 ra (nds M) := hrows.nds fun k hk => hk.1
        have CL := Lib.hid fun W (h : Ext W4 W) => like_any _ W bt br M _ (hT4.ext h) (hR4.ext h) HCLO.out s hs (by omega)
        have CA := Lib.hid fun W (h : Ext W4 W) => lall_nds _ W bt M _ (hT4.ext h) M.length (Nat.le_refl _) (by unfold maxLen; omega) (by omega)
        have CN := Lib.hid fun W (h : Ext W4 W) (a2 : Option Addr) (c2 : Nat) (h2 : NdsAt W.heap.size W a2 (nds M)) => (by
          have := nodes_self (nds M) a2 ra c2 rc W h2 (hrn.ext h) (nds_fit HOK.out) (by rw [nds_length]; omega)
          rwa [nds_length] at this : Calls Tryz.prog 22 #[.slice a2 M.length c2, .slice ra M.length rc] W fun e w' => e = .returned (.bool true) ∧ Ext W w')
        have CC := Lib.hid fun W (h : Ext W4 W) => tcount_any _ W bt M _ (hT4.ext h)
        have HCB := Lib.hid hcb
        clear C4 hE4 hK4 hT4 hR4 hrb hrows hcb hrn
        go_wp2
        refine wp_region_P (by kernel_rfl) (region_sp 94 [.val (.pointer (some ⟨bt, 0, none⟩)), .val (.pointer (some ⟨br, 0, none⟩)), .val (.string s), .val (.bool true), .val (.bool true), .val (.pointer (some ⟨bt, 0, none⟩)), .val (.pointer (some ⟨br, 0, none⟩)), .val (.pointer (some ⟨br, 0, none⟩)), .val (.pointer (some ⟨br, 0, none⟩)), .val (.slice ra M.length rc), .val (.int .i64 M.length), .prop (fun v w => ∃ a c, v = .slice a M.length c ∧ NdsAt w.heap.size w a (nds M)), .val (.pointer (some ⟨br, 0, none⟩)), .val (.pointer (some ⟨br, 0, none⟩)), .val (.pointer (some ⟨br, 0, none⟩)), .val (.slice ra M.length rc), .val (.bool true), .val (.bool true), .val (.bool true), .val (.pointer (some ⟨bt, 0, none⟩)), .val (.int .i64 M.length), .val (.pointer (some ⟨br, 0, none⟩)), .val (.pointer (some ⟨br, 0, none⟩)), .val (.pointer (some ⟨br, 0, none⟩)), .val (.slice ra M.length rc), .val (.int .i64 M.length), .val (.bool true), .val (.bool true), .val (.bool true)] ?stay rfl (by decide) rfl ?duties ?rest)
        case duties =>
          refine ⟨?_, ?_, ?_, ?_, ?_, ?_, ?_, ?_, ?_, ?_, ?_, ?_, ?_, ?_, ?_, ?_, ?_, ?_, ?_, ?_, ?_, ?_, ?_, ?_, ?_, ?_, ?_, ?_, ?_, trivial⟩
          · refine duty_free rfl fun a w' hE hF hA => ?_
            have x1 := hF.slot 7 _ (by decide) rfl
            exact wp_value (w' := w') (ex_move rfl) ⟨_, rfl, x1, Ext.refl _⟩
          · refine duty_free rfl fun a w' hE hF hA => ?_
            have x1 := hF.slot 10 _ (by decide) rfl
            exact wp_value (w' := w') (ex_move rfl) ⟨_, rfl, x1, Ext.refl _⟩
          · refine duty_free rfl fun a w' hE hF hA => ?_
            have x1 := hF.slot 1 _ (by decide) rfl
            exact wp_value (w' := w') (ex_move rfl) ⟨_, rfl, x1, Ext.refl _⟩
          · refine duty_free rfl fun a w' hE hF hA => ?_
            have x1 := hA.pick 0 66 (.pointer (some ⟨bt, 0, none⟩)) rfl rfl ⟨⟨0, .data⟩, by simp, rfl, rfl⟩ (fun u h => h)
            have x2 := hA.pick 1 67 (.pointer (some ⟨br, 0, none⟩)) rfl rfl ⟨⟨1, .data⟩, by simp, rfl, rfl⟩ (fun u h => h)
            have x3 := hA.pick 2 68 (.string s) rfl rfl ⟨⟨2, .data⟩, by simp, rfl, rfl⟩ (fun u h => h)
            refine wp_enter (ex_call rfl (enters_f Tryz.func24 (by kernel_rfl) rfl)) (by simp only [List.map_toArray, List.map_cons, List.map_nil, x1, x2, x3]; exact CL.out w' hE) ?_
            rintro e w4 ⟨rfl, hb⟩
            exact ⟨_, rfl, _, rfl, rfl, hb⟩
          · refine duty_free rfl fun a w' hE hF hA => ?_
            have x1 := hA.pick 3 69 (.bool true) rfl rfl ⟨⟨3, .data⟩, by simp, rfl, rfl⟩ (fun u h => h)
            exact wp_value (w' := w') (ex_move rfl) ⟨_, rfl, x1, Ext.refl _⟩
          · refine duty_yes rfl (p := _) rfl (d := 70) rfl (show 70 < 94 by decide) ⟨⟨4, .guard⟩, by simp, rfl, rfl⟩ (fun v w h => h) fun a w' hE hF hA => ?_
            have x1 := hF.slot 7 _ (by decide) rfl
            exact wp_value (w' := w') (ex_move rfl) ⟨_, rfl, x1, Ext.refl _⟩
          · refine duty_yes rfl (p := _) rfl (d := 70) rfl (show 70 < 94 by decide) ⟨⟨4, .guard⟩, by simp, rfl, rfl⟩ (fun v w h => h) fun a w' hE hF hA => ?_
            have x1 := hF.slot 10 _ (by decide) rfl
            exact wp_value (w' := w') (ex_move rfl) ⟨_, rfl, x1, Ext.refl _⟩
          · refine duty_yes rfl (p := _) rfl (d := 70) rfl (show 70 < 94 by decide) ⟨⟨4, .guard⟩, by simp, rfl, rfl⟩ (fun v w h => h) fun a w' hE hF hA => ?_
            have x1 := hA.pick 6 72 (.pointer (some ⟨br, 0, none⟩)) rfl rfl ⟨⟨6, .data⟩, by simp, rfl, rfl⟩ (fun u h => h)
            exact wp_value (ex_nilCheck rfl _ x1) ⟨_, rfl, rfl, Ext.refl _⟩
          · refine duty_yes rfl (p := _) rfl (d := 70) rfl (show 70 < 94 by decide) ⟨⟨4, .guard⟩, by simp, rfl, rfl⟩ (fun v w h => h) fun a w' hE hF hA => ?_
            have x1 := hA.pick 7 73 (.pointer (some ⟨br, 0, none⟩)) rfl rfl ⟨⟨7, .data⟩, by simp, rfl, rfl⟩ (fun u h => h)
            exact wp_value (w' := w') (v := .pointer (some ⟨br, 0, none⟩)) (by simp only [execOp, x1]; simp [go_sem]) ⟨_, rfl, rfl, Ext.refl _⟩
          · refine duty_yes rfl (p := _) rfl (d := 70) rfl (show 70 < 94 by decide) ⟨⟨4, .guard⟩, by simp, rfl, rfl⟩ (fun v w h => h) fun a w' hE hF hA => ?_
            have x1 := hA.pick 8 74 (.pointer (some ⟨br, 0, none⟩)) rfl rfl ⟨⟨8, .data⟩, by simp, rfl, rfl⟩ (fun u h => h)
            exact wp_value (ex_cell rfl _ _ x1 ((hE.cell (World.block_lt_of_cell? _ _ HCB.out)).trans HCB.out) rfl Tryz.underlying22) ⟨_, rfl, rfl, Ext.refl _⟩
          · refine duty_yes rfl (p := _) rfl (d := 70) rfl (show 70 < 94 by decide) ⟨⟨4, .guard⟩, by simp, rfl, rfl⟩ (fun v w h => h) fun a w' hE hF hA => ?_
            have x1 := hA.pick 9 75 (.slice ra M.length rc) rfl rfl ⟨⟨9, .data⟩, by simp, rfl, rfl⟩ (fun u h => h)
            exact wp_value (w' := w') (v := .int .i64 M.length) (by simp only [execOp, resolve, invoke, builtin, Sem.run_bind, Sem.run_pure, Result.andThen_ok, List.map_toArray, List.map_cons, List.map_nil, x1]; simp [go_sem]) ⟨_, rfl, rfl, Ext.refl _⟩
          · refine duty_yes rfl (p := _) rfl (d := 70) rfl (show 70 < 94 by decide) ⟨⟨4, .guard⟩, by simp, rfl, rfl⟩ (fun v w h => h) fun a w' hE hF hA => ?_
            have x1 := hA.pick 5 71 (.pointer (some ⟨bt, 0, none⟩)) rfl rfl ⟨⟨5, .data⟩, by simp, rfl, rfl⟩ (fun u h => h)
            have x2 := hA.pick 10 76 (.int .i64 M.length) rfl rfl ⟨⟨10, .data⟩, by simp, rfl, rfl⟩ (fun u h => h)
            refine wp_enter (ex_call rfl (enters_f Tryz.func25 (by kernel_rfl) rfl)) (by simp only [List.map_toArray, List.map_cons, List.map_nil, x1, x2]; exact CA.out w' hE) ?_
            rintro e w4 ⟨a2, c2, rfl, h2, hb⟩
            exact ⟨_, rfl, _, rfl, ⟨a2, c2, rfl, h2⟩, hb⟩
          · refine duty_yes rfl (p := _) rfl (d := 70) rfl (show 70 < 94 by decide) ⟨⟨4, .guard⟩, by simp, rfl, rfl⟩ (fun v w h => h) fun a w' hE hF hA => ?_
            have x1 := hF.slot 10 _ (by decide) rfl
            exact wp_value (w' := w') (ex_move rfl) ⟨_, rfl, x1, Ext.refl _⟩
          · refine duty_yes rfl (p := _) rfl (d := 70) rfl (show 70 < 94 by decide) ⟨⟨4, .guard⟩, by simp, rfl, rfl⟩ (fun v w h => h) fun a w' hE hF hA => ?_
            have x1 := hA.pick 12 78 (.pointer (some ⟨br, 0, none⟩)) rfl rfl ⟨⟨12, .data⟩, by simp, rfl, rfl⟩ (fun u h => h)
            exact wp_value (ex_nilCheck rfl _ x1) ⟨_, rfl, rfl, Ext.refl _⟩
          · refine duty_yes rfl (p := _) rfl (d := 70) rfl (show 70 < 94 by decide) ⟨⟨4, .guard⟩, by simp, rfl, rfl⟩ (fun v w h => h) fun a w' hE hF hA => ?_
            have x1 := hA.pick 13 79 (.pointer (some ⟨br, 0, none⟩)) rfl rfl ⟨⟨13, .data⟩, by simp, rfl, rfl⟩ (fun u h => h)
            exact wp_value (w' := w') (v := .pointer (some ⟨br, 0, none⟩)) (by simp only [execOp, x1]; simp [go_sem]) ⟨_, rfl, rfl, Ext.refl _⟩
          · refine duty_yes rfl (p := _) rfl (d := 70) rfl (show 70 < 94 by decide) ⟨⟨4, .guard⟩, by simp, rfl, rfl⟩ (fun v w h => h) fun a w' hE hF hA => ?_
            have x1 := hA.pick 14 80 (.pointer (some ⟨br, 0, none⟩)) rfl rfl ⟨⟨14, .data⟩, by simp, rfl, rfl⟩ (fun u h => h)
            exact wp_value (ex_cell rfl _ _ x1 ((hE.cell (World.block_lt_of_cell? _ _ HCB.out)).trans HCB.out) rfl Tryz.underlying22) ⟨_, rfl, rfl, Ext.refl _⟩
          · refine duty_yes rfl (p := _) rfl (d := 70) rfl (show 70 < 94 by decide) ⟨⟨4, .guard⟩, by simp, rfl, rfl⟩ (fun v w h => h) fun a w' hE hF hA => ?_
            have p1 : (fun v w => ∃ a c, v = .slice a M.length c ∧ NdsAt w.heap.size w a (nds M)) (a.eval (.tmp 77)) w' := hA.slot 11 77 rfl rfl ⟨⟨11, .data⟩, by simp, rfl, rfl⟩
            have x2 := hA.pick 15 81 (.slice ra M.length rc) rfl rfl ⟨⟨15, .data⟩, by simp, rfl, rfl⟩ (fun u h => h)
            obtain ⟨a2, c2, x1, h2⟩ := p1
            refine wp_enter (ex_call rfl (enters_f Tryz.func22 (by kernel_rfl) rfl)) (by simp only [List.map_toArray, List.map_cons, List.map_nil, x1, x2]; exact CN.out w' hE a2 c2 h2) ?_
            rintro e w4 ⟨rfl, hb⟩
            exact ⟨_, rfl, _, rfl, rfl, hb⟩
          · refine duty_free rfl fun a w' hE hF hA => ?_
            have x1 := hA.pick 4 70 (.bool true) rfl rfl ⟨⟨4, .data⟩, by simp, rfl, rfl⟩ (fun u h => h)
            have x2 := hA.pick 16 82 (.bool true) rfl rfl ⟨⟨16, .data⟩, by simp, rfl, rfl⟩ (fun u h => h)
            exact wp_value (w' := w') (ex_pick rfl x1) ⟨_, rfl, x2, Ext.refl _⟩
          · refine duty_free rfl fun a w' hE hF hA => ?_
            have x1 := hA.pick 17 83 (.bool true) rfl rfl ⟨⟨17, .data⟩, by simp, rfl, rfl⟩ (fun u h => h)
            exact wp_value (w' := w') (ex_move rfl) ⟨_, rfl, x1, Ext.refl _⟩
          · refine duty_yes rfl (p := _) rfl (d := 84) rfl (show 84 < 94 by decide) ⟨⟨18, .guard⟩, by simp, rfl, rfl⟩ (fun v w h => h) fun a w' hE hF hA => ?_
            have x1 := hF.slot 7 _ (by decide) rfl
            exact wp_value (w' := w') (ex_move rfl) ⟨_, rfl, x1, Ext.refl _⟩
          · refine duty_yes rfl (p := _) rfl (d := 84) rfl (show 84 < 94 by decide) ⟨⟨18, .guard⟩, by simp, rfl, rfl⟩ (fun v w h => h) fun a w' hE hF hA => ?_
            have x1 := hA.pick 19 85 (.pointer (some ⟨bt, 0, none⟩)) rfl rfl ⟨⟨19, .data⟩, by simp, rfl, rfl⟩ (fun u h => h)
            refine wp_enter (ex_call rfl (enters_f Tryz.func26 (by kernel_rfl) rfl)) (by simp only [List.map_toArray, List.map_cons, List.map_nil, x1]; exact CC.out w' hE) ?_; rintro e w4 ⟨rfl, rfl⟩; exact ⟨_, rfl, _, rfl, rfl, Ext.refl _⟩
          · refine duty_yes rfl (p := _) rfl (d := 84) rfl (show 84 < 94 by decide) ⟨⟨18, .guard⟩, by simp, rfl, rfl⟩ (fun v w h => h) fun a w' hE hF hA => ?_
            have x1 := hF.slot 10 _ (by decide) rfl
            exact wp_value (w' := w') (ex_move rfl) ⟨_, rfl, x1, Ext.refl _⟩
          · refine duty_yes rfl (p := _) rfl (d := 84) rfl (show 84 < 94 by decide) ⟨⟨18, .guard⟩, by simp, rfl, rfl⟩ (fun v w h => h) fun a w' hE hF hA => ?_
            have x1 := hA.pick 21 87 (.pointer (some ⟨br, 0, none⟩)) rfl rfl ⟨⟨21, .data⟩, by simp, rfl, rfl⟩ (fun u h => h)
            exact wp_value (ex_nilCheck rfl _ x1) ⟨_, rfl, rfl, Ext.refl _⟩
          · refine duty_yes rfl (p := _) rfl (d := 84) rfl (show 84 < 94 by decide) ⟨⟨18, .guard⟩, by simp, rfl, rfl⟩ (fun v w h => h) fun a w' hE hF hA => ?_
            have x1 := hA.pick 22 88 (.pointer (some ⟨br, 0, none⟩)) rfl rfl ⟨⟨22, .data⟩, by simp, rfl, rfl⟩ (fun u h => h)
            exact wp_value (w' := w') (v := .pointer (some ⟨br, 0, none⟩)) (by simp only [execOp, x1]; simp [go_sem]) ⟨_, rfl, rfl, Ext.refl _⟩
          · refine duty_yes rfl (p := _) rfl (d := 84) rfl (show 84 < 94 by decide) ⟨⟨18, .guard⟩, by simp, rfl, rfl⟩ (fun v w h => h) fun a w' hE hF hA => ?_
            have x1 := hA.pick 23 89 (.pointer (some ⟨br, 0, none⟩)) rfl rfl ⟨⟨23, .data⟩, by simp, rfl, rfl⟩ (fun u h => h)
            exact wp_value (ex_cell rfl _ _ x1 ((hE.cell (World.block_lt_of_cell? _ _ HCB.out)).trans HCB.out) rfl Tryz.underlying22) ⟨_, rfl, rfl, Ext.refl _⟩
          · refine duty_yes rfl (p := _) rfl (d := 84) rfl (show 84 < 94 by decide) ⟨⟨18, .guard⟩, by simp, rfl, rfl⟩ (fun v w h => h) fun a w' hE hF hA => ?_
            have x1 := hA.pick 24 90 (.slice ra M.length rc) rfl rfl ⟨⟨24, .data⟩, by simp, rfl, rfl⟩ (fun u h => h)
            exact wp_value (w' := w') (v := .int .i64 M.length) (by simp only [execOp, resolve, invoke, builtin, Sem.run_bind, Sem.run_pure, Result.andThen_ok, List.map_toArray, List.map_cons, List.map_nil, x1]; simp [go_sem]) ⟨_, rfl, rfl, Ext.refl _⟩
          · refine duty_yes rfl (p := _) rfl (d := 84) rfl (show 84 < 94 by decide) ⟨⟨18, .guard⟩, by simp, rfl, rfl⟩ (fun v w h => h) fun a w' hE hF hA => ?_
            have x1 := hA.pick 20 86 (.int .i64 M.length) rfl rfl ⟨⟨20, .data⟩, by simp, rfl, rfl⟩ (fun u h => h)
            have x2 := hA.pick 25 91 (.int .i64 M.length) rfl rfl ⟨⟨25, .data⟩, by simp, rfl, rfl⟩ (fun u h => h)
            exact wp_value (w' := w') (v := .bool true) (by simp only [execOp, x1, x2]; simp [go_sem]) ⟨_, rfl, rfl, Ext.refl _⟩
          · refine duty_free rfl fun a w' hE hF hA => ?_
            have x1 := hA.pick 18 84 (.bool true) rfl rfl ⟨⟨18, .data⟩, by simp, rfl, rfl⟩ (fun u h => h)
            have x2 := hA.pick 26 92 (.bool true) rfl rfl ⟨⟨26, .data⟩, by simp, rfl, rfl⟩ (fun u h => h)
            exact wp_value (w' := w') (ex_pick rfl x1) ⟨_, rfl, x2, Ext.refl _⟩
          · refine duty_free rfl fun a w' hE hF hA => ?_
            have x1 := hA.pick 27 93 (.bool true) rfl rfl ⟨⟨27, .data⟩, by simp, rfl, rfl⟩ (fun u h => h)
            exact wp_value (w' := w') (ex_assign rfl) ⟨_, rfl, x1, Ext.refl _⟩
        case stay => exact ⟨NdsAt.stay _, trivial⟩
        case rest =>
          intro W5 hE5
          have HFIN := Lib.hid (HE4.out.trans hE5)
          clear hE5 CL CA CN CC HCB
          simp only [forS]
          intro u11 hu11
          clear hu11
          simp only [filled, List.zip_cons_cons, List.zip_nil_left, List.foldl_cons, List.foldl_nil, Act.put, List.setIfInBounds_toArray, List.set_cons_succ, List.set_cons_zero, Exit.inBlock, Exit.then]
          rename_i hK
          refine hK _ _ ?_
          clear hK
          go_wp2
          go_ret
          exact ⟨rfl, HFIN.out⟩
end Go.Proofs.YtamolbegmkngdaaGreatDoor
