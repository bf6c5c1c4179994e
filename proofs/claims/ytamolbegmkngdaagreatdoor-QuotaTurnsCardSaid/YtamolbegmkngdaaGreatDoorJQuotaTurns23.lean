/- The walk of the reference's Turn of a quota book. The walks of arborref05's New and arborref07's Root. The walk of package quota's Over: the paths of the quotas over a path. The walks of arborlaw10's own, no, laid, sameTexts. The walk of arborlaw10's live. -/
import Derived.Test.YtamolbegmkngdaaGreatDoorJQuotaTurns22
import Derived.Test.YtamolbegmkngdaaGreatDoorJQuotaTurns17
import Derived.Test.YtamolbegmkngdaaGreatDoorJQuotaTurns14
import Derived.Test.YtamolbegmkngdaaGreatDoorJQuotaTurns15
import Derived.BigQuiet
import Derived.Test.YtamolbegmkngdaaGreatDoorJQuotaTurns11
import Derived.Test.YtamolbegmkngdaaGreatDoorJQuotaTurns5
import Derived.Test.YtamolbegmkngdaaGreatDoorJQuotaTurns12
import Derived.Lib.SlBytesConst
namespace Go.Proofs.YtamolbegmkngdaaGreatDoor
open Go.RowKit Go.Sort
set_option maxHeartbeats 8000000
set_option maxRecDepth 100000

theorem pair_get {L : List Nd} (hd : dupB L = false) {n : Nd} (hn : n ∈ L) : mget (pairM L) (keyN n) = some n := by
  obtain ⟨m, hm⟩ := Option.ne_none_iff_exists'.1 (pairM_there hn)
  obtain ⟨h1, h2⟩ := pairM_mem _ _ (mget_some_mem hm)
  have h1 : m ∈ L := h1
  have hp : m.path = n.path := (keyN_inj h2).symm
  obtain ⟨i, hi, ei⟩ := List.getElem_of_mem h1
  obtain ⟨j, hj, ej⟩ := List.getElem_of_mem hn
  by_cases e : i = j
  · subst e
    rw [hm, ← ei, ej]
  · exfalso
    rcases Nat.lt_or_gt_of_ne e with h | h
    · have := dup_hit (L := L) hj h (by rw [ei, ej, hp])
      rw [hd] at this; cases this
    · have := dup_hit (L := L) hi h (by rw [ei, ej, hp])
      rw [hd] at this; cases this
def goodN (M : List (Key × Nd)) (n : Nd) : Prop := ∃ y, mget M (keyN n) = some y ∧ sameN y n = true
def oldN (M : List (Key × Nd)) (now : List Nd) (n : Nd) : Prop := ¬ ((mget M (keyN n)).isSome = true ∧ ∀ m ∈ now, m.path ≠ n.path)
/-- The document's words say the same. -/
theorem ok_iff (M : List (Key × Nd)) (old now : List Nd) : turnOk M old now ↔ dupB old = false ∧ dupB now = false ∧ (∀ n ∈ now, goodN M n) ∧ ∀ n ∈ old, oldN M now n := by
  unfold turnOk
  constructor
  · rintro ⟨h1, h2, h3, h4⟩
    refine ⟨h1, h2, fun n hn => ?_, fun n hn => ?_⟩
    · obtain ⟨n', y, e1, e2, e3⟩ := h3 _ _ (pair_get h2 hn)
      rw [pair_get h2 hn] at e1
      cases e1
      exact ⟨y, e2, e3⟩
    · rintro ⟨e1, e2⟩
      refine h4 _ _ (pair_get h1 hn) ⟨e1, ?_⟩
      cases hg : mget (pairM now) (keyN n) with
      | none => rfl
      | some m =>
        obtain ⟨h5, h6⟩ := pairM_mem _ _ (mget_some_mem hg)
        exact absurd (keyN_inj h6).symm (e2 m h5)
  · rintro ⟨h1, h2, h3, h4⟩
    refine ⟨h1, h2, fun k n hk => ?_, fun k n hk => ?_⟩
    · obtain ⟨h5, h6⟩ := pairM_mem _ _ (mget_some_mem hk)
      obtain ⟨y, e1, e2⟩ := h3 n h5
      have h6 : k = keyN n := h6
      rw [← h6] at e1
      exact ⟨n, y, hk, e1, e2⟩
    · obtain ⟨h5, h6⟩ := pairM_mem _ _ (mget_some_mem hk)
      have h6 : k = keyN n := h6
      rintro ⟨e1, e2⟩
      refine h4 n h5 ⟨by rw [← h6]; exact e1, fun m hm hp => ?_⟩
      have h7 := pair_get h2 hm
      have h8 : keyN m = k := by rw [h6]; unfold keyN; rw [hp]
      rw [h8] at h7
      rw [h7] at e2
      cases e2

theorem rturn_nil (oa na : Option Addr) (ol nl oc nc : Nat) (w : World) : Calls Tryz.prog 66 #[.pointer none, .slice oa ol oc, .slice na nl nc] w fun e w' => e = .returned (.int .i64 2) ∧ w = w' := by
  go_enter Tryz.func66, Tryz.ntmps66
  go_wp2
  go_ret
  exact ⟨rfl, rfl⟩

theorem rturn_any (br : Nat) (M : List (Key × Nd)) (old now : List Nd) (oa na : Option Addr) (oc nc : Nat) (w : World) (hR : RT w br (nds M)) (hM : MOk M)
    (hO : NdsAt w.heap.size w oa old) (hN : NdsAt w.heap.size w na now) (hfO : ∀ n ∈ old, Fit n) (hfN : ∀ n ∈ now, Fit n) (hlO : old.length * 168 ≤ 140737488355328) (hlN : now.length * 168 ≤ 140737488355328) :
    Calls Tryz.prog 66 #[.pointer (some ⟨br, 0, none⟩), .slice oa old.length oc, .slice na now.length nc] w fun e w' => e = .returned (.int .i64 (turnP M old now)) ∧ Ext w w' := by
  have C1 := Lib.hid (twice_any old oa oc w hO hlO)
  have HR := Lib.hid hR
  have HM := Lib.hid hM
  have HO := Lib.hid hO
  have HN := Lib.hid hN
  have HFO := Lib.hid hfO
  have HFN := Lib.hid hfN
  have hiff := ok_iff M old now
  have HIFF := Lib.hid hiff
  have hyes := fun h => turnP_yes (M := M) (old := old) (now := now) h
  have hno := fun h => turnP_no (M := M) (old := old) (now := now) h
  have HYES := Lib.hid hyes
  have HNO := Lib.hid hno
  generalize turnP M old now = tp at *
  clear hR hM hO hN hfO hfN hiff hyes hno
  go_enter Tryz.func66, Tryz.ntmps66
  go_wp2_with fail
  refine C1.out.mono ?_
  rintro e W1 ⟨rfl, hE1⟩
  have hE1 : Ext w W1 := hE1
  have HE1 := Lib.hid hE1
  have C2 := Lib.hid (twice_any now na nc W1 (HN.out.ext hE1) hlN)
  clear C1 hE1
  cases hd : dupB old with
  | true =>
    have hn := HNO.out fun h => by have := (HIFF.out.1 h).1; rw [hd] at this; cases this
    subst hn
    clear hd C2
    go_wp2
    go_ret
    exact ⟨rfl, HE1.out⟩
  | false =>
    have HD1 := Lib.hid hd
    clear hd
    go_wp2_with fail
    refine C2.out.mono ?_
    rintro e W2 ⟨rfl, hE2⟩
    have hE2 : Ext W1 W2 := hE2
    have HE2 := Lib.hid (HE1.out.trans hE2)
    clear C2 hE2
    cases hd2 : dupB now with
    | true =>
      have hn := HNO.out fun h => by have := (HIFF.out.1 h).2.1; rw [hd2] at this; cases this
      subst hn
      clear hd2
      go_wp2
      go_ret
      exact ⟨rfl, HE2.out⟩
    | false =>
      have HD2 := Lib.hid hd2
      clear hd2
      go_wp2
      go_loopw [7] (fun i wr => ∃ k : Nat, k ≤ now.length ∧ i = .int .i64 k ∧ Hid (∀ (j : Nat) (hj : j < now.length), j < k → goodN M now[j]) ∧ Hid (Ext w wr)) (fun i _ => now.length - (intOf i).toNat)
      case atStart => exact ⟨0, Nat.zero_le _, rfl, fun j hj h => by omega, HE2.out⟩
      case round =>
        obtain ⟨k, hk, rfl, HG, HE⟩ := hrel
        by_cases hlt : k < now.length
        · obtain ⟨b, off, vv, rfl, hb, hv, hc⟩ := HN.out k now[k] (List.getElem?_eq_getElem hlt)
          have hfn := HFN.out now[k] (List.getElem_mem hlt)
          have hmem : now[k] ∈ now := List.getElem_mem hlt
          have hgk : goodN M now[k] → ∀ (j : Nat) (hj : j < now.length), j < k + 1 → goodN M now[j] := fun h j hj hl => by
            by_cases e : j = k
            · subst e; exact h
            · exact HG.out j hj (by omega)
          have HGK := Lib.hid hgk
          have HMEM := Lib.hid hmem
          clear hgk hmem
          generalize now[k] = n at *
          obtain ⟨da, dc, aa, ac, rfl, hD, hA⟩ := hv
          have hcw : ∀ j u, (ndC n (.slice da n.data.length dc) (.slice aa n.acl.length ac))[j]? = some u → wr.cell? ((⟨b, off + k * 17, none⟩ : Addr).add j) = some u := fun j u hj => by
            rw [addr_add, HE.out.cell (p := ⟨b, off + k * 17 + j, none⟩) hb]; exact hc j u hj
          have hp0 : wr.cell? ⟨b, off + k * 17, none⟩ = some (.string n.path) := by
            have h := hcw 0 (.string n.path) rfl
            simpa [addr_add] using h
          have CG := Lib.hid (rget_any wr br M (HR.out.ext HE.out) HM.out n.path hfn.path)
          have HCW := Lib.hid hcw
          have HD := Lib.hid hD
          have HA := Lib.hid hA
          have HFNn := Lib.hid hfn
          clear hc hcw hD hA hfn
          go_wp2_with fail
          refine CG.out.mono ?_
          rintro e X4 ⟨v4, rfl, hv4, hE4⟩
          have hE4 : Ext wr X4 := hE4
          obtain ⟨d2, e2, a2, f2, X5, e0, hset5, hbx5, hEX5, hDz, hAz⟩ := box_node hv4 fun b hb => hb.2
          subst e0
          have hE45 := hE4.trans hEX5
          have hfz := HM.out.fit n.path.data.toList
          have HSET5 := Lib.hid hset5
          have HNEW5 := Lib.hid (heap_alloc_new X4 (.cells zeroNd 47))
          have HE5 := Lib.hid (HE.out.trans hE45)
          have HB5 := Lib.hid hbx5
          have hcx : ∀ j u, (ndC n (.slice da n.data.length dc) (.slice aa n.acl.length ac))[j]? = some u → X5.cell? ((⟨b, off + k * 17, none⟩ : Addr).add j) = some u := fun j u hj => (hE45.cell (World.block_lt_of_cell? _ _ (HCW.out j u hj))).trans (HCW.out j u hj)
          have HCX := Lib.hid hcx
          cases hg : mget M n.path.data.toList with
          | none =>
            have hn := HNO.out fun h => by
              obtain ⟨y, h1, _⟩ := (HIFF.out.1 h).2.2.1 n HMEM.out
              rw [show keyN n = n.path.data.toList from rfl, hg] at h1
              cases h1
            rw [hg] at HSET5
            simp only [Option.getD_none, Option.isSome_none] at HSET5 ⊢
            unfold ndC at HSET5 ⊢
            unfold zeroNd at HSET5 HNEW5
            subst hn
            clear hg CG hset5 hbx5 hEX5 hE45 hE4 hv4 hDz hAz hfz HB5 HGK hcx HCX
            go_wp2_with (refine wpList_store_row rfl 47 (.tmp 8) (.tmp 37) rfl X4.heap.size _ rfl rfl 47 _ HNEW5.out sizeNd rfl (cells_node zeroN d2 a2 _ _ e2 f2) ?_; rw [HSET5.out])
            refine wp_region_P (by kernel_rfl) (region_sp 91 [.val (.bool false), .val (.bool true), .val (.bool true), .val (undef), .val (undef), .val (undef), .val (undef), .val (undef), .val (undef), .val (undef), .val (.bool true)] ?stay rfl (by decide) rfl ?duties ?rest)
            case duties =>
              refine ⟨?_, ?_, ?_, ?_, ?_, ?_, ?_, ?_, ?_, ?_, ?_, trivial⟩
              · refine duty_free rfl fun a w' hE hF hA => ?_
                have x1 := hF.slot 9 _ (by decide) rfl
                exact wp_value (w' := w') (ex_move rfl) ⟨_, rfl, x1, Ext.refl _⟩
              · refine duty_free rfl fun a w' hE hF hA => ?_
                have x1 := hA.pick 0 39 (.bool false) rfl rfl ⟨⟨0, .data⟩, by simp, rfl, rfl⟩ (fun u h => h)
                exact wp_value (w' := w') (v := .bool true) (by simp only [execOp, x1]; simp [go_sem]) ⟨_, rfl, rfl, Ext.refl _⟩
              · refine duty_free rfl fun a w' hE hF hA => ?_
                have x1 := hA.pick 1 40 (.bool true) rfl rfl ⟨⟨1, .data⟩, by simp, rfl, rfl⟩ (fun u h => h)
                exact wp_value (w' := w') (ex_move rfl) ⟨_, rfl, x1, Ext.refl _⟩
              · exact duty_no rfl (p := _) rfl (d := 41) rfl (show 41 < 91 by decide) ⟨⟨2, .guard⟩, by simp, rfl, rfl⟩ (fun v w h => h) fun w => rfl
              · exact duty_no rfl (p := _) rfl (d := 41) rfl (show 41 < 91 by decide) ⟨⟨2, .guard⟩, by simp, rfl, rfl⟩ (fun v w h => h) fun w => rfl
              · exact duty_no rfl (p := _) rfl (d := 41) rfl (show 41 < 91 by decide) ⟨⟨2, .guard⟩, by simp, rfl, rfl⟩ (fun v w h => h) fun w => rfl
              · exact duty_no rfl (p := _) rfl (d := 41) rfl (show 41 < 91 by decide) ⟨⟨2, .guard⟩, by simp, rfl, rfl⟩ (fun v w h => h) fun w => rfl
              · exact duty_no rfl (p := _) rfl (d := 41) rfl (show 41 < 91 by decide) ⟨⟨2, .guard⟩, by simp, rfl, rfl⟩ (fun v w h => h) fun w => rfl
              · exact duty_no rfl (p := _) rfl (d := 41) rfl (show 41 < 91 by decide) ⟨⟨2, .guard⟩, by simp, rfl, rfl⟩ (fun v w h => h) fun w => rfl
              · exact duty_no rfl (p := _) rfl (d := 41) rfl (show 41 < 91 by decide) ⟨⟨2, .guard⟩, by simp, rfl, rfl⟩ (fun v w h => h) fun w => rfl
              · refine duty_free rfl fun a w' hE hF hA => ?_
                have x1 := hA.pick 2 41 (.bool true) rfl rfl ⟨⟨2, .data⟩, by simp, rfl, rfl⟩ (fun u h => h)
                exact wp_value (w' := w') (ex_pick rfl x1) ⟨_, rfl, rfl, Ext.refl _⟩
            case stay => trivial
            case rest =>
              intro W8 hE8
              simp only [forS]
              have HE8 := Lib.hid (HE5.out.trans hE8)
              clear hE8 HE5
              simp only [filled, List.zip_cons_cons, List.zip_nil_left, List.foldl_cons, List.foldl_nil, Act.put, List.setIfInBounds_toArray, List.set_cons_succ, List.set_cons_zero]
              simp only [Exit.inBlock, Exit.then, Act.put]
              rename_i hK
              refine hK _ _ ?_
              clear hK
              go_wp2
              go_ret
              exact ⟨rfl, HE8.out⟩
          | some z =>
            rw [hg] at HSET5 HB5 hDz hAz hfz
            simp only [Option.getD_some, Option.isSome_some] at HSET5 HB5 hDz hAz hfz ⊢
            have CS : Hid (∀ W, Ext X5 W → Calls Tryz.prog 87 #[.agg (ndC z (.slice d2 z.data.length e2) (.slice a2 z.acl.length f2)), .agg (ndC n (.slice da n.data.length dc) (.slice aa n.acl.length ac))] W fun e w' => e = .returned (.bool (sameN z n)) ∧ Below W.heap.size W w') := fun W hW =>
              rsame_any z n d2 a2 da aa e2 f2 dc ac W hfz HFNn.out (hDz.ext hW) (hAz.ext hW) ((HD.out.ext HE5.out).ext hW) ((HA.out.ext HE5.out).ext hW)
            have hgood : sameN z n = true → goodN M n := fun h => ⟨z, hg, h⟩
            have hbad : sameN z n = false → ¬ turnOk M old now := fun h h2 => by
              obtain ⟨y, h3, h4⟩ := (HIFF.out.1 h2).2.2.1 n HMEM.out
              rw [show keyN n = n.path.data.toList from rfl, hg] at h3
              cases h3
              rw [h] at h4; cases h4
            have HGOOD := Lib.hid hgood
            have HBAD := Lib.hid hbad
            generalize sameN z n = sm at *
            unfold ndC at HSET5 ⊢
            unfold zeroNd at HSET5 HNEW5
            clear hg CG hset5 hbx5 hEX5 hE45 hE4 hv4 hDz hAz hfz hcx hgood hbad
            go_wp2_with (refine wpList_store_row rfl 47 (.tmp 8) (.tmp 37) rfl X4.heap.size _ rfl rfl 47 _ HNEW5.out sizeNd rfl (cells_node z d2 a2 _ _ e2 f2) ?_; rw [HSET5.out])
            refine wp_region_P (by kernel_rfl) (region_sp 91 [.val (.bool true), .val (.bool false), .val (.bool false), .val (.agg (ndC z (.slice d2 z.data.length e2) (.slice a2 z.acl.length f2))), .val (.slice (some ⟨b, off, none⟩) now.length nc), .val (.int .i64 k), .val (.pointer (some ⟨b, off + k * 17, none⟩)), .val (.agg (ndC n (.slice da n.data.length dc) (.slice aa n.acl.length ac))), .val (.bool sm), .val (.bool (!sm)), .val (.bool (!sm))] ?stay rfl (by decide) rfl ?duties ?rest)
            case duties =>
              refine ⟨?_, ?_, ?_, ?_, ?_, ?_, ?_, ?_, ?_, ?_, ?_, trivial⟩
              · refine duty_free rfl fun a w' hE hF hA => ?_
                have x1 := hF.slot 9 _ (by decide) rfl
                exact wp_value (w' := w') (ex_move rfl) ⟨_, rfl, x1, Ext.refl _⟩
              · refine duty_free rfl fun a w' hE hF hA => ?_
                have x1 := hA.pick 0 39 (.bool true) rfl rfl ⟨⟨0, .data⟩, by simp, rfl, rfl⟩ (fun u h => h)
                exact wp_value (w' := w') (v := .bool false) (by simp only [execOp, x1]; simp [go_sem]) ⟨_, rfl, rfl, Ext.refl _⟩
              · refine duty_free rfl fun a w' hE hF hA => ?_
                have x1 := hA.pick 1 40 (.bool false) rfl rfl ⟨⟨1, .data⟩, by simp, rfl, rfl⟩ (fun u h => h)
                exact wp_value (w' := w') (ex_move rfl) ⟨_, rfl, x1, Ext.refl _⟩
              · refine duty_yes rfl (p := _) rfl (d := 41) rfl (show 41 < 91 by decide) ⟨⟨2, .guard⟩, by simp, rfl, rfl⟩ (fun v w h => h) fun a w' hE hF hA => ?_
                have x1 := hF.slot 8 _ (by decide) rfl
                exact wp_value (ex_load_row rfl _ x1 47 _ (0, 0) _ ((hE.block _ (Array.getElem?_eq_some_iff.1 HB5.out).1).trans HB5.out) Tryz.underlying47 rfl sizeNd) ⟨_, rfl, rfl, Ext.refl _⟩
              · refine duty_yes rfl (p := _) rfl (d := 41) rfl (show 41 < 91 by decide) ⟨⟨2, .guard⟩, by simp, rfl, rfl⟩ (fun v w h => h) fun a w' hE hF hA => ?_
                have x1 := hF.slot 2 _ (by decide) rfl
                exact wp_value (w' := w') (ex_move rfl) ⟨_, rfl, x1, Ext.refl _⟩
              · refine duty_yes rfl (p := _) rfl (d := 41) rfl (show 41 < 91 by decide) ⟨⟨2, .guard⟩, by simp, rfl, rfl⟩ (fun v w h => h) fun a w' hE hF hA => ?_
                have x1 := hF.slot 7 _ (by decide) rfl
                exact wp_value (w' := w') (ex_move rfl) ⟨_, rfl, x1, Ext.refl _⟩
              · refine duty_yes rfl (p := _) rfl (d := 41) rfl (show 41 < 91 by decide) ⟨⟨2, .guard⟩, by simp, rfl, rfl⟩ (fun v w h => h) fun a w' hE hF hA => ?_
                have x1 := hA.pick 4 43 (.slice (some ⟨b, off, none⟩) now.length nc) rfl rfl ⟨⟨4, .data⟩, by simp, rfl, rfl⟩ (fun u h => h)
                have x2 := hA.pick 5 44 (.int .i64 k) rfl rfl ⟨⟨5, .data⟩, by simp, rfl, rfl⟩ (fun u h => h)
                exact wp_value (w' := w') (v := .pointer (some ⟨b, off + k * 17, none⟩)) (by simp only [execOp, x1, x2]; simp [go_sem, hlt]) ⟨_, rfl, rfl, Ext.refl _⟩
              · refine duty_yes rfl (p := _) rfl (d := 41) rfl (show 41 < 91 by decide) ⟨⟨2, .guard⟩, by simp, rfl, rfl⟩ (fun v w h => h) fun a w' hE hF hA => ?_
                have x1 := hA.pick 6 45 (.pointer (some ⟨b, off + k * 17, none⟩)) rfl rfl ⟨⟨6, .data⟩, by simp, rfl, rfl⟩ (fun u h => h)
                exact wp_value (ex_load_at rfl _ x1 (ndC n (.slice da n.data.length dc) (.slice aa n.acl.length ac)) (fun j u hj => ((hE.cell (World.block_lt_of_cell? _ _ (HCX.out j u hj))).trans (HCX.out j u hj))) Tryz.underlying47 rfl sizeNd) ⟨_, rfl, rfl, Ext.refl _⟩
              · refine duty_yes rfl (p := _) rfl (d := 41) rfl (show 41 < 91 by decide) ⟨⟨2, .guard⟩, by simp, rfl, rfl⟩ (fun v w h => h) fun a w' hE hF hA => ?_
                have x1 := hA.pick 3 42 (.agg (ndC z (.slice d2 z.data.length e2) (.slice a2 z.acl.length f2))) rfl rfl ⟨⟨3, .data⟩, by simp, rfl, rfl⟩ (fun u h => h)
                have x2 := hA.pick 7 46 (.agg (ndC n (.slice da n.data.length dc) (.slice aa n.acl.length ac))) rfl rfl ⟨⟨7, .data⟩, by simp, rfl, rfl⟩ (fun u h => h)
                refine wp_enter (ex_call rfl (enters_f Tryz.func87 (by kernel_rfl) rfl)) (by simp only [List.map_toArray, List.map_cons, List.map_nil, x1, x2]; exact CS.out w' hE) ?_
                rintro e w4 ⟨rfl, hb⟩
                exact ⟨_, rfl, _, rfl, rfl, hb⟩
              · refine duty_yes rfl (p := _) rfl (d := 41) rfl (show 41 < 91 by decide) ⟨⟨2, .guard⟩, by simp, rfl, rfl⟩ (fun v w h => h) fun a w' hE hF hA => ?_
                have x1 := hA.pick 8 47 (.bool sm) rfl rfl ⟨⟨8, .data⟩, by simp, rfl, rfl⟩ (fun u h => h)
                exact wp_value (w' := w') (v := .bool (!sm)) (by simp only [execOp, x1]; simp [go_sem]) ⟨_, rfl, rfl, Ext.refl _⟩
              · refine duty_free rfl fun a w' hE hF hA => ?_
                have x1 := hA.pick 2 41 (.bool false) rfl rfl ⟨⟨2, .data⟩, by simp, rfl, rfl⟩ (fun u h => h)
                have x2 := hA.pick 9 48 (.bool (!sm)) rfl rfl ⟨⟨9, .data⟩, by simp, rfl, rfl⟩ (fun u h => h)
                exact wp_value (w' := w') (ex_pick rfl x1) ⟨_, rfl, x2, Ext.refl _⟩
            case stay => trivial
            case rest =>
              intro W8 hE8
              simp only [forS]
              have HE8 := Lib.hid (HE5.out.trans hE8)
              clear hE8 HE5 CS HB5 HCX HSET5 HNEW5
              simp only [filled, List.zip_cons_cons, List.zip_nil_left, List.foldl_cons, List.foldl_nil, Act.put, List.setIfInBounds_toArray, List.set_cons_succ, List.set_cons_zero]
              simp only [Exit.inBlock, Exit.then, Act.put]
              rename_i hK
              refine hK _ _ ?_
              clear hK
              cases sm with
              | true =>
                have HG2 := Lib.hid (HGK.out (HGOOD.out rfl))
                clear HGK HGOOD HBAD
                go_wp2
                go_roundw
                case rel => exact ⟨k + 1, by omega, by go_num, HG2.out, HE8.out⟩
                case measure => simp [intOf]; omega
              | false =>
                have hn := HNO.out (HBAD.out rfl)
                subst hn
                clear HGK HGOOD HBAD
                go_wp2
                go_ret
                exact ⟨rfl, HE8.out⟩
        · obtain rfl : k = now.length := by omega
          have hall : ∀ n ∈ now, goodN M n := fun n hn => by
            obtain ⟨j, hj, rfl⟩ := List.getElem_of_mem hn
            exact HG.out j hj hj
          have HALL := Lib.hid hall
          clear hall HG
          go_wp2
          go_loopw [10] (fun i wr => ∃ k : Nat, k ≤ old.length ∧ i = .int .i64 k ∧ Hid (∀ (j : Nat) (hj : j < old.length), j < k → oldN M now old[j]) ∧ Hid (Ext w wr)) (fun i _ => old.length - (intOf i).toNat)
          case atStart => exact ⟨0, Nat.zero_le _, rfl, fun j hj h => by omega, HE.out⟩
          case round =>
            clear HE
            obtain ⟨k, hk, rfl, HG, HE⟩ := hrel
            by_cases hlt : k < old.length
            · obtain ⟨b, off, vv, rfl, hb, hv, hc⟩ := HO.out k old[k] (List.getElem?_eq_getElem hlt)
              have hfn := HFO.out old[k] (List.getElem_mem hlt)
              have hmem : old[k] ∈ old := List.getElem_mem hlt
              have hgk : oldN M now old[k] → ∀ (j : Nat) (hj : j < old.length), j < k + 1 → oldN M now old[j] := fun h j hj hl => by
                by_cases e : j = k
                · subst e; exact h
                · exact HG.out j hj (by omega)
              have HGK := Lib.hid hgk
              have HMEM := Lib.hid hmem
              clear hgk hmem
              generalize old[k] = n at *
              obtain ⟨da, dc, aa, ac, rfl, _, _⟩ := hv
              have hp0 : w.cell? ⟨b, off + k * 17, none⟩ = some (.string n.path) := by
                have h := hc 0 (.string n.path) rfl
                simpa [addr_add] using h
              have HP0 := Lib.hid hp0
              have HFNn := Lib.hid hfn
              clear hc hp0 hfn
              go_wp2
              go_loopw [11, 12] (fun iv i wi => ∃ (j : Nat) (st : Bool), j ≤ now.length ∧ i = .int .i64 j ∧ iv = .bool st ∧ Hid (st = true → ∃ m ∈ now, m.path = n.path) ∧ Hid (st = false → ∀ (q : Nat) (hq : q < now.length), q < j → now[q].path ≠ n.path) ∧ Hid (Ext w wi)) (fun _ i _ => now.length - (intOf i).toNat)
              case atStart => exact ⟨0, false, Nat.zero_le _, rfl, rfl, (fun h => by cases h), (fun _ q hq h => by omega), HE.out⟩
              case round =>
                clear HE
                obtain ⟨j, st, hj, rfl, rfl, HS1, HS2, HE⟩ := hrel
                by_cases hjl : j < now.length
                · obtain ⟨nb, noff, vv, rfl, hnb, hv, hc⟩ := HN.out j now[j] (List.getElem?_eq_getElem hjl)
                  obtain ⟨da2, dc2, aa2, ac2, rfl, _, _⟩ := hv
                  have hp1 : wr.cell? ⟨nb, noff + j * 17, none⟩ = some (.string now[j].path) := by
                    have h := hc 0 (.string now[j].path) rfl
                    rw [HE.out.cell (p := ⟨nb, noff + j * 17, none⟩) hnb]
                    simpa [addr_add] using h
                  have hp2 : wr.cell? ⟨b, off + k * 17, none⟩ = some (.string n.path) := (HE.out.cell (p := ⟨b, off + k * 17, none⟩) hb).trans HP0.out
                  have hmj : now[j] ∈ now := List.getElem_mem hjl
                  have HMJ := Lib.hid hmj
                  clear hc hmj
                  cases st with
                  | true =>
                    clear hp1 hp2 HMJ
                    go_wp2
                    go_quiet (fail)
                    go_wp2
                    go_roundw
                    case rel => exact ⟨j + 1, true, by omega, by go_num, rfl, (fun _ => HS1.out trivial), (fun h => by cases h), HE.out.trans' (below_drewN (Below.refl _ _) _)⟩
                    case measure => simp [intOf]; omega
                  | false =>
                    by_cases he : now[j].path = n.path
                    · have HS3 : Hid (true = true → ∃ m ∈ now, m.path = n.path) := fun _ => ⟨_, HMJ.out, he⟩
                      rw [he] at hp1
                      have f1 : (n.path.toList == n.path.toList) = true := by simp
                      generalize n.path = p at *
                      clear he HS1 HS2 HMJ HP0
                      go_wp2
                      go_quiet (fail)
                      go_wp2
                      go_roundw
                      case rel => exact ⟨j + 1, true, by omega, by go_num, rfl, (fun _ => HS3.out trivial), (fun h => by cases h), HE.out.trans' (below_drewN (Below.refl _ _) _)⟩
                      case measure => simp [intOf]; omega
                    · have HS4 : Hid (false = false → ∀ (q : Nat) (hq : q < now.length), q < j + 1 → now[q].path ≠ n.path) := fun _ q hq hl => by
                        by_cases e : q = j
                        · subst e; exact he
                        · exact HS2.out rfl q hq (by omega)
                      have f1 : (now[j].path.toList == n.path.toList) = false := by
                        simp only [ByteArray.toList_eq, beq_eq_false_iff_ne, ne_eq]
                        exact fun h => he (ba_ext h)
                      obtain ⟨p, hp⟩ : ∃ p, p = n.path := ⟨_, rfl⟩
                      obtain ⟨q, hq⟩ : ∃ q, q = now[j].path := ⟨_, rfl⟩
                      rw [← hp] at hp2 f1
                      rw [← hq] at hp1 f1
                      clear he HS2 HMJ hp hq
                      go_wp2
                      go_quiet (fail)
                      go_wp2
                      go_roundw
                      case rel => exact ⟨j + 1, false, by omega, by go_num, rfl, (fun h => by cases h), (fun _ => HS4.out trivial), HE.out.trans' (below_drewN (Below.refl _ _) _)⟩
                      case measure => simp [intOf]; omega
                · obtain rfl : j = now.length := by omega
                  have hst : st = true ∨ (st = false ∧ ∀ m ∈ now, m.path ≠ n.path) := by
                    cases st with
                    | true => exact .inl rfl
                    | false => exact .inr ⟨rfl, fun m hm => by
                        obtain ⟨q, hq, rfl⟩ := List.getElem_of_mem hm
                        exact HS2.out rfl q hq hq⟩
                  have hin : st = true → oldN M now n := fun h h2 => by
                    obtain ⟨m, hm, e⟩ := HS1.out h
                    exact h2.2 m hm e
                  have CG := Lib.hid (rget_any wr br M (HR.out.ext HE.out) HM.out n.path HFNn.out.path)
                  have hp2 : wr.cell? ⟨b, off + k * 17, none⟩ = some (.string n.path) := (HE.out.cell (p := ⟨b, off + k * 17, none⟩) hb).trans HP0.out
                  have HST := Lib.hid hst
                  have HIN := Lib.hid hin
                  clear hst hin HS1 HS2
                  go_wp2_with fail
                  refine CG.out.mono ?_
                  rintro e X4 ⟨v4, rfl, hv4, hE4⟩
                  have hE4 : Ext wr X4 := hE4
                  obtain ⟨d2, e2, a2, f2, X5, e0, hset5, hbx5, hEX5, _, _⟩ := box_node hv4 fun b hb => hb.2
                  subst e0
                  have HSET5 := Lib.hid hset5
                  have HNEW5 := Lib.hid (heap_alloc_new X4 (.cells zeroNd 47))
                  have HE5 := Lib.hid (HE.out.trans (hE4.trans hEX5))
                  have hthr : oldN M now n ↔ ¬ ((mget M n.path.data.toList).isSome = true ∧ ∀ m ∈ now, m.path ≠ n.path) := Iff.rfl
                  have HTHR := Lib.hid hthr
                  have hbad : ¬ oldN M now n → ¬ turnOk M old now := fun h h2 => h ((HIFF.out.1 h2).2.2.2 n HMEM.out)
                  have HBAD := Lib.hid hbad
                  generalize (mget M n.path.data.toList).getD zeroN = z at *
                  generalize (mget M n.path.data.toList).isSome = th at *
                  unfold ndC at HSET5 ⊢
                  unfold zeroNd at HSET5 HNEW5
                  clear CG hset5 hbx5 hEX5 hE4 hv4 hthr hbad hp2
                  have fin : ∀ x : Bool, x = st → (x = true ∨ th = false → oldN M now n) := fun x hx h => by
                    rcases h with h | h
                    · exact HIN.out (hx ▸ h)
                    · exact HTHR.out.2 fun h2 => by rw [h] at h2; cases h2.1
                  have HF := Lib.hid fin
                  clear fin
                  cases st with
                  | true =>
                    have HG2 := Lib.hid (HGK.out (HF.out true rfl (.inl rfl)))
                    clear HST HIN HTHR HBAD HF
                    go_wp2_with (refine wpList_store_row rfl 47 (.tmp 13) (.tmp 84) rfl X4.heap.size _ rfl rfl 47 _ HNEW5.out sizeNd rfl (cells_node z d2 a2 _ _ e2 f2) ?_; rw [HSET5.out])
                    go_roundw
                    case rel => exact ⟨k + 1, by omega, by go_num, HG2.out, HE5.out⟩
                    case measure => simp [intOf]; omega
                  | false =>
                    cases th with
                    | false =>
                      have HG2 := Lib.hid (HGK.out (HF.out false rfl (.inr rfl)))
                      clear HST HIN HTHR HBAD HF
                      go_wp2_with (refine wpList_store_row rfl 47 (.tmp 13) (.tmp 84) rfl X4.heap.size _ rfl rfl 47 _ HNEW5.out sizeNd rfl (cells_node z d2 a2 _ _ e2 f2) ?_; rw [HSET5.out])
                      go_roundw
                      case rel => exact ⟨k + 1, by omega, by go_num, HG2.out, HE5.out⟩
                      case measure => simp [intOf]; omega
                    | true =>
                      have hn := HNO.out (HBAD.out fun h => HTHR.out.1 h ⟨rfl, by rcases HST.out with h3 | h3; cases h3; exact h3.2⟩)
                      subst hn
                      clear HST HIN HTHR HBAD HF HGK
                      go_wp2_with (refine wpList_store_row rfl 47 (.tmp 13) (.tmp 84) rfl X4.heap.size _ rfl rfl 47 _ HNEW5.out sizeNd rfl (cells_node z d2 a2 _ _ e2 f2) ?_; rw [HSET5.out])
                      go_ret
                      exact ⟨rfl, HE5.out⟩
            · obtain rfl : k = old.length := by omega
              have hok : turnOk M old now := HIFF.out.2 ⟨HD1.out, HD2.out, HALL.out, fun n hn => by
                obtain ⟨j, hj, rfl⟩ := List.getElem_of_mem hn
                exact HG.out j hj hj⟩
              have hn := HYES.out hok
              subst hn
              clear hok HG
              go_wp2
              go_ret
              exact ⟨rfl, HE.out⟩
end Go.Proofs.YtamolbegmkngdaaGreatDoor
namespace Go.Proofs.YtamolbegmkngdaaGreatDoor
open Go.RowKit
set_option maxHeartbeats 2000000
set_option maxRecDepth 100000

theorem rnew_any (p : ByteArray) (data : List UInt8) (acl : List Ac) (x y z : Int) (da aa : Option Addr) (dc ac : Nat) (w : World) (hf : Fit (newN p data acl x y z)) (hD : Cells w.heap.size w da (data.map u8v)) (hA : Cells w.heap.size w aa (acCs acl)) :
    Calls Tryz.prog 141 #[.string p, .slice da data.length dc, .slice aa acl.length ac, .int .i64 x, .int .i64 y, .int .i64 z] w (CloneNew (newN p data acl x y z) w) := by
  obtain ⟨i0, hi, hz0, hz1, hz2⟩ := info_parts infoU8
  obtain ⟨i1, hi', hz0', hz1', hz2'⟩ := info_parts infoAc
  have hfd : data.length ≤ 140737488355328 := hf.data
  have hfa : acl.length * 40 ≤ 140737488355328 := hf.acl
  obtain ⟨W1, hW1⟩ : ∃ W1, W1 = w.alloc (.cells zeroNd 47) := ⟨_, rfl⟩
  have hE1 : Ext w W1 := by rw [hW1]; exact Ext.alloc _ _
  have hzW : W1.heap.size = w.heap.size + 1 := by rw [hW1]; simp
  have hr1 : W1.heap[w.heap.size]? = some (.cells zeroNd 47 (0, 0)) := by rw [hW1]; exact heap_alloc_new w _
  have hown1 := ownsRow_empty W1 5 1
  rw [hzW] at hown1
  have hEa : Ext w (W1.alloc (.cells #[] 5)) := hE1.trans (Ext.alloc _ _)
  have hsrc1 : Src Tryz.prog 1 42 (.slice da data.length dc) data.length (data.map u8v) (W1.alloc (.cells #[] 5)) := (hD.below hEa).src Tryz.underlying42 _ _ (by simp) (one_u8 _)
  have HEa := Lib.hid hEa
  have HW1 := Lib.hid hW1
  have HR1 := Lib.hid hr1
  have HA := Lib.hid hA
  rw [hW1] at hown1 hsrc1
  unfold zeroNd at hown1 hsrc1 HW1
  clear hW1 hr1 hEa hD hA hE1
  go_enter Tryz.func141, Tryz.ntmps141
  go_wp2_with (at_builtin; refine wpList_append_src _ rfl (.tmp 14) (.tmp 15) 42 42 rfl (w.heap.size + 1) 5 i0 (.int .u8 0) 1 1 Tryz.underlying42 hi hz0 hz1 hz2 rfl (by decide) _ 0 _ rfl hown1 _ _ _ rfl hsrc1 ?c1 ?c2 ?c3 ?_)
  case c1 => simp only [maxLen]; omega
  case c2 => omega
  case c3 => simp
  intro v1 w4 ho1 hg1 _ _
  rw [← HW1.out] at hg1
  have hz4 := hg1.size
  simp only [World.size_alloc] at hz4
  have hE4 : Ext w w4 := HEa.out.trans' ⟨hg1.os, hg1.tape, hg1.output, hg1.size, fun k hk => hg1.block k (by simp; omega) (fun e => by have h : k = w.heap.size + 1 := Option.some.inj e; omega)⟩
  have hr4 : w4.heap[w.heap.size]? = some (.cells zeroNd 47 (0, 0)) := (hg1.block w.heap.size (by simp; omega) (fun e => by have h : w.heap.size = w.heap.size + 1 := Option.some.inj e; omega)).trans ((heap_alloc_old W1 _ (by omega)).trans HR1.out)
  obtain ⟨va, vc, rfl, hD4⟩ := ownsRow_cells ho1
  have hvb : ∀ b off, va = some ⟨b, off, none⟩ → w.heap.size + 1 ≤ b := by
    intro b off h
    subst h
    rcases ho1.2 with ⟨h, _⟩ | ⟨g, cap, cur, h, k1, _⟩
    · cases h
    · simp only [Value.slice.injEq, Option.some.injEq, Addr.mk.injEq] at h; omega
  have hown2 := ownsRow_empty w4 166 3
  have hEb : Ext w (w4.alloc (.cells #[] 166)) := hE4.trans (Ext.alloc _ _)
  have hsrc2 : Src Tryz.prog 3 43 (.slice aa acl.length ac) acl.length (acCs acl) (w4.alloc (.cells #[] 166)) := (HA.out.below hEb).src Tryz.underlying43 _ _ (acCs_length _) (one_ac _)
  have HD4 := Lib.hid hD4
  have HVB := Lib.hid hvb
  have HR4 := Lib.hid hr4
  have HEb := Lib.hid hEb
  clear ho1 hg1 hown1 hsrc1 hE4 hr4 hEb HW1 HR1 HEa HA hD4 hvb
  go_wp2_with (at_builtin; refine wpList_append_src _ rfl (.tmp 17) (.tmp 18) 43 43 rfl w4.heap.size 166 i1 (.agg #[.int .i32 0, .string ⟨#[]⟩, .string ⟨#[]⟩]) 3 40 Tryz.underlying43 hi' hz0' hz1' hz2' rfl (by decide) _ 0 _ rfl hown2 _ _ _ rfl hsrc2 ?d1 ?d2 ?d3 ?_)
  case d1 => simp only [maxLen]; omega
  case d2 => omega
  case d3 => simp
  intro v2 w6 ho2 hg2 _ _
  have hz6 := hg2.size
  simp only [World.size_alloc] at hz6
  have hE6 : Ext w w6 := HEb.out.trans' ⟨hg2.os, hg2.tape, hg2.output, hg2.size, fun k hk => hg2.block k (by simp; omega) (fun e => by have h : k = w4.heap.size := Option.some.inj e; omega)⟩
  have hr6 : w6.heap[w.heap.size]? = some (.cells zeroNd 47 (0, 0)) := (hg2.block w.heap.size (by simp; omega) (fun e => by have h : w.heap.size = w4.heap.size := Option.some.inj e; omega)).trans ((heap_alloc_old w4 _ (by omega)).trans HR4.out)
  have hD6 : ∀ j u, (data.map u8v)[j]? = some u → ∃ b off, va = some ⟨b, off, none⟩ ∧ (w.heap.size + 1 ≤ b ∧ b < w6.heap.size) ∧ w6.cell? ⟨b, off + j, none⟩ = some u := fun j u hj => by
    obtain ⟨b, off, h1, h2, h3⟩ := HD4.out j u hj
    have h4 := HVB.out b off h1
    exact ⟨b, off, h1, ⟨h4, by omega⟩, (World.cell?_of_block ((hg2.block b (by simp; omega) (fun e => by have h : b = w4.heap.size := Option.some.inj e; omega)).trans (heap_alloc_old w4 _ h2))).trans h3⟩
  obtain ⟨vb, vd, rfl, hA6⟩ := ownsRow_cells ho2
  have hvb2 : ∀ b off, vb = some ⟨b, off, none⟩ → w4.heap.size ≤ b := by
    intro b off h
    subst h
    rcases ho2.2 with ⟨h, _⟩ | ⟨g, cap, cur, h, k1, _⟩
    · cases h
    · simp only [Value.slice.injEq, Option.some.injEq, Addr.mk.injEq] at h; omega
  obtain ⟨cs, hcs⟩ : ∃ cs, cs = ndC (newN p data acl x y z) (.slice va data.length vc) (.slice vb acl.length vd) := ⟨_, rfl⟩
  have hr7 := setRow_heap w6 w.heap.size _ cs 47 (0, 0) hr6
  have hs7 : (w6.setRow w.heap.size cs).heap.size = w6.heap.size := by simp [World.setRow]
  have hE7 : Ext w (w6.setRow w.heap.size cs) := hE6.trans' ⟨rfl, rfl, rfl, by rw [hs7]; exact Nat.le_refl _, fun k hk => setRow_other _ _ _ _ (by omega)⟩
  have cD : CellsS (fun k => w.heap.size ≤ k ∧ k < (w6.setRow w.heap.size cs).heap.size) (w6.setRow w.heap.size cs) va (data.map u8v) := fun j u hj => by
    obtain ⟨b, off, h1, h2, h3⟩ := hD6 j u hj
    exact ⟨b, off, h1, ⟨by omega, by omega⟩, (World.cell?_of_block (setRow_other _ _ _ _ (show b ≠ w.heap.size by omega))).trans h3⟩
  have cA : CellsS (fun k => w.heap.size ≤ k ∧ k < (w6.setRow w.heap.size cs).heap.size) (w6.setRow w.heap.size cs) vb (acCs acl) := fun j u hj => by
    obtain ⟨b, off, h1, h2, h3⟩ := hA6 j u hj
    have h4 := hvb2 b off h1
    exact ⟨b, off, h1, ⟨by omega, by omega⟩, (World.cell?_of_block (setRow_other _ _ _ _ (show b ≠ w.heap.size by omega))).trans h3⟩
  have hfin : CloneNew (newN p data acl x y z) w (.returned (.agg cs)) (w6.setRow w.heap.size cs) := ⟨_, rfl, ⟨va, vc, vb, vd, by rw [hcs]; rfl, cD, cA⟩, hE7⟩
  have HFIN := Lib.hid hfin
  have HR6 := Lib.hid hr6
  have HR7 := Lib.hid hr7
  have hone : cs.all (·.oneCell') = true := by rw [hcs]; exact cells_node (newN p data acl x y z) va vb _ _ vc vd
  have hsz17 : (Tryz.prog.info? 47).map (·.size) = some cs.size := by rw [hcs]; exact sizeNd
  have HONE := Lib.hid hone
  have HSZ := Lib.hid hsz17
  have HCS := Lib.hid hcs
  unfold ndC newN at HCS
  unfold zeroNd at HR6
  clear hfin hr6 hr7 hD6 hA6 hvb2 hE6 hE7 cD cA ho2 hg2 hown2 hsrc2 hone hsz17 hcs HD4 HVB HR4 HEb
  go_wp2_with (rw [← HCS.out]; refine wpList_store_row rfl 47 (.tmp 12) (.tmp 26) rfl w.heap.size _ rfl rfl 47 _ HR6.out HSZ.out (by rw [HCS.out]; rfl) HONE.out ?_)
  refine bodyPost_ret (v := .agg cs) ?_ rfl HFIN.out
  exact results_cell_row (p := 12) (ty := 47) rfl _ _ w.heap.size 47 cs (0, 0) _ rfl HR7.out Tryz.underlying47 rfl HSZ.out

theorem rroot_any (w : World) : Calls Tryz.prog 83 #[] w (CloneNew rootN w) := by
  obtain ⟨W1, hW1⟩ : ∃ W1, W1 = w.alloc (.cells zeroNd 47) := ⟨_, rfl⟩
  obtain ⟨W2, hW2⟩ : ∃ W2, W2 = W1.alloc (.cells #[.int .i32 31, .string ⟨#[119, 111, 114, 108, 100]⟩, .string ⟨#[97, 110, 121, 111, 110, 101]⟩] 166) := ⟨_, rfl⟩
  have hE1 : Ext w W1 := by rw [hW1]; exact Ext.alloc _ _
  have hE2 : Ext W1 W2 := by rw [hW2]; exact Ext.alloc _ _
  have hz1 : W1.heap.size = w.heap.size + 1 := by rw [hW1]; simp
  have hz2 : W2.heap.size = w.heap.size + 1 + 1 := by rw [hW2]; simp [hz1]
  have hr2 : W2.heap[w.heap.size]? = some (.cells zeroNd 47 (0, 0)) := (hE2.block _ (by omega)).trans (by rw [hW1]; exact heap_alloc_new w _)
  have hA : Cells W2.heap.size W2 (some ⟨w.heap.size + 1, 0, none⟩) (acCs [rootAc]) := fun j u hj => by
    refine ⟨_, 0, rfl, by omega, ?_⟩
    have h := heap_alloc_new W1 (.cells #[.int .i32 31, .string ⟨#[119, 111, 114, 108, 100]⟩, .string ⟨#[97, 110, 121, 111, 110, 101]⟩] 166)
    rw [← hW2, hz1] at h
    rw [Nat.zero_add, cell_of_row _ _ _ _ _ _ h]
    simpa [acCs, acC, rootAc] using hj
  have C1 := rnew_any rootP [] [rootAc] 0 0 0 none (some ⟨w.heap.size + 1, 0, none⟩) 0 1 W2 (right_fit rootN_right).1 (Cells.nil _ _ _) hA
  have hW : (w.alloc (.cells zeroNd 47)).alloc (.cells #[.int .i32 31, .string ⟨#[119, 111, 114, 108, 100]⟩, .string ⟨#[97, 110, 121, 111, 110, 101]⟩] 166) = W2 := by rw [hW2, hW1]
  have HW := Lib.hid hW
  have HR2 := Lib.hid hr2
  have HE2 := Lib.hid (hE1.trans hE2)
  have C1 := Lib.hid C1
  unfold zeroNd at HW HR2
  unfold rootP at C1
  clear hW hA hr2 hE1 hE2 hW2 hW1
  go_enter Tryz.func83, Tryz.ntmps83
  go_wp2_with fail
  rw [HW.out]
  refine C1.out.mono ?_
  rintro e w3 ⟨v, rfl, hN, hE3⟩
  have hE3 : Ext W2 w3 := hE3
  obtain ⟨va, vc, vb, vd, rfl, h1, h2⟩ := hN
  have hz3 := hE3.size
  have hr3 := (hE3.block w.heap.size (by omega)).trans HR2.out
  obtain ⟨cs, hcs⟩ : ∃ cs, cs = ndC rootN (.slice va 0 vc) (.slice vb 1 vd) := ⟨_, rfl⟩
  have hr4 := setRow_heap w3 w.heap.size _ cs 47 (0, 0) hr3
  have hs4 : (w3.setRow w.heap.size cs).heap.size = w3.heap.size := by simp [World.setRow]
  have hE4 : Ext w (w3.setRow w.heap.size cs) := (HE2.out.trans hE3).trans' ⟨rfl, rfl, rfl, by rw [hs4]; exact Nat.le_refl _, fun k hk => setRow_other _ _ _ _ (by omega)⟩
  have hk : ∀ (b o : Nat) u, (W2.heap.size ≤ b ∧ b < w3.heap.size) → w3.cell? ⟨b, o, none⟩ = some u → (w3.setRow w.heap.size cs).cell? ⟨b, o, none⟩ = some u := fun b o u hb hu =>
    (World.cell?_of_block (setRow_other _ _ _ _ (show b ≠ w.heap.size by have := hb.1; omega))).trans hu
  have hfin : CloneNew rootN w (.returned (.agg cs)) (w3.setRow w.heap.size cs) := ⟨_, rfl, ⟨va, vc, vb, vd, by rw [hcs]; rfl, h1.imp (fun b hb => ⟨by omega, by omega⟩) hk, h2.imp (fun b hb => ⟨by omega, by omega⟩) hk⟩, hE4⟩
  have HFIN := Lib.hid hfin
  have HR3 := Lib.hid hr3
  have HR4 := Lib.hid hr4
  have HONE := Lib.hid (show cs.all (·.oneCell') = true by rw [hcs]; exact cells_node rootN va vb 0 1 vc vd)
  have HSZ := Lib.hid (show (Tryz.prog.info? 47).map (·.size) = some cs.size by rw [hcs]; exact sizeNd)
  have HS17 := Lib.hid (show cs.size = 17 by rw [hcs]; rfl)
  have hcs2 : ndC (newN ⟨#[47]⟩ [] [rootAc] 0 0 0) (.slice va (newN ⟨#[47]⟩ [] [rootAc] 0 0 0).data.length vc) (.slice vb (newN ⟨#[47]⟩ [] [rootAc] 0 0 0).acl.length vd) = cs := by rw [hcs]; rfl
  rw [hcs2]
  clear hfin hr3 hr4 hE4 hE3 h1 h2 C1 hk hcs hcs2
  go_wp2_with (refine wpList_store_row rfl 47 (.tmp 0) (.tmp 4) rfl w.heap.size _ rfl rfl 47 _ HR3.out HSZ.out (by rw [HS17.out]; rfl) HONE.out ?_)
  refine bodyPost_ret (v := .agg cs) ?_ rfl HFIN.out
  exact results_cell_row (p := 0) (ty := 47) rfl _ _ w.heap.size 47 cs (0, 0) _ rfl HR4.out Tryz.underlying47 rfl HSZ.out
end Go.Proofs.YtamolbegmkngdaaGreatDoor
namespace Go.Proofs.YtamolbegmkngdaaGreatDoor
open Go.RowKit Go.Sort
set_option maxHeartbeats 4000000
set_option maxRecDepth 100000

/-- A row of the call's own that shows these texts. -/
def TextsOut (L : List ByteArray) (w : World) (e : Ending) (w' : World) : Prop := ∃ v, e = .returned v ∧ w'.ownsRow w.heap.size 9 1 v L.length (L.map .string) ∧ Ext w w'
theorem texts_out {L : List ByteArray} {w w' : World} {e : Ending} (h : TextsOut L w e w') : ∃ a c, e = .returned (.slice a L.length c) ∧ StrsAt w'.heap.size w' a L ∧ Ext w w' := by
  obtain ⟨v, rfl, hown, hE⟩ := h
  have hO2' : w'.ownsRow w.heap.size 9 1 v (L.map fun p => p.data.toList).length ((L.map fun p => p.data.toList).map encStr) := by
    have e : L.map (encStr ∘ fun p => p.data.toList) = L.map Value.string := List.map_congr_left fun p _ => encStr_data p
    rw [List.length_map, List.map_map, e]
    exact hown
  obtain ⟨sa, sc, rfl, _, hstr⟩ := StrsAt.of_own hO2'
  have e : (L.map fun p => p.data.toList).map (fun k => (⟨k.toArray⟩ : ByteArray)) = L := by
    rw [List.map_map]
    exact (List.map_congr_left fun p _ => by simp).trans (List.map_id _)
  rw [e] at hstr
  exact ⟨sa, sc, by rw [List.length_map], hstr, hE⟩

theorem qOver_any (pv : Value) (M : List (Key × Nd)) (w : World) (hM : MOk M) (hG : GetsM pv M w) (s : ByteArray) (hs : s.size ≤ 9223372036854775800) :
    Calls Tryz.prog 20 #[pv, .string s] w (TextsOut ((overL M s).map (·.path)) w) := by
  have C1 := Lib.hid (qover_any pv M w hM hG s hs)
  have hle := overL_le M s
  clear hG
  generalize overL M s = L at *
  go_enter Tryz.func20, Tryz.ntmps20
  go_wp2_with fail
  refine C1.out.mono ?_
  rintro e W1 ⟨v, rfl, hown, hE1⟩
  obtain ⟨a, c, vs, rfl, _, _, hrows, _⟩ := hown.rows
  have HROWS := Lib.hid hrows
  have HE1 := Lib.hid hE1
  have hz1 := hE1.size
  clear C1 hown hrows hE1
  go_wp2
  go_loopw [5, 12] (fun lv i wr => ∃ k : Nat, k ≤ L.length ∧ i = .int .i64 k ∧ Hid (wr.ownsRow W1.heap.size 9 1 lv k ((L.take k).map fun n => .string n.path)) ∧ Ext W1 wr) (fun _ i _ => L.length - (intOf i).toNat)
  case atStart => exact ⟨0, Nat.zero_le _, rfl, World.ownsRow_nil _ _ _ _, Ext.refl _⟩
  case round =>
    obtain ⟨k, hk, rfl, HO, hE⟩ := hrel
    by_cases hlt : k < L.length
    · obtain ⟨bl, off, da, dc, aa, ac, ea, hSb, hc, hD, hA, _⟩ := HROWS.out.row (List.getElem?_eq_getElem hlt)
      subst ea
      have htk : (L.take (k + 1)).map (fun n => Value.string n.path) = (L.take k).map (fun n => Value.string n.path) ++ [.string L[k].path] := by rw [List.take_succ_eq_append_getElem hlt, List.map_append]; rfl
      generalize L[k] = n at *
      have hcw : ∀ j u, (ndC n (.slice da n.data.length dc) (.slice aa n.acl.length ac))[j]? = some u → wr.cell? ((⟨bl, off + k * 17, none⟩ : Addr).add j) = some u := fun j u hj => by
        rw [addr_add, hE.cell (p := ⟨bl, off + k * 17 + j, none⟩) hSb.2]; exact hc j u hj
      obtain ⟨X1, hX1⟩ : ∃ X1, X1 = wr.alloc (.cells (ndC n (.slice da n.data.length dc) (.slice aa n.acl.length ac)) 47) := ⟨_, rfl⟩
      have HSET1 := Lib.hid ((setRow_alloc wr zeroNd (ndC n (.slice da n.data.length dc) (.slice aa n.acl.length ac)) 47).trans hX1.symm)
      have HNEW1 := Lib.hid (heap_alloc_new wr (.cells zeroNd 47))
      have hEX1 : Ext wr X1 := by rw [hX1]; exact Ext.alloc _ _
      have hb1 : X1.heap[wr.heap.size]? = some (.cells (ndC n (.slice da n.data.length dc) (.slice aa n.acl.length ac)) 47 (0, 0)) := by rw [hX1]; exact heap_alloc_new wr _
      have hp : X1.cell? ⟨wr.heap.size, 0, none⟩ = some (.string n.path) := cell_of_row _ _ _ _ _ _ hb1
      have hO1 := HO.out.kept (grown_of_ext hEX1 none) (Classical.em _)
      have HC := Lib.hid hcw
      have HE := Lib.hid (hE.trans hEX1)
      have HTK := Lib.hid htk
      have hzr := hE.size
      have hzx := hEX1.size
      unfold ndC at HC HSET1
      unfold zeroNd at HSET1 HNEW1
      clear hcw hc hD hA hE htk hX1 hEX1 hb1 HO
      go_wp2_with (first | (refine wpList_load_at rfl 47 (.tmp 14) rfl _ rfl _ _ HC.out Tryz.underlying47 rfl sizeNd ?_) | (refine wpList_store_row rfl 47 (.tmp 7) (.tmp 15) rfl wr.heap.size _ rfl rfl 47 _ HNEW1.out sizeNd rfl (cells_node n da aa _ _ dc ac) ?_; rw [HSET1.out]) | (at_builtin; refine wpList_append_s rfl (.tmp 16) (.tmp 19) rfl W1.heap.size k _ _ hO1 (by omega) n.path (by omega) rfl rfl ?_))
      intro v' W6 hO6 hE6
      have HO6 := Lib.hid hO6
      have HE6 := Lib.hid (hE6 W1 HE.out (Nat.le_refl _))
      clear hO6 hE6 hO1 hp
      go_wp2
      go_roundw
      case rel => exact ⟨k + 1, by omega, by go_num, by unfold Hid; rw [HTK.out]; simpa [List.map_take] using HO6.out, HE6.out⟩
      case measure => simp [intOf]; omega
    · obtain rfl : k = L.length := by omega
      rw [List.take_length] at HO
      have hfin : TextsOut (L.map (·.path)) w (.returned u5) wr := ⟨_, rfl, by
        rw [List.length_map, List.map_map]
        exact ownsRow_base_a HO.out hz1, HE1.out.trans hE⟩
      have HFIN := Lib.hid hfin
      clear hfin hE HO
      go_wp2
      go_ret
      exact HFIN.out
end Go.Proofs.YtamolbegmkngdaaGreatDoor
namespace Go.Proofs.YtamolbegmkngdaaGreatDoor
open Go.RowKit Go.Sort
set_option maxHeartbeats 4000000
set_option maxRecDepth 100000

theorem OwnN.nds {L : List Nd} {base : Nat} {v : Value} {w : World} (h : OwnN base L v w) : ∃ a c, v = .slice a L.length c ∧ NdsAt w.heap.size w a L := by
  obtain ⟨a, c, vs, rfl, _, _, hr, _⟩ := h.rows
  exact ⟨a, c, rfl, hr.nds fun k hk => hk.2⟩

theorem own10_any (L : List Nd) (a : Option Addr) (c : Nat) (w : World) (hL : NdsAt w.heap.size w a L) (hf : ∀ n ∈ L, Fit n) (hl : L.length * 168 ≤ 140737488355328) :
    Calls Tryz.prog 65 #[.slice a L.length c] w (NodesOut L w) := by
  have HL := Lib.hid hL
  have HF := Lib.hid hf
  have hl64 : L.length ≤ 9223372036854775807 := by omega
  clear hL hf
  go_enter Tryz.func65, Tryz.ntmps65
  go_wp2
  go_loopw [3, 4] (fun ov i wr => ∃ k : Nat, k ≤ L.length ∧ i = .int .i64 k ∧ Hid (OwnN w.heap.size (L.take k) ov wr) ∧ Ext w wr) (fun _ i _ => L.length - (intOf i).toNat)
  case atStart => exact ⟨0, Nat.zero_le _, rfl, OwnN.nil _ _, Ext.refl _⟩
  case round =>
    obtain ⟨k, hk, rfl, HO, hE⟩ := hrel
    by_cases hlt : k < L.length
    · obtain ⟨b1, o1, v1, rfl, hb1, hv1, hc1⟩ := HL.out k L[k] (List.getElem?_eq_getElem hlt)
      have hfit := HF.out L[k] (List.getElem_mem hlt)
      have htk : L.take (k + 1) = L.take k ++ [L[k]] := List.take_succ_eq_append_getElem hlt
      generalize L[k] = n at *
      obtain ⟨da, dc, aa, ac, rfl, hD, hAc⟩ := hv1
      have hcw : ∀ j u, (ndC n (.slice da n.data.length dc) (.slice aa n.acl.length ac))[j]? = some u → wr.cell? ((⟨b1, o1 + k * 17, none⟩ : Addr).add j) = some u := fun j u hj => by
        rw [addr_add, hE.cell (p := ⟨b1, o1 + k * 17 + j, none⟩) hb1]; exact hc1 j u hj
      have CC := Lib.hid (rclone_new n da aa dc ac wr hfit (hD.ext hE) (hAc.ext hE))
      have HC := Lib.hid hcw
      have HE := Lib.hid hE
      have HTK := Lib.hid htk
      have hzr := hE.size
      have hll : ((L.take k).length + 1) * 168 ≤ 140737488355328 := by rw [List.length_take]; omega
      unfold ndC at HC
      clear hcw hc1 hD hAc hE htk hfit
      go_wp2_with (refine wpList_load_at rfl 47 (.tmp 14) rfl _ rfl _ _ HC.out Tryz.underlying47 rfl sizeNd ?_)
      refine CC.out.mono ?_
      rintro e W5 ⟨v, rfl, hN, hE5⟩
      have HE5 := Lib.hid hE5
      have HN := Lib.hid hN
      obtain ⟨qa, qc, ra, rc, rfl, _, _⟩ := hN
      unfold ndC at HN ⊢
      clear hE5 CC HC
      go_wp2_with (at_builtin; refine wpList_append_nd rfl (.tmp 11) (.tmp 17) rfl w.heap.size (L.take k) _ HO.out HE5.out (by omega) n _ HN.out hll rfl rfl ?_)
      intro v' W6 hO6 hE6
      have HO6 := Lib.hid hO6
      have HE6 := Lib.hid (hE6 w (HE.out.trans HE5.out) (Nat.le_refl _))
      clear hO6 hE6
      go_wp2
      go_roundw
      case rel => exact ⟨k + 1, by omega, by go_num, by unfold Hid; rw [HTK.out]; exact HO6.out, HE6.out⟩
      case measure => simp [intOf]; omega
    · obtain rfl : k = L.length := by omega
      rw [List.take_length] at HO
      have hfin : NodesOut L w (.returned u3) wr := ⟨_, rfl, HO.out, hE⟩
      have HFIN := Lib.hid hfin
      clear hfin hE HO
      go_wp2
      go_ret
      exact HFIN.out

theorem no10_any (x : Int) (w : World) : Calls Tryz.prog 63 #[.int .i64 x] w fun e w' => e = .returned (.int .i64 x) ∧ w = w' := by
  go_enter Tryz.func63, Tryz.ntmps63
  go_wp2
  go_ret
  exact ⟨rfl, rfl⟩

/-- Both trees, or none. -/
def LaidOut (L : List Nd) (w : World) (e : Ending) (w' : World) : Prop :=
  match fromN L with
  | .error _ => e = .returned (.tuple #[.pointer none, .pointer none, .bool true]) ∧ Ext w w'
  | .ok M => ∃ bt br, e = .returned (.tuple #[.pointer (some ⟨bt, 0, none⟩), .pointer (some ⟨br, 0, none⟩), .bool true]) ∧ TreeAt (fun k => w.heap.size ≤ k ∧ k < w'.heap.size ∧ k ≠ br) w' bt M L.length ∧ RT w' br (nds M) ∧ w.heap.size ≤ br ∧ Ext w w'

theorem laid10_any (L : List Nd) (a : Option Addr) (c : Nat) (w : World) (hT : Tabs w) (hL : NdsAt w.heap.size w a L) (hf : ∀ n ∈ L, Fit n) (hl : L.length * 168 ≤ 140737488355328) :
    Calls Tryz.prog 17 #[.slice a L.length c] w (LaidOut L w) := by
  have hsz := hT.size
  have C0 := Lib.hid (own10_any L a c w hL hf hl)
  have HL := Lib.hid hL
  have HF := Lib.hid hf
  have HT := Lib.hid hT
  clear hL hf hT
  go_enter Tryz.func17, Tryz.ntmps17
  go_wp2_with fail
  refine C0.out.mono ?_
  rintro e W0 ⟨v, rfl, hown, hE0⟩
  obtain ⟨oa, oc, rfl, hOL⟩ := hown.nds
  have hE0 : Ext w W0 := hE0
  have C1 := Lib.hid (from_any L oa oc W0 (HT.out.below hE0 hsz) hOL HF.out (by omega))
  have HE0 := Lib.hid hE0
  clear hown hOL hE0 C0
  go_wp2_with fail
  refine C1.out.mono ?_
  intro e W1 hout
  unfold FromOut at hout
  cases hfr : fromN L with
  | error x =>
    obtain ⟨i, x⟩ := x
    rw [hfr] at hout
    obtain ⟨rfl, hE1⟩ := hout
    have hE1 : Ext W0 W1 := hE1
    have hEw1 := HE0.out.trans hE1
    have C2 := Lib.hid (rfrom_any L a c W1 (HT.out.below hEw1 hsz) (HL.out.ext hEw1) HF.out hl)
    have HE1 := Lib.hid hEw1
    have CN := Lib.hid fun W => no10_any x W
    clear C1 hE1 hEw1
    go_wp2_with fail
    refine C2.out.mono ?_
    intro e W2 hout
    unfold RFromOut at hout
    rw [hfr] at hout
    obtain ⟨rfl, hE2⟩ := hout
    have hx1 : (x != x) = false := by simp
    have hfin : LaidOut L w (.returned (.tuple #[.pointer none, .pointer none, .bool true])) W2 := by
      unfold LaidOut
      rw [hfr]
      exact ⟨rfl, HE1.out.trans hE2⟩
    have HFIN := Lib.hid hfin
    have CN2 := Lib.hid (CN.out W2)
    clear C2 hE2 hfr hfin CN
    go_wp2_with fail
    refine CN2.out.mono ?_
    rintro e W3 ⟨rfl, rfl⟩
    clear CN2
    go_wp2
    go_ret3
    exact HFIN.out
  | ok M =>
    rw [hfr] at hout
    obtain ⟨bt, rfl, hT1, hE1⟩ := hout
    have hE1 : Ext W0 W1 := hE1
    have hEw1 := HE0.out.trans hE1
    have C2 := Lib.hid (rfrom_any L a c W1 (HT.out.below hEw1 hsz) (HL.out.ext hEw1) HF.out hl)
    have HE1 := Lib.hid hEw1
    have HT1 := Lib.hid hT1
    have CN := Lib.hid fun W => no10_any 0 W
    have hz0 := HE0.out.size
    clear C1 hE1 hEw1 hT1
    go_wp2_with fail
    refine C2.out.mono ?_
    intro e W2 hout
    unfold RFromOut at hout
    rw [hfr] at hout
    obtain ⟨br, rfl, hbr, hR, hE2⟩ := hout
    have hE2 : Ext W1 W2 := hE2
    have hz2 := hE2.size
    have hfin : LaidOut L w (.returned (.tuple #[.pointer (some ⟨bt, 0, none⟩), .pointer (some ⟨br, 0, none⟩), .bool true])) W2 := by
      unfold LaidOut
      rw [hfr]
      refine ⟨bt, br, rfl, ?_, hR, by have := HE1.out.size; omega, HE1.out.trans hE2⟩
      exact HT1.out.keep (fun k hk => hE2.block k hk.2) (fun k hk => ⟨by have := hk.1; omega, by have := hk.2; omega, by have := hk.2; omega⟩) (fun k hk => hk.2.1) (Nat.le_refl _)
    have HFIN := Lib.hid hfin
    have CN2 := Lib.hid (CN.out W2)
    clear C2 hE2 hfr hfin CN hR
    go_wp2_with fail
    refine CN2.out.mono ?_
    rintro e W3 ⟨rfl, rfl⟩
    clear CN2
    go_wp2
    go_ret3
    exact HFIN.out

theorem sameTexts_self (L : List ByteArray) (a b : Option Addr) (c d : Nat) (w : World) (hA : StrsAt w.heap.size w a L) (hB : StrsAt w.heap.size w b L) (hl : L.length ≤ 9223372036854775807) :
    Calls Tryz.prog 29 #[.slice a L.length c, .slice b L.length d] w fun e w' => e = .returned (.bool true) ∧ Ext w w' := by
  have HA := Lib.hid hA
  have HB := Lib.hid hB
  clear hA hB
  go_enter Tryz.func29, Tryz.ntmps29
  go_wp2
  go_loopw [5] (fun i wr => ∃ k : Nat, k ≤ L.length ∧ i = .int .i64 k ∧ Ext w wr) (fun i _ => L.length - (intOf i).toNat)
  case atStart => exact ⟨0, Nat.zero_le _, rfl, Ext.refl _⟩
  case round =>
    obtain ⟨k, hk, rfl, hE⟩ := hrel
    by_cases hlt : k < L.length
    · obtain ⟨b1, o1, rfl, hb1, hc1⟩ := HA.out k L[k] (List.getElem?_eq_getElem hlt)
      obtain ⟨b2, o2, rfl, hb2, hc2⟩ := HB.out k L[k] (List.getElem?_eq_getElem hlt)
      generalize L[k] = n at *
      have c1 := (hE.cell (p := ⟨b1, o1 + k, none⟩) hb1).trans hc1
      have c2 := (hE.cell (p := ⟨b2, o2 + k, none⟩) hb2).trans hc2
      have HE := Lib.hid hE
      clear hE hc1 hc2
      go_wp2
      go_quiet (fail)
      go_wp2
      go_roundw
      case rel => exact ⟨k + 1, by omega, by go_num, HE.out.trans' (below_drewN (Below.refl _ _) _)⟩
      case measure => simp [intOf]; omega
    · obtain rfl : k = L.length := by omega
      have HE := Lib.hid hE
      clear hE
      go_wp2
      go_ret
      exact ⟨rfl, HE.out⟩
end Go.Proofs.YtamolbegmkngdaaGreatDoor
namespace Go.Proofs.YtamolbegmkngdaaGreatDoor
open Go.RowKit Go.Sort
set_option maxHeartbeats 8000000
set_option maxRecDepth 100000

def liveA : Nd := ⟨⟨#[47, 97]⟩, [120, 121], [], 0, 0, 0, 0, 0, 0, 0, 0, 0, 0, 0, true, 3, 10⟩
def liveB : Nd := ⟨⟨#[47, 97, 47, 98]⟩, [49, 50, 51], [], 0, 0, 0, 0, 0, 0, 0, 0, 0, 0, 0, false, 0, 0⟩
def liveL : List Nd := [rootN, liveA, liveB]
def liveM : List (Key × Nd) := [(keyN rootN, rootN), (keyN liveA, liveA), (keyN liveB, liveB)]
theorem live_from : fromN liveL = .ok liveM := by kernel_rfl
theorem live_right : ∀ n ∈ liveL, rightN n = 0 := by
  have h : (liveL.all fun n => rightN n == 0) = true := by decide +kernel
  exact fun n hn => by simpa using List.all_eq_true.1 h n hn
theorem live_over : overL liveM ⟨#[47, 97, 47, 98, 47, 99]⟩ = [liveA] := by kernel_rfl
theorem live_first : (overL liveM ⟨#[47, 97, 47, 99]⟩).find? (overB liveM 1 6) = some liveA := by kernel_rfl
theorem live_none : (overL liveM ⟨#[47, 97, 47, 99]⟩).find? (overB liveM 1 5) = none := by kernel_rfl
theorem live_used : mget (usedL liveM) (⟨#[47, 97]⟩ : ByteArray).data.toList = some (.agg #[.int .i64 2, .int .i64 5]) := by kernel_rfl
theorem live_clo : Clo liveM := by
  intro x hx h1
  unfold liveM at hx ⊢
  simp only [List.mem_cons, List.not_mem_nil, or_false] at hx ⊢
  rcases hx with rfl | rfl | rfl
  · exact absurd (by decide +kernel) h1
  · exact ⟨_, .inl rfl, by apply ba_ext; decide +kernel⟩
  · exact ⟨_, .inr (.inl rfl), by apply ba_ext; decide +kernel⟩

def liveRow (g : Nat) (va vb : Option Addr) (vc vd : Nat) : List Value :=
  (ndC rootN (.slice va 0 vc) (.slice vb 1 vd)).toList ++ ((ndC liveA (.slice (some ⟨g, 0, none⟩) 2 2) (.slice none 0 0)).toList ++ (ndC liveB (.slice (some ⟨g + 1, 0, none⟩) 3 3) (.slice none 0 0)).toList)
theorem row3_at {a b c : List Value} (ha : a.length = 17) (hb : b.length = 17) : (∀ j u, a[j]? = some u → (a ++ (b ++ c))[0 + 0 * 17 + j]? = some u) ∧ (∀ j u, b[j]? = some u → (a ++ (b ++ c))[0 + 1 * 17 + j]? = some u) ∧ ∀ j u, c[j]? = some u → (a ++ (b ++ c))[0 + 2 * 17 + j]? = some u := by
  refine ⟨fun j u h => ?_, fun j u h => ?_, fun j u h => ?_⟩
  · have := (List.getElem?_eq_some_iff.1 h).1
    rw [List.getElem?_append_left (by omega), show 0 + 0 * 17 + j = j by omega]; exact h
  · have := (List.getElem?_eq_some_iff.1 h).1
    rw [List.getElem?_append_right (by omega), List.getElem?_append_left (by omega), show 0 + 1 * 17 + j - a.length = j by omega]; exact h
  · rw [List.getElem?_append_right (by omega), List.getElem?_append_right (by omega), show 0 + 2 * 17 + j - a.length - b.length = j by omega]; exact h

theorem live_nds (W1 : World) (va vb : Option Addr) (vc vd : Nat) (h1 : Cells W1.heap.size W1 va (rootN.data.map u8v)) (h2 : Cells W1.heap.size W1 vb (acCs rootN.acl)) (Wc : World)
    (hWc : ((W1.alloc (.cells #[.int .u8 120, .int .u8 121] 5 (2, 3))).alloc (.cells #[.int .u8 49, .int .u8 50, .int .u8 51] 5 (3, 4))).alloc (.cells (liveRow W1.heap.size va vb vc vd).toArray 47) = Wc) :
    NdsAt Wc.heap.size Wc (some ⟨W1.heap.size + 1 + 1, 0, none⟩) liveL ∧ Ext W1 Wc := by
  obtain ⟨Wa, hWa⟩ : ∃ Wa, Wa = W1.alloc (.cells #[.int .u8 120, .int .u8 121] 5 (2, 3)) := ⟨_, rfl⟩
  obtain ⟨Wb, hWb⟩ : ∃ Wb, Wb = Wa.alloc (.cells #[.int .u8 49, .int .u8 50, .int .u8 51] 5 (3, 4)) := ⟨_, rfl⟩
  rw [← hWa, ← hWb] at hWc
  have hza : Wa.heap.size = W1.heap.size + 1 := by rw [hWa]; simp
  have hzb : Wb.heap.size = W1.heap.size + 1 + 1 := by rw [hWb]; simp [hza]
  have hzc : Wc.heap.size = W1.heap.size + 1 + 1 + 1 := by rw [← hWc]; simp [hzb]
  have hE : Ext Wb Wc := by rw [← hWc]; exact Ext.alloc _ _
  have hEb : Ext Wa Wb := by rw [hWb]; exact Ext.alloc _ _
  have hEa : Ext W1 Wa := by rw [hWa]; exact Ext.alloc _ _
  have hE1 : Ext W1 Wc := hEa.trans (hEb.trans hE)
  have ga : Wc.heap[W1.heap.size]? = some (.cells #[.int .u8 120, .int .u8 121] 5 (2, 3)) := ((hEb.trans hE).block W1.heap.size (by omega)).trans (by rw [hWa]; exact heap_alloc_new W1 _)
  have gb : Wc.heap[W1.heap.size + 1]? = some (.cells #[.int .u8 49, .int .u8 50, .int .u8 51] 5 (3, 4)) := (hE.block (W1.heap.size + 1) (by omega)).trans (by rw [hWb, ← hza]; exact heap_alloc_new Wa _)
  have gc : Wc.heap[W1.heap.size + 1 + 1]? = some (.cells (liveRow W1.heap.size va vb vc vd).toArray 47 (0, 0)) := by rw [← hWc, ← hzb]; exact heap_alloc_new Wb _
  have cA : Cells Wc.heap.size Wc (some ⟨W1.heap.size, 0, none⟩) (liveA.data.map u8v) := fun j u hj => ⟨_, 0, rfl, by omega, by rw [Nat.zero_add, cell_of_row _ _ _ _ _ _ ga, ← Array.getElem?_toList]; exact hj⟩
  have cB : Cells Wc.heap.size Wc (some ⟨W1.heap.size + 1, 0, none⟩) (liveB.data.map u8v) := fun j u hj => ⟨_, 0, rfl, by omega, by rw [Nat.zero_add, cell_of_row _ _ _ _ _ _ gb, ← Array.getElem?_toList]; exact hj⟩
  obtain ⟨r0, r1, r2⟩ := row3_at (a := (ndC rootN (.slice va 0 vc) (.slice vb 1 vd)).toList) (b := (ndC liveA (.slice (some ⟨W1.heap.size, 0, none⟩) 2 2) (.slice none 0 0)).toList) (c := (ndC liveB (.slice (some ⟨W1.heap.size + 1, 0, none⟩) 3 3) (.slice none 0 0)).toList) rfl rfl
  refine ⟨fun i n hi => ?_, hE1⟩
  match i, hi with
  | 0, hi =>
    obtain rfl : rootN = n := Option.some.inj hi
    refine ⟨_, 0, .agg (ndC rootN (.slice va 0 vc) (.slice vb 1 vd)), rfl, by omega, ⟨va, vc, vb, vd, rfl, h1.ext hE1, h2.ext hE1⟩, fun j u hj => ?_⟩
    rw [cell_of_row _ _ _ _ _ _ gc, List.getElem?_toArray]
    exact r0 j u (by rw [Array.getElem?_toList]; exact hj)
  | 1, hi =>
    obtain rfl : liveA = n := Option.some.inj hi
    refine ⟨_, 0, .agg (ndC liveA (.slice (some ⟨W1.heap.size, 0, none⟩) 2 2) (.slice none 0 0)), rfl, by omega, ⟨_, 2, none, 0, rfl, cA, Cells.nil _ _ _⟩, fun j u hj => ?_⟩
    rw [cell_of_row _ _ _ _ _ _ gc, List.getElem?_toArray]
    exact r1 j u (by rw [Array.getElem?_toList]; exact hj)
  | 2, hi =>
    obtain rfl : liveB = n := Option.some.inj hi
    refine ⟨_, 0, .agg (ndC liveB (.slice (some ⟨W1.heap.size + 1, 0, none⟩) 3 3) (.slice none 0 0)), rfl, by omega, ⟨_, 3, none, 0, rfl, cB, Cells.nil _ _ _⟩, fun j u hj => ?_⟩
    rw [cell_of_row _ _ _ _ _ _ gc, List.getElem?_toArray]
    exact r2 j u (by rw [Array.getElem?_toList]; exact hj)
  | i + 3, hi => simp [liveL] at hi

theorem live10_any (w : World) (hT : Tabs w) : Calls Tryz.prog 18 #[] w fun e w' => e = .returned (.bool true) ∧ Ext w w' := by
  have hsz := hT.size
  have C1 := Lib.hid (rroot_any w)
  have HT := Lib.hid hT
  clear hT
  go_enter Tryz.func18, Tryz.ntmps18
  go_wp2_with fail
  refine C1.out.mono ?_
  rintro e W1 ⟨v, rfl, hN, hE1⟩
  obtain ⟨va, vc, vb, vd, rfl, h1, h2⟩ := hN
  have hE1 : Ext w W1 := hE1
  have hcv1 := Lib.run_convert_bytes_const (P := Tryz.prog) W1 42 5 #[.int .u8 120, .int .u8 121] 2 2 Tryz.underlying42 Tryz.underlying5
  have hcv2 := Lib.run_convert_bytes_const (P := Tryz.prog) (W1.alloc (.cells #[.int .u8 120, .int .u8 121] 5 (2, 3))) 42 5 #[.int .u8 49, .int .u8 50, .int .u8 51] 3 3 Tryz.underlying42 Tryz.underlying5
  rw [World.size_alloc] at hcv2
  simp only [List.size_toArray, List.length_cons, List.length_nil] at hcv1 hcv2
  simp only [Nat.zero_add, Nat.reduceAdd] at hcv1 hcv2
  obtain ⟨Wc, hWc⟩ : ∃ Wc, ((W1.alloc (.cells #[.int .u8 120, .int .u8 121] 5 (2, 3))).alloc (.cells #[.int .u8 49, .int .u8 50, .int .u8 51] 5 (3, 4))).alloc (.cells (liveRow W1.heap.size va vb vc vd).toArray 47) = Wc := ⟨_, rfl⟩
  obtain ⟨hnd, hEc⟩ := live_nds W1 va vb vc vd (h1.cells fun b hb => hb.2) (h2.cells fun b hb => hb.2) Wc hWc
  have hEw := hE1.trans hEc
  have C2 := from_any liveL (some ⟨W1.heap.size + 1 + 1, 0, none⟩) 3 Wc (HT.out.below hEw hsz) hnd (fun n hn => (right_fit (live_right n hn)).1) (by decide)
  have C2 : Calls Tryz.prog 12 #[.slice (some ⟨W1.heap.size + 1 + 1, 0, none⟩) 3 3] Wc (FromOut liveL Wc) := C2
  have C2 := Lib.hid C2
  have HWC := Lib.hid (show ((W1.alloc (.cells #[.int .u8 120, .int .u8 121] 5 (2, 3))).alloc (.cells #[.int .u8 49, .int .u8 50, .int .u8 51] 5 (3, 4))).alloc (.cells #[.string ⟨#[47]⟩, .slice va 0 vc, .slice vb 1 vd, .int .i64 0, .int .i64 0, .int .i64 0, .int .i64 0, .int .i64 0, .int .i64 0, .int .i64 0, .int .i64 0, .int .i32 0, .int .i32 0, .int .i32 0, .bool false, .int .i64 0, .int .i64 0,
    .string ⟨#[47, 97]⟩, .slice (some ⟨W1.heap.size, 0, none⟩) 2 2, .slice none 0 0, .int .i64 0, .int .i64 0, .int .i64 0, .int .i64 0, .int .i64 0, .int .i64 0, .int .i64 0, .int .i64 0, .int .i32 0, .int .i32 0, .int .i32 0, .bool true, .int .i64 3, .int .i64 10,
    .string ⟨#[47, 97, 47, 98]⟩, .slice (some ⟨W1.heap.size + 1, 0, none⟩) 3 3, .slice none 0 0, .int .i64 0, .int .i64 0, .int .i64 0, .int .i64 0, .int .i64 0, .int .i64 0, .int .i64 0, .int .i64 0, .int .i32 0, .int .i32 0, .int .i32 0, .bool false, .int .i64 0, .int .i64 0] 47) = Wc from hWc)
  have HEw := Lib.hid hEw
  unfold ndC rootN newN rootP
  clear C1 hE1 hEc hnd hWc h1 h2 hEw
  go_wp2_with fail
  rw [HWC.out]
  refine C2.out.mono ?_
  intro e W2 hout
  unfold FromOut at hout
  rw [live_from] at hout
  obtain ⟨bt, rfl, hT2, hE2⟩ := hout
  have hE2 : Ext Wc W2 := hE2
  have hok := hT2.ok
  have CN := Lib.hid (no10_any 0 W2)
  have hG := GetsM.of_tree hT2
  have hWe := WeighsM.of_tree hT2 live_clo (by decide)
  have CE6 := Lib.hid (show Calls Tryz.prog 19 #[.pointer (some ⟨bt, 0, none⟩), .string ⟨#[47, 97, 47, 99]⟩, .int .i64 1, .int .i64 6] W2 (fun e w' => e = .returned (.tuple #[.string ⟨#[47, 97]⟩, .bool true]) ∧ Ext W2 w') by
    have := qExceeds_any _ ⟨_, rfl⟩ liveM W2 hok hG hWe ⟨#[47, 97, 47, 99]⟩ (by decide) 1 6
    unfold ExcOut at this
    rw [live_first] at this
    exact this)
  have CE5 := Lib.hid fun W (h : Ext W2 W) => (show Calls Tryz.prog 19 #[.pointer (some ⟨bt, 0, none⟩), .string ⟨#[47, 97, 47, 99]⟩, .int .i64 1, .int .i64 5] W (fun e w' => e = .returned (.tuple #[.string ⟨#[]⟩, .bool false]) ∧ Ext W w') by
    have := qExceeds_any _ ⟨_, rfl⟩ liveM W hok (fun W' t h1 h2 => hG W' t (h.trans h1) h2) (fun W' n h1 h2 => hWe W' n (h.trans h1) h2) ⟨#[47, 97, 47, 99]⟩ (by decide) 1 5
    unfold ExcOut at this
    rw [live_none] at this
    exact this)
  have CB := Lib.hid fun W (h : Ext W2 W) => qbegin_any _ ⟨_, rfl⟩ liveM W hok (fun ga hga => AllsM.of_tree (hT2.ext h) (by decide) ga hga) (fun W' n h1 h2 => hWe W' n (h.trans h1) h2) (by decide)
  have CO := Lib.hid fun W (h : Ext W2 W) => (qOver_any _ liveM W hok (fun W' t h1 h2 => hG W' t (h.trans h1) h2) ⟨#[47, 97, 47, 98, 47, 99]⟩ (by decide)).mono fun e w' h => texts_out h
  have HE2 := Lib.hid (HEw.out.trans hE2)
  clear C2 hE2 HWC hcv1 hcv2 hG hWe hT2 hok
  go_wp2_with fail
  refine CN.out.mono ?_
  rintro e W3 ⟨rfl, rfl⟩
  clear CN
  go_wp2_with fail
  refine CE6.out.mono ?_
  rintro e W4 ⟨rfl, hE4⟩
  have HE4 := Lib.hid hE4
  have CE5 := Lib.hid (CE5.out W4 hE4)
  clear CE6 hE4
  go_wp2_with fail
  refine CE5.out.mono ?_
  rintro e W5 ⟨rfl, hE5⟩
  have HE5 := Lib.hid (HE4.out.trans hE5)
  have CB := Lib.hid (CB.out W5 (HE4.out.trans hE5))
  clear CE5 hE5
  go_wp2_with fail
  refine CB.out.mono ?_
  rintro e W6 ⟨bb, bm, rfl, hbk, _, _, hE6⟩
  have hE6 : Ext W5 W6 := hE6
  have CU := qused_any W6 bb bm (usedL liveM) hbk (usedP_pairs _ _) ⟨#[47, 97]⟩ (by unfold maxLen; decide)
  unfold usedAt at CU
  rw [live_used] at CU
  have CU := Lib.hid CU
  have HE6 := Lib.hid (HE5.out.trans hE6)
  clear CB hE6 hbk
  go_wp2_with fail
  refine CU.out.mono ?_
  rintro e W7 ⟨rfl, hE7⟩
  have hE7 : Ext W6 W7 := hE7
  obtain ⟨X7, hX7⟩ : ∃ X7, X7 = W7.alloc (.cells #[.int .i64 2, .int .i64 5] 110) := ⟨_, rfl⟩
  have HSET := Lib.hid ((setRow_alloc W7 zeroUsed #[.int .i64 2, .int .i64 5] 110).trans hX7.symm)
  have HNEW := Lib.hid (heap_alloc_new W7 (.cells zeroUsed 110))
  have hEX : Ext W7 X7 := by rw [hX7]; exact Ext.alloc _ _
  have hb7 : X7.heap[W7.heap.size]? = some (.cells #[.int .i64 2, .int .i64 5] 110 (0, 0)) := by rw [hX7]; exact heap_alloc_new W7 _
  have u0 : X7.cell? ⟨W7.heap.size, 0, none⟩ = some (.int .i64 2) := cell_of_row _ _ _ _ _ _ hb7
  have u1 : X7.cell? ⟨W7.heap.size, 1, none⟩ = some (.int .i64 5) := cell_of_row _ _ _ _ _ _ hb7
  have hEa := HE6.out.trans (hE7.trans hEX)
  have CO := Lib.hid (CO.out X7 hEa)
  have HE7 := Lib.hid hEa
  unfold zeroUsed at HSET HNEW
  clear CU hE7 hX7 hEX hb7 hEa
  go_wp2_with (refine wpList_store_row rfl 110 (.tmp 9) (.tmp 47) rfl W7.heap.size _ rfl rfl 110 _ HNEW.out sizeUsed rfl (by simp [Value.oneCell']) ?_; rw [HSET.out])
  refine CO.out.mono ?_
  rw [live_over]
  rintro e W8 ⟨oa, oc, rfl, hst, hE8⟩
  have hE8 : Ext X7 W8 := hE8
  have hEal : Ext W8 (W8.alloc (.cells #[.string ⟨#[47, 97]⟩] 9)) := Ext.alloc _ _
  have hs1 : StrsAt (W8.alloc (.cells #[.string ⟨#[47, 97]⟩] 9)).heap.size (W8.alloc (.cells #[.string ⟨#[47, 97]⟩] 9)) (some ⟨W8.heap.size, 0, none⟩) [liveA.path] := fun i s hi => by
    refine ⟨_, 0, rfl, by simp, ?_⟩
    rw [Nat.zero_add, cell_of_row _ _ _ _ _ _ (heap_alloc_new W8 _)]
    match i, hi with
    | 0, hi => cases hi; rfl
    | i + 1, hi => simp at hi
  have CT := sameTexts_self [liveA.path] oa (some ⟨W8.heap.size, 0, none⟩) oc 1 (W8.alloc (.cells #[.string ⟨#[47, 97]⟩] 9)) (hst.ext hEal) hs1 (by decide)
  have CT : Calls Tryz.prog 29 #[.slice oa 1 oc, .slice (some ⟨W8.heap.size, 0, none⟩) 1 1] (W8.alloc (.cells #[.string ⟨#[47, 97]⟩] 9)) fun e w' => e = .returned (.bool true) ∧ Ext (W8.alloc (.cells #[.string ⟨#[47, 97]⟩] 9)) w' := CT
  have CT := Lib.hid CT
  have HE8 := Lib.hid ((HE7.out.trans hE8).trans hEal)
  clear CO hE8 hEal hs1 hst u0 u1 HSET HNEW
  simp only [List.map_cons, List.map_nil, List.length_cons, List.length_nil, Nat.zero_add]
  go_wp2_with fail
  refine CT.out.mono ?_
  rintro e W9 ⟨rfl, hE9⟩
  have HFIN : Hid (Ext w W9) := HE2.out.trans (HE8.out.trans hE9)
  clear CT hE9
  go_wp2
  go_ret
  exact ⟨rfl, HFIN.out⟩
end Go.Proofs.YtamolbegmkngdaaGreatDoor
