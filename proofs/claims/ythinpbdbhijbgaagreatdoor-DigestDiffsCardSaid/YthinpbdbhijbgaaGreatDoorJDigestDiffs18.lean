/- The law DigestDiffs, walked. -/
import Derived.Test.YthinpbdbhijbgaaGreatDoorJDigestDiffs17
import Derived.Test.YthinpbdbhijbgaaGreatDoorJDigestDiffs11
namespace Go.Proofs.YthinpbdbhijbgaaGreatDoor
open Go.RowKit Go.Sort
set_option maxHeartbeats 8000000
set_option maxRecDepth 100000

theorem diff_val {A B : List (Key × Nd)} (hA : MOk A) (hB : MOk B) : PVal (diffM A B) := fun z hz => by
  have key : ∀ {M : List (Key × Nd)}, MOk M → ∀ x ∈ M, x.1 = z.1 → vpath (pathK z) = true := fun hM x hx e => by
    have h1 := right_vpath (hM.right x hx)
    have h2 : pathK z = x.2.path := by
      unfold pathK
      rw [← e, hM.key x hx]; unfold keyN; exact key_bytes _
    rw [h2]; exact h1
  rcases diffM_key A B z hz with ⟨x, hx, e⟩ | ⟨x, hx, e⟩
  · exact key hA x hx e
  · exact key hB x hx e
theorem diff_len {A B : List (Key × Nd)} (hA : MOk A) (hB : MOk B) : (diffM A B).length ≤ A.length + B.length := by
  have hp : (diffM A B).Perm (partsP A B) := by
    refine (List.perm_ext_iff_of_nodup ?_ ?_).2 fun x => ?_
    · exact (diffM_sorted A B hA.sorted hB.sorted).keys_ne.imp fun {a b} h e => h (by rw [e])
    · exact (partsP_ne hA.sorted hB.sorted).imp fun {a b} h e => h (by rw [e])
    · obtain ⟨k, c⟩ := x
      rw [partsP_mem hA.sorted hB.sorted, ← diffM_get A B hA.sorted hB.sorted k]
      exact ⟨fun h => mget_of_mem (diffM_sorted A B hA.sorted hB.sorted) h, fun h => mget_some_mem h⟩
  rw [hp.length_eq, ← par_parts hA hB, List.length_append]
  have h1 := parA_len B (nds A)
  have h2 := parB_len A (nds B)
  rw [nds_length] at h1 h2
  omega

theorem diffs_walk (L : List Nd) (a : Option Addr) (c : Nat) (L' : List Nd) (a' : Option Addr) (c' : Nat) (w : World) (hT : Tabs w) (hL : NdsAt w.heap.size w a L) (hf : ∀ n ∈ L, Fit n) (hl : L.length * 168 ≤ 140737488355328) (hL' : NdsAt w.heap.size w a' L') (hf' : ∀ n ∈ L', Fit n) (hl' : L'.length * 168 ≤ 140737488355328) :
    Calls Tryz.prog 6 #[.slice a L.length c, .slice a' L'.length c'] w fun e w' => e = .returned (.bool true) ∧ Below w.heap.size w w' := by
  have hsz := hT.size
  have C1 := Lib.hid (two9_any L L' a a' c c' w hT hL hL' hf hf' hl hl')
  have HT := Lib.hid hT
  clear hL hL' hf hf' hT
  go_enter Tryz.func6, Tryz.ntmps6
  go_wp2_with fail
  refine C1.out.mono ?_
  rintro e W1 ⟨pt, pu, pr, pq, rfl, hPt, hPu, hPr, hPq, hn1, hn2, hE1⟩
  have hE1 : Ext w W1 := hE1
  have hA := hPt.ok
  have hB := hPu.ok
  generalize treeL L = A at *
  generalize treeL L' = B at *
  have hdl := diff_len hA hB
  have hlA : A.length * 168 ≤ 140737488355328 := by omega
  have hlB : B.length * 168 ≤ 140737488355328 := by omega
  have C2 := Lib.hid (alive9_any W1 (HT.out.below hE1 hsz))
  have HE1 := Lib.hid hE1
  have HPt := Lib.hid hPt
  have HPu := Lib.hid hPu
  have HPr := Lib.hid hPr
  have HPq := Lib.hid hPq
  have HA := Lib.hid hA
  have HB := Lib.hid hB
  have HV := Lib.hid (diff_val hA hB)
  generalize hD : diffM A B = D at *
  have HD := Lib.hid hD
  clear C1 hE1 hPt hPu hPr hPq hn1 hn2 hA hB hD
  go_wp2_with fail
  refine C2.out.mono ?_
  rintro e W2 ⟨rfl, hE2⟩
  have hE2 : Ext W1 W2 := hE2
  have hpd : ∀ W, Ext W1 W → Calls Tryz.prog 47 #[.pointer pt, .pointer pu] W (DiffOut D W) := fun W hE => by
    rw [← HD.out]
    exact pdiff_any pt pu A B W HA.out HB.out ((HPt.out.ext hE).alls hlA _ (by omega)) ((HPu.out.ext hE).alls hlB _ (by omega)) (HPt.out.ext hE).gets (HPu.out.ext hE).gets hlA hlB
  have hrd : ∀ W, Ext W1 W → Calls Tryz.prog 48 #[.pointer pr, .pointer pq] W (DiffOut D W) := fun W hE => by
    rw [← HD.out]
    exact rdiff_any pr pq A B W HA.out HB.out ((HPr.out.ext hE).alls HA.out hlA) ((HPq.out.ext hE).alls HB.out hlB) hlA hlB
  have C3 := Lib.hid (hpd W2 hE2)
  have HPD := Lib.hid hpd
  have HRD := Lib.hid hrd
  have HE2 := Lib.hid hE2
  clear C2 hE2 hpd hrd HPt HPu HPr HPq HA HB HD
  go_wp2_with fail
  refine C3.out.mono ?_
  rintro e W3 ⟨a1, c1, rfl, hP3, hE3⟩
  have hE3 : Ext W2 W3 := hE3
  have hE13 := HE2.out.trans hE3
  have C4 := Lib.hid (HRD.out W3 hE13)
  have HP3 := Lib.hid hP3
  have HE3 := Lib.hid hE13
  clear C3 hE3 hP3 hE13
  go_wp2_with fail
  refine C4.out.mono ?_
  rintro e W4 ⟨a2, c2, rfl, hP4, hE4⟩
  have hE4 : Ext W3 W4 := hE4
  have hE14 := HE3.out.trans hE4
  have C5 := Lib.hid (pparted_any pt pu D W4 (HPD.out W4 hE14) HV.out (by omega))
  have HP3 := Lib.hid (HP3.out.ext hE4)
  have HP4 := Lib.hid hP4
  have HE4 := Lib.hid hE14
  clear C4 hE4 hP4 hE14 HE3
  go_wp2_with fail
  refine C5.out.mono ?_
  rintro e W5 ⟨rfl, hE5⟩
  have hE5 : Ext W4 W5 := hE5
  have hE15 := HE4.out.trans hE5
  have C6 := Lib.hid (rparted_any pr pq D W5 (HRD.out W5 hE15) HV.out (by omega))
  have HP3 := Lib.hid (HP3.out.ext hE5)
  have HP4 := Lib.hid (HP4.out.ext hE5)
  have HE5 := Lib.hid hE15
  clear C5 hE5 hE15 HE4
  go_wp2_with fail
  refine C6.out.mono ?_
  rintro e W6 ⟨rfl, hE6⟩
  have hE6 : Ext W5 W6 := hE6
  have HP3 := Lib.hid (HP3.out.ext hE6)
  have HP4 := Lib.hid (HP4.out.ext hE6)
  have HE6 := Lib.hid (HE1.out.trans (HE5.out.trans hE6))
  generalize partedP D = pp at *
  generalize partedB D = pb at *
  have hpp : (pp.toList != pp.toList) = false := by simp
  have hpb : (pb != pb) = false := by simp
  have hdn : ((D.length : Int) != (D.length : Int)) = false := by simp
  clear C6 hE6 HE5 HPD HRD HV HE2 HE1
  go_wp2
  go_loopw [16] (fun i wr => ∃ k : Nat, k ≤ D.length ∧ i = .int .i64 k ∧ Hid (Ext W6 wr)) (fun i _ => D.length - (intOf i).toNat)
  case atStart => exact ⟨0, Nat.zero_le _, rfl, Ext.refl _⟩
  case round =>
    obtain ⟨k, hk, rfl, HE⟩ := hrel
    by_cases hlt : k < D.length
    · obtain ⟨b1, o1, e1, hb1, hx1, hy1⟩ := HP3.out k D[k] (List.getElem?_eq_getElem hlt)
      obtain ⟨b2, o2, e2, hb2, hx2, hy2⟩ := HP4.out k D[k] (List.getElem?_eq_getElem hlt)
      subst e1 e2
      have p1 : wr.cell? ⟨b1, o1 + k * 2, none⟩ = some (.string (pathK D[k])) := (HE.out.cell (p := ⟨b1, o1 + k * 2, none⟩) hb1).trans hx1
      have p2 : wr.cell? ⟨b2, o2 + k * 2, none⟩ = some (.string (pathK D[k])) := (HE.out.cell (p := ⟨b2, o2 + k * 2, none⟩) hb2).trans hx2
      have r1 : wr.cell? ⟨b1, o1 + k * 2 + 1, none⟩ = some (.int .i64 D[k].2) := (HE.out.cell (p := ⟨b1, o1 + k * 2 + 1, none⟩) hb1).trans hy1
      have r2 : wr.cell? ⟨b2, o2 + k * 2 + 1, none⟩ = some (.int .i64 D[k].2) := (HE.out.cell (p := ⟨b2, o2 + k * 2 + 1, none⟩) hb2).trans hy2
      generalize pathK D[k] = q at p1 p2
      generalize D[k].2 = z at r1 r2
      have hk0 : (0 : Int) ≤ k := by omega
      have hk1 : (k : Int) < D.length := by omega
      clear hx1 hx2 hy1 hy2
      go_wp2
      refine wp_region_P (by kernel_rfl) (region_sp 95 [.val (.slice (some ⟨b1, o1, none⟩) D.length c1), .val (.int .i64 k), .val (.pointer (some ⟨b1, o1 + k * 2, none⟩)), .val (.pointer (some ⟨b1, o1 + k * 2, none⟩)), .val (.string q), .val (.slice (some ⟨b2, o2, none⟩) D.length c2), .val (.int .i64 k), .val (.pointer (some ⟨b2, o2 + k * 2, none⟩)), .val (.pointer (some ⟨b2, o2 + k * 2, none⟩)), .val (.string q), .val (.bool false), .val (.bool false), .val (.slice (some ⟨b1, o1, none⟩) D.length c1), .val (.int .i64 k), .val (.pointer (some ⟨b1, o1 + k * 2, none⟩)), .val (.pointer (some ⟨b1, o1 + k * 2 + 1, none⟩)), .val (.int .i64 z), .val (.slice (some ⟨b2, o2, none⟩) D.length c2), .val (.int .i64 k), .val (.pointer (some ⟨b2, o2 + k * 2, none⟩)), .val (.pointer (some ⟨b2, o2 + k * 2 + 1, none⟩)), .val (.int .i64 z), .val (.bool false), .val (.bool false)] ?stay rfl (by decide) rfl ?duties ?rest)
      case duties =>
        refine ⟨?_, ?_, ?_, ?_, ?_, ?_, ?_, ?_, ?_, ?_, ?_, ?_, ?_, ?_, ?_, ?_, ?_, ?_, ?_, ?_, ?_, ?_, ?_, ?_, trivial⟩
        · refine duty_free rfl fun a w' hE hF hA => ?_
          have x1 := hF.slot 10 _ (by decide) rfl
          exact wp_value (w' := w') (ex_move rfl) ⟨_, rfl, x1, Ext.refl _⟩
        · refine duty_free rfl fun a w' hE hF hA => ?_
          have x1 := hF.slot 16 _ (by decide) rfl
          exact wp_value (w' := w') (ex_move rfl) ⟨_, rfl, x1, Ext.refl _⟩
        · refine duty_free rfl fun a w' hE hF hA => ?_
          have x1 := hA.pick 0 71 (.slice (some ⟨b1, o1, none⟩) D.length c1) rfl rfl ⟨⟨0, .data⟩, by simp, rfl, rfl⟩ (fun u h => h)
          have x2 := hA.pick 1 72 (.int .i64 k) rfl rfl ⟨⟨1, .data⟩, by simp, rfl, rfl⟩ (fun u h => h)
          exact wp_value (w' := w') (v := .pointer (some ⟨b1, o1 + k * 2, none⟩)) (by simp only [execOp, x1, x2]; simp [go_sem, hk0, hk1]) ⟨_, rfl, rfl, Ext.refl _⟩
        · refine duty_free rfl fun a w' hE hF hA => ?_
          have x1 := hA.pick 2 73 (.pointer (some ⟨b1, o1 + k * 2, none⟩)) rfl rfl ⟨⟨2, .data⟩, by simp, rfl, rfl⟩ (fun u h => h)
          exact wp_value (w' := w') (v := .pointer (some ⟨b1, o1 + k * 2, none⟩)) (by simp only [execOp, x1]; simp [go_sem]) ⟨_, rfl, rfl, Ext.refl _⟩
        · refine duty_free rfl fun a w' hE hF hA => ?_
          have x1 := hA.pick 3 74 (.pointer (some ⟨b1, o1 + k * 2, none⟩)) rfl rfl ⟨⟨3, .data⟩, by simp, rfl, rfl⟩ (fun u h => h)
          exact wp_value (ex_cell rfl _ _ x1 ((hE.cell (World.block_lt_of_cell? _ _ p1)).trans p1) rfl Tryz.underlying9) ⟨_, rfl, rfl, Ext.refl _⟩
        · refine duty_free rfl fun a w' hE hF hA => ?_
          have x1 := hF.slot 11 _ (by decide) rfl
          exact wp_value (w' := w') (ex_move rfl) ⟨_, rfl, x1, Ext.refl _⟩
        · refine duty_free rfl fun a w' hE hF hA => ?_
          have x1 := hF.slot 16 _ (by decide) rfl
          exact wp_value (w' := w') (ex_move rfl) ⟨_, rfl, x1, Ext.refl _⟩
        · refine duty_free rfl fun a w' hE hF hA => ?_
          have x1 := hA.pick 5 76 (.slice (some ⟨b2, o2, none⟩) D.length c2) rfl rfl ⟨⟨5, .data⟩, by simp, rfl, rfl⟩ (fun u h => h)
          have x2 := hA.pick 6 77 (.int .i64 k) rfl rfl ⟨⟨6, .data⟩, by simp, rfl, rfl⟩ (fun u h => h)
          exact wp_value (w' := w') (v := .pointer (some ⟨b2, o2 + k * 2, none⟩)) (by simp only [execOp, x1, x2]; simp [go_sem, hk0, hk1]) ⟨_, rfl, rfl, Ext.refl _⟩
        · refine duty_free rfl fun a w' hE hF hA => ?_
          have x1 := hA.pick 7 78 (.pointer (some ⟨b2, o2 + k * 2, none⟩)) rfl rfl ⟨⟨7, .data⟩, by simp, rfl, rfl⟩ (fun u h => h)
          exact wp_value (w' := w') (v := .pointer (some ⟨b2, o2 + k * 2, none⟩)) (by simp only [execOp, x1]; simp [go_sem]) ⟨_, rfl, rfl, Ext.refl _⟩
        · refine duty_free rfl fun a w' hE hF hA => ?_
          have x1 := hA.pick 8 79 (.pointer (some ⟨b2, o2 + k * 2, none⟩)) rfl rfl ⟨⟨8, .data⟩, by simp, rfl, rfl⟩ (fun u h => h)
          exact wp_value (ex_cell rfl _ _ x1 ((hE.cell (World.block_lt_of_cell? _ _ p2)).trans p2) rfl Tryz.underlying9) ⟨_, rfl, rfl, Ext.refl _⟩
        · refine duty_free rfl fun a w' hE hF hA => ?_
          have x1 := hA.pick 4 75 (.string q) rfl rfl ⟨⟨4, .data⟩, by simp, rfl, rfl⟩ (fun u h => h)
          have x2 := hA.pick 9 80 (.string q) rfl rfl ⟨⟨9, .data⟩, by simp, rfl, rfl⟩ (fun u h => h)
          exact wp_value (w' := w') (v := .bool false) (by simp only [execOp, x1, x2]; simp [go_sem]) ⟨_, rfl, rfl, Ext.refl _⟩
        · refine duty_free rfl fun a w' hE hF hA => ?_
          have x1 := hA.pick 10 81 (.bool false) rfl rfl ⟨⟨10, .data⟩, by simp, rfl, rfl⟩ (fun u h => h)
          exact wp_value (w' := w') (ex_move rfl) ⟨_, rfl, x1, Ext.refl _⟩
        · refine duty_yes rfl (p := _) rfl (d := 82) rfl (show 82 < 95 by decide) ⟨⟨11, .guard⟩, by simp, rfl, rfl⟩ (fun v w h => h) fun a w' hE hF hA => ?_
          have x1 := hF.slot 10 _ (by decide) rfl
          exact wp_value (w' := w') (ex_move rfl) ⟨_, rfl, x1, Ext.refl _⟩
        · refine duty_yes rfl (p := _) rfl (d := 82) rfl (show 82 < 95 by decide) ⟨⟨11, .guard⟩, by simp, rfl, rfl⟩ (fun v w h => h) fun a w' hE hF hA => ?_
          have x1 := hF.slot 16 _ (by decide) rfl
          exact wp_value (w' := w') (ex_move rfl) ⟨_, rfl, x1, Ext.refl _⟩
        · refine duty_yes rfl (p := _) rfl (d := 82) rfl (show 82 < 95 by decide) ⟨⟨11, .guard⟩, by simp, rfl, rfl⟩ (fun v w h => h) fun a w' hE hF hA => ?_
          have x1 := hA.pick 12 83 (.slice (some ⟨b1, o1, none⟩) D.length c1) rfl rfl ⟨⟨12, .data⟩, by simp, rfl, rfl⟩ (fun u h => h)
          have x2 := hA.pick 13 84 (.int .i64 k) rfl rfl ⟨⟨13, .data⟩, by simp, rfl, rfl⟩ (fun u h => h)
          exact wp_value (w' := w') (v := .pointer (some ⟨b1, o1 + k * 2, none⟩)) (by simp only [execOp, x1, x2]; simp [go_sem, hk0, hk1]) ⟨_, rfl, rfl, Ext.refl _⟩
        · refine duty_yes rfl (p := _) rfl (d := 82) rfl (show 82 < 95 by decide) ⟨⟨11, .guard⟩, by simp, rfl, rfl⟩ (fun v w h => h) fun a w' hE hF hA => ?_
          have x1 := hA.pick 14 85 (.pointer (some ⟨b1, o1 + k * 2, none⟩)) rfl rfl ⟨⟨14, .data⟩, by simp, rfl, rfl⟩ (fun u h => h)
          exact wp_value (w' := w') (v := .pointer (some ⟨b1, o1 + k * 2 + 1, none⟩)) (by simp only [execOp, x1]; simp [go_sem]) ⟨_, rfl, rfl, Ext.refl _⟩
        · refine duty_yes rfl (p := _) rfl (d := 82) rfl (show 82 < 95 by decide) ⟨⟨11, .guard⟩, by simp, rfl, rfl⟩ (fun v w h => h) fun a w' hE hF hA => ?_
          have x1 := hA.pick 15 86 (.pointer (some ⟨b1, o1 + k * 2 + 1, none⟩)) rfl rfl ⟨⟨15, .data⟩, by simp, rfl, rfl⟩ (fun u h => h)
          exact wp_value (ex_cell rfl _ _ x1 ((hE.cell (World.block_lt_of_cell? _ _ r1)).trans r1) rfl Tryz.underlying3) ⟨_, rfl, rfl, Ext.refl _⟩
        · refine duty_yes rfl (p := _) rfl (d := 82) rfl (show 82 < 95 by decide) ⟨⟨11, .guard⟩, by simp, rfl, rfl⟩ (fun v w h => h) fun a w' hE hF hA => ?_
          have x1 := hF.slot 11 _ (by decide) rfl
          exact wp_value (w' := w') (ex_move rfl) ⟨_, rfl, x1, Ext.refl _⟩
        · refine duty_yes rfl (p := _) rfl (d := 82) rfl (show 82 < 95 by decide) ⟨⟨11, .guard⟩, by simp, rfl, rfl⟩ (fun v w h => h) fun a w' hE hF hA => ?_
          have x1 := hF.slot 16 _ (by decide) rfl
          exact wp_value (w' := w') (ex_move rfl) ⟨_, rfl, x1, Ext.refl _⟩
        · refine duty_yes rfl (p := _) rfl (d := 82) rfl (show 82 < 95 by decide) ⟨⟨11, .guard⟩, by simp, rfl, rfl⟩ (fun v w h => h) fun a w' hE hF hA => ?_
          have x1 := hA.pick 17 88 (.slice (some ⟨b2, o2, none⟩) D.length c2) rfl rfl ⟨⟨17, .data⟩, by simp, rfl, rfl⟩ (fun u h => h)
          have x2 := hA.pick 18 89 (.int .i64 k) rfl rfl ⟨⟨18, .data⟩, by simp, rfl, rfl⟩ (fun u h => h)
          exact wp_value (w' := w') (v := .pointer (some ⟨b2, o2 + k * 2, none⟩)) (by simp only [execOp, x1, x2]; simp [go_sem, hk0, hk1]) ⟨_, rfl, rfl, Ext.refl _⟩
        · refine duty_yes rfl (p := _) rfl (d := 82) rfl (show 82 < 95 by decide) ⟨⟨11, .guard⟩, by simp, rfl, rfl⟩ (fun v w h => h) fun a w' hE hF hA => ?_
          have x1 := hA.pick 19 90 (.pointer (some ⟨b2, o2 + k * 2, none⟩)) rfl rfl ⟨⟨19, .data⟩, by simp, rfl, rfl⟩ (fun u h => h)
          exact wp_value (w' := w') (v := .pointer (some ⟨b2, o2 + k * 2 + 1, none⟩)) (by simp only [execOp, x1]; simp [go_sem]) ⟨_, rfl, rfl, Ext.refl _⟩
        · refine duty_yes rfl (p := _) rfl (d := 82) rfl (show 82 < 95 by decide) ⟨⟨11, .guard⟩, by simp, rfl, rfl⟩ (fun v w h => h) fun a w' hE hF hA => ?_
          have x1 := hA.pick 20 91 (.pointer (some ⟨b2, o2 + k * 2 + 1, none⟩)) rfl rfl ⟨⟨20, .data⟩, by simp, rfl, rfl⟩ (fun u h => h)
          exact wp_value (ex_cell rfl _ _ x1 ((hE.cell (World.block_lt_of_cell? _ _ r2)).trans r2) rfl Tryz.underlying3) ⟨_, rfl, rfl, Ext.refl _⟩
        · refine duty_yes rfl (p := _) rfl (d := 82) rfl (show 82 < 95 by decide) ⟨⟨11, .guard⟩, by simp, rfl, rfl⟩ (fun v w h => h) fun a w' hE hF hA => ?_
          have x1 := hA.pick 16 87 (.int .i64 z) rfl rfl ⟨⟨16, .data⟩, by simp, rfl, rfl⟩ (fun u h => h)
          have x2 := hA.pick 21 92 (.int .i64 z) rfl rfl ⟨⟨21, .data⟩, by simp, rfl, rfl⟩ (fun u h => h)
          exact wp_value (w' := w') (v := .bool false) (by simp only [execOp, x1, x2]; simp [go_sem]) ⟨_, rfl, rfl, Ext.refl _⟩
        · refine duty_free rfl fun a w' hE hF hA => ?_
          have x1 := hA.pick 11 82 (.bool false) rfl rfl ⟨⟨11, .data⟩, by simp, rfl, rfl⟩ (fun u h => h)
          have x2 := hA.pick 22 93 (.bool false) rfl rfl ⟨⟨22, .data⟩, by simp, rfl, rfl⟩ (fun u h => h)
          exact wp_value (w' := w') (ex_pick rfl x1) ⟨_, rfl, x2, Ext.refl _⟩
      case stay => trivial
      case rest =>
        intro W7 hE7
        simp only [forS]
        have HE7 := Lib.hid (HE.out.trans hE7)
        clear hE7 p1 p2 r1 r2
        simp only [filled, List.zip_cons_cons, List.zip_nil_left, List.foldl_cons, List.foldl_nil, Act.put, List.setIfInBounds_toArray, List.set_cons_succ, List.set_cons_zero]
        simp only [Exit.inBlock, Exit.then, Act.put]
        first | (rename_i hK; refine hK _ _ ?_; clear hK) | (rename_i hK _; refine hK _ _ ?_; clear hK) | (rename_i hK _ _; refine hK _ _ ?_; clear hK) | (rename_i hK _ _ _; refine hK _ _ ?_; clear hK)
        go_wp2
        go_roundw
        case rel => exact ⟨k + 1, by omega, by go_num, HE7.out⟩
        case measure => simp [intOf]; omega
    · obtain rfl : k = D.length := by omega
      have HFIN := Lib.hid (HE6.out.trans HE.out)
      clear HE HP3 HP4
      go_wp2
      go_ret
      exact ⟨rfl, HFIN.out⟩
end Go.Proofs.YthinpbdbhijbgaaGreatDoor
