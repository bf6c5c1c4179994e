/- The walk of the law FuzzyWhole. -/
import Derived.Test.YtclekhjnnljjlaaGreatDoorJFuzzyWhole20
import Derived.Test.YtclekhjnnljjlaaGreatDoorJFuzzyWhole7
namespace Go.Proofs.YtclekhjnnljjlaaGreatDoor
open Go.RowKit
set_option maxHeartbeats 8000000
set_option maxRecDepth 100000

theorem tcount_e (S : Nat → Prop) (w : World) (bt : Nat) (M : List (Key × Nd)) (N : Nat) (hT : TreeAt S w bt M N) : Calls Tryz.prog 13 #[.pointer (some ⟨bt, 0, none⟩)] w fun e w' => e = .returned (.int .i64 M.length) ∧ Ext w w' :=
  (tcount_any S w bt M N hT).mono fun e w' h => ⟨h.1, h.2 ▸ Ext.refl _⟩
theorem okZ_facts {L : List Nd} {z : Int} (h : okZ (okQ L) z = true) : fromN L = .ok (treeQ L) ∧ 0 ≤ z := by
  unfold okZ at h
  simp only [Bool.and_eq_true, decide_eq_true_eq, Int.not_lt] at h
  refine ⟨?_, h.2⟩
  have h1 := h.1
  unfold okQ at h1
  unfold treeQ
  cases hf : fromN L with
  | error x => rw [hf] at h1; cases h1
  | ok M => rfl
theorem fuzzy_any (L : List Nd) (a : Option Addr) (c : Nat) (A : List Se) (sa : Option Addr) (sc : Nat) (z : Int) (w : World) (hT : Tabs w) (hX : Txt6 w) (hL : NdsAt w.heap.size w a L) (hf : ∀ n ∈ L, Fit n) (hl : L.length * 168 ≤ 140737488355328) (hA : SesAt w.heap.size w sa A) (hfA : ∀ s ∈ A, FitS s) (hlA : A.length * 40 ≤ 140737488355328) :
    Calls Tryz.prog 3 #[.slice a L.length c, .slice sa A.length sc, .int .i64 z] w fun e w' => e = .returned (.bool true) ∧ Ext w w' := by
  have C0 := Lib.hid (alive17_any w hT hX)
  have HB := Lib.hid (fun W (h : Ext w W) => both_any L a c A sa sc z W (hT.ext6 h) (hX.ext h) (hL.ext h) hf hl (hA.ext h) hfA hlA)
  have HT := Lib.hid hT
  have HX := Lib.hid hX
  clear hT hX hL hf hA hfA
  go_enter Tryz.func3, Tryz.ntmps3
  go_wp2_with fail
  refine C0.out.mono ?_
  rintro e W0 ⟨rfl, hE0⟩
  have hE0 : Ext w W0 := hE0
  have C1 := Lib.hid (HB.out W0 hE0)
  have HE0 := Lib.hid hE0
  clear C0 hE0 HB
  go_wp2_with fail
  refine C1.out.mono ?_
  rintro e W1 ⟨p, q, rfl, hP, hE1⟩
  have hE1 : Ext W0 W1 := hE1
  cases hok : okZ (okQ L) z with
  | false =>
    rw [hok] at hP
    have hP : p = none := hP
    subst hP
    have HE1 := Lib.hid (HE0.out.trans hE1)
    clear C1 hE1
    go_wp2
    go_ret
    exact ⟨rfl, HE1.out⟩
  | true =>
    rw [hok] at hP
    obtain ⟨b, rfl, hP⟩ : ∃ b, p = some ⟨b, 0, none⟩ ∧ PState W1 b (treeQ L) (openEach [] A) z := hP
    obtain ⟨hfr, hz⟩ := okZ_facts hok
    have hlM : (treeQ L).length ≤ L.length := treeQ_len L
    have hlT : (openEach [] A).length ≤ A.length := by
      have := openEach_length (l := []) (r := A)
      simpa using this
    obtain ⟨hTs, hTr⟩ := openEach_ok (l := []) (r := A) List.Pairwise.nil (fun x hx => by simp at hx)
    generalize treeQ L = M at *
    generalize openEach [] A = T at *
    have hlM : M.length * 168 ≤ 140737488355328 := by omega
    have hlT : T.length * 40 ≤ 140737488355328 := by omega
    have C2 := Lib.hid (ftake_any W1 b M T z hP hlM hlT)
    have HP1 := Lib.hid hP
    have HFR := Lib.hid hfr
    have HTs := Lib.hid hTs
    have HTr := Lib.hid hTr
    have HE1 := Lib.hid (HE0.out.trans hE1)
    clear C1 hP hE1 hok hfr hTs hTr
    go_wp2_with fail
    refine C2.out.mono ?_
    rintro e W2 ⟨a, c, a', c', rfl, hS, hN, hE2⟩
    have hE2 : Ext W1 W2 := hE2
    obtain ⟨W3, hW3⟩ : ∃ W3, W3 = W2.alloc (.cells (imgC z (.slice a T.length c) (.slice a' M.length c')) 30) := ⟨_, rfl⟩
    have hE3 : Ext W2 W3 := by rw [hW3]; exact Ext.alloc _ _
    have hg3 : W3.heap[W2.heap.size]? = some (.cells (imgC z (.slice a T.length c) (.slice a' M.length c')) 30 (0, 0)) := by rw [hW3]; exact heap_alloc_new _ _
    have hE13 := HE1.out.trans (hE2.trans hE3)
    have hP3 := (HP1.out.ext hE2).ext hE3
    obtain ⟨bt, bx, bm, S1, S2, N1, N2, hb, hT2, hX2⟩ := hP3
    have hok := hT2.ok
    have hfT := hX2.fit
    have C3 := Lib.hid (restore_any W3 M T z a a' c c' hz (HT.out.ext6 hE13) (HX.out.ext hE13) (hS.ext hE3) (hN.ext hE3) hok (fromN_clo hok HFR.out) (fromN_root HFR.out) HTs.out HTr.out hfT hlM hlT)
    have HNEW := Lib.hid (heap_alloc_new W2 (.cells zeroImg 30))
    have HSET := Lib.hid ((setRow_alloc W2 zeroImg (imgC z (.slice a T.length c) (.slice a' M.length c')) 30).trans hW3.symm)
    have HG3 := Lib.hid hg3
    have HN3 := Lib.hid (hN.ext hE3)
    have HFN := Lib.hid (nds_fit hok)
    have HT2 := Lib.hid hT2
    have HX2 := Lib.hid hX2
    have HB := Lib.hid hb
    have HE3 := Lib.hid hE13
    unfold imgC zeroImg at HSET
    unfold zeroImg at HNEW
    unfold imgC at HG3 C3
    unfold imgC
    clear C2 hS hN hE2 hE3 hW3 hg3 hE13 hb hT2 hX2 hok hfT
    go_wp2_with (first | (refine wpList_store_row rfl 30 (.tmp 10) (.tmp 33) rfl W2.heap.size _ rfl rfl 30 _ HNEW.out sizeImg rfl (cells_img z a a' T.length M.length c c') ?_; rw [HSET.out]) | (refine wpList_load_row rfl 30 (.tmp 10) rfl W2.heap.size rfl 30 _ (0, 0) _ HG3.out Tryz.underlying30 rfl sizeImg ?_))
    refine C3.out.mono ?_
    rintro e W4 ⟨b4, rfl, hP4, hE4⟩
    have hE4 : Ext W3 W4 := hE4
    have hg4 := (hE4.block W2.heap.size (Array.getElem?_eq_some_iff.1 HG3.out).1).trans HG3.out
    have hb4 := (hE4.block b (Array.getElem?_eq_some_iff.1 HB.out).1).trans HB.out
    have g0 : W4.cell? ⟨W2.heap.size, 0, none⟩ = some (.int .i64 z) := cell_of_row _ _ _ _ _ _ hg4
    have g2 : W4.cell? ⟨W2.heap.size, 2, none⟩ = some (.slice a' M.length c') := cell_of_row _ _ _ _ _ _ hg4
    have C4 := Lib.hid (ptree_any W4 b bt bx z hb4)
    have HP4 := Lib.hid hP4
    have HB4 := Lib.hid hb4
    have HT4 := Lib.hid (HT2.out.ext hE4)
    have HN4 := Lib.hid (HN3.out.ext hE4)
    have HE4 := Lib.hid (HE3.out.trans hE4)
    have HQ4 := Lib.hid (show PState W4 b M T z from ⟨bt, bx, bm, S1, S2, N1, N2, hb4, HT2.out.ext hE4, HX2.out.ext hE4⟩)
    clear C3 hE4 hP4 hg4 hb4 HT2 HX2 HB HG3 HP1 HNEW HSET HN3
    go_wp2_with fail
    refine C4.out.mono ?_
    rintro e W5 ⟨rfl, rfl⟩
    clear C4
    go_wp2
    refine wp_region_P (by kernel_rfl) (region_sp 74 [.val (.int .i64 0), .val (.bool true), .val (.bool true), .val (.int .i64 0), .val (.bool true), .val (.bool true), .val (.bool true), .val (.pointer (some ⟨b4, 0, none⟩)), .val (.pointer (some ⟨b, 0, none⟩)), .val (.bool true), .val (.bool true), .val (.bool true), .val (.pointer (some ⟨W2.heap.size, 0, none⟩)), .val (.int .i64 z), .val (.pointer (some ⟨b, 0, none⟩)), .val (.int .i64 z), .val (.bool true), .val (.bool true), .val (.bool true), .val (.pointer (some ⟨bt, 0, none⟩)), .val (.bool true), .val (.bool true), .val (.bool true), .val (.pointer (some ⟨W2.heap.size, 2, none⟩)), .val (.slice a' M.length c'), .val (.pointer (some ⟨bt, 0, none⟩)), .val (.pointer (some ⟨bt, 0, none⟩)), .val (.int .i64 M.length), .prop (fun u W => ∃ a c, u = .slice a M.length c ∧ NdsAt W.heap.size W a (nds M)), .val (.bool true), .val (.bool true), .val (.bool true)] ?stay rfl (by decide) rfl ?duties ?rest)
    case duties =>
      refine ⟨?_, ?_, ?_, ?_, ?_, ?_, ?_, ?_, ?_, ?_, ?_, ?_, ?_, ?_, ?_, ?_, ?_, ?_, ?_, ?_, ?_, ?_, ?_, ?_, ?_, ?_, ?_, ?_, ?_, ?_, ?_, ?_, trivial⟩
      · refine duty_free rfl fun a w' hE hF hA => ?_
        have x1 := hF.slot 11 _ (by decide) rfl
        exact wp_value (w' := w') (ex_move rfl) ⟨_, rfl, x1, Ext.refl _⟩
      · refine duty_free rfl fun a w' hE hF hA => ?_
        have x1 := hA.pick 0 43 (.int .i64 0) rfl rfl ⟨⟨0, .data⟩, by simp, rfl, rfl⟩ (fun u h => h)
        exact wp_value (w' := w') (v := .bool true) (by simp only [execOp, x1]; simp [go_sem]) ⟨_, rfl, rfl, Ext.refl _⟩
      · refine duty_free rfl fun a w' hE hF hA => ?_
        have x1 := hA.pick 1 44 (.bool true) rfl rfl ⟨⟨1, .data⟩, by simp, rfl, rfl⟩ (fun u h => h)
        exact wp_value (w' := w') (ex_move rfl) ⟨_, rfl, x1, Ext.refl _⟩
      · refine duty_yes rfl (p := _) rfl (d := 45) rfl (show 45 < 74 by decide) ⟨⟨2, .guard⟩, by simp, rfl, rfl⟩ (fun v w h => h) fun a w' hE hF hA => ?_
        have x1 := hF.slot 14 _ (by decide) rfl
        exact wp_value (w' := w') (ex_move rfl) ⟨_, rfl, x1, Ext.refl _⟩
      · refine duty_yes rfl (p := _) rfl (d := 45) rfl (show 45 < 74 by decide) ⟨⟨2, .guard⟩, by simp, rfl, rfl⟩ (fun v w h => h) fun a w' hE hF hA => ?_
        have x1 := hA.pick 3 46 (.int .i64 0) rfl rfl ⟨⟨3, .data⟩, by simp, rfl, rfl⟩ (fun u h => h)
        exact wp_value (w' := w') (v := .bool true) (by simp only [execOp, x1]; simp [go_sem]) ⟨_, rfl, rfl, Ext.refl _⟩
      · refine duty_free rfl fun a w' hE hF hA => ?_
        have x1 := hA.pick 2 45 (.bool true) rfl rfl ⟨⟨2, .data⟩, by simp, rfl, rfl⟩ (fun u h => h)
        have x2 := hA.pick 4 47 (.bool true) rfl rfl ⟨⟨4, .data⟩, by simp, rfl, rfl⟩ (fun u h => h)
        exact wp_value (w' := w') (ex_pick rfl x1) ⟨_, rfl, x2, Ext.refl _⟩
      · refine duty_free rfl fun a w' hE hF hA => ?_
        have x1 := hA.pick 5 48 (.bool true) rfl rfl ⟨⟨5, .data⟩, by simp, rfl, rfl⟩ (fun u h => h)
        exact wp_value (w' := w') (ex_move rfl) ⟨_, rfl, x1, Ext.refl _⟩
      · refine duty_yes rfl (p := _) rfl (d := 49) rfl (show 49 < 74 by decide) ⟨⟨6, .guard⟩, by simp, rfl, rfl⟩ (fun v w h => h) fun a w' hE hF hA => ?_
        have x1 := hF.slot 12 _ (by decide) rfl
        exact wp_value (w' := w') (ex_move rfl) ⟨_, rfl, x1, Ext.refl _⟩
      · refine duty_yes rfl (p := _) rfl (d := 49) rfl (show 49 < 74 by decide) ⟨⟨6, .guard⟩, by simp, rfl, rfl⟩ (fun v w h => h) fun a w' hE hF hA => ?_
        have x1 := hF.slot 7 _ (by decide) rfl
        exact wp_value (w' := w') (ex_move rfl) ⟨_, rfl, x1, Ext.refl _⟩
      · refine duty_yes rfl (p := _) rfl (d := 49) rfl (show 49 < 74 by decide) ⟨⟨6, .guard⟩, by simp, rfl, rfl⟩ (fun v w h => h) fun a w' hE hF hA => ?_
        have x1 := hA.pick 7 50 (.pointer (some ⟨b4, 0, none⟩)) rfl rfl ⟨⟨7, .data⟩, by simp, rfl, rfl⟩ (fun u h => h)
        have x2 := hA.pick 8 51 (.pointer (some ⟨b, 0, none⟩)) rfl rfl ⟨⟨8, .data⟩, by simp, rfl, rfl⟩ (fun u h => h)
        refine wp_enter (ex_call rfl (enters_f Tryz.func9 (by kernel_rfl) rfl)) (by simp only [List.map_toArray, List.map_cons, List.map_nil, x1, x2]; exact asame_self w' b4 b M T z (HP4.out.ext hE) (HQ4.out.ext hE)) ?_
        rintro e w4 ⟨rfl, hb⟩
        exact ⟨_, rfl, _, rfl, rfl, hb⟩
      · refine duty_free rfl fun a w' hE hF hA => ?_
        have x1 := hA.pick 6 49 (.bool true) rfl rfl ⟨⟨6, .data⟩, by simp, rfl, rfl⟩ (fun u h => h)
        have x2 := hA.pick 9 52 (.bool true) rfl rfl ⟨⟨9, .data⟩, by simp, rfl, rfl⟩ (fun u h => h)
        exact wp_value (w' := w') (ex_pick rfl x1) ⟨_, rfl, x2, Ext.refl _⟩
      · refine duty_free rfl fun a w' hE hF hA => ?_
        have x1 := hA.pick 10 53 (.bool true) rfl rfl ⟨⟨10, .data⟩, by simp, rfl, rfl⟩ (fun u h => h)
        exact wp_value (w' := w') (ex_move rfl) ⟨_, rfl, x1, Ext.refl _⟩
      · refine duty_yes rfl (p := _) rfl (d := 54) rfl (show 54 < 74 by decide) ⟨⟨11, .guard⟩, by simp, rfl, rfl⟩ (fun v w h => h) fun a w' hE hF hA => ?_
        have x1 := hF.slot 10 _ (by decide) rfl
        exact wp_value (w' := w') (v := .pointer (some ⟨W2.heap.size, 0, none⟩)) (by simp only [execOp, x1]; simp [go_sem]) ⟨_, rfl, rfl, Ext.refl _⟩
      · refine duty_yes rfl (p := _) rfl (d := 54) rfl (show 54 < 74 by decide) ⟨⟨11, .guard⟩, by simp, rfl, rfl⟩ (fun v w h => h) fun a w' hE hF hA => ?_
        have x1 := hA.pick 12 55 (.pointer (some ⟨W2.heap.size, 0, none⟩)) rfl rfl ⟨⟨12, .data⟩, by simp, rfl, rfl⟩ (fun u h => h)
        exact wp_value (ex_cell rfl _ _ x1 ((hE.cell (World.block_lt_of_cell? _ _ g0)).trans g0) rfl Tryz.underlying2) ⟨_, rfl, rfl, Ext.refl _⟩
      · refine duty_yes rfl (p := _) rfl (d := 54) rfl (show 54 < 74 by decide) ⟨⟨11, .guard⟩, by simp, rfl, rfl⟩ (fun v w h => h) fun a w' hE hF hA => ?_
        have x1 := hF.slot 7 _ (by decide) rfl
        exact wp_value (w' := w') (ex_move rfl) ⟨_, rfl, x1, Ext.refl _⟩
      · refine duty_yes rfl (p := _) rfl (d := 54) rfl (show 54 < 74 by decide) ⟨⟨11, .guard⟩, by simp, rfl, rfl⟩ (fun v w h => h) fun a w' hE hF hA => ?_
        have x1 := hA.pick 14 57 (.pointer (some ⟨b, 0, none⟩)) rfl rfl ⟨⟨14, .data⟩, by simp, rfl, rfl⟩ (fun u h => h)
        refine wp_enter (ex_call rfl (enters_f Tryz.func10 (by kernel_rfl) rfl)) (by simp only [List.map_toArray, List.map_cons, List.map_nil, x1]; exact plast_e w' b bt bx z ((hE.block _ (Array.getElem?_eq_some_iff.1 HB4.out).1).trans HB4.out)) ?_
        rintro e w4 ⟨rfl, hb⟩
        exact ⟨_, rfl, _, rfl, rfl, hb⟩
      · refine duty_yes rfl (p := _) rfl (d := 54) rfl (show 54 < 74 by decide) ⟨⟨11, .guard⟩, by simp, rfl, rfl⟩ (fun v w h => h) fun a w' hE hF hA => ?_
        have x1 := hA.pick 13 56 (.int .i64 z) rfl rfl ⟨⟨13, .data⟩, by simp, rfl, rfl⟩ (fun u h => h)
        have x2 := hA.pick 15 58 (.int .i64 z) rfl rfl ⟨⟨15, .data⟩, by simp, rfl, rfl⟩ (fun u h => h)
        exact wp_value (w' := w') (v := .bool true) (by simp only [execOp, x1, x2]; simp [go_sem]) ⟨_, rfl, rfl, Ext.refl _⟩
      · refine duty_free rfl fun a w' hE hF hA => ?_
        have x1 := hA.pick 11 54 (.bool true) rfl rfl ⟨⟨11, .data⟩, by simp, rfl, rfl⟩ (fun u h => h)
        have x2 := hA.pick 16 59 (.bool true) rfl rfl ⟨⟨16, .data⟩, by simp, rfl, rfl⟩ (fun u h => h)
        exact wp_value (w' := w') (ex_pick rfl x1) ⟨_, rfl, x2, Ext.refl _⟩
      · refine duty_free rfl fun a w' hE hF hA => ?_
        have x1 := hA.pick 17 60 (.bool true) rfl rfl ⟨⟨17, .data⟩, by simp, rfl, rfl⟩ (fun u h => h)
        exact wp_value (w' := w') (ex_move rfl) ⟨_, rfl, x1, Ext.refl _⟩
      · refine duty_yes rfl (p := _) rfl (d := 61) rfl (show 61 < 74 by decide) ⟨⟨18, .guard⟩, by simp, rfl, rfl⟩ (fun v w h => h) fun a w' hE hF hA => ?_
        have x1 := hF.slot 15 _ (by decide) rfl
        exact wp_value (w' := w') (ex_move rfl) ⟨_, rfl, x1, Ext.refl _⟩
      · refine duty_yes rfl (p := _) rfl (d := 61) rfl (show 61 < 74 by decide) ⟨⟨18, .guard⟩, by simp, rfl, rfl⟩ (fun v w h => h) fun a w' hE hF hA => ?_
        have x1 := hA.pick 19 62 (.pointer (some ⟨bt, 0, none⟩)) rfl rfl ⟨⟨19, .data⟩, by simp, rfl, rfl⟩ (fun u h => h)
        exact wp_value (w' := w') (v := .bool true) (by simp only [execOp, x1]; simp [go_sem]) ⟨_, rfl, rfl, Ext.refl _⟩
      · refine duty_free rfl fun a w' hE hF hA => ?_
        have x1 := hA.pick 18 61 (.bool true) rfl rfl ⟨⟨18, .data⟩, by simp, rfl, rfl⟩ (fun u h => h)
        have x2 := hA.pick 20 63 (.bool true) rfl rfl ⟨⟨20, .data⟩, by simp, rfl, rfl⟩ (fun u h => h)
        exact wp_value (w' := w') (ex_pick rfl x1) ⟨_, rfl, x2, Ext.refl _⟩
      · refine duty_free rfl fun a w' hE hF hA => ?_
        have x1 := hA.pick 21 64 (.bool true) rfl rfl ⟨⟨21, .data⟩, by simp, rfl, rfl⟩ (fun u h => h)
        exact wp_value (w' := w') (ex_move rfl) ⟨_, rfl, x1, Ext.refl _⟩
      · refine duty_yes rfl (p := _) rfl (d := 65) rfl (show 65 < 74 by decide) ⟨⟨22, .guard⟩, by simp, rfl, rfl⟩ (fun v w h => h) fun a w' hE hF hA => ?_
        have x1 := hF.slot 10 _ (by decide) rfl
        exact wp_value (w' := w') (v := .pointer (some ⟨W2.heap.size, 2, none⟩)) (by simp only [execOp, x1]; simp [go_sem]) ⟨_, rfl, rfl, Ext.refl _⟩
      · refine duty_yes rfl (p := _) rfl (d := 65) rfl (show 65 < 74 by decide) ⟨⟨22, .guard⟩, by simp, rfl, rfl⟩ (fun v w h => h) fun a w' hE hF hA => ?_
        have x1 := hA.pick 23 66 (.pointer (some ⟨W2.heap.size, 2, none⟩)) rfl rfl ⟨⟨23, .data⟩, by simp, rfl, rfl⟩ (fun u h => h)
        exact wp_value (ex_cell rfl _ _ x1 ((hE.cell (World.block_lt_of_cell? _ _ g2)).trans g2) rfl Tryz.underlying22) ⟨_, rfl, rfl, Ext.refl _⟩
      · refine duty_yes rfl (p := _) rfl (d := 65) rfl (show 65 < 74 by decide) ⟨⟨22, .guard⟩, by simp, rfl, rfl⟩ (fun v w h => h) fun a w' hE hF hA => ?_
        have x1 := hF.slot 15 _ (by decide) rfl
        exact wp_value (w' := w') (ex_move rfl) ⟨_, rfl, x1, Ext.refl _⟩
      · refine duty_yes rfl (p := _) rfl (d := 65) rfl (show 65 < 74 by decide) ⟨⟨22, .guard⟩, by simp, rfl, rfl⟩ (fun v w h => h) fun a w' hE hF hA => ?_
        have x1 := hF.slot 15 _ (by decide) rfl
        exact wp_value (w' := w') (ex_move rfl) ⟨_, rfl, x1, Ext.refl _⟩
      · refine duty_yes rfl (p := _) rfl (d := 65) rfl (show 65 < 74 by decide) ⟨⟨22, .guard⟩, by simp, rfl, rfl⟩ (fun v w h => h) fun a w' hE hF hA => ?_
        have x1 := hA.pick 26 69 (.pointer (some ⟨bt, 0, none⟩)) rfl rfl ⟨⟨26, .data⟩, by simp, rfl, rfl⟩ (fun u h => h)
        refine wp_enter (ex_call rfl (enters_f Tryz.func13 (by kernel_rfl) rfl)) (by simp only [List.map_toArray, List.map_cons, List.map_nil, x1]; exact tcount_e _ w' bt M _ (HT4.out.ext hE)) ?_
        rintro e w4 ⟨rfl, hb⟩
        exact ⟨_, rfl, _, rfl, rfl, hb⟩
      · refine duty_yes rfl (p := _) rfl (d := 65) rfl (show 65 < 74 by decide) ⟨⟨22, .guard⟩, by simp, rfl, rfl⟩ (fun v w h => h) fun a w' hE hF hA => ?_
        have x1 := hA.pick 25 68 (.pointer (some ⟨bt, 0, none⟩)) rfl rfl ⟨⟨25, .data⟩, by simp, rfl, rfl⟩ (fun u h => h)
        have x2 := hA.pick 27 70 (.int .i64 M.length) rfl rfl ⟨⟨27, .data⟩, by simp, rfl, rfl⟩ (fun u h => h)
        refine wp_enter (ex_call rfl (enters_f Tryz.func12 (by kernel_rfl) rfl)) (by simp only [List.map_toArray, List.map_cons, List.map_nil, x1, x2]; exact lallN_any _ w' bt M _ (HT4.out.ext hE) M.length (Nat.le_refl _) (by unfold maxLen; omega) hlM) ?_
        rintro e w4 ⟨a, c, rfl, hN, hb⟩
        exact ⟨_, rfl, _, rfl, ⟨a, c, rfl, hN⟩, hb⟩
      · refine duty_yes rfl (p := _) rfl (d := 65) rfl (show 65 < 74 by decide) ⟨⟨22, .guard⟩, by simp, rfl, rfl⟩ (fun v w h => h) fun a w' hE hF hA => ?_
        have x1 := hA.pick 24 67 (.slice a' M.length c') rfl rfl ⟨⟨24, .data⟩, by simp, rfl, rfl⟩ (fun u h => h)
        have p2 : (fun u W => ∃ a c, u = .slice a M.length c ∧ NdsAt W.heap.size W a (nds M)) (a.eval (.tmp 71)) w' := hA.slot 28 71 rfl rfl ⟨⟨28, .data⟩, by simp, rfl, rfl⟩
        obtain ⟨qa, qc, x2, hN⟩ := p2
        refine wp_enter (ex_call rfl (enters_f Tryz.func11 (by kernel_rfl) rfl)) (by simp only [List.map_toArray, List.map_cons, List.map_nil, x1, x2]; exact nodesN_any M a' qa c' qc w' (HN4.out.ext hE) hN HFN.out (by omega)) ?_
        rintro e w4 ⟨rfl, hb⟩
        exact ⟨_, rfl, _, rfl, rfl, hb⟩
      · refine duty_free rfl fun a w' hE hF hA => ?_
        have x1 := hA.pick 22 65 (.bool true) rfl rfl ⟨⟨22, .data⟩, by simp, rfl, rfl⟩ (fun u h => h)
        have x2 := hA.pick 29 72 (.bool true) rfl rfl ⟨⟨29, .data⟩, by simp, rfl, rfl⟩ (fun u h => h)
        exact wp_value (w' := w') (ex_pick rfl x1) ⟨_, rfl, x2, Ext.refl _⟩
      · refine duty_free rfl fun a w' hE hF hA => ?_
        have x1 := hA.pick 30 73 (.bool true) rfl rfl ⟨⟨30, .data⟩, by simp, rfl, rfl⟩ (fun u h => h)
        exact wp_value (w' := w') (ex_assign rfl) ⟨_, rfl, x1, Ext.refl _⟩
    case stay => exact ⟨stayNs _, trivial⟩
    case rest =>
      intro W9 hE9
      simp only [forS]
      intro u1 h1
      have HE9 := Lib.hid (HE4.out.trans hE9)
      clear h1 hE9
      simp only [filled, List.zip_cons_cons, List.zip_nil_right, List.zip_nil_left, List.foldl_cons, List.foldl_nil, Act.put]
      go_simp
      rename_i hK
      refine hK _ _ ?_
      clear hK
      go_wp2
      go_ret
      exact ⟨rfl, HE9.out⟩
end Go.Proofs.YtclekhjnnljjlaaGreatDoor
