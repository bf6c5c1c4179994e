/- The walks of apply.Same at two states that hold the same, of layer 15's Alike at a state and the document's of the same. The nodes of a tree in another order are the same tree: the plain law; a list turned round and about. What From makes of nodes has as many, and a root. Plain laws: a state told as an image and loosened, settled again is the state. No program in sight. Both tables of sessions in one memory, as both come to hold a session more; both states, or none. -/
import Derived.Test.YtclekhjnnljjlaaGreatDoorJFuzzyWhole16
import Derived.Test.YtclekhjnnljjlaaGreatDoorJFuzzyWhole17
import Derived.Test.YtclekhjnnljjlaaGreatDoorJFuzzyWhole10
import Derived.Test.YtclekhjnnljjlaaGreatDoorJFuzzyWhole15
import Derived.Test.YtclekhjnnljjlaaGreatDoorJFuzzyWhole5
import Derived.Test.YtclekhjnnljjlaaGreatDoorJFuzzyWhole7
import Derived.Test.YtclekhjnnljjlaaGreatDoorJFuzzyWhole9
namespace Go.Proofs.YtclekhjnnljjlaaGreatDoor
open Go.RowKit
set_option maxHeartbeats 8000000
set_option maxRecDepth 100000

theorem plast_e (w : World) (b bt bx : Nat) (z : Int) (h : w.heap[b]? = some (.cells #[.pointer (some ⟨bt, 0, none⟩), .pointer (some ⟨bx, 0, none⟩), .int .i64 z] 79 (0, 0))) : Calls Tryz.prog 10 #[.pointer (some ⟨b, 0, none⟩)] w fun e w' => e = .returned (.int .i64 z) ∧ Ext w w' :=
  (plast_any w b bt bx z h).mono fun e w' h => ⟨h.1, h.2 ▸ Ext.refl _⟩
theorem MOk.klenN {M : List (Key × Nd)} (hok : MOk M) : ∀ k ∈ M.map (·.1), k.length ≤ maxLen := fun k hk => by
  obtain ⟨x, hx, rfl⟩ := List.mem_map.1 hk
  rw [hok.key x hx]
  unfold keyN
  rw [size_list]
  have := (vpath_facts (right_vpath (hok.right x hx))).2.1
  unfold maxLen; omega
/-- All, where it may tell all. -/
theorem lallN_any (S : Nat → Prop) (w : World) (bt : Nat) (M : List (Key × Nd)) (N : Nat) (hT : TreeAt S w bt M N) (most : Nat) (hm : M.length ≤ most) (hmost : most < maxLen) (hks : M.length * 168 ≤ 140737488355328) :
    Calls Tryz.prog 12 #[.pointer (some ⟨bt, 0, none⟩), .int .i64 most] w fun e w' => ∃ a c, e = .returned (.slice a M.length c) ∧ NdsAt w'.heap.size w' a (nds M) ∧ Ext w w' := by
  have C := lall_any S w bt M N hT most hmost hks hT.ok.klenN
  rw [nodesOf_vals hT.ok.sorted, List.take_of_length_le (by rw [List.length_map]; omega)] at C
  refine C.mono ?_
  rintro e w' ⟨v, vs, rfl, hvl, hrow, hvn, hE⟩
  obtain ⟨a, c, rfl, _, _, hR, _⟩ := RowsOf.of_own (S := fun b => b < w'.heap.size) hrow rfl hvl (fun b _ h => h) hvn
  exact ⟨a, c, by rw [List.length_map], hR.nds fun _ h => h, hE⟩
theorem nodesN_any (M : List (Key × Nd)) (a b : Option Addr) (c d : Nat) (w : World) (hA : NdsAt w.heap.size w a (nds M)) (hB : NdsAt w.heap.size w b (nds M)) (hf : ∀ n ∈ nds M, Fit n) (hl : M.length ≤ 9223372036854775807) :
    Calls Tryz.prog 11 #[.slice a M.length c, .slice b M.length d] w fun e w' => e = .returned (.bool true) ∧ Ext w w' := by
  have h := nodes_self (nds M) a b c d w hA hB hf (by rw [nds_length]; exact hl)
  rw [nds_length] at h
  exact h
theorem sesAt_own {T : List Se} {base : Nat} {v : Value} {w : World} (h : OwnSe base T v w) : ∃ a c, v = .slice a T.length c ∧ SesAt w.heap.size w a T := by
  obtain ⟨a, c, vs, e, _, _, hR, _⟩ := h.rows
  exact ⟨a, c, e, hR.ses fun k hk => hk.2⟩
theorem stayNs {M : List (Key × Nd)} (n : Nat) : ∀ v w w', (∃ a c, v = Value.slice a n c ∧ NdsAt w.heap.size w a (nds M)) → Ext w w' → ∃ a c, v = Value.slice a n c ∧ NdsAt w'.heap.size w' a (nds M) := by
  rintro v w w' ⟨a, c, h1, h2⟩ hE
  exact ⟨a, c, h1, h2.ext hE⟩
theorem staySs {T : List Se} (n : Nat) : ∀ v w w', (∃ a c, v = Value.slice a n c ∧ SesAt w.heap.size w a T) → Ext w w' → ∃ a c, v = Value.slice a n c ∧ SesAt w'.heap.size w' a T := by
  rintro v w w' ⟨a, c, h1, h2⟩ hE
  exact ⟨a, c, h1, h2.ext hE⟩

theorem asame_self (w : World) (b1 b2 : Nat) (M : List (Key × Nd)) (T : List Se) (z : Int) (h1 : PState w b1 M T z) (h2 : PState w b2 M T z) :
    Calls Tryz.prog 9 #[.pointer (some ⟨b1, 0, none⟩), .pointer (some ⟨b2, 0, none⟩)] w fun e w' => e = .returned (.bool true) ∧ Ext w w' := by
  obtain ⟨bt1, bx1, bm1, S1, S2, N1, N2, hb1, hT1, hX1⟩ := h1
  obtain ⟨bt2, bx2, bm2, S3, S4, N3, N4, hb2, hT2, hX2⟩ := h2
  have g10 : w.cell? ⟨b1, 0, none⟩ = some (.pointer (some ⟨bt1, 0, none⟩)) := cell_of_row _ _ _ _ _ _ hb1
  have g11 : w.cell? ⟨b1, 1, none⟩ = some (.pointer (some ⟨bx1, 0, none⟩)) := cell_of_row _ _ _ _ _ _ hb1
  have g12 : w.cell? ⟨b1, 2, none⟩ = some (.int .i64 z) := cell_of_row _ _ _ _ _ _ hb1
  have g20 : w.cell? ⟨b2, 0, none⟩ = some (.pointer (some ⟨bt2, 0, none⟩)) := cell_of_row _ _ _ _ _ _ hb2
  have g21 : w.cell? ⟨b2, 1, none⟩ = some (.pointer (some ⟨bx2, 0, none⟩)) := cell_of_row _ _ _ _ _ _ hb2
  have g22 : w.cell? ⟨b2, 2, none⟩ = some (.int .i64 z) := cell_of_row _ _ _ _ _ _ hb2
  have HT1 := Lib.hid hT1
  have HT2 := Lib.hid hT2
  have HX1 := Lib.hid hX1
  have HX2 := Lib.hid hX2
  clear hT1 hT2 hX1 hX2 hb1 hb2
  go_enter Tryz.func9, Tryz.ntmps9
  go_wp2
  refine wp_region_P (by kernel_rfl) (region_sp 45 [.val (.pointer (some ⟨b1, 0, none⟩)), .val (.pointer (some ⟨b1, 0, none⟩)), .val (.pointer (some ⟨b1, 0, none⟩)), .val (.pointer (some ⟨bt1, 0, none⟩)), .val (.pointer (some ⟨b2, 0, none⟩)), .val (.pointer (some ⟨b2, 0, none⟩)), .val (.pointer (some ⟨b2, 0, none⟩)), .val (.pointer (some ⟨bt2, 0, none⟩)), .val (.bool true), .val (.bool true), .val (.pointer (some ⟨b1, 0, none⟩)), .val (.pointer (some ⟨b1, 0, none⟩)), .val (.pointer (some ⟨b1, 1, none⟩)), .val (.pointer (some ⟨bx1, 0, none⟩)), .val (.pointer (some ⟨b2, 0, none⟩)), .val (.pointer (some ⟨b2, 0, none⟩)), .val (.pointer (some ⟨b2, 1, none⟩)), .val (.pointer (some ⟨bx2, 0, none⟩)), .val (.bool true), .val (.bool true), .val (.bool true), .val (.pointer (some ⟨b1, 0, none⟩)), .val (.pointer (some ⟨b1, 0, none⟩)), .val (.pointer (some ⟨b1, 2, none⟩)), .val (.int .i64 z), .val (.pointer (some ⟨b2, 0, none⟩)), .val (.pointer (some ⟨b2, 0, none⟩)), .val (.pointer (some ⟨b2, 2, none⟩)), .val (.int .i64 z), .val (.bool true), .val (.bool true), .val (.bool true)] ?stay rfl (by decide) rfl ?duties ?rest)
  case duties =>
    refine ⟨?_, ?_, ?_, ?_, ?_, ?_, ?_, ?_, ?_, ?_, ?_, ?_, ?_, ?_, ?_, ?_, ?_, ?_, ?_, ?_, ?_, ?_, ?_, ?_, ?_, ?_, ?_, ?_, ?_, ?_, ?_, ?_, trivial⟩
    · refine duty_free rfl fun a w' hE hF hA => ?_
      have x1 := hF.slot 0 _ (by decide) rfl
      exact wp_value (w' := w') (ex_move rfl) ⟨_, rfl, x1, Ext.refl _⟩
    · refine duty_free rfl fun a w' hE hF hA => ?_
      have x1 := hA.pick 0 14 (.pointer (some ⟨b1, 0, none⟩)) rfl rfl ⟨⟨0, .data⟩, by simp, rfl, rfl⟩ (fun u h => h)
      exact wp_value (w' := w') (v := .pointer (some ⟨b1, 0, none⟩)) (by simp only [execOp, x1]; simp [go_sem]) ⟨_, rfl, rfl, Ext.refl _⟩
    · refine duty_free rfl fun a w' hE hF hA => ?_
      have x1 := hA.pick 1 15 (.pointer (some ⟨b1, 0, none⟩)) rfl rfl ⟨⟨1, .data⟩, by simp, rfl, rfl⟩ (fun u h => h)
      exact wp_value (w' := w') (v := .pointer (some ⟨b1, 0, none⟩)) (by simp only [execOp, x1]; simp [go_sem]) ⟨_, rfl, rfl, Ext.refl _⟩
    · refine duty_free rfl fun a w' hE hF hA => ?_
      have x1 := hA.pick 2 16 (.pointer (some ⟨b1, 0, none⟩)) rfl rfl ⟨⟨2, .data⟩, by simp, rfl, rfl⟩ (fun u h => h)
      exact wp_value (ex_cell rfl _ _ x1 ((hE.cell (World.block_lt_of_cell? _ _ g10)).trans g10) rfl Tryz.underlying36) ⟨_, rfl, rfl, Ext.refl _⟩
    · refine duty_free rfl fun a w' hE hF hA => ?_
      have x1 := hF.slot 1 _ (by decide) rfl
      exact wp_value (w' := w') (ex_move rfl) ⟨_, rfl, x1, Ext.refl _⟩
    · refine duty_free rfl fun a w' hE hF hA => ?_
      have x1 := hA.pick 4 18 (.pointer (some ⟨b2, 0, none⟩)) rfl rfl ⟨⟨4, .data⟩, by simp, rfl, rfl⟩ (fun u h => h)
      exact wp_value (w' := w') (v := .pointer (some ⟨b2, 0, none⟩)) (by simp only [execOp, x1]; simp [go_sem]) ⟨_, rfl, rfl, Ext.refl _⟩
    · refine duty_free rfl fun a w' hE hF hA => ?_
      have x1 := hA.pick 5 19 (.pointer (some ⟨b2, 0, none⟩)) rfl rfl ⟨⟨5, .data⟩, by simp, rfl, rfl⟩ (fun u h => h)
      exact wp_value (w' := w') (v := .pointer (some ⟨b2, 0, none⟩)) (by simp only [execOp, x1]; simp [go_sem]) ⟨_, rfl, rfl, Ext.refl _⟩
    · refine duty_free rfl fun a w' hE hF hA => ?_
      have x1 := hA.pick 6 20 (.pointer (some ⟨b2, 0, none⟩)) rfl rfl ⟨⟨6, .data⟩, by simp, rfl, rfl⟩ (fun u h => h)
      exact wp_value (ex_cell rfl _ _ x1 ((hE.cell (World.block_lt_of_cell? _ _ g20)).trans g20) rfl Tryz.underlying36) ⟨_, rfl, rfl, Ext.refl _⟩
    · refine duty_free rfl fun a w' hE hF hA => ?_
      have x1 := hA.pick 3 17 (.pointer (some ⟨bt1, 0, none⟩)) rfl rfl ⟨⟨3, .data⟩, by simp, rfl, rfl⟩ (fun u h => h)
      have x2 := hA.pick 7 21 (.pointer (some ⟨bt2, 0, none⟩)) rfl rfl ⟨⟨7, .data⟩, by simp, rfl, rfl⟩ (fun u h => h)
      refine wp_enter (ex_call rfl (enters_f Tryz.func29 (by kernel_rfl) rfl)) (by simp only [List.map_toArray, List.map_cons, List.map_nil, x1, x2]; exact tsame_self _ _ w' bt1 bt2 M _ _ (HT1.out.ext hE) (HT2.out.ext hE)) ?_
      rintro e w4 ⟨rfl, hb⟩
      exact ⟨_, rfl, _, rfl, rfl, hb⟩
    · refine duty_free rfl fun a w' hE hF hA => ?_
      have x1 := hA.pick 8 22 (.bool true) rfl rfl ⟨⟨8, .data⟩, by simp, rfl, rfl⟩ (fun u h => h)
      exact wp_value (w' := w') (ex_move rfl) ⟨_, rfl, x1, Ext.refl _⟩
    · refine duty_yes rfl (p := _) rfl (d := 23) rfl (show 23 < 45 by decide) ⟨⟨9, .guard⟩, by simp, rfl, rfl⟩ (fun v w h => h) fun a w' hE hF hA => ?_
      have x1 := hF.slot 0 _ (by decide) rfl
      exact wp_value (w' := w') (ex_move rfl) ⟨_, rfl, x1, Ext.refl _⟩
    · refine duty_yes rfl (p := _) rfl (d := 23) rfl (show 23 < 45 by decide) ⟨⟨9, .guard⟩, by simp, rfl, rfl⟩ (fun v w h => h) fun a w' hE hF hA => ?_
      have x1 := hA.pick 10 24 (.pointer (some ⟨b1, 0, none⟩)) rfl rfl ⟨⟨10, .data⟩, by simp, rfl, rfl⟩ (fun u h => h)
      exact wp_value (w' := w') (v := .pointer (some ⟨b1, 0, none⟩)) (by simp only [execOp, x1]; simp [go_sem]) ⟨_, rfl, rfl, Ext.refl _⟩
    · refine duty_yes rfl (p := _) rfl (d := 23) rfl (show 23 < 45 by decide) ⟨⟨9, .guard⟩, by simp, rfl, rfl⟩ (fun v w h => h) fun a w' hE hF hA => ?_
      have x1 := hA.pick 11 25 (.pointer (some ⟨b1, 0, none⟩)) rfl rfl ⟨⟨11, .data⟩, by simp, rfl, rfl⟩ (fun u h => h)
      exact wp_value (w' := w') (v := .pointer (some ⟨b1, 1, none⟩)) (by simp only [execOp, x1]; simp [go_sem]) ⟨_, rfl, rfl, Ext.refl _⟩
    · refine duty_yes rfl (p := _) rfl (d := 23) rfl (show 23 < 45 by decide) ⟨⟨9, .guard⟩, by simp, rfl, rfl⟩ (fun v w h => h) fun a w' hE hF hA => ?_
      have x1 := hA.pick 12 26 (.pointer (some ⟨b1, 1, none⟩)) rfl rfl ⟨⟨12, .data⟩, by simp, rfl, rfl⟩ (fun u h => h)
      exact wp_value (ex_cell rfl _ _ x1 ((hE.cell (World.block_lt_of_cell? _ _ g11)).trans g11) rfl Tryz.underlying55) ⟨_, rfl, rfl, Ext.refl _⟩
    · refine duty_yes rfl (p := _) rfl (d := 23) rfl (show 23 < 45 by decide) ⟨⟨9, .guard⟩, by simp, rfl, rfl⟩ (fun v w h => h) fun a w' hE hF hA => ?_
      have x1 := hF.slot 1 _ (by decide) rfl
      exact wp_value (w' := w') (ex_move rfl) ⟨_, rfl, x1, Ext.refl _⟩
    · refine duty_yes rfl (p := _) rfl (d := 23) rfl (show 23 < 45 by decide) ⟨⟨9, .guard⟩, by simp, rfl, rfl⟩ (fun v w h => h) fun a w' hE hF hA => ?_
      have x1 := hA.pick 14 28 (.pointer (some ⟨b2, 0, none⟩)) rfl rfl ⟨⟨14, .data⟩, by simp, rfl, rfl⟩ (fun u h => h)
      exact wp_value (w' := w') (v := .pointer (some ⟨b2, 0, none⟩)) (by simp only [execOp, x1]; simp [go_sem]) ⟨_, rfl, rfl, Ext.refl _⟩
    · refine duty_yes rfl (p := _) rfl (d := 23) rfl (show 23 < 45 by decide) ⟨⟨9, .guard⟩, by simp, rfl, rfl⟩ (fun v w h => h) fun a w' hE hF hA => ?_
      have x1 := hA.pick 15 29 (.pointer (some ⟨b2, 0, none⟩)) rfl rfl ⟨⟨15, .data⟩, by simp, rfl, rfl⟩ (fun u h => h)
      exact wp_value (w' := w') (v := .pointer (some ⟨b2, 1, none⟩)) (by simp only [execOp, x1]; simp [go_sem]) ⟨_, rfl, rfl, Ext.refl _⟩
    · refine duty_yes rfl (p := _) rfl (d := 23) rfl (show 23 < 45 by decide) ⟨⟨9, .guard⟩, by simp, rfl, rfl⟩ (fun v w h => h) fun a w' hE hF hA => ?_
      have x1 := hA.pick 16 30 (.pointer (some ⟨b2, 1, none⟩)) rfl rfl ⟨⟨16, .data⟩, by simp, rfl, rfl⟩ (fun u h => h)
      exact wp_value (ex_cell rfl _ _ x1 ((hE.cell (World.block_lt_of_cell? _ _ g21)).trans g21) rfl Tryz.underlying55) ⟨_, rfl, rfl, Ext.refl _⟩
    · refine duty_yes rfl (p := _) rfl (d := 23) rfl (show 23 < 45 by decide) ⟨⟨9, .guard⟩, by simp, rfl, rfl⟩ (fun v w h => h) fun a w' hE hF hA => ?_
      have x1 := hA.pick 13 27 (.pointer (some ⟨bx1, 0, none⟩)) rfl rfl ⟨⟨13, .data⟩, by simp, rfl, rfl⟩ (fun u h => h)
      have x2 := hA.pick 17 31 (.pointer (some ⟨bx2, 0, none⟩)) rfl rfl ⟨⟨17, .data⟩, by simp, rfl, rfl⟩ (fun u h => h)
      refine wp_enter (ex_call rfl (enters_f Tryz.func30 (by kernel_rfl) rfl)) (by simp only [List.map_toArray, List.map_cons, List.map_nil, x1, x2]; exact tblEq_self _ _ w' bx1 bx2 bm1 bm2 T _ _ (HX1.out.ext hE) (HX2.out.ext hE)) ?_
      rintro e w4 ⟨rfl, hb⟩
      exact ⟨_, rfl, _, rfl, rfl, hb⟩
    · refine duty_free rfl fun a w' hE hF hA => ?_
      have x1 := hA.pick 9 23 (.bool true) rfl rfl ⟨⟨9, .data⟩, by simp, rfl, rfl⟩ (fun u h => h)
      have x2 := hA.pick 18 32 (.bool true) rfl rfl ⟨⟨18, .data⟩, by simp, rfl, rfl⟩ (fun u h => h)
      exact wp_value (w' := w') (ex_pick rfl x1) ⟨_, rfl, x2, Ext.refl _⟩
    · refine duty_free rfl fun a w' hE hF hA => ?_
      have x1 := hA.pick 19 33 (.bool true) rfl rfl ⟨⟨19, .data⟩, by simp, rfl, rfl⟩ (fun u h => h)
      exact wp_value (w' := w') (ex_move rfl) ⟨_, rfl, x1, Ext.refl _⟩
    · refine duty_yes rfl (p := _) rfl (d := 34) rfl (show 34 < 45 by decide) ⟨⟨20, .guard⟩, by simp, rfl, rfl⟩ (fun v w h => h) fun a w' hE hF hA => ?_
      have x1 := hF.slot 0 _ (by decide) rfl
      exact wp_value (w' := w') (ex_move rfl) ⟨_, rfl, x1, Ext.refl _⟩
    · refine duty_yes rfl (p := _) rfl (d := 34) rfl (show 34 < 45 by decide) ⟨⟨20, .guard⟩, by simp, rfl, rfl⟩ (fun v w h => h) fun a w' hE hF hA => ?_
      have x1 := hA.pick 21 35 (.pointer (some ⟨b1, 0, none⟩)) rfl rfl ⟨⟨21, .data⟩, by simp, rfl, rfl⟩ (fun u h => h)
      exact wp_value (w' := w') (v := .pointer (some ⟨b1, 0, none⟩)) (by simp only [execOp, x1]; simp [go_sem]) ⟨_, rfl, rfl, Ext.refl _⟩
    · refine duty_yes rfl (p := _) rfl (d := 34) rfl (show 34 < 45 by decide) ⟨⟨20, .guard⟩, by simp, rfl, rfl⟩ (fun v w h => h) fun a w' hE hF hA => ?_
      have x1 := hA.pick 22 36 (.pointer (some ⟨b1, 0, none⟩)) rfl rfl ⟨⟨22, .data⟩, by simp, rfl, rfl⟩ (fun u h => h)
      exact wp_value (w' := w') (v := .pointer (some ⟨b1, 2, none⟩)) (by simp only [execOp, x1]; simp [go_sem]) ⟨_, rfl, rfl, Ext.refl _⟩
    · refine duty_yes rfl (p := _) rfl (d := 34) rfl (show 34 < 45 by decide) ⟨⟨20, .guard⟩, by simp, rfl, rfl⟩ (fun v w h => h) fun a w' hE hF hA => ?_
      have x1 := hA.pick 23 37 (.pointer (some ⟨b1, 2, none⟩)) rfl rfl ⟨⟨23, .data⟩, by simp, rfl, rfl⟩ (fun u h => h)
      exact wp_value (ex_cell rfl _ _ x1 ((hE.cell (World.block_lt_of_cell? _ _ g12)).trans g12) rfl Tryz.underlying2) ⟨_, rfl, rfl, Ext.refl _⟩
    · refine duty_yes rfl (p := _) rfl (d := 34) rfl (show 34 < 45 by decide) ⟨⟨20, .guard⟩, by simp, rfl, rfl⟩ (fun v w h => h) fun a w' hE hF hA => ?_
      have x1 := hF.slot 1 _ (by decide) rfl
      exact wp_value (w' := w') (ex_move rfl) ⟨_, rfl, x1, Ext.refl _⟩
    · refine duty_yes rfl (p := _) rfl (d := 34) rfl (show 34 < 45 by decide) ⟨⟨20, .guard⟩, by simp, rfl, rfl⟩ (fun v w h => h) fun a w' hE hF hA => ?_
      have x1 := hA.pick 25 39 (.pointer (some ⟨b2, 0, none⟩)) rfl rfl ⟨⟨25, .data⟩, by simp, rfl, rfl⟩ (fun u h => h)
      exact wp_value (w' := w') (v := .pointer (some ⟨b2, 0, none⟩)) (by simp only [execOp, x1]; simp [go_sem]) ⟨_, rfl, rfl, Ext.refl _⟩
    · refine duty_yes rfl (p := _) rfl (d := 34) rfl (show 34 < 45 by decide) ⟨⟨20, .guard⟩, by simp, rfl, rfl⟩ (fun v w h => h) fun a w' hE hF hA => ?_
      have x1 := hA.pick 26 40 (.pointer (some ⟨b2, 0, none⟩)) rfl rfl ⟨⟨26, .data⟩, by simp, rfl, rfl⟩ (fun u h => h)
      exact wp_value (w' := w') (v := .pointer (some ⟨b2, 2, none⟩)) (by simp only [execOp, x1]; simp [go_sem]) ⟨_, rfl, rfl, Ext.refl _⟩
    · refine duty_yes rfl (p := _) rfl (d := 34) rfl (show 34 < 45 by decide) ⟨⟨20, .guard⟩, by simp, rfl, rfl⟩ (fun v w h => h) fun a w' hE hF hA => ?_
      have x1 := hA.pick 27 41 (.pointer (some ⟨b2, 2, none⟩)) rfl rfl ⟨⟨27, .data⟩, by simp, rfl, rfl⟩ (fun u h => h)
      exact wp_value (ex_cell rfl _ _ x1 ((hE.cell (World.block_lt_of_cell? _ _ g22)).trans g22) rfl Tryz.underlying2) ⟨_, rfl, rfl, Ext.refl _⟩
    · refine duty_yes rfl (p := _) rfl (d := 34) rfl (show 34 < 45 by decide) ⟨⟨20, .guard⟩, by simp, rfl, rfl⟩ (fun v w h => h) fun a w' hE hF hA => ?_
      have x1 := hA.pick 24 38 (.int .i64 z) rfl rfl ⟨⟨24, .data⟩, by simp, rfl, rfl⟩ (fun u h => h)
      have x2 := hA.pick 28 42 (.int .i64 z) rfl rfl ⟨⟨28, .data⟩, by simp, rfl, rfl⟩ (fun u h => h)
      exact wp_value (w' := w') (v := .bool true) (by simp only [execOp, x1, x2]; simp [go_sem]) ⟨_, rfl, rfl, Ext.refl _⟩
    · refine duty_free rfl fun a w' hE hF hA => ?_
      have x1 := hA.pick 20 34 (.bool true) rfl rfl ⟨⟨20, .data⟩, by simp, rfl, rfl⟩ (fun u h => h)
      have x2 := hA.pick 29 43 (.bool true) rfl rfl ⟨⟨29, .data⟩, by simp, rfl, rfl⟩ (fun u h => h)
      exact wp_value (w' := w') (ex_pick rfl x1) ⟨_, rfl, x2, Ext.refl _⟩
    · refine duty_free rfl fun a w' hE hF hA => ?_
      have x1 := hA.pick 30 44 (.bool true) rfl rfl ⟨⟨30, .data⟩, by simp, rfl, rfl⟩ (fun u h => h)
      exact wp_value (w' := w') (ex_assign rfl) ⟨_, rfl, x1, Ext.refl _⟩
  case stay => exact trivial
  case rest =>
    intro W8 hE8
    have HE8 := Lib.hid hE8
    simp only [forS]
    clear hE8
    simp only [filled, List.zip_cons_cons, List.zip_nil_right, List.zip_nil_left, List.foldl_cons, List.foldl_nil, Act.put]
    go_simp
    rename_i hK
    refine hK _ _ ?_
    clear hK
    go_wp2
    go_ret
    exact ⟨rfl, HE8.out⟩

theorem alike_self (w : World) (b1 b2 : Nat) (M : List (Key × Nd)) (T : List Se) (z : Int) (h1 : PState w b1 M T z) (h2 : RState w b2 M T z) (hl : M.length * 168 ≤ 140737488355328) (hlT : T.length * 40 ≤ 140737488355328) :
    Calls Tryz.prog 24 #[.pointer (some ⟨b1, 0, none⟩), .pointer (some ⟨b2, 0, none⟩)] w fun e w' => e = .returned (.bool true) ∧ Ext w w' := by
  obtain ⟨bt1, bx1, bm1, S1, S2, N1, N2, hb1, hT1, hX1⟩ := h1
  obtain ⟨rt, rx, S3, hb2, hT2, hX2⟩ := h2
  obtain ⟨ra, rc, vs, hrt, _, _, hS3, hrows, _⟩ := hT2
  obtain ⟨xa, xc, ws, hrx, _, _, hS4, hrows2, _⟩ := hX2
  have g20 : w.cell? ⟨b2, 0, none⟩ = some (.pointer (some ⟨rt, 0, none⟩)) := cell_of_row _ _ _ _ _ _ hb2
  have g21 : w.cell? ⟨b2, 1, none⟩ = some (.pointer (some ⟨rx, 0, none⟩)) := cell_of_row _ _ _ _ _ _ hb2
  have g22 : w.cell? ⟨b2, 2, none⟩ = some (.int .i64 z) := cell_of_row _ _ _ _ _ _ hb2
  have gt : w.cell? ⟨rt, 0, none⟩ = some (.slice ra M.length rc) := by
    have := cell_of_row w rt 0 _ _ _ hrt
    rw [nds_length] at this; exact this
  have gx : w.cell? ⟨rx, 0, none⟩ = some (.slice xa T.length xc) := cell_of_row _ _ _ _ _ _ hrx
  have HRA := Lib.hid (hrows.nds fun k hk => (hS3 k hk).1)
  have HXA := Lib.hid (hrows2.ses fun k hk => (hS4 k hk).1)
  have HFN := Lib.hid (nds_fit hT1.ok)
  have HFS := Lib.hid hX1.fit
  have HT1 := Lib.hid hT1
  have HX1 := Lib.hid hX1
  have HB1 := Lib.hid hb1
  have CT := Lib.hid (ptree_any w b1 bt1 bx1 z hb1)
  have CX := Lib.hid (psess_any w b1 bt1 bx1 z hb1)
  clear hT1 hX1 hb1 hb2 hrt hrx hrows hrows2 hS3 hS4
  go_enter Tryz.func24, Tryz.ntmps24
  go_wp2_with fail
  refine CT.out.mono ?_
  rintro e W1 ⟨rfl, rfl⟩
  clear CT
  go_wp2_with fail
  refine CX.out.mono ?_
  rintro e W1 ⟨rfl, rfl⟩
  clear CX
  go_wp2
  refine wp_region_P (by kernel_rfl) (region_sp 68 [.val (.pointer (some ⟨bt1, 0, none⟩)), .val (.bool false), .val (.bool false), .val (.pointer (some ⟨bx1, 0, none⟩)), .val (.bool false), .val (.bool false), .val (.bool false), .val (.pointer (some ⟨b1, 0, none⟩)), .val (.int .i64 z), .val (.pointer (some ⟨b2, 0, none⟩)), .val (.pointer (some ⟨b2, 0, none⟩)), .val (.pointer (some ⟨b2, 2, none⟩)), .val (.int .i64 z), .val (.bool false), .val (.bool false)] ?stay rfl (by decide) rfl ?duties ?rest)
  case duties =>
    refine ⟨?_, ?_, ?_, ?_, ?_, ?_, ?_, ?_, ?_, ?_, ?_, ?_, ?_, ?_, ?_, trivial⟩
    · refine duty_free rfl fun a w' hE hF hA => ?_
      have x1 := hF.slot 5 _ (by decide) rfl
      exact wp_value (w' := w') (ex_move rfl) ⟨_, rfl, x1, Ext.refl _⟩
    · refine duty_free rfl fun a w' hE hF hA => ?_
      have x1 := hA.pick 0 23 (.pointer (some ⟨bt1, 0, none⟩)) rfl rfl ⟨⟨0, .data⟩, by simp, rfl, rfl⟩ (fun u h => h)
      exact wp_value (w' := w') (v := .bool false) (by simp only [execOp, x1]; simp [go_sem]) ⟨_, rfl, rfl, Ext.refl _⟩
    · refine duty_free rfl fun a w' hE hF hA => ?_
      have x1 := hA.pick 1 24 (.bool false) rfl rfl ⟨⟨1, .data⟩, by simp, rfl, rfl⟩ (fun u h => h)
      exact wp_value (w' := w') (ex_move rfl) ⟨_, rfl, x1, Ext.refl _⟩
    · refine duty_yes rfl (p := _) rfl (d := 25) rfl (show 25 < 68 by decide) ⟨⟨2, .guard⟩, by simp, rfl, rfl⟩ (fun v w h => h) fun a w' hE hF hA => ?_
      have x1 := hF.slot 6 _ (by decide) rfl
      exact wp_value (w' := w') (ex_move rfl) ⟨_, rfl, x1, Ext.refl _⟩
    · refine duty_yes rfl (p := _) rfl (d := 25) rfl (show 25 < 68 by decide) ⟨⟨2, .guard⟩, by simp, rfl, rfl⟩ (fun v w h => h) fun a w' hE hF hA => ?_
      have x1 := hA.pick 3 26 (.pointer (some ⟨bx1, 0, none⟩)) rfl rfl ⟨⟨3, .data⟩, by simp, rfl, rfl⟩ (fun u h => h)
      exact wp_value (w' := w') (v := .bool false) (by simp only [execOp, x1]; simp [go_sem]) ⟨_, rfl, rfl, Ext.refl _⟩
    · refine duty_free rfl fun a w' hE hF hA => ?_
      have x1 := hA.pick 2 25 (.bool false) rfl rfl ⟨⟨2, .data⟩, by simp, rfl, rfl⟩ (fun u h => h)
      have x2 := hA.pick 4 27 (.bool false) rfl rfl ⟨⟨4, .data⟩, by simp, rfl, rfl⟩ (fun u h => h)
      exact wp_value (w' := w') (ex_pick rfl x1) ⟨_, rfl, x2, Ext.refl _⟩
    · refine duty_free rfl fun a w' hE hF hA => ?_
      have x1 := hA.pick 5 28 (.bool false) rfl rfl ⟨⟨5, .data⟩, by simp, rfl, rfl⟩ (fun u h => h)
      exact wp_value (w' := w') (ex_move rfl) ⟨_, rfl, x1, Ext.refl _⟩
    · refine duty_yes rfl (p := _) rfl (d := 29) rfl (show 29 < 68 by decide) ⟨⟨6, .guard⟩, by simp, rfl, rfl⟩ (fun v w h => h) fun a w' hE hF hA => ?_
      have x1 := hF.slot 0 _ (by decide) rfl
      exact wp_value (w' := w') (ex_move rfl) ⟨_, rfl, x1, Ext.refl _⟩
    · refine duty_yes rfl (p := _) rfl (d := 29) rfl (show 29 < 68 by decide) ⟨⟨6, .guard⟩, by simp, rfl, rfl⟩ (fun v w h => h) fun a w' hE hF hA => ?_
      have x1 := hA.pick 7 30 (.pointer (some ⟨b1, 0, none⟩)) rfl rfl ⟨⟨7, .data⟩, by simp, rfl, rfl⟩ (fun u h => h)
      refine wp_enter (ex_call rfl (enters_f Tryz.func10 (by kernel_rfl) rfl)) (by simp only [List.map_toArray, List.map_cons, List.map_nil, x1]; exact plast_e w' b1 bt1 bx1 z ((hE.block _ (Array.getElem?_eq_some_iff.1 HB1.out).1).trans HB1.out)) ?_
      rintro e w4 ⟨rfl, hb⟩
      exact ⟨_, rfl, _, rfl, rfl, hb⟩
    · refine duty_yes rfl (p := _) rfl (d := 29) rfl (show 29 < 68 by decide) ⟨⟨6, .guard⟩, by simp, rfl, rfl⟩ (fun v w h => h) fun a w' hE hF hA => ?_
      have x1 := hF.slot 1 _ (by decide) rfl
      exact wp_value (w' := w') (ex_move rfl) ⟨_, rfl, x1, Ext.refl _⟩
    · refine duty_yes rfl (p := _) rfl (d := 29) rfl (show 29 < 68 by decide) ⟨⟨6, .guard⟩, by simp, rfl, rfl⟩ (fun v w h => h) fun a w' hE hF hA => ?_
      have x1 := hA.pick 9 32 (.pointer (some ⟨b2, 0, none⟩)) rfl rfl ⟨⟨9, .data⟩, by simp, rfl, rfl⟩ (fun u h => h)
      exact wp_value (w' := w') (v := .pointer (some ⟨b2, 0, none⟩)) (by simp only [execOp, x1]; simp [go_sem]) ⟨_, rfl, rfl, Ext.refl _⟩
    · refine duty_yes rfl (p := _) rfl (d := 29) rfl (show 29 < 68 by decide) ⟨⟨6, .guard⟩, by simp, rfl, rfl⟩ (fun v w h => h) fun a w' hE hF hA => ?_
      have x1 := hA.pick 10 33 (.pointer (some ⟨b2, 0, none⟩)) rfl rfl ⟨⟨10, .data⟩, by simp, rfl, rfl⟩ (fun u h => h)
      exact wp_value (w' := w') (v := .pointer (some ⟨b2, 2, none⟩)) (by simp only [execOp, x1]; simp [go_sem]) ⟨_, rfl, rfl, Ext.refl _⟩
    · refine duty_yes rfl (p := _) rfl (d := 29) rfl (show 29 < 68 by decide) ⟨⟨6, .guard⟩, by simp, rfl, rfl⟩ (fun v w h => h) fun a w' hE hF hA => ?_
      have x1 := hA.pick 11 34 (.pointer (some ⟨b2, 2, none⟩)) rfl rfl ⟨⟨11, .data⟩, by simp, rfl, rfl⟩ (fun u h => h)
      exact wp_value (ex_cell rfl _ _ x1 ((hE.cell (World.block_lt_of_cell? _ _ g22)).trans g22) rfl Tryz.underlying2) ⟨_, rfl, rfl, Ext.refl _⟩
    · refine duty_yes rfl (p := _) rfl (d := 29) rfl (show 29 < 68 by decide) ⟨⟨6, .guard⟩, by simp, rfl, rfl⟩ (fun v w h => h) fun a w' hE hF hA => ?_
      have x1 := hA.pick 8 31 (.int .i64 z) rfl rfl ⟨⟨8, .data⟩, by simp, rfl, rfl⟩ (fun u h => h)
      have x2 := hA.pick 12 35 (.int .i64 z) rfl rfl ⟨⟨12, .data⟩, by simp, rfl, rfl⟩ (fun u h => h)
      exact wp_value (w' := w') (v := .bool false) (by simp only [execOp, x1, x2]; simp [go_sem]) ⟨_, rfl, rfl, Ext.refl _⟩
    · refine duty_free rfl fun a w' hE hF hA => ?_
      have x1 := hA.pick 6 29 (.bool false) rfl rfl ⟨⟨6, .data⟩, by simp, rfl, rfl⟩ (fun u h => h)
      have x2 := hA.pick 13 36 (.bool false) rfl rfl ⟨⟨13, .data⟩, by simp, rfl, rfl⟩ (fun u h => h)
      exact wp_value (w' := w') (ex_pick rfl x1) ⟨_, rfl, x2, Ext.refl _⟩
  case stay => exact trivial
  case rest =>
    intro W8 hE8
    simp only [forS]
    have g20 := (hE8.cell (World.block_lt_of_cell? _ _ g20)).trans g20
    have g21 := (hE8.cell (World.block_lt_of_cell? _ _ g21)).trans g21
    have g22 := (hE8.cell (World.block_lt_of_cell? _ _ g22)).trans g22
    have gt := (hE8.cell (World.block_lt_of_cell? _ _ gt)).trans gt
    have gx := (hE8.cell (World.block_lt_of_cell? _ _ gx)).trans gx
    have HT1 := Lib.hid (HT1.out.ext hE8)
    have HX1 := Lib.hid (HX1.out.ext hE8)
    have HRA := Lib.hid (HRA.out.ext hE8)
    have HXA := Lib.hid (HXA.out.ext hE8)
    have HE8 := Lib.hid hE8
    clear hE8
    simp only [filled, List.zip_cons_cons, List.zip_nil_right, List.zip_nil_left, List.foldl_cons, List.foldl_nil, Act.put]
    go_simp
    rename_i hK
    refine hK _ _ ?_
    clear hK
    go_wp2
    refine wp_region_P (by kernel_rfl) (region_sp 68 [.val (.pointer (some ⟨bt1, 0, none⟩)), .val (.pointer (some ⟨b2, 0, none⟩)), .val (.pointer (some ⟨b2, 0, none⟩)), .val (.pointer (some ⟨b2, 0, none⟩)), .val (.pointer (some ⟨rt, 0, none⟩)), .val (.pointer (some ⟨rt, 0, none⟩)), .val (.pointer (some ⟨rt, 0, none⟩)), .val (.slice ra M.length rc), .val (.int .i64 M.length), .prop (fun u W => ∃ a c, u = .slice a M.length c ∧ NdsAt W.heap.size W a (nds M)), .val (.pointer (some ⟨b2, 0, none⟩)), .val (.pointer (some ⟨b2, 0, none⟩)), .val (.pointer (some ⟨b2, 0, none⟩)), .val (.pointer (some ⟨rt, 0, none⟩)), .val (.pointer (some ⟨rt, 0, none⟩)), .val (.pointer (some ⟨rt, 0, none⟩)), .val (.slice ra M.length rc), .val (.bool true), .val (.bool true), .val (.pointer (some ⟨bx1, 0, none⟩)), .prop (fun u W => ∃ a c, u = .slice a T.length c ∧ SesAt W.heap.size W a T), .val (.pointer (some ⟨b2, 0, none⟩)), .val (.pointer (some ⟨b2, 0, none⟩)), .val (.pointer (some ⟨b2, 1, none⟩)), .val (.pointer (some ⟨rx, 0, none⟩)), .val (.pointer (some ⟨rx, 0, none⟩)), .val (.pointer (some ⟨rx, 0, none⟩)), .val (.slice xa T.length xc), .val (.bool true), .val (.bool true), .val (.bool true)] ?stay rfl (by decide) rfl ?duties ?rest)
    case duties =>
      refine ⟨?_, ?_, ?_, ?_, ?_, ?_, ?_, ?_, ?_, ?_, ?_, ?_, ?_, ?_, ?_, ?_, ?_, ?_, ?_, ?_, ?_, ?_, ?_, ?_, ?_, ?_, ?_, ?_, ?_, ?_, ?_, trivial⟩
      · refine duty_free rfl fun a w' hE hF hA => ?_
        have x1 := hF.slot 5 _ (by decide) rfl
        exact wp_value (w' := w') (ex_move rfl) ⟨_, rfl, x1, Ext.refl _⟩
      · refine duty_free rfl fun a w' hE hF hA => ?_
        have x1 := hF.slot 1 _ (by decide) rfl
        exact wp_value (w' := w') (ex_move rfl) ⟨_, rfl, x1, Ext.refl _⟩
      · refine duty_free rfl fun a w' hE hF hA => ?_
        have x1 := hA.pick 1 39 (.pointer (some ⟨b2, 0, none⟩)) rfl rfl ⟨⟨1, .data⟩, by simp, rfl, rfl⟩ (fun u h => h)
        exact wp_value (w' := w') (v := .pointer (some ⟨b2, 0, none⟩)) (by simp only [execOp, x1]; simp [go_sem]) ⟨_, rfl, rfl, Ext.refl _⟩
      · refine duty_free rfl fun a w' hE hF hA => ?_
        have x1 := hA.pick 2 40 (.pointer (some ⟨b2, 0, none⟩)) rfl rfl ⟨⟨2, .data⟩, by simp, rfl, rfl⟩ (fun u h => h)
        exact wp_value (w' := w') (v := .pointer (some ⟨b2, 0, none⟩)) (by simp only [execOp, x1]; simp [go_sem]) ⟨_, rfl, rfl, Ext.refl _⟩
      · refine duty_free rfl fun a w' hE hF hA => ?_
        have x1 := hA.pick 3 41 (.pointer (some ⟨b2, 0, none⟩)) rfl rfl ⟨⟨3, .data⟩, by simp, rfl, rfl⟩ (fun u h => h)
        exact wp_value (ex_cell rfl _ _ x1 ((hE.cell (World.block_lt_of_cell? _ _ g20)).trans g20) rfl Tryz.underlying52) ⟨_, rfl, rfl, Ext.refl _⟩
      · refine duty_free rfl fun a w' hE hF hA => ?_
        have x1 := hA.pick 4 42 (.pointer (some ⟨rt, 0, none⟩)) rfl rfl ⟨⟨4, .data⟩, by simp, rfl, rfl⟩ (fun u h => h)
        exact wp_value (w' := w') (v := .pointer (some ⟨rt, 0, none⟩)) (by simp only [execOp, x1]; simp [go_sem]) ⟨_, rfl, rfl, Ext.refl _⟩
      · refine duty_free rfl fun a w' hE hF hA => ?_
        have x1 := hA.pick 5 43 (.pointer (some ⟨rt, 0, none⟩)) rfl rfl ⟨⟨5, .data⟩, by simp, rfl, rfl⟩ (fun u h => h)
        exact wp_value (w' := w') (v := .pointer (some ⟨rt, 0, none⟩)) (by simp only [execOp, x1]; simp [go_sem]) ⟨_, rfl, rfl, Ext.refl _⟩
      · refine duty_free rfl fun a w' hE hF hA => ?_
        have x1 := hA.pick 6 44 (.pointer (some ⟨rt, 0, none⟩)) rfl rfl ⟨⟨6, .data⟩, by simp, rfl, rfl⟩ (fun u h => h)
        exact wp_value (ex_cell rfl _ _ x1 ((hE.cell (World.block_lt_of_cell? _ _ gt)).trans gt) rfl Tryz.underlying22) ⟨_, rfl, rfl, Ext.refl _⟩
      · refine duty_free rfl fun a w' hE hF hA => ?_
        have x1 := hA.pick 7 45 (.slice ra M.length rc) rfl rfl ⟨⟨7, .data⟩, by simp, rfl, rfl⟩ (fun u h => h)
        exact wp_value (w' := w') (v := .int .i64 M.length) (by simp only [execOp, resolve, invoke, builtin, Sem.run_bind, Sem.run_pure, Result.andThen_ok, List.map_toArray, List.map_cons, List.map_nil, x1]; simp [go_sem]) ⟨_, rfl, rfl, Ext.refl _⟩
      · refine duty_free rfl fun a w' hE hF hA => ?_
        have x1 := hA.pick 0 38 (.pointer (some ⟨bt1, 0, none⟩)) rfl rfl ⟨⟨0, .data⟩, by simp, rfl, rfl⟩ (fun u h => h)
        have x2 := hA.pick 8 46 (.int .i64 M.length) rfl rfl ⟨⟨8, .data⟩, by simp, rfl, rfl⟩ (fun u h => h)
        refine wp_enter (ex_call rfl (enters_f Tryz.func12 (by kernel_rfl) rfl)) (by simp only [List.map_toArray, List.map_cons, List.map_nil, x1, x2]; exact lallN_any _ w' bt1 M _ (HT1.out.ext hE) M.length (Nat.le_refl _) (by unfold maxLen; omega) hl) ?_
        rintro e w4 ⟨a, c, rfl, hN, hb⟩
        exact ⟨_, rfl, _, rfl, ⟨a, c, rfl, hN⟩, hb⟩
      · refine duty_free rfl fun a w' hE hF hA => ?_
        have x1 := hF.slot 1 _ (by decide) rfl
        exact wp_value (w' := w') (ex_move rfl) ⟨_, rfl, x1, Ext.refl _⟩
      · refine duty_free rfl fun a w' hE hF hA => ?_
        have x1 := hA.pick 10 48 (.pointer (some ⟨b2, 0, none⟩)) rfl rfl ⟨⟨10, .data⟩, by simp, rfl, rfl⟩ (fun u h => h)
        exact wp_value (w' := w') (v := .pointer (some ⟨b2, 0, none⟩)) (by simp only [execOp, x1]; simp [go_sem]) ⟨_, rfl, rfl, Ext.refl _⟩
      · refine duty_free rfl fun a w' hE hF hA => ?_
        have x1 := hA.pick 11 49 (.pointer (some ⟨b2, 0, none⟩)) rfl rfl ⟨⟨11, .data⟩, by simp, rfl, rfl⟩ (fun u h => h)
        exact wp_value (w' := w') (v := .pointer (some ⟨b2, 0, none⟩)) (by simp only [execOp, x1]; simp [go_sem]) ⟨_, rfl, rfl, Ext.refl _⟩
      · refine duty_free rfl fun a w' hE hF hA => ?_
        have x1 := hA.pick 12 50 (.pointer (some ⟨b2, 0, none⟩)) rfl rfl ⟨⟨12, .data⟩, by simp, rfl, rfl⟩ (fun u h => h)
        exact wp_value (ex_cell rfl _ _ x1 ((hE.cell (World.block_lt_of_cell? _ _ g20)).trans g20) rfl Tryz.underlying52) ⟨_, rfl, rfl, Ext.refl _⟩
      · refine duty_free rfl fun a w' hE hF hA => ?_
        have x1 := hA.pick 13 51 (.pointer (some ⟨rt, 0, none⟩)) rfl rfl ⟨⟨13, .data⟩, by simp, rfl, rfl⟩ (fun u h => h)
        exact wp_value (w' := w') (v := .pointer (some ⟨rt, 0, none⟩)) (by simp only [execOp, x1]; simp [go_sem]) ⟨_, rfl, rfl, Ext.refl _⟩
      · refine duty_free rfl fun a w' hE hF hA => ?_
        have x1 := hA.pick 14 52 (.pointer (some ⟨rt, 0, none⟩)) rfl rfl ⟨⟨14, .data⟩, by simp, rfl, rfl⟩ (fun u h => h)
        exact wp_value (w' := w') (v := .pointer (some ⟨rt, 0, none⟩)) (by simp only [execOp, x1]; simp [go_sem]) ⟨_, rfl, rfl, Ext.refl _⟩
      · refine duty_free rfl fun a w' hE hF hA => ?_
        have x1 := hA.pick 15 53 (.pointer (some ⟨rt, 0, none⟩)) rfl rfl ⟨⟨15, .data⟩, by simp, rfl, rfl⟩ (fun u h => h)
        exact wp_value (ex_cell rfl _ _ x1 ((hE.cell (World.block_lt_of_cell? _ _ gt)).trans gt) rfl Tryz.underlying22) ⟨_, rfl, rfl, Ext.refl _⟩
      · refine duty_free rfl fun a w' hE hF hA => ?_
        have p1 : (fun u W => ∃ a c, u = .slice a M.length c ∧ NdsAt W.heap.size W a (nds M)) (a.eval (.tmp 47)) w' := hA.slot 9 47 rfl rfl ⟨⟨9, .data⟩, by simp, rfl, rfl⟩
        have x2 := hA.pick 16 54 (.slice ra M.length rc) rfl rfl ⟨⟨16, .data⟩, by simp, rfl, rfl⟩ (fun u h => h)
        obtain ⟨qa, qc, x1, hN⟩ := p1
        refine wp_enter (ex_call rfl (enters_f Tryz.func11 (by kernel_rfl) rfl)) (by simp only [List.map_toArray, List.map_cons, List.map_nil, x1, x2]; exact nodesN_any M qa ra qc rc w' hN (HRA.out.ext hE) HFN.out (by omega)) ?_
        rintro e w4 ⟨rfl, hb⟩
        exact ⟨_, rfl, _, rfl, rfl, hb⟩
      · refine duty_free rfl fun a w' hE hF hA => ?_
        have x1 := hA.pick 17 55 (.bool true) rfl rfl ⟨⟨17, .data⟩, by simp, rfl, rfl⟩ (fun u h => h)
        exact wp_value (w' := w') (ex_move rfl) ⟨_, rfl, x1, Ext.refl _⟩
      · refine duty_yes rfl (p := _) rfl (d := 56) rfl (show 56 < 68 by decide) ⟨⟨18, .guard⟩, by simp, rfl, rfl⟩ (fun v w h => h) fun a w' hE hF hA => ?_
        have x1 := hF.slot 6 _ (by decide) rfl
        exact wp_value (w' := w') (ex_move rfl) ⟨_, rfl, x1, Ext.refl _⟩
      · refine duty_yes rfl (p := _) rfl (d := 56) rfl (show 56 < 68 by decide) ⟨⟨18, .guard⟩, by simp, rfl, rfl⟩ (fun v w h => h) fun a w' hE hF hA => ?_
        have x1 := hA.pick 19 57 (.pointer (some ⟨bx1, 0, none⟩)) rfl rfl ⟨⟨19, .data⟩, by simp, rfl, rfl⟩ (fun u h => h)
        refine wp_enter (ex_call rfl (enters_f Tryz.func35 (by kernel_rfl) rfl)) (by simp only [List.map_toArray, List.map_cons, List.map_nil, x1]; exact slist_any _ w' bx1 bm1 T _ (HX1.out.ext hE) hlT) ?_
        rintro e w4 ⟨v, rfl, hO, hb⟩
        exact ⟨_, rfl, _, rfl, sesAt_own hO, hb⟩
      · refine duty_yes rfl (p := _) rfl (d := 56) rfl (show 56 < 68 by decide) ⟨⟨18, .guard⟩, by simp, rfl, rfl⟩ (fun v w h => h) fun a w' hE hF hA => ?_
        have x1 := hF.slot 1 _ (by decide) rfl
        exact wp_value (w' := w') (ex_move rfl) ⟨_, rfl, x1, Ext.refl _⟩
      · refine duty_yes rfl (p := _) rfl (d := 56) rfl (show 56 < 68 by decide) ⟨⟨18, .guard⟩, by simp, rfl, rfl⟩ (fun v w h => h) fun a w' hE hF hA => ?_
        have x1 := hA.pick 21 59 (.pointer (some ⟨b2, 0, none⟩)) rfl rfl ⟨⟨21, .data⟩, by simp, rfl, rfl⟩ (fun u h => h)
        exact wp_value (w' := w') (v := .pointer (some ⟨b2, 0, none⟩)) (by simp only [execOp, x1]; simp [go_sem]) ⟨_, rfl, rfl, Ext.refl _⟩
      · refine duty_yes rfl (p := _) rfl (d := 56) rfl (show 56 < 68 by decide) ⟨⟨18, .guard⟩, by simp, rfl, rfl⟩ (fun v w h => h) fun a w' hE hF hA => ?_
        have x1 := hA.pick 22 60 (.pointer (some ⟨b2, 0, none⟩)) rfl rfl ⟨⟨22, .data⟩, by simp, rfl, rfl⟩ (fun u h => h)
        exact wp_value (w' := w') (v := .pointer (some ⟨b2, 1, none⟩)) (by simp only [execOp, x1]; simp [go_sem]) ⟨_, rfl, rfl, Ext.refl _⟩
      · refine duty_yes rfl (p := _) rfl (d := 56) rfl (show 56 < 68 by decide) ⟨⟨18, .guard⟩, by simp, rfl, rfl⟩ (fun v w h => h) fun a w' hE hF hA => ?_
        have x1 := hA.pick 23 61 (.pointer (some ⟨b2, 1, none⟩)) rfl rfl ⟨⟨23, .data⟩, by simp, rfl, rfl⟩ (fun u h => h)
        exact wp_value (ex_cell rfl _ _ x1 ((hE.cell (World.block_lt_of_cell? _ _ g21)).trans g21) rfl Tryz.underlying57) ⟨_, rfl, rfl, Ext.refl _⟩
      · refine duty_yes rfl (p := _) rfl (d := 56) rfl (show 56 < 68 by decide) ⟨⟨18, .guard⟩, by simp, rfl, rfl⟩ (fun v w h => h) fun a w' hE hF hA => ?_
        have x1 := hA.pick 24 62 (.pointer (some ⟨rx, 0, none⟩)) rfl rfl ⟨⟨24, .data⟩, by simp, rfl, rfl⟩ (fun u h => h)
        exact wp_value (w' := w') (v := .pointer (some ⟨rx, 0, none⟩)) (by simp only [execOp, x1]; simp [go_sem]) ⟨_, rfl, rfl, Ext.refl _⟩
      · refine duty_yes rfl (p := _) rfl (d := 56) rfl (show 56 < 68 by decide) ⟨⟨18, .guard⟩, by simp, rfl, rfl⟩ (fun v w h => h) fun a w' hE hF hA => ?_
        have x1 := hA.pick 25 63 (.pointer (some ⟨rx, 0, none⟩)) rfl rfl ⟨⟨25, .data⟩, by simp, rfl, rfl⟩ (fun u h => h)
        exact wp_value (w' := w') (v := .pointer (some ⟨rx, 0, none⟩)) (by simp only [execOp, x1]; simp [go_sem]) ⟨_, rfl, rfl, Ext.refl _⟩
      · refine duty_yes rfl (p := _) rfl (d := 56) rfl (show 56 < 68 by decide) ⟨⟨18, .guard⟩, by simp, rfl, rfl⟩ (fun v w h => h) fun a w' hE hF hA => ?_
        have x1 := hA.pick 26 64 (.pointer (some ⟨rx, 0, none⟩)) rfl rfl ⟨⟨26, .data⟩, by simp, rfl, rfl⟩ (fun u h => h)
        exact wp_value (ex_cell rfl _ _ x1 ((hE.cell (World.block_lt_of_cell? _ _ gx)).trans gx) rfl Tryz.underlying23) ⟨_, rfl, rfl, Ext.refl _⟩
      · refine duty_yes rfl (p := _) rfl (d := 56) rfl (show 56 < 68 by decide) ⟨⟨18, .guard⟩, by simp, rfl, rfl⟩ (fun v w h => h) fun a w' hE hF hA => ?_
        have p1 : (fun u W => ∃ a c, u = .slice a T.length c ∧ SesAt W.heap.size W a T) (a.eval (.tmp 58)) w' := hA.slot 20 58 rfl rfl ⟨⟨20, .data⟩, by simp, rfl, rfl⟩
        have x2 := hA.pick 27 65 (.slice xa T.length xc) rfl rfl ⟨⟨27, .data⟩, by simp, rfl, rfl⟩ (fun u h => h)
        obtain ⟨qa, qc, x1, hN⟩ := p1
        refine wp_enter (ex_call rfl (enters_f Tryz.func51 (by kernel_rfl) rfl)) (by simp only [List.map_toArray, List.map_cons, List.map_nil, x1, x2]; exact sess_self T qa xa qc xc w' hN (HXA.out.ext hE) HFS.out (by omega)) ?_
        rintro e w4 ⟨rfl, hb⟩
        exact ⟨_, rfl, _, rfl, rfl, hb⟩
      · refine duty_free rfl fun a w' hE hF hA => ?_
        have x1 := hA.pick 18 56 (.bool true) rfl rfl ⟨⟨18, .data⟩, by simp, rfl, rfl⟩ (fun u h => h)
        have x2 := hA.pick 28 66 (.bool true) rfl rfl ⟨⟨28, .data⟩, by simp, rfl, rfl⟩ (fun u h => h)
        exact wp_value (w' := w') (ex_pick rfl x1) ⟨_, rfl, x2, Ext.refl _⟩
      · refine duty_free rfl fun a w' hE hF hA => ?_
        have x1 := hA.pick 29 67 (.bool true) rfl rfl ⟨⟨29, .data⟩, by simp, rfl, rfl⟩ (fun u h => h)
        exact wp_value (w' := w') (ex_assign rfl) ⟨_, rfl, x1, Ext.refl _⟩
    case stay => exact ⟨stayNs _, staySs _, trivial⟩
    case rest =>
      intro W9 hE9
      have HE9 := Lib.hid (HE8.out.trans hE9)
      simp only [forS]
      intro u1 h1 u2 h2
      clear h1 h2
      clear hE9
      simp only [filled, List.zip_cons_cons, List.zip_nil_right, List.zip_nil_left, List.foldl_cons, List.foldl_nil, Act.put]
      go_simp
      rename_i hK
      refine hK _ _ ?_
      clear hK
      go_wp2
      go_ret
      exact ⟨rfl, HE9.out⟩
end Go.Proofs.YtclekhjnnljjlaaGreatDoor
namespace Go.Proofs.YtclekhjnnljjlaaGreatDoor
open Go.RowKit
set_option maxHeartbeats 1000000

theorem fromL_distinct : ∀ (l : List Nd) (i : Nat) (M0 : List (Key × Nd)), MOk M0 → (∀ n ∈ l, rightN n = 0) → (l.map keyN).Nodup → (∀ n ∈ l, mget M0 (keyN n) = none) → ∃ M1, fromL l i M0 = .ok M1 ∧ MOk M1 ∧ ∀ x, x ∈ M1 ↔ x ∈ M0 ∨ ∃ n ∈ l, x = (keyN n, n)
  | [], i, M0, h0, _, _, _ => ⟨M0, rfl, h0, fun x => by simp⟩
  | n :: l, i, M0, h0, hr, hd, hn => by
    rw [List.map_cons] at hd
    obtain ⟨d1, d2⟩ := List.nodup_cons.1 hd
    have hr0 := hr n (List.mem_cons_self ..)
    have hn0 := hn n (List.mem_cons_self ..)
    have hne : ∀ m ∈ l, keyN m ≠ keyN n := fun m hm e => d1 (e ▸ List.mem_map.2 ⟨m, hm, rfl⟩)
    obtain ⟨M1, e1, e2, e3⟩ := fromL_distinct l (i + 1) (mput M0 (keyN n) n) (h0.put n hr0) (fun m hm => hr m (List.mem_cons_of_mem _ hm)) d2 (fun m hm => mget_none_of fun x hx e => by
      rcases mem_mput.1 hx with rfl | ⟨hx, _⟩
      · exact hne m hm e.symm
      · exact mget_none (hn m (List.mem_cons_of_mem _ hm)) x hx e)
    refine ⟨M1, ?_, e2, fun x => ?_⟩
    · unfold fromL
      rw [if_neg (by simpa using hr0), if_neg (by rw [hn0]; simp)]
      exact e1
    · rw [e3, mem_mput]
      constructor
      · rintro ((rfl | ⟨h, _⟩) | ⟨m, hm, rfl⟩)
        · exact .inr ⟨n, List.mem_cons_self .., rfl⟩
        · exact .inl h
        · exact .inr ⟨m, List.mem_cons_of_mem _ hm, rfl⟩
      · rintro (h | ⟨m, hm, rfl⟩)
        · exact .inl (.inr ⟨h, mget_none hn0 x h⟩)
        · rcases List.mem_cons.1 hm with rfl | hm
          · exact .inl (.inl rfl)
          · exact .inr ⟨m, hm, rfl⟩
theorem parL_ok {M : List (Key × Nd)} : ∀ (l : List Nd) (i : Nat), (∀ n ∈ l, n.path.size ≠ 1 → mget M (parentB n.path).data.toList ≠ none) → parL M l i = .ok ()
  | [], _, _ => rfl
  | n :: l, i, h => by
    unfold parL
    rw [if_neg fun hh => h n (List.mem_cons_self ..) hh.1 hh.2]
    exact parL_ok l (i + 1) fun m hm => h m (List.mem_cons_of_mem _ hm)

/-- A list with just a tree's nodes, each once. -/
theorem fromN_perm {M : List (Key × Nd)} (hM : MOk M) (hc : Clo M) (hroot : mget M [47] ≠ none) {L : List Nd} (h1 : ∀ n ∈ L, (keyN n, n) ∈ M) (h2 : ∀ x ∈ M, x.2 ∈ L) (hd : (L.map keyN).Nodup) : fromN L = .ok M := by
  obtain ⟨M1, e1, e2, e3⟩ := fromL_distinct L 0 [] MOk.nil (fun n hn => hM.right _ (h1 n hn)) hd (fun n _ => rfl)
  have he : M1 = M := mem_ext_sorted e2.sorted hM.sorted fun x => by
    rw [e3]
    constructor
    · rintro (h | ⟨n, hn, rfl⟩)
      · simp at h
      · exact h1 n hn
    · intro hx
      refine .inr ⟨x.2, h2 x hx, ?_⟩
      rw [← hM.key x hx]
  subst he
  unfold fromN
  rw [e1]
  simp only
  rw [if_neg hroot, parL_ok L 0 fun n hn hs => ?_]
  obtain ⟨y, hy, ey⟩ := hc _ (h1 n hn) hs
  rw [← ey]
  rw [there_of hM hy]
  simp

end Go.Proofs.YtclekhjnnljjlaaGreatDoor
namespace Go.Proofs.YtclekhjnnljjlaaGreatDoor
open Go.RowKit Go.Sort
set_option maxHeartbeats 2000000

end Go.Proofs.YtclekhjnnljjlaaGreatDoor
namespace Go.Proofs.YtclekhjnnljjlaaGreatDoor
open Go.RowKit
set_option maxHeartbeats 1000000

theorem fromL_of_fromN {L : List Nd} {M : List (Key × Nd)} (h : fromN L = .ok M) : fromL L 0 [] = .ok M := by
  unfold fromN at h
  split at h
  · cases h
  · rename_i M1 e
    split at h
    · cases h
    · split at h
      · cases h
      · cases h; exact e
/-- The nodes of a tree, in order, are the tree. -/
theorem fromN_self {M : List (Key × Nd)} (hM : MOk M) (hc : Clo M) (hroot : mget M [47] ≠ none) : fromN (M.map (·.2)) = .ok M := by
  refine fromN_perm hM hc hroot (fun n hn => ?_) (fun x hx => List.mem_map.2 ⟨x, hx, rfl⟩) ?_
  · obtain ⟨x, hx, rfl⟩ := List.mem_map.1 hn
    rw [← hM.key x hx]; exact hx
  · rw [List.map_map]
    show (M.map (fun x => keyN x.2)).Pairwise (· ≠ ·)
    rw [List.pairwise_map]
    refine (hM.sorted.keys_ne).imp_of_mem fun {a b} ha hb h e => h ?_
    rw [hM.key a ha, hM.key b hb]; exact e
/-- Sessions that are opened one by one: the first that may not. -/
def openIx (l : List Se) : List Se → Nat → Except (Nat × Int) (List Se)
  | [], _ => .ok l
  | s :: r, i => if topenE l s ≠ 0 then .error (i, topenE l s) else openIx (tins s l) r (i + 1)
theorem openIx_again : ∀ (r l : List Se) (i : Nat), TSorted (l ++ r) → TRight r → openIx l r i = .ok (l ++ r)
  | [], l, i, _, _ => by simp [openIx]
  | s :: r, l, i, h, hr => by
    have hp := List.pairwise_append.1 h
    have hlt : ∀ y ∈ l, y.id < s.id := fun y hy => hp.2.2 y hy s (by simp)
    have e0 : topenE l s = 0 := by
      unfold topenE
      rw [if_neg (by rw [hr s (by simp)]; simp), if_neg]
      rw [Bool.not_eq_true, tget_none]
      intro y hy
      have := hlt y hy
      omega
    have e1 : tins s l = l ++ [s] := by
      clear e0 h hp
      induction l with
      | nil => rfl
      | cons y t ih =>
        have := hlt y (by simp)
        unfold tins
        rw [if_neg (by omega), ih (fun z hz => hlt z (by simp [hz]))]
        rfl
    unfold openIx
    rw [if_neg (by simpa using e0), e1, openIx_again r (l ++ [s]) (i + 1) (by simpa using h) (fun x hx => hr x (by simp [hx]))]
    simp
/-- All sessions that may be opened, opened. -/
def openEach (l r : List Se) : List Se := r.foldl topenL l
theorem openEach_ok {r : List Se} : ∀ {l : List Se}, TSorted l → TRight l → TSorted (openEach l r) ∧ TRight (openEach l r) := by
  induction r with
  | nil => intro l h1 h2; exact ⟨h1, h2⟩
  | cons s r ih => intro l h1 h2; exact ih (topen_sorted h1 s) (topen_right h2 s)
theorem topenL_length (l : List Se) (s : Se) : (topenL l s).length ≤ l.length + 1 := by
  unfold topenL
  split
  · rw [tins_length]; exact Nat.le_refl _
  · omega
theorem openEach_length {r : List Se} : ∀ {l : List Se}, (openEach l r).length ≤ l.length + r.length := by
  induction r with
  | nil => intro l; exact Nat.le_refl _
  | cons s r ih =>
    intro l
    have h1 := ih (l := topenL l s)
    have h2 := topenL_length l s
    simp only [openEach, List.foldl_cons, List.length_cons] at h1 ⊢
    omega
end Go.Proofs.YtclekhjnnljjlaaGreatDoor
namespace Go.Proofs.YtclekhjnnljjlaaGreatDoor
open Go.RowKit
set_option maxHeartbeats 2000000
set_option maxRecDepth 100000

theorem RowsSe.imp2 {S S' : Nat → Prop} {w w' : World} {a : Option Addr} {vs : List (Array Value)} {L : List Se} (h : RowsSe S w a vs L) (hS : ∀ b, S b → S' b) (hw : ∀ (b o : Nat) u, S b → w.cell? ⟨b, o, none⟩ = some u → w'.cell? ⟨b, o, none⟩ = some u) : RowsSe S' w' a vs L :=
  ⟨h.len, h.cells.imp hS hw, fun j cs hj => by
    obtain ⟨n, hn, hN⟩ := h.each j cs hj
    exact ⟨n, hn, SeS.imp hN hS hw⟩⟩
theorem RTbl.mod {S R : Nat → Prop} {w w' : World} {b : Nat} {L : List Se} (h : RTbl R w b L) (hM : Mod S w w') : RTbl R w' b L := by
  obtain ⟨a, cap, vs, h1, h2, h3, h4, h5, h6⟩ := h
  exact ⟨a, cap, vs, hM.cells h1, h2, h3, fun k hk => ⟨Nat.lt_of_lt_of_le (h4 k hk).1 hM.size, (h4 k hk).2⟩, h5.imp2 (fun _ h => h) fun _ _ _ _ hu => hM.cell hu, h6⟩
theorem TblAt.self {S : Nat → Prop} {w : World} {bt bm : Nat} {T : List Se} {N : Nat} (h : TblAt S w bt bm T N) : TblAt S w bt bm T T.length := { h with len := Nat.le_refl _ }

/-- The program's table and the document's, made behind a memory. -/
def TwoT (w W : World) (bu bmu bq : Nat) (T1 T2 : List Se) : Prop :=
  ∃ S R, TblAt S W bu bmu T1 T1.length ∧ RTbl R W bq T2 ∧ (∀ k, S k → w.heap.size ≤ k ∧ k ≠ bq) ∧ w.heap.size ≤ bq ∧ Ext w W
theorem TwoT.ext {w W W' : World} {bu bmu bq : Nat} {T1 T2 : List Se} (h : TwoT w W bu bmu bq T1 T2) (hE : Ext W W') : TwoT w W' bu bmu bq T1 T2 := by
  obtain ⟨S, R, h1, h2, h3, h4, h5⟩ := h
  exact ⟨S, R, h1.ext hE, h2.ext hE, h3, h4, h5.trans hE⟩
theorem TwoT.open1 {w W W' : World} {bu bmu bq : Nat} {T1 T2 : List Se} {s : Se} (hR : ∃ R, RTbl R W bq T2) {S : Nat → Prop} (hS : ∀ k, S k → w.heap.size ≤ k ∧ k ≠ bq) (hb : w.heap.size ≤ bq) (hE : Ext w W)
    (hT : TblAt (fun k => S k ∨ (W.heap.size ≤ k ∧ k < W'.heap.size)) W' bu bmu (topenL T1 s) (T1.length + 1)) (hM : Mod S W W') : TwoT w W' bu bmu bq (topenL T1 s) T2 := by
  obtain ⟨R, hR⟩ := hR
  have hz := hE.size
  have hbl := hR.lt
  exact ⟨_, R, hT.self, hR.mod hM, fun k hk => by
    rcases hk with hk | hk
    · exact hS k hk
    · exact ⟨by omega, by omega⟩, hb, hE.trans' (hM.below (fun k hk => (hS k hk).1) hz)⟩
theorem TwoT.open2 {w W W' : World} {bu bmu bq : Nat} {T1 T2 : List Se} {s : Se} {S R : Nat → Prop} (h1 : TblAt S W bu bmu T1 T1.length) (hS : ∀ k, S k → w.heap.size ≤ k ∧ k ≠ bq) (hb : w.heap.size ≤ bq) (hE : Ext w W)
    (hT : RTbl (fun k => R k ∨ (W.heap.size ≤ k ∧ k < W'.heap.size)) W' bq (topenL T2 s)) (hC : Chg (· = bq) W W') : TwoT w W' bu bmu bq T1 (topenL T2 s) :=
  ⟨S, _, h1.keep (fun k hk => hC.same k (h1.bound k hk) (hS k hk).2) (fun _ h => h) (fun k hk => Nat.lt_of_lt_of_le (h1.bound k hk) hC.size) (Nat.le_refl _), hT, hS, hb, hE.trans' (hC.below (fun k hk => by have : k = bq := hk; omega) hE.size)⟩

/-! ### Trees, or none -/
def errQ (L : List Nd) : Int := match fromN L with | .error (_, x) => x | .ok _ => 0
def treeQ (L : List Nd) : List (Key × Nd) := match fromN L with | .error _ => [] | .ok M => M
def okQ (L : List Nd) : Bool := match fromN L with | .error _ => false | .ok _ => true
def TreeQ (p : Option Addr) (ok : Bool) (M : List (Key × Nd)) (w : World) : Prop := if ok = true then ∃ bt S N, p = some ⟨bt, 0, none⟩ ∧ TreeAt S w bt M N else p = none
def RefQ (p : Option Addr) (ok : Bool) (M : List (Key × Nd)) (w : World) : Prop := if ok = true then ∃ b, p = some ⟨b, 0, none⟩ ∧ RT w b (nds M) else p = none
theorem TreeQ.ext {p : Option Addr} {ok : Bool} {M : List (Key × Nd)} {w w' : World} (h : TreeQ p ok M w) (hE : Ext w w') : TreeQ p ok M w' := by
  unfold TreeQ at h ⊢
  split
  · rename_i e; rw [if_pos e] at h
    obtain ⟨bt, S, N, e1, h1⟩ := h
    exact ⟨bt, S, N, e1, h1.ext hE⟩
  · rename_i e; rw [if_neg e] at h; exact h
theorem RefQ.ext {p : Option Addr} {ok : Bool} {M : List (Key × Nd)} {w w' : World} (h : RefQ p ok M w) (hE : Ext w w') : RefQ p ok M w' := by
  unfold RefQ at h ⊢
  split
  · rename_i e; rw [if_pos e] at h
    obtain ⟨bt, e1, h1⟩ := h
    exact ⟨bt, e1, h1.ext hE⟩
  · rename_i e; rw [if_neg e] at h; exact h
def FromQ (L : List Nd) (w : World) (e : Ending) (w' : World) : Prop := ∃ (p : Option Addr) (i : Int), e = .returned (.tuple #[.pointer p, .int .i64 i, .int .i64 (errQ L)]) ∧ TreeQ p (okQ L) (treeQ L) w' ∧ Ext w w'
def RFromQ (L : List Nd) (w : World) (e : Ending) (w' : World) : Prop := ∃ (p : Option Addr) (i : Int), e = .returned (.tuple #[.pointer p, .int .i64 i, .int .i64 (errQ L)]) ∧ RefQ p (okQ L) (treeQ L) w' ∧ Ext w w'
theorem from_q (L : List Nd) (a : Option Addr) (c : Nat) (w : World) (hT0 : Tabs w) (hL : NdsAt w.heap.size w a L) (hf : ∀ n ∈ L, Fit n) (hl : L.length ≤ 140737488355328) : Calls Tryz.prog 17 #[.slice a L.length c] w (FromQ L w) := by
  refine (from_any L a c w hT0 hL hf hl).mono fun e w' h => ?_
  unfold FromOut at h
  unfold FromQ errQ treeQ okQ TreeQ
  cases hfr : fromN L with
  | error x =>
    obtain ⟨i, x⟩ := x
    rw [hfr] at h
    exact ⟨none, i, h.1, rfl, h.2⟩
  | ok M =>
    rw [hfr] at h
    obtain ⟨b, e1, hT, hE⟩ := h
    exact ⟨_, 0, e1, ⟨b, _, _, rfl, hT⟩, hE⟩
theorem rfrom_q (L : List Nd) (a : Option Addr) (c : Nat) (w : World) (hT0 : Tabs w) (hL : NdsAt w.heap.size w a L) (hf : ∀ n ∈ L, Fit n) (hl : L.length * 168 ≤ 140737488355328) : Calls Tryz.prog 18 #[.slice a L.length c] w (RFromQ L w) := by
  refine (rfrom_any L a c w hT0 hL hf hl).mono fun e w' h => ?_
  unfold RFromOut at h
  unfold RFromQ errQ treeQ okQ RefQ
  cases hfr : fromN L with
  | error x =>
    obtain ⟨i, x⟩ := x
    rw [hfr] at h
    exact ⟨none, i, h.1, rfl, h.2⟩
  | ok M =>
    rw [hfr] at h
    obtain ⟨b, e1, _, hT, hE⟩ := h
    exact ⟨_, 0, e1, ⟨b, rfl, hT⟩, hE⟩
theorem fromL_len : ∀ {L : List Nd} {i : Nat} {M M' : List (Key × Nd)}, fromL L i M = .ok M' → M'.length ≤ M.length + L.length
  | [], i, M, M', h => by unfold fromL at h; cases h; simp
  | n :: l, i, M, M', h => by
    unfold fromL at h
    split at h
    · cases h
    · split at h
      · cases h
      · have h1 := fromL_len h
        rename_i hn
        have h2 : (mput M (keyN n) n).length = M.length + 1 := mput_len_new (by
          cases hg : mget M (keyN n) with
          | none => rfl
          | some y => rw [hg] at hn; simp at hn)
        simp only [List.length_cons]
        omega
theorem treeQ_len (L : List Nd) : (treeQ L).length ≤ L.length := by
  unfold treeQ
  cases hfr : fromN L with
  | error x => exact Nat.zero_le _
  | ok M =>
    have := fromL_len (fromL_of_fromN hfr)
    simpa using this

/-- States, or none. -/
def okZ (ok : Bool) (z : Int) : Bool := ok && decide (¬ z < 0)
def codeZ (ok : Bool) (z : Int) : Int := if ok = true then (if z < 0 then 1 else 0) else 2
def StQ (p : Option Addr) (ok : Bool) (M : List (Key × Nd)) (T : List Se) (z : Int) (w : World) : Prop := if ok = true then ∃ b, p = some ⟨b, 0, none⟩ ∧ PState w b M T z else p = none
def RStQ (p : Option Addr) (ok : Bool) (M : List (Key × Nd)) (T : List Se) (z : Int) (w : World) : Prop := if ok = true then ∃ b, p = some ⟨b, 0, none⟩ ∧ RState w b M T z else p = none
theorem StQ.ext {p : Option Addr} {ok : Bool} {M : List (Key × Nd)} {T : List Se} {z : Int} {w w' : World} (h : StQ p ok M T z w) (hE : Ext w w') : StQ p ok M T z w' := by
  unfold StQ at h ⊢
  split
  · rename_i e; rw [if_pos e] at h
    obtain ⟨b, e1, h1⟩ := h
    exact ⟨b, e1, h1.ext hE⟩
  · rename_i e; rw [if_neg e] at h; exact h
theorem RStQ.ext {p : Option Addr} {ok : Bool} {M : List (Key × Nd)} {T : List Se} {z : Int} {w w' : World} (h : RStQ p ok M T z w) (hE : Ext w w') : RStQ p ok M T z w' := by
  unfold RStQ at h ⊢
  split
  · rename_i e; rw [if_pos e] at h
    obtain ⟨b, e1, h1⟩ := h
    exact ⟨b, e1, h1.ext hE⟩
  · rename_i e; rw [if_neg e] at h; exact h
theorem afrom_q (pt : Option Addr) (ok : Bool) (S2 : Nat → Prop) (w : World) (bx bm N2 : Nat) (M : List (Key × Nd)) (T : List Se) (z : Int) (hT : TreeQ pt ok M w) (hX : TblAt S2 w bx bm T N2) (hl : M.length < 4611686018427387904) (hlT : T.length < 4611686018427387904) :
    Calls Tryz.prog 22 #[.pointer pt, .pointer (some ⟨bx, 0, none⟩), .int .i64 z] w fun e w' => ∃ p, e = .returned (.tuple #[.pointer p, .int .i64 (codeZ ok z)]) ∧ StQ p (okZ ok z) M T z w' ∧ Ext w w' := by
  unfold TreeQ at hT
  cases ok with
  | false =>
    simp only [Bool.false_eq_true, if_false] at hT
    subst hT
    refine (afrom_nil w bx z).mono ?_
    rintro e w' ⟨rfl, rfl⟩
    exact ⟨none, rfl, rfl, Ext.refl _⟩
  | true =>
    simp only [if_true] at hT
    obtain ⟨bt, S, N, rfl, hT⟩ := hT
    refine (afrom_any S S2 w bt bx bm N N2 M T z hT hX hl hlT).mono ?_
    intro e w' h
    unfold AFromOut at h
    unfold codeZ okZ StQ
    by_cases hz : z < 0
    · rw [if_pos hz] at h
      obtain ⟨rfl, hE⟩ := h
      exact ⟨none, by rw [if_pos rfl, if_pos hz], by simp [hz], hE⟩
    · rw [if_neg hz] at h
      obtain ⟨b, rfl, hS, hE⟩ := h
      exact ⟨_, by rw [if_pos rfl, if_neg hz], by rw [if_pos (by simpa using hz)]; exact ⟨b, rfl, hS⟩, hE⟩
theorem rf15_q (pt : Option Addr) (ok : Bool) (S2 : Nat → Prop) (w : World) (bx : Nat) (M : List (Key × Nd)) (T : List Se) (z : Int) (hT : RefQ pt ok M w) (hX : RTbl S2 w bx T) (hM : MOk M) (hf : ∀ s ∈ T, FitS s) (hl : M.length * 168 ≤ 140737488355328) (hlT : T.length * 40 ≤ 140737488355328) :
    Calls Tryz.prog 23 #[.pointer pt, .pointer (some ⟨bx, 0, none⟩), .int .i64 z] w fun e w' => ∃ p, e = .returned (.tuple #[.pointer p, .int .i64 (codeZ ok z)]) ∧ RStQ p (okZ ok z) M T z w' ∧ Ext w w' := by
  unfold RefQ at hT
  cases ok with
  | false =>
    simp only [Bool.false_eq_true, if_false] at hT
    subst hT
    refine (rf15_nil w bx z).mono ?_
    rintro e w' ⟨rfl, rfl⟩
    exact ⟨none, rfl, rfl, Ext.refl _⟩
  | true =>
    simp only [if_true] at hT
    obtain ⟨bt, rfl, hT⟩ := hT
    refine (rf15_any S2 w bt bx M T z hT hX hM hf hl hlT).mono ?_
    intro e w' h
    unfold RF15Out at h
    unfold codeZ okZ RStQ
    by_cases hz : z < 0
    · rw [if_pos hz] at h
      obtain ⟨rfl, hE⟩ := h
      exact ⟨none, by rw [if_pos rfl, if_pos hz], by simp [hz], hE⟩
    · rw [if_neg hz] at h
      obtain ⟨b, rfl, hS, hE⟩ := h
      exact ⟨_, by rw [if_pos rfl, if_neg hz], by rw [if_pos (by simpa using hz)]; exact ⟨b, rfl, hS⟩, hE⟩
theorem alike_nil (w : World) : Calls Tryz.prog 24 #[.pointer none, .pointer none] w fun e w' => e = .returned (.bool true) ∧ Ext w w' := by
  go_enter Tryz.func24, Tryz.ntmps24
  go_wp2
  go_ret
  exact ⟨rfl, Ext.refl _⟩
theorem alike_q (p q : Option Addr) (ok : Bool) (w : World) (M : List (Key × Nd)) (T : List Se) (z : Int) (h1 : StQ p ok M T z w) (h2 : RStQ q ok M T z w) (hl : M.length * 168 ≤ 140737488355328) (hlT : T.length * 40 ≤ 140737488355328) :
    Calls Tryz.prog 24 #[.pointer p, .pointer q] w fun e w' => e = .returned (.bool true) ∧ Ext w w' := by
  unfold StQ at h1
  unfold RStQ at h2
  cases ok with
  | false =>
    simp only [Bool.false_eq_true, if_false] at h1 h2
    subst h1 h2
    exact alike_nil w
  | true =>
    simp only [if_true] at h1 h2
    obtain ⟨b1, rfl, h1⟩ := h1
    obtain ⟨b2, rfl, h2⟩ := h2
    exact alike_self w b1 b2 M T z h1 h2 hl hlT
end Go.Proofs.YtclekhjnnljjlaaGreatDoor
