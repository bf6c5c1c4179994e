/- The walk of the document's Diff. What holds between the rounds of the program's Diff. Plain laws: the paths above a path, the quotas over it, the first one that a change is over. No program in sight. The walk of paths.Above. A node put into a new box. The walk of the law's Texts at two lists of the same texts. The walks of package quota's over and Over: the quotas over a path. The walk of stat.Same at two copies of a node. The walks of bytes.Equal and slices.Equal (of rights) at any two lists. -/
import Derived.Test.YthinpbdbhijbgaaGreatDoorJDigestDiffs9
import Derived.Test.YthinpbdbhijbgaaGreatDoorJDigestDiffs8
import Derived.Test.YthinpbdbhijbgaaGreatDoorJDigestDiffs11
import Derived.Test.YthinpbdbhijbgaaGreatDoorJDigestDiffs7
import Derived.Test.YthinpbdbhijbgaaGreatDoorRev
import Derived.Test.YthinpbdbhijbgaaGreatDoorJDigestDiffs5
import Derived.BigQuiet
import Derived.Test.YthinpbdbhijbgaaGreatDoorJDigestDiffs6
namespace Go.Proofs.YthinpbdbhijbgaaGreatDoor
open Go.RowKit Go.Sort
set_option maxHeartbeats 4000000
set_option maxRecDepth 100000

def DiffOut (L : List (Key × Int)) (w : World) (e : Ending) (w' : World) : Prop := ∃ a c, e = .returned (.slice a L.length c) ∧ PrtsAt w' a L ∧ Ext w w'
/-- What the document's All hands back, whatever the tree. -/
def RAlls (pv : Value) (M : List (Key × Nd)) (w : World) : Prop := ∀ W, Ext w W → Calls Tryz.prog 73 #[pv] W (NodesOut (nds M) W)
theorem RAlls.of_tree {w : World} {b : Nat} {M : List (Key × Nd)} (hR : RT w b (nds M)) (hM : MOk M) (hl : M.length * 168 ≤ 140737488355328) : RAlls (.pointer (some ⟨b, 0, none⟩)) M w := fun W hE => rall_any W b M (hR.ext hE) hM hl
theorem RAlls.nil (w : World) : RAlls (.pointer none) [] w := fun W _ => by
  go_enter Tryz.func73, Tryz.ntmps73
  go_wp2
  go_loopw [3, 4] (fun ov i wr => ov = .slice none 0 0 ∧ i = .int .i64 0 ∧ wr = W) (fun _ _ _ => 0)
  case atStart => exact ⟨rfl, rfl, rfl⟩
  case round =>
    obtain ⟨rfl, rfl, rfl⟩ := hrel
    go_wp2
    go_ret
    exact ⟨_, rfl, OwnN.nil _ _, Ext.refl _⟩
theorem RAlls.ext {pv : Value} {M : List (Key × Nd)} {w w' : World} (h : RAlls pv M w) (hE : Ext w w') : RAlls pv M w' := fun W hE2 => h W (hE.trans hE2)
def lenOf : Value → Nat | .slice _ n _ => n | _ => 0
/-- The nodes that are left to be gone through. -/
structure LeftN (W : World) (v : Value) (A l : List (Key × Nd)) : Prop where
  val : ∃ a c, v = .slice a l.length c ∧ l.length ≤ c ∧ NdsAt W.heap.size W a (nds l)
  mem : ∀ x ∈ l, x ∈ A
theorem LeftN.ext {W W' : World} {v : Value} {A l : List (Key × Nd)} (h : LeftN W v A l) (hE : Ext W W') : LeftN W' v A l := by
  obtain ⟨a, c, e, h1, h2⟩ := h.val
  exact ⟨⟨a, c, e, h1, h2.ext hE⟩, h.mem⟩
theorem LeftN.of_own {base : Nat} {W : World} {v : Value} {A : List (Key × Nd)} (h : OwnN base (nds A) v W) : LeftN W v A A := by
  obtain ⟨a, c, vs, e, h1, _, h3, _⟩ := h.rows
  rw [nds_length] at e h1
  exact ⟨⟨a, c, e, h1, h3.nds fun k hk => hk.2⟩, fun _ h => h⟩
theorem LeftN.tail {W : World} {A l : List (Key × Nd)} {x : Key × Nd} {b off c : Nat} (h : LeftN W (.slice (some ⟨b, off, none⟩) (x :: l).length c) A (x :: l)) : LeftN W (.slice (if c = 1 then some ⟨b, off, none⟩ else some ⟨b, off + 17, none⟩) l.length (c - 1)) A l := by
  obtain ⟨a, c', e, h1, h2⟩ := h.val
  cases e
  rw [List.length_cons] at h1
  refine ⟨⟨_, _, rfl, by omega, fun i n hi => ?_⟩, fun y hy => h.mem y (List.mem_cons_of_mem _ hy)⟩
  have hil : i < l.length := by
    have := (List.getElem?_eq_some_iff.1 hi).1
    rwa [nds_length] at this
  rw [if_neg (by omega)]
  obtain ⟨b', off', v, e, hb, hv, hc⟩ := h2 (i + 1) n (by rw [nds_cons]; simpa using hi)
  cases e
  refine ⟨_, _, v, rfl, hb, hv, fun j u hj => ?_⟩
  have := hc j u hj
  rwa [show off + (i + 1) * 17 + j = off + 17 + i * 17 + j from by omega] at this
theorem LeftN.head {W : World} {v : Value} {A l : List (Key × Nd)} {x : Key × Nd} (h : LeftN W v A (x :: l)) : ∃ b off c da dc aa ac, v = .slice (some ⟨b, off, none⟩) (l.length + 1) c ∧ b < W.heap.size ∧ l.length + 1 ≤ c ∧ Cells W.heap.size W da (x.2.data.map u8v) ∧ Cells W.heap.size W aa (acCs x.2.acl) ∧
    ∀ j u, (ndC x.2 (.slice da x.2.data.length dc) (.slice aa x.2.acl.length ac))[j]? = some u → W.cell? ((⟨b, off, none⟩ : Addr).add j) = some u := by
  obtain ⟨a, c, e, h1, h2⟩ := h.val
  obtain ⟨b, off, v', rfl, hb, hv, hc⟩ := h2 0 x.2 rfl
  obtain ⟨da, dc, aa, ac, rfl, hD, hA⟩ := hv
  refine ⟨b, off, c, da, dc, aa, ac, e, hb, h1, hD, hA, fun j u hj => ?_⟩
  rw [addr_add]
  have := hc j u hj
  rwa [show off + 0 * 17 + j = off + j from by omega] at this
theorem infoRP : (Tryz.prog.info? 91).map (fun i => (i.zero, i.size, i.bytes)) = some (some (.agg #[.string ⟨#[]⟩, .int .i64 0]), 2, 24) := by kernel_rfl
theorem diffM_two (x y : Key × Nd) (l m : List (Key × Nd)) : diffM (x :: l) (y :: m) = if ordL x.1 y.1 < 0 then (x.1, 1) :: diffM l (y :: m) else if 0 < ordL x.1 y.1 then (y.1, 2) :: diffM (x :: l) m else (if sameN x.2 y.2 = true then [] else [(x.1, 3)]) ++ diffM l m := by rw [diffM]
theorem rdiff_any (pa pb : Option Addr) (A B : List (Key × Nd)) (w : World) (hA : MOk A) (hB : MOk B) (ha : RAlls (.pointer pa) A w) (hb : RAlls (.pointer pb) B w) (hlA : A.length * 168 ≤ 140737488355328) (hlB : B.length * 168 ≤ 140737488355328) :
    Calls Tryz.prog 48 #[.pointer pa, .pointer pb] w (DiffOut (diffM A B) w) := by
  have C1 := Lib.hid (ha w (Ext.refl _))
  have HAL := Lib.hid hb
  have HMA := Lib.hid hA
  have HMB := Lib.hid hB
  clear ha hb hA hB
  go_enter Tryz.func48, Tryz.ntmps48
  go_wp2_with fail
  refine C1.out.mono ?_
  rintro e W1 ⟨v1, rfl, hown1, hE1⟩
  have hE1 : Ext w W1 := hE1
  have C2 := Lib.hid (HAL.out W1 hE1)
  have HL1 := Lib.hid (LeftN.of_own hown1)
  have HE1 := Lib.hid hE1
  clear C1 hE1 hown1 HAL
  go_wp2_with fail
  refine C2.out.mono ?_
  rintro e W2 ⟨v2, rfl, hown2, hE2⟩
  have hE2 : Ext W1 W2 := hE2
  have HL2 := Lib.hid (LeftN.of_own hown2)
  have HL1 := Lib.hid (HL1.out.ext hE2)
  have HE2 := Lib.hid (HE1.out.trans hE2)
  clear C2 hE2 hown2 HE1
  go_wp2
  go_loopw [5, 6, 7] (fun ov lv mv wr => ∃ P lA lB : _, Hid (wr.ownsRow W2.heap.size 91 2 ov (P : List (Key × Int)).length (rowK P)) ∧ Hid (LeftN W2 lv A lA) ∧ Hid (LeftN W2 mv B lB) ∧ Hid (P ++ diffM lA lB = diffM A B) ∧ P.length + (lA.length + lB.length) ≤ A.length + B.length ∧ Hid (Ext W2 wr)) (fun _ lv mv _ => lenOf lv + lenOf mv)
  case atStart => exact ⟨[], A, B, World.ownsRow_nil _ _ _ _, HL1.out, HL2.out, rfl, by simp, Ext.refl _⟩
  case round =>
    obtain ⟨P, lA, lB, HO, HLA, HLB, HP, hn, HE⟩ := hrel
    have hzr := HE.out.size
    clear HL1 HL2
    cases lA with
    | nil =>
      obtain ⟨a1, c1, e1, _, _⟩ := HLA.out.val
      rw [List.length_nil] at e1
      subst e1
      cases lB with
      | nil =>
        obtain ⟨a2, c2, e2, _, _⟩ := HLB.out.val
        rw [List.length_nil] at e2
        subst e2
        have hd0 : diffM [] [] = [] := by rw [diffM]; rfl
        have hfin : DiffOut (diffM A B) w (.returned u5) wr := by
          rw [← HP.out, hd0, List.append_nil]
          obtain ⟨a, c, e, h⟩ := prts_of HO.out
          exact ⟨a, c, congrArg Ending.returned e, h, HE2.out.trans HE.out⟩
        have HFIN := Lib.hid hfin
        clear hfin hd0 hn HO HLA HLB HP HE
        go_wp2
        go_ret
        exact HFIN.out
      | cons y m =>
        obtain ⟨b2, o2, c2, da2, dc2, aa2, ac2, e2, hb2, hc2, hD2, hA2, hcl2⟩ := HLB.out.head
        subst e2
        have p2 : wr.cell? ⟨b2, o2, none⟩ = some (.string y.2.path) := by
          have := hcl2 0 (.string y.2.path) rfl
          rw [addr_add, Nat.add_zero] at this
          exact (HE.out.cell (p := ⟨b2, o2, none⟩) hb2).trans this
        have HT2 := Lib.hid HLB.out.tail
        have hk2 : y.1 = y.2.path.data.toList := HMB.out.key y (HLB.out.mem y (List.mem_cons_self ..))
        have hf2 : Fit y.2 := (right_fit (HMB.out.right y (HLB.out.mem y (List.mem_cons_self ..)))).1
        have s2 := fun W => run_slice_from b2 o2 (m.length + 1) c2 1 (by omega) hc2 W
        have HPN := Lib.hid (show (P ++ [(y.1, 2)]) ++ diffM [] m = diffM A B by rw [← HP.out, diffM, diffM, List.append_assoc]; rfl)
        have HK2 := Lib.hid hk2
        clear HP hcl2 hD2 hA2 hf2 hk2
        simp only [List.length_cons, List.length_nil] at hn
        go_wp2_with (at_builtin; refine wpList_append_k 91 85 Tryz.underlying85 infoRP rfl (.tmp 74) (.tmp 80) rfl W2.heap.size P _ HO.out hzr (y.1, 2) y.2.path HK2.out.symm (by omega) rfl rfl ?_)
        intro v' W6 hO6 hE6 _ _
        have HO6 := Lib.hid hO6
        have HE6 := Lib.hid (hE6 W2 HE.out (Nat.le_refl _))
        clear hO6 hE6
        go_wp2
        go_roundw
        case rel => exact ⟨P ++ [(y.1, 2)], [], m, by unfold Hid; rw [List.length_append]; exact HO6.out, HLA.out, HT2.out, HPN.out, by simp at hn ⊢; omega, HE6.out⟩
        case measure => simp [lenOf]
    | cons x l =>
      obtain ⟨b1, o1, c1, da1, dc1, aa1, ac1, e1, hb1, hc1, hD1, hA1, hcl1⟩ := HLA.out.head
      subst e1
      have p1 : wr.cell? ⟨b1, o1, none⟩ = some (.string x.2.path) := by
        have := hcl1 0 (.string x.2.path) rfl
        rw [addr_add, Nat.add_zero] at this
        exact (HE.out.cell (p := ⟨b1, o1, none⟩) hb1).trans this
      have HT1 := Lib.hid HLA.out.tail
      have hk1 : x.1 = x.2.path.data.toList := HMA.out.key x (HLA.out.mem x (List.mem_cons_self ..))
      have hf1 : Fit x.2 := (right_fit (HMA.out.right x (HLA.out.mem x (List.mem_cons_self ..)))).1
      have s1 := fun W => run_slice_from b1 o1 (l.length + 1) c1 1 (by omega) hc1 W
      cases lB with
      | nil =>
        obtain ⟨a2, c2, e2, _, _⟩ := HLB.out.val
        rw [List.length_nil] at e2
        subst e2
        have HPN := Lib.hid (show (P ++ [(x.1, 1)]) ++ diffM l [] = diffM A B by
          rw [← HP.out, List.append_assoc]
          congr 1
          cases l <;> (rw [diffM]; simp [diffM]))
        have HK1 := Lib.hid hk1
        clear HP hcl1 hD1 hA1 hf1 hk1
        simp only [List.length_cons, List.length_nil] at hn
        go_wp2_with (at_builtin; refine wpList_append_k 91 85 Tryz.underlying85 infoRP rfl (.tmp 61) (.tmp 67) rfl W2.heap.size P _ HO.out hzr (x.1, 1) x.2.path HK1.out.symm (by omega) rfl rfl ?_)
        intro v' W6 hO6 hE6 _ _
        have HO6 := Lib.hid hO6
        have HE6 := Lib.hid (hE6 W2 HE.out (Nat.le_refl _))
        clear hO6 hE6
        go_wp2
        go_roundw
        case rel => exact ⟨P ++ [(x.1, 1)], l, [], by unfold Hid; rw [List.length_append]; exact HO6.out, HT1.out, HLB.out, HPN.out, by simp at hn ⊢; omega, HE6.out⟩
        case measure => simp [lenOf]
      | cons y m =>
        obtain ⟨b2, o2, c2, da2, dc2, aa2, ac2, e2, hb2, hc2, hD2, hA2, hcl2⟩ := HLB.out.head
        subst e2
        have p2 : wr.cell? ⟨b2, o2, none⟩ = some (.string y.2.path) := by
          have := hcl2 0 (.string y.2.path) rfl
          rw [addr_add, Nat.add_zero] at this
          exact (HE.out.cell (p := ⟨b2, o2, none⟩) hb2).trans this
        have HT2 := Lib.hid HLB.out.tail
        have hk2 : y.1 = y.2.path.data.toList := HMB.out.key y (HLB.out.mem y (List.mem_cons_self ..))
        have hf2 : Fit y.2 := (right_fit (HMB.out.right y (HLB.out.mem y (List.mem_cons_self ..)))).1
        have s2 := fun W => run_slice_from b2 o2 (m.length + 1) c2 1 (by omega) hc2 W
        have hlen := diffM_two x y l m
        rw [hk1, hk2] at hlen
        have CO := Lib.hid fun W => order_any x.2.path y.2.path W hf1.path hf2.path
        have HN := Lib.hid hn
        have HK1 := Lib.hid hk1
        have HK2 := Lib.hid hk2
        have HD := Lib.hid hlen
        have HF1 := Lib.hid hf1
        have HF2 := Lib.hid hf2
        have HC1 := Lib.hid hcl1
        have HC2 := Lib.hid hcl2
        have HQ1 := Lib.hid hD1
        have HQ2 := Lib.hid hD2
        have HQ3 := Lib.hid hA1
        have HQ4 := Lib.hid hA2
        clear hn hk1 hk2 hlen hf1 hf2 hcl1 hcl2 hD1 hD2 hA1 hA2
        generalize hz : ordL x.2.path.data.toList y.2.path.data.toList = z at *
        clear hz
        go_wp2
        refine wp_region_P (by kernel_rfl) (region_sp 85 [.val (.slice (some ⟨b1, o1, none⟩) (l.length + 1) c1), .val (.pointer (some ⟨b1, o1, none⟩)), .val (.pointer (some ⟨b1, o1, none⟩)), .val (.string x.2.path), .val (.slice (some ⟨b2, o2, none⟩) (m.length + 1) c2), .val (.pointer (some ⟨b2, o2, none⟩)), .val (.pointer (some ⟨b2, o2, none⟩)), .val (.string y.2.path), .val (.int .i64 z), .val (.int .i64 z)] ?stay rfl (by decide) rfl ?duties ?rest)
        case duties =>
          refine ⟨?_, ?_, ?_, ?_, ?_, ?_, ?_, ?_, ?_, ?_, trivial⟩
          · refine duty_free rfl fun a w' hE hF hA => ?_
            have x1 := hF.slot 6 _ (by decide) rfl
            exact wp_value (w' := w') (ex_move rfl) ⟨_, rfl, x1, Ext.refl _⟩
          · refine duty_free rfl fun a w' hE hF hA => ?_
            have x1 := hA.pick 0 21 (.slice (some ⟨b1, o1, none⟩) (l.length + 1) c1) rfl rfl ⟨⟨0, .data⟩, by simp, rfl, rfl⟩ (fun u h => h)
            exact wp_value (w' := w') (v := .pointer (some ⟨b1, o1, none⟩)) (by simp only [execOp, x1]; simp [go_sem]) ⟨_, rfl, rfl, Ext.refl _⟩
          · refine duty_free rfl fun a w' hE hF hA => ?_
            have x1 := hA.pick 1 22 (.pointer (some ⟨b1, o1, none⟩)) rfl rfl ⟨⟨1, .data⟩, by simp, rfl, rfl⟩ (fun u h => h)
            exact wp_value (w' := w') (v := .pointer (some ⟨b1, o1, none⟩)) (by simp only [execOp, x1]; simp [go_sem]) ⟨_, rfl, rfl, Ext.refl _⟩
          · refine duty_free rfl fun a w' hE hF hA => ?_
            have x1 := hA.pick 2 23 (.pointer (some ⟨b1, o1, none⟩)) rfl rfl ⟨⟨2, .data⟩, by simp, rfl, rfl⟩ (fun u h => h)
            exact wp_value (ex_cell rfl _ _ x1 ((hE.cell (World.block_lt_of_cell? _ _ p1)).trans p1) rfl Tryz.underlying9) ⟨_, rfl, rfl, Ext.refl _⟩
          · refine duty_free rfl fun a w' hE hF hA => ?_
            have x1 := hF.slot 7 _ (by decide) rfl
            exact wp_value (w' := w') (ex_move rfl) ⟨_, rfl, x1, Ext.refl _⟩
          · refine duty_free rfl fun a w' hE hF hA => ?_
            have x1 := hA.pick 4 25 (.slice (some ⟨b2, o2, none⟩) (m.length + 1) c2) rfl rfl ⟨⟨4, .data⟩, by simp, rfl, rfl⟩ (fun u h => h)
            exact wp_value (w' := w') (v := .pointer (some ⟨b2, o2, none⟩)) (by simp only [execOp, x1]; simp [go_sem]) ⟨_, rfl, rfl, Ext.refl _⟩
          · refine duty_free rfl fun a w' hE hF hA => ?_
            have x1 := hA.pick 5 26 (.pointer (some ⟨b2, o2, none⟩)) rfl rfl ⟨⟨5, .data⟩, by simp, rfl, rfl⟩ (fun u h => h)
            exact wp_value (w' := w') (v := .pointer (some ⟨b2, o2, none⟩)) (by simp only [execOp, x1]; simp [go_sem]) ⟨_, rfl, rfl, Ext.refl _⟩
          · refine duty_free rfl fun a w' hE hF hA => ?_
            have x1 := hA.pick 6 27 (.pointer (some ⟨b2, o2, none⟩)) rfl rfl ⟨⟨6, .data⟩, by simp, rfl, rfl⟩ (fun u h => h)
            exact wp_value (ex_cell rfl _ _ x1 ((hE.cell (World.block_lt_of_cell? _ _ p2)).trans p2) rfl Tryz.underlying9) ⟨_, rfl, rfl, Ext.refl _⟩
          · refine duty_free rfl fun a w' hE hF hA => ?_
            have x1 := hA.pick 3 24 (.string x.2.path) rfl rfl ⟨⟨3, .data⟩, by simp, rfl, rfl⟩ (fun u h => h)
            have x2 := hA.pick 7 28 (.string y.2.path) rfl rfl ⟨⟨7, .data⟩, by simp, rfl, rfl⟩ (fun u h => h)
            refine wp_enter (ex_call rfl (enters_f Tryz.func120 (by kernel_rfl) rfl)) (by simp only [List.map_toArray, List.map_cons, List.map_nil, x1, x2]; exact CO.out _) ?_
            rintro e w4 ⟨rfl, hb⟩
            exact ⟨_, rfl, _, rfl, rfl, hb⟩
          · refine duty_free rfl fun a w' hE hF hA => ?_
            have x1 := hA.pick 8 29 (.int .i64 z) rfl rfl ⟨⟨8, .data⟩, by simp, rfl, rfl⟩ (fun u h => h)
            exact wp_value (w' := w') (ex_assign rfl) ⟨_, rfl, x1, Ext.refl _⟩
        case stay => trivial
        case rest =>
          intro W5 hE5
          simp only [forS]
          have HE5 := Lib.hid hE5
          have q1 : W5.cell? ⟨b1, o1, none⟩ = some (.string x.2.path) := (hE5.cell (World.block_lt_of_cell? _ _ p1)).trans p1
          have q2 : W5.cell? ⟨b2, o2, none⟩ = some (.string y.2.path) := (hE5.cell (World.block_lt_of_cell? _ _ p2)).trans p2
          have HO5 := Lib.hid (World.ownsRow.kept HO.out (grown_of_ext hE5 none) (Classical.em _))
          have HE25 := Lib.hid (HE.out.trans hE5)
          have hz5 := HE25.out.size
          have hn := HN.out
          simp only [List.length_cons] at hn
          clear hE5 CO p1 p2 HO
          simp only [filled, List.zip_cons_cons, List.zip_nil_left, List.foldl_cons, List.foldl_nil, Act.put, List.setIfInBounds_toArray, List.set_cons_succ, List.set_cons_zero]
          simp only [Exit.inBlock, Exit.then, Act.put]
          first | (rename_i hK; refine hK _ _ ?_; clear hK) | (rename_i hK _; refine hK _ _ ?_; clear hK) | (rename_i hK _ _; refine hK _ _ ?_; clear hK) | (rename_i hK _ _ _; refine hK _ _ ?_; clear hK)
          by_cases h1 : z < 0
          · have HPN := Lib.hid (show (P ++ [(x.1, 1)]) ++ diffM l (y :: m) = diffM A B by rw [← HP.out, HD.out, if_pos h1, List.append_assoc, HK1.out]; rfl)
            clear HP HD HQ1 HQ2 HQ3 HQ4 HC1 HC2
            go_wp2_with (at_builtin; refine wpList_append_k 91 85 Tryz.underlying85 infoRP rfl (.tmp 61) (.tmp 67) rfl W2.heap.size P _ HO5.out hz5 (x.1, 1) x.2.path HK1.out.symm (by omega) rfl rfl ?_)
            intro v' W6 hO6 hE6 _ _
            have HO6 := Lib.hid hO6
            have HE6 := Lib.hid (hE6 W2 HE25.out (Nat.le_refl _))
            clear hO6 hE6
            go_wp2
            go_roundw
            case rel => exact ⟨P ++ [(x.1, 1)], l, (y :: m), by unfold Hid; rw [List.length_append]; exact HO6.out, HT1.out, HLB.out, HPN.out, by simp at hn ⊢; omega, HE6.out⟩
            case measure => simp [lenOf]
          · by_cases h2 : 0 < z
            · have HPN := Lib.hid (show (P ++ [(y.1, 2)]) ++ diffM (x :: l) m = diffM A B by rw [← HP.out, HD.out, if_neg h1, if_pos h2, List.append_assoc, HK2.out]; rfl)
              clear HP HD HQ1 HQ2 HQ3 HQ4 HC1 HC2
              go_wp2_with (at_builtin; refine wpList_append_k 91 85 Tryz.underlying85 infoRP rfl (.tmp 74) (.tmp 80) rfl W2.heap.size P _ HO5.out hz5 (y.1, 2) y.2.path HK2.out.symm (by omega) rfl rfl ?_)
              intro v' W6 hO6 hE6 _ _
              have HO6 := Lib.hid hO6
              have HE6 := Lib.hid (hE6 W2 HE25.out (Nat.le_refl _))
              clear hO6 hE6
              go_wp2
              go_roundw
              case rel => exact ⟨P ++ [(y.1, 2)], (x :: l), m, by unfold Hid; rw [List.length_append]; exact HO6.out, HLA.out, HT2.out, HPN.out, by simp at hn ⊢; omega, HE6.out⟩
              case measure => simp [lenOf]
            · have HPN := Lib.hid (show P ++ ((if sameN x.2 y.2 = true then [] else [(x.1, 3)]) ++ diffM l m) = diffM A B by rw [← HP.out, HD.out, if_neg h1, if_neg h2, HK1.out])
              have CS := Lib.hid fun W hE => rsame_any x.2 y.2 da1 aa1 da2 aa2 dc1 ac1 dc2 ac2 W HF1.out HF2.out (HQ1.out.ext (Ext.trans HE25.out hE)) (HQ3.out.ext (Ext.trans HE25.out hE)) (HQ2.out.ext (Ext.trans HE25.out hE)) (HQ4.out.ext (Ext.trans HE25.out hE))
              have hg1 : ∀ j u, (ndC x.2 (.slice da1 x.2.data.length dc1) (.slice aa1 x.2.acl.length ac1))[j]? = some u → W5.cell? ((⟨b1, o1, none⟩ : Addr).add j) = some u := fun j u hj => cellP HE25.out (HC1.out j u hj)
              have hg2 : ∀ j u, (ndC y.2 (.slice da2 y.2.data.length dc2) (.slice aa2 y.2.acl.length ac2))[j]? = some u → W5.cell? ((⟨b2, o2, none⟩ : Addr).add j) = some u := fun j u hj => cellP HE25.out (HC2.out j u hj)
              generalize sameN x.2 y.2 = sb at *
              clear HP HD HQ1 HQ2 HQ3 HQ4 HC1 HC2
              go_wp2
              refine wp_region_P (by kernel_rfl) (region_sp 85 [.val (.slice (some ⟨b1, o1, none⟩) (l.length + 1) c1), .val (.pointer (some ⟨b1, o1, none⟩)), .val (.agg (ndC x.2 (.slice da1 x.2.data.length dc1) (.slice aa1 x.2.acl.length ac1))), .val (.slice (some ⟨b2, o2, none⟩) (m.length + 1) c2), .val (.pointer (some ⟨b2, o2, none⟩)), .val (.agg (ndC y.2 (.slice da2 y.2.data.length dc2) (.slice aa2 y.2.acl.length ac2))), .val (.bool sb), .val (.bool (!sb))] ?stay rfl (by decide) rfl ?duties ?rest)
              case duties =>
                refine ⟨?_, ?_, ?_, ?_, ?_, ?_, ?_, ?_, trivial⟩
                · refine duty_free rfl fun a w' hE hF hA => ?_
                  have x1 := hF.slot 6 _ (by decide) rfl
                  exact wp_value (w' := w') (ex_move rfl) ⟨_, rfl, x1, Ext.refl _⟩
                · refine duty_free rfl fun a w' hE hF hA => ?_
                  have x1 := hA.pick 0 38 (.slice (some ⟨b1, o1, none⟩) (l.length + 1) c1) rfl rfl ⟨⟨0, .data⟩, by simp, rfl, rfl⟩ (fun u h => h)
                  exact wp_value (w' := w') (v := .pointer (some ⟨b1, o1, none⟩)) (by simp only [execOp, x1]; simp [go_sem]) ⟨_, rfl, rfl, Ext.refl _⟩
                · refine duty_free rfl fun a w' hE hF hA => ?_
                  have x1 := hA.pick 1 39 (.pointer (some ⟨b1, o1, none⟩)) rfl rfl ⟨⟨1, .data⟩, by simp, rfl, rfl⟩ (fun u h => h)
                  exact wp_value (ex_load_at rfl _ x1 ((ndC x.2 (.slice da1 x.2.data.length dc1) (.slice aa1 x.2.acl.length ac1))) (fun j u hj => cellP hE (hg1 j u hj)) Tryz.underlying44 rfl sizeNd) ⟨_, rfl, rfl, Ext.refl _⟩
                · refine duty_free rfl fun a w' hE hF hA => ?_
                  have x1 := hF.slot 7 _ (by decide) rfl
                  exact wp_value (w' := w') (ex_move rfl) ⟨_, rfl, x1, Ext.refl _⟩
                · refine duty_free rfl fun a w' hE hF hA => ?_
                  have x1 := hA.pick 3 41 (.slice (some ⟨b2, o2, none⟩) (m.length + 1) c2) rfl rfl ⟨⟨3, .data⟩, by simp, rfl, rfl⟩ (fun u h => h)
                  exact wp_value (w' := w') (v := .pointer (some ⟨b2, o2, none⟩)) (by simp only [execOp, x1]; simp [go_sem]) ⟨_, rfl, rfl, Ext.refl _⟩
                · refine duty_free rfl fun a w' hE hF hA => ?_
                  have x1 := hA.pick 4 42 (.pointer (some ⟨b2, o2, none⟩)) rfl rfl ⟨⟨4, .data⟩, by simp, rfl, rfl⟩ (fun u h => h)
                  exact wp_value (ex_load_at rfl _ x1 ((ndC y.2 (.slice da2 y.2.data.length dc2) (.slice aa2 y.2.acl.length ac2))) (fun j u hj => cellP hE (hg2 j u hj)) Tryz.underlying44 rfl sizeNd) ⟨_, rfl, rfl, Ext.refl _⟩
                · refine duty_free rfl fun a w' hE hF hA => ?_
                  have x1 := hA.pick 2 40 (.agg (ndC x.2 (.slice da1 x.2.data.length dc1) (.slice aa1 x.2.acl.length ac1))) rfl rfl ⟨⟨2, .data⟩, by simp, rfl, rfl⟩ (fun u h => h)
                  have x2 := hA.pick 5 43 (.agg (ndC y.2 (.slice da2 y.2.data.length dc2) (.slice aa2 y.2.acl.length ac2))) rfl rfl ⟨⟨5, .data⟩, by simp, rfl, rfl⟩ (fun u h => h)
                  refine wp_enter (ex_call rfl (enters_f Tryz.func55 (by kernel_rfl) rfl)) (by simp only [List.map_toArray, List.map_cons, List.map_nil, x1, x2]; exact CS.out _ hE) ?_
                  rintro e w4 ⟨rfl, hb⟩
                  exact ⟨_, rfl, _, rfl, rfl, hb⟩
                · refine duty_free rfl fun a w' hE hF hA => ?_
                  have x1 := hA.pick 6 44 (.bool sb) rfl rfl ⟨⟨6, .data⟩, by simp, rfl, rfl⟩ (fun u h => h)
                  exact wp_value (w' := w') (v := .bool (!sb)) (by simp only [execOp, x1]; simp [go_sem]) ⟨_, rfl, rfl, Ext.refl _⟩
              case stay => trivial
              case rest =>
                intro W7 hE7
                simp only [forS]
                have r1 : W7.cell? ⟨b1, o1, none⟩ = some (.string x.2.path) := (hE7.cell (World.block_lt_of_cell? _ _ q1)).trans q1
                have HO7 := Lib.hid (World.ownsRow.kept HO5.out (grown_of_ext hE7 none) (Classical.em _))
                have HE27 := Lib.hid (HE25.out.trans hE7)
                have hz7 := HE27.out.size
                clear hE7 CS q1 q2 HO5 HLA HLB hg1 hg2 HE5
                simp only [filled, List.zip_cons_cons, List.zip_nil_left, List.foldl_cons, List.foldl_nil, Act.put, List.setIfInBounds_toArray, List.set_cons_succ, List.set_cons_zero]
                simp only [Exit.inBlock, Exit.then, Act.put]
                first | (rename_i hK; refine hK _ _ ?_; clear hK) | (rename_i hK _; refine hK _ _ ?_; clear hK) | (rename_i hK _ _; refine hK _ _ ?_; clear hK) | (rename_i hK _ _ _; refine hK _ _ ?_; clear hK)
                cases sb with
                | true =>
                  simp only [if_true, List.nil_append] at HPN
                  go_wp2
                  go_roundw
                  case rel => exact ⟨P, l, m, HO7.out, HT1.out, HT2.out, HPN.out, by omega, HE27.out⟩
                  case measure => simp [lenOf]; omega
                | false =>
                  simp only [Bool.false_eq_true, if_false] at HPN
                  rw [← List.append_assoc] at HPN
                  go_wp2_with (at_builtin; refine wpList_append_k 91 85 Tryz.underlying85 infoRP rfl (.tmp 46) (.tmp 52) rfl W2.heap.size P _ HO7.out hz7 (x.1, 3) x.2.path HK1.out.symm (by omega) rfl rfl ?_)
                  intro v' W8 hO8 hE8 _ _
                  have HO8 := Lib.hid hO8
                  have HE8 := Lib.hid (hE8 W2 HE27.out (Nat.le_refl _))
                  clear hO8 hE8
                  go_wp2
                  go_roundw
                  case rel => exact ⟨P ++ [(x.1, 3)], l, m, by unfold Hid; rw [List.length_append]; exact HO8.out, HT1.out, HT2.out, HPN.out, by simp at hn ⊢; omega, HE8.out⟩
                  case measure => simp [lenOf]; omega
end Go.Proofs.YthinpbdbhijbgaaGreatDoor
namespace Go.Proofs.YthinpbdbhijbgaaGreatDoor
open Go.RowKit Go.Sort
set_option maxHeartbeats 2000000
set_option maxRecDepth 100000

/-- What All hands back, whatever the tree, where a list grows meanwhile. -/
def AllsO (pv : Value) (M : List (Key × Nd)) (w : World) (bo : Nat) : Prop := ∀ W v, Ext w W → W.cell? ⟨bo, 0, none⟩ = some v → (∀ k, v.ownBlock = some k → w.heap.size ≤ k) → Calls Tryz.prog 89 #[pv] W fun e W1 => ∃ bw btb, e = .returned (.func (.func 195) #[] #[.pointer (some ⟨bw, 0, none⟩), .pointer (some ⟨btb, 0, none⟩)]) ∧
  Tells Fence.wide 5 Tryz.prog 195 #[.pointer (some ⟨bw, 0, none⟩), .pointer (some ⟨btb, 0, none⟩)] (fun x : Value × Nd => #[x.1]) (GS (SafeO bo)) (KeepS (SafeO bo)) (SafeO bo) (fun xs => xs.map (·.2) = nds M) (fun pre => ∃ rest, pre.map (·.2) ++ rest = nds M) W1 ∧ Ext W W1
theorem AllsO.of_tree {S : Nat → Prop} {w : World} {bt : Nat} {M : List (Key × Nd)} {N : Nat} (hT : TreeAt S w bt M N) (hl : M.length * 168 ≤ 140737488355328) (hkl : ∀ k ∈ M.map (·.1), k.length ≤ maxLen) (bo : Nat) (hbo : w.heap.size ≤ bo) : AllsO (.pointer (some ⟨bt, 0, none⟩)) M w bo := fun W v hE hv hvo => by
  refine (tall_any bt W).mono ?_
  rintro e W1 ⟨bw, btb, rfl, hcw, hct, hE1⟩
  have hT1 := (hT.ext hE).ext hE1
  have hok := hT.ok
  have hs1 : ∀ k, S k → SafeO bo W1 k := fun k hk => ⟨by have := hT.bound k hk; omega, v, (hE1.cell (World.block_lt_of_cell? _ _ hv)).trans hv, fun e => by have := hvo k e; have := hT.bound k hk; omega⟩
  have TT := told_tells (SafeO bo) S W1 bt M N hT1 hs1 bw btb 152 #[.pointer (some ⟨bt, 0, none⟩)] #[] hcw hct (enters_of Tryz.func152 (by kernel_rfl) rfl) (M.map (·.1))
    (fun W hW => by simpa using tsorted_any S W bt M N (hT1.ext hW) (by omega)) (by simpa using hl) hkl
  rw [nodesOf_vals hok.sorted] at TT
  exact ⟨bw, btb, rfl, TT, hE1⟩
theorem AllsO.nil (w : World) (bo : Nat) : AllsO (.pointer none) [] w bo := fun W v _ _ _ => by
  refine (tall_nil W).mono ?_
  rintro e W1 ⟨bw, btb, rfl, hcw, hE1⟩
  exact ⟨bw, btb, rfl, told_tells_nil (SafeO bo) W1 bw btb 152 #[.pointer none] #[] hcw (enters_of Tryz.func152 (by kernel_rfl) rfl)
    (fun W _ => (show Calls Tryz.prog 152 #[.pointer none] W _ from (sorted_nil W).mono fun e w' h => by obtain ⟨rfl, rfl⟩ := h; exact ⟨rfl, Ext.refl _⟩)), hE1⟩

/-- The partings of some nodes. -/
noncomputable def parA (B : List (Key × Nd)) (ns : List Nd) : List (Key × Int) := ns.flatMap fun n => partA B (keyN n, n)
def parB (A : List (Key × Nd)) (ns : List Nd) : List (Key × Int) := ns.flatMap fun n => partB A (keyN n, n)
theorem parA_snoc (B : List (Key × Nd)) (ns : List Nd) (n : Nd) : parA B (ns ++ [n]) = parA B ns ++ partA B (keyN n, n) := by unfold parA; simp
theorem parB_snoc (A : List (Key × Nd)) (ns : List Nd) (n : Nd) : parB A (ns ++ [n]) = parB A ns ++ partB A (keyN n, n) := by unfold parB; simp
theorem parA_len (B : List (Key × Nd)) : ∀ ns : List Nd, (parA B ns).length ≤ ns.length
  | [] => Nat.le_refl _
  | n :: ns => by
    have ih := parA_len B ns
    have e : parA B (n :: ns) = partA B (keyN n, n) ++ parA B ns := rfl
    have h1 : (partA B (keyN n, n)).length ≤ 1 := by
      unfold partA; split
      · simp
      · split <;> simp
    rw [e, List.length_append, List.length_cons]; omega
theorem parB_len (A : List (Key × Nd)) : ∀ ns : List Nd, (parB A ns).length ≤ ns.length
  | [] => Nat.le_refl _
  | n :: ns => by
    have ih := parB_len A ns
    have e : parB A (n :: ns) = partB A (keyN n, n) ++ parB A ns := rfl
    have h1 : (partB A (keyN n, n)).length ≤ 1 := by unfold partB; split <;> simp
    rw [e, List.length_append, List.length_cons]; omega
theorem flatMap_congr' {α β : Type} {f g : α → List β} : ∀ {l : List α}, (∀ x ∈ l, f x = g x) → l.flatMap f = l.flatMap g
  | [], _ => rfl
  | x :: l, h => by
    rw [List.flatMap_cons, List.flatMap_cons, h x (List.mem_cons_self ..), flatMap_congr' fun y hy => h y (List.mem_cons_of_mem _ hy)]
theorem par_parts {A B : List (Key × Nd)} (hA : MOk A) (hB : MOk B) : parA B (nds A) ++ parB A (nds B) = partsP A B := by
  unfold parA parB partsP nds
  rw [List.flatMap_map, List.flatMap_map]
  have e : ∀ {M : List (Key × Nd)}, MOk M → ∀ x ∈ M, (keyN x.2, x.2) = x := fun hM x hx => Prod.ext (hM.key x hx).symm rfl
  congr 1
  · exact flatMap_congr' fun x hx => by rw [e hA x hx]
  · exact flatMap_congr' fun x hx => by rw [e hB x hx]

/-- Between two rounds: what the list holds. -/
structure DfI (B bo b1 b2 : Nat) (va vb : Value) (w : World) (P : List (Key × Int)) (W : World) : Prop where
  ex : ∃ v, W.heap[bo]? = some (.cells #[v] 83 (0, 0)) ∧ W.ownsRow B 90 2 v P.length (rowK P)
  c1 : W.heap[b1]? = some (.cells #[va] 37 (0, 0))
  c2 : W.heap[b2]? = some (.cells #[vb] 37 (0, 0))
  size : B ≤ W.heap.size
  keep : Below w.heap.size w W
section
variable {B bo b1 b2 : Nat} {va vb : Value} {w : World} {P : List (Key × Int)} {W W5 X Y : World}
theorem DfI.turn {B' : Nat} (h : DfI B bo b1 b2 va vb w P X) (hT : Turn B' X Y) (hw : w.heap.size ≤ B') (hbo : bo < B) : DfI B bo b1 b2 va vb w P Y ∧ ∀ k, X.heap.size ≤ k → SafeO bo Y k := by
  obtain ⟨v, hv, hrow⟩ := h.ex
  have hs := h.size
  refine ⟨⟨⟨v, hT.cells hv, row_at hrow fun _ _ _ hc => hT.cells hc⟩, hT.cells h.c1, hT.cells h.c2, Nat.le_trans h.size hT.size, h.keep.trans (hT.below hw h.keep.size)⟩, fun k hk => ⟨by omega, v, hT.cell (cell_of_row _ _ _ _ _ _ hv), fun e => ?_⟩⟩
  obtain ⟨c, hc⟩ := ownBlock_lt hrow k e
  have := (Array.getElem?_eq_some_iff.1 hc).1
  omega
theorem DfI.ext (h : DfI B bo b1 b2 va vb w P X) (hE : Ext X Y) (hbo : bo < B) : DfI B bo b1 b2 va vb w P Y := (h.turn (Turn.of_ext (B := w.heap.size) hE) (Nat.le_refl _) hbo).1
theorem keeps_ext {B' : Nat} (hE : Ext W W5) : KeepsRec B' W W5 ∧ KeepS (SafeO bo) W W5 := by
  have hT : Turn 0 W W5 := Turn.of_ext hE
  exact ⟨KeepsRec.of_ext hE, hE.size, fun k c e f hk hs => ⟨hT.cells hk, hs.turn hT⟩⟩
theorem dfI_step {w6 : World} {z : Key × Int} {v v' : Value} (hI : DfI B bo b1 b2 va vb w P W) (hb : bo < B) (hb1 : b1 < B) (hb2 : b2 < B) (hn1 : b1 ≠ bo) (hn2 : b2 ≠ bo) (hwo : w.heap.size ≤ bo) (hE : Ext W W5) (hv : W.heap[bo]? = some (.cells #[v] 83 (0, 0))) (hrow : W.ownsRow B 90 2 v P.length (rowK P))
    (hown : w6.ownsRow B 90 2 v' (P.length + 1) (rowK (P ++ [z]))) (hg : W5.grownBy w6 v.ownBlock) (ho : v'.ownBlock = v.ownBlock ∨ ∃ g, v'.ownBlock = some g ∧ W5.heap.size ≤ g) (B' : Nat) :
    DfI B bo b1 b2 va vb w (P ++ [z]) (w6.setRow bo #[v']) ∧ KeepsRec B' W (w6.setRow bo #[v']) ∧ KeepS (SafeO bo) W (w6.setRow bo #[v']) ∧ w6.heap[bo]? = some (.cells #[v] 83 (0, 0)) := by
  have hz := hg.size
  have hz5 := hE.size
  have hsz := hI.size
  have hblk : ∀ k o, W.heap[k]? = some o → v.ownBlock ≠ some k → w6.heap[k]? = some o := fun k o hk hn => by
    have hlt := (Array.getElem?_eq_some_iff.1 hk).1
    exact (hg.block k (by omega) (fun e => hn e.symm)).trans ((hE.block k hlt).trans hk)
  have h6 : ∀ k o, k ≠ bo → W.heap[k]? = some o → v.ownBlock ≠ some k → (w6.setRow bo #[v']).heap[k]? = some o := fun k o hk ho hn => (setRow_other _ _ _ _ hk).trans (hblk k o ho hn)
  have hov : ∀ k, k < B → v.ownBlock ≠ some k := fun k hk e => by have := ownBlock_ge hrow k e; omega
  have hbo5 := hblk bo _ hv (hov bo hb)
  have hbo6 := setRow_heap w6 bo _ #[v'] _ _ hbo5
  have hc6 : (w6.setRow bo #[v']).cell? ⟨bo, 0, none⟩ = some v' := cell_of_row _ _ _ _ _ _ hbo6
  have hcv : W.cell? ⟨bo, 0, none⟩ = some v := cell_of_row _ _ _ _ _ _ hv
  have hsafe : ∀ k, k < W.heap.size → SafeO bo W k → SafeO bo (w6.setRow bo #[v']) k := fun k hk hs => ⟨hs.1, v', hc6, fun e => by
    obtain ⟨h1, u, h2, h3⟩ := hs
    rw [hcv] at h2
    cases h2
    rcases ho with h | ⟨g, h, hg⟩
    · exact h3 (h.symm.trans e)
    · rw [h] at e; cases e; omega⟩
  have hnb : ∀ k, SafeO bo W k → v.ownBlock ≠ some k := fun k hs => by
    obtain ⟨h1, u, h2, h3⟩ := hs
    rw [hcv] at h2
    cases h2
    exact h3
  refine ⟨⟨⟨v', hbo6, by rw [List.length_append]; exact row_at hown fun g c hg' hc => (setRow_other _ _ _ _ (fun e => by have := ownBlock_ge hown g hg'; omega)).trans hc⟩, h6 b1 _ hn1 hI.c1 (hov b1 hb1), h6 b2 _ hn2 hI.c2 (hov b2 hb2), by simp; omega, ?_⟩, ⟨by simp; omega, fun k o hB hk hr => ?_⟩, ⟨by simp; omega, fun k c e f hk hs => ⟨h6 k _ hs.1 hk (hnb k hs), hsafe k (Array.getElem?_eq_some_iff.1 hk).1 hs⟩⟩, hbo5⟩
  · refine hI.keep.trans ⟨hg.os.trans hE.os, hg.tape.trans hE.tape, hg.output.trans hE.output, by simp; omega, fun k hk => ?_⟩
    have hlt := hI.keep.size
    have hlk : k < W.heap.size := by omega
    exact (h6 k _ (by omega) (Array.getElem?_eq_getElem hlk) (hov k (by omega))).trans (Array.getElem?_eq_getElem hlk).symm
  · by_cases e : k = bo
    · subst e
      rw [hv] at hk
      cases hk
      cases hr
    · refine h6 k o e hk fun e => ?_
      obtain ⟨c, hc⟩ := ownBlock_lt hrow k e
      rw [hk] at hc
      cases hc
      cases hr
end
theorem infoPt : (Tryz.prog.info? 90).map (fun i => (i.zero, i.size, i.bytes)) = some (some (.agg #[.string ⟨#[]⟩, .int .i64 0]), 2, 24) := by kernel_rfl
theorem infoPs : (Tryz.prog.info? 83).map (·.size) = some 1 := by kernel_rfl
/-- An append within a round. -/
theorem wpListIn_append_k {F : Fence} {n : Nat} {ops : Array Oper} {rest : List Oper} {o : Oper} {a : Act} {Q : Exit → Act → World → Prop} {W5 : World} (hF : ∀ f, F.fn f) (e ts : TypeId) (hu : Tryz.prog.underlying ts = some (.slice e)) (hi0 : (Tryz.prog.info? e).map (fun i => (i.zero, i.size, i.bytes)) = some (some (.agg #[.string ⟨#[]⟩, .int .i64 0]), 2, 24)) (hgd : o.guard = none) (s x : Operand)
    (ho : o.op = .call { callee := .builtin .append, args := #[s, x], argTypes := #[ts, ts] })
    (base : Nat) (L : List (Key × Int)) (ov : Value) (hown : W5.ownsRow base e 2 ov L.length (rowK L)) (hb : base ≤ W5.heap.size) (z : Key × Int) (p : ByteArray) (hp : p.data.toList = z.1) (hl : (L.length + 1) * 24 ≤ 140737488355328)
    (hs : a.eval s = ov) (hx : a.eval x = .slice (some ⟨W5.heap.size, 0, none⟩) 1 1)
    (hK : ∀ v' W6, W6.ownsRow base e 2 v' (L.length + 1) (rowK (L ++ [z])) → (v'.ownBlock = ov.ownBlock ∨ ∃ g, v'.ownBlock = some g ∧ W5.heap.size ≤ g) → W5.grownBy W6 ov.ownBlock → wpListIn F n Tryz.prog ops Q rest (a.put o.dst v') W6) : wpListIn F n Tryz.prog ops Q (o :: rest) a (W5.alloc (.cells #[.string p, .int .i64 z.2] e)) := by
  obtain rfl : p = ⟨z.1.toArray⟩ := ByteArray.ext (Array.toList_inj.1 (by rw [hp]))
  have hrow8 := hown.alloc (.cells #[.string ⟨z.1.toArray⟩, .int .i64 z.2] e)
  have hs1 : Cells (W5.alloc (.cells #[.string ⟨z.1.toArray⟩, .int .i64 z.2] e)).heap.size (W5.alloc (.cells #[.string ⟨z.1.toArray⟩, .int .i64 z.2] e)) (some ⟨W5.heap.size, 0, none⟩) (rowK [z]) := fun j u hj => by
    refine ⟨_, 0, rfl, by simp, ?_⟩
    rw [Nat.zero_add, cell_of_row _ _ _ _ _ _ (heap_alloc_new W5 _)]
    rw [rowK_one] at hj
    simpa using hj
  have hsrc : Src Tryz.prog 2 ts (.slice (some ⟨W5.heap.size, 0, none⟩) 1 1) 1 (rowK [z]) (W5.alloc (.cells #[.string ⟨z.1.toArray⟩, .int .i64 z.2] e)) := hs1.src hu 1 1 (by simp [rowK_one]) (fun u hu => by
    rw [rowK_one] at hu
    simp at hu
    rcases hu with rfl | rfl <;> rfl)
  obtain ⟨i0, hi, hz0, hz1', hz2'⟩ := info_parts hi0
  refine wpListIn_append_src hF hgd s x ts ts ho base e i0 (.agg #[.string ⟨#[]⟩, .int .i64 0]) 2 24 hu hi hz0 hz1' hz2' rfl (by decide) ov L.length (rowK L) hs hrow8 _ 1 _ hx hsrc (by unfold maxLen; omega) hl (by simp; omega) ?_
  intro v' w9 hown9 hg9 _ hor
  have hg : W5.grownBy w9 ov.ownBlock := ⟨hg9.os, hg9.tape, hg9.output, by have := hg9.size; simp at this; omega, fun k hk hn => (hg9.block k (by simp; omega) hn).trans (Below.heap_alloc _ _ _ hk)⟩
  exact hK v' w9 (by rw [rowK_append]; exact hown9) (hor.imp id fun h => ⟨_, h, by simp⟩) hg
/-- Partings that memory may hold. -/
theorem lift_pt : ∀ {P : List (Key × Int)}, (∀ z ∈ P, z.1.length ≤ maxLen) → ∃ D : List Pt, D.map (·.1) = P
  | [], _ => ⟨[], rfl⟩
  | z :: P, h => by
    obtain ⟨D, hD⟩ := lift_pt (P := P) fun y hy => h y (List.mem_cons_of_mem _ hy)
    exact ⟨⟨z, h z (List.mem_cons_self ..)⟩ :: D, congrArg (z :: ·) hD⟩
end Go.Proofs.YthinpbdbhijbgaaGreatDoor
namespace Go.Proofs.YthinpbdbhijbgaaGreatDoor
open Go.RowKit

end Go.Proofs.YthinpbdbhijbgaaGreatDoor
namespace Go.Proofs.YthinpbdbhijbgaaGreatDoor
open Go.RowKit Go.Sort
set_option maxHeartbeats 4000000
set_option maxRecDepth 100000

end Go.Proofs.YthinpbdbhijbgaaGreatDoor
namespace Go.Proofs.YthinpbdbhijbgaaGreatDoor
open Go.RowKit Go.Sort
set_option maxHeartbeats 2000000
set_option maxRecDepth 100000

/-- A node put into a new box. -/
theorem box_node {S : Nat → Prop} {w1 : World} {v : Value} {n : Nd} (hv : NdS S w1 v n) (hS : ∀ b, S b → b < w1.heap.size) :
    ∃ da dc aa ac W2, v = .agg (ndC n (.slice da n.data.length dc) (.slice aa n.acl.length ac)) ∧ (w1.alloc (.cells zeroNd 44)).setRow w1.heap.size (ndC n (.slice da n.data.length dc) (.slice aa n.acl.length ac)) = W2 ∧
      W2.heap[w1.heap.size]? = some (.cells (ndC n (.slice da n.data.length dc) (.slice aa n.acl.length ac)) 44 (0, 0)) ∧ Ext w1 W2 ∧ Cells W2.heap.size W2 da (n.data.map u8v) ∧ Cells W2.heap.size W2 aa (acCs n.acl) := by
  obtain ⟨da, dc, aa, ac, rfl, hD, hA⟩ := hv
  have hE : Ext w1 (w1.alloc (.cells (ndC n (.slice da n.data.length dc) (.slice aa n.acl.length ac)) 44)) := Ext.alloc _ _
  exact ⟨da, dc, aa, ac, _, rfl, setRow_alloc w1 zeroNd _ 44, heap_alloc_new w1 _, hE, (hD.cells hS).ext hE, (hA.cells hS).ext hE⟩
theorem OwnN.base {b b' : Nat} {L : List Nd} {v : Value} {w : World} (h : OwnN b L v w) (hb : b' ≤ b) : OwnN b' L v w := by
  obtain ⟨vs, h1, h2⟩ := h
  exact ⟨vs, ⟨h1.1, h1.2.imp id fun ⟨g, cap, cur, q1, q2, q3⟩ => ⟨g, cap, cur, q1, Nat.le_trans hb q2, q3⟩⟩, h2.imp (fun k hk => ⟨Nat.le_trans hb hk.1, hk.2⟩) fun _ _ _ _ h => h⟩
end Go.Proofs.YthinpbdbhijbgaaGreatDoor
namespace Go.Proofs.YthinpbdbhijbgaaGreatDoor
open Go.RowKit Go.Sort
set_option maxHeartbeats 4000000
set_option maxRecDepth 100000

/-- A slice that shows these texts. -/
def StrsAt (B : Nat) (w : World) (a : Option Addr) (L : List ByteArray) : Prop := ∀ i s, L[i]? = some s → ∃ b off, a = some ⟨b, off, none⟩ ∧ b < B ∧ w.cell? ⟨b, off + i, none⟩ = some (.string s)
theorem StrsAt.ext {w w' : World} {a : Option Addr} {L : List ByteArray} (h : StrsAt w.heap.size w a L) (hE : Ext w w') : StrsAt w'.heap.size w' a L := fun i s hi => by
  obtain ⟨b, off, e, hb, hc⟩ := h i s hi
  exact ⟨b, off, e, Nat.lt_of_lt_of_le hb hE.size, (hE.cell (p := ⟨b, off + i, none⟩) hb).trans hc⟩
theorem StrsAt.of_own {w : World} {base : Nat} {v : Value} {ks : List Key} (h : w.ownsRow base 9 1 v ks.length (ks.map encStr)) : ∃ a c, v = .slice a ks.length c ∧ ks.length ≤ c ∧ StrsAt w.heap.size w a (ks.map fun k => ⟨k.toArray⟩) := by
  have h2 := h.2
  obtain ⟨a, c, rfl, hc⟩ := ownsRow_cells h
  refine ⟨a, c, rfl, ?_, fun i s hi => ?_⟩
  · rcases h2 with ⟨e, h0⟩ | ⟨g, cap, cur, e, _, _, hl, _⟩
    · omega
    · cases e; exact hl
  · rw [List.getElem?_map, Option.map_eq_some_iff] at hi
    obtain ⟨k, hk, rfl⟩ := hi
    obtain ⟨b, off, rfl, hb, hcc⟩ := hc i (encStr k) (by rw [List.getElem?_map, hk]; rfl)
    exact ⟨b, off, rfl, hb, hcc⟩

end Go.Proofs.YthinpbdbhijbgaaGreatDoor
namespace Go.Proofs.YthinpbdbhijbgaaGreatDoor
open Go.RowKit Go.Sort
set_option maxHeartbeats 4000000
set_option maxRecDepth 100000

/-- What Get answers, whatever the tree. -/
def GetsM (pv : Value) (M : List (Key × Nd)) (w : World) : Prop := ∀ W (t : ByteArray), Ext w W → t.size ≤ 9223372036854775800 → Calls Tryz.prog 54 #[pv, .string t] W (GetOut M t W)
theorem GetsM.of_tree {S : Nat → Prop} {w : World} {bt : Nat} {M : List (Key × Nd)} {N : Nat} (hT : TreeAt S w bt M N) : GetsM (.pointer (some ⟨bt, 0, none⟩)) M w := fun W t hE ht => tget_any S W bt M N (hT.ext hE) t (by unfold maxLen; omega)
theorem GetsM.nil (w : World) : GetsM (.pointer none) [] w := fun W t _ _ => (tget_nil t W).mono fun e w' h => ⟨_, h.1, zeroN_nds _ _, h.2⟩

end Go.Proofs.YthinpbdbhijbgaaGreatDoor
namespace Go.Proofs.YthinpbdbhijbgaaGreatDoor
open Go.RowKit
set_option maxHeartbeats 2000000
set_option maxRecDepth 100000

theorem bequal_self (a b : Option Addr) (c d : Nat) (xs : List UInt8) (w : World) (hx : Cells w.heap.size w a (xs.map u8v)) (hy : Cells w.heap.size w b (xs.map u8v)) :
    Calls Tryz.prog 154 #[.slice a xs.length c, .slice b xs.length d] w fun e w' => e = .returned (.bool true) ∧ w = w' := by
  have hv1 := conv_string c hx
  have hv2 := conv_string d hy
  clear hx hy
  go_enter Tryz.func154, Tryz.ntmps154
  go_wp2
  go_ret
  exact ⟨rfl, rfl⟩

theorem aequal_self (a b : Option Addr) (c d : Nat) (xs : List Ac) (w : World) (hx : Cells w.heap.size w a (acCs xs)) (hy : Cells w.heap.size w b (acCs xs)) (hm : xs.length ≤ 9223372036854775800) :
    Calls Tryz.prog 155 #[.slice a xs.length c, .slice b xs.length d] w fun e w' => e = .returned (.bool true) ∧ Below w.heap.size w w' := by
  have hg := guard_ac
  have hnq := neq_ac
  go_enter Tryz.func155, Tryz.ntmps155
  go_wp2
  go_loopw [13] (fun i wr => ∃ (k n : Nat), k ≤ xs.length ∧ i = .int .i64 k ∧ wr = w.drewN n) (fun i _ => xs.length - (intOf i).toNat)
  case atStart => exact ⟨0, 0, Nat.zero_le _, rfl, rfl⟩
  case round =>
    obtain ⟨k, n, hk, rfl, rfl⟩ := hrel
    by_cases hlt : k < xs.length
    · obtain ⟨b1, o1, rfl, hb1, c0, c1, c2⟩ := acCells hx k hlt
      obtain ⟨b2, o2, rfl, hb2, d0, d1, d2⟩ := acCells hy k hlt
      have hk1 : (k : Int) < xs.length := by omega
      have hk0 : (0 : Int) ≤ k := by omega
      have he := eqAc_self xs[k]
      clear hx hy
      go_wp2
      go_quiet (fail)
      go_wp2
      go_roundw
      case rel => exact ⟨k + 1, _, by omega, by go_num, rfl⟩
      case measure => simp [intOf]; omega
    · obtain rfl : k = xs.length := by omega
      clear hx hy
      go_wp2
      go_ret
      exact ⟨rfl, below_drewN (Below.refl _ _) _⟩

/-- A node and its like are the same. -/
theorem ssame_self (n : Nd) (da aa db ab : Option Addr) (dc ac dd ad : Nat) (w : World) (hf : Fit n) (hD : Cells w.heap.size w da (n.data.map u8v)) (hA : Cells w.heap.size w aa (acCs n.acl)) (hD' : Cells w.heap.size w db (n.data.map u8v)) (hA' : Cells w.heap.size w ab (acCs n.acl)) :
    Calls Tryz.prog 98 #[.agg (ndC n (.slice da n.data.length dc) (.slice aa n.acl.length ac)), .agg (ndC n (.slice db n.data.length dd) (.slice ab n.acl.length ad))] w fun e w' => e = .returned (.bool true) ∧ Below w.heap.size w w' := by
  have hfa := hf.acl
  obtain ⟨W2, hW2⟩ : ∃ W2, W2 = (w.alloc (.cells (ndC n (.slice da n.data.length dc) (.slice aa n.acl.length ac)) 44)).alloc (.cells (ndC n (.slice db n.data.length dd) (.slice ab n.acl.length ad)) 44) := ⟨_, rfl⟩
  have hs2 : W2.heap.size = w.heap.size + 1 + 1 := by rw [hW2]; simp
  have hb2 : Below w.heap.size w W2 := by rw [hW2]; exact ((Below.refl _ _).alloc (Nat.le_refl _) _).alloc (by simp) _
  have hx : Box W2 w.heap.size (ndC n (.slice da n.data.length dc) (.slice aa n.acl.length ac)) := fun j => by rw [hW2]; exact cell_of_row _ _ _ _ _ _ (heap_alloc2_old w _ _)
  have hy : Box W2 (w.heap.size + 1) (ndC n (.slice db n.data.length dd) (.slice ab n.acl.length ad)) := fun j => by rw [hW2]; exact cell_of_row _ _ _ _ _ _ (heap_alloc2_new w _ _)
  have CB := bequal_self da db dc dd n.data W2 ((hD.below hb2).mono (by omega)) ((hD'.below hb2).mono (by omega))
  have CA := aequal_self aa ab ac ad n.acl W2 ((hA.below hb2).mono (by omega)) ((hA'.below hb2).mono (by omega)) (by omega)
  have hgq := guard_q
  have hnq := eql_q
  have hqq : ∀ h a b, eqQ h a b h a b = true := fun h a b => by simp [eqQ]
  rw [hW2] at CA CB
  have CA := Lib.hid CA
  have CB := Lib.hid CB
  have HW2 := Lib.hid hW2
  unfold ndC at hx hy CA CB HW2 ⊢
  clear hW2 hD hA hD' hA'
  unfold Box at hx hy
  have hx0 := hx
  have hy0 := hy
  rw [HW2.out] at hx hy
  go_enter Tryz.func98, Tryz.ntmps98
  go_wp2_with fail
  refine CB.out.mono ?_
  rintro e w3 ⟨rfl, rfl⟩
  clear CB
  go_wp2_with fail
  refine CA.out.mono ?_
  rintro e w3 ⟨rfl, hb3⟩
  rw [← HW2.out] at hb3
  have hx3 := Box.below (fun j => hx0 j) hb3 (by omega)
  have hy3 := Box.below (fun j => hy0 j) hb3 (by omega)
  have hbb := hb2.trans (hb3.mono (by omega))
  unfold Box at hx3 hy3
  clear CA hx hy hx0 hy0 hb3 hb2 HW2
  go_wp2
  go_ret
  exact ⟨rfl, hbb⟩
end Go.Proofs.YthinpbdbhijbgaaGreatDoor
namespace Go.Proofs.YthinpbdbhijbgaaGreatDoor
open Go.RowKit
set_option maxHeartbeats 2000000
set_option maxRecDepth 100000

theorem bequal_any (a b : Option Addr) (c d : Nat) (xs ys : List UInt8) (w : World) (hx : Cells w.heap.size w a (xs.map u8v)) (hy : Cells w.heap.size w b (ys.map u8v)) :
    Calls Tryz.prog 154 #[.slice a xs.length c, .slice b ys.length d] w fun e w' => e = .returned (.bool (xs == ys)) ∧ w = w' := by
  have hv1 := conv_string c hx
  have hv2 := conv_string d hy
  clear hx hy
  go_enter Tryz.func154, Tryz.ntmps154
  go_wp2
  go_ret
  exact ⟨rfl, rfl⟩

theorem aequal_any (a b : Option Addr) (c d : Nat) (xs ys : List Ac) (w : World) (hx : Cells w.heap.size w a (acCs xs)) (hy : Cells w.heap.size w b (acCs ys)) (hm : xs.length ≤ 9223372036854775800) (hm' : ys.length ≤ 9223372036854775800) :
    Calls Tryz.prog 155 #[.slice a xs.length c, .slice b ys.length d] w fun e w' => e = .returned (.bool (eqAcs xs ys)) ∧ Below w.heap.size w w' := by
  by_cases hl : xs.length ≠ ys.length
  · have H1 := Lib.hid (eqAcs_len xs ys hl)
    have hlb : ((xs.length : Int) != ys.length) = true := by simp; omega
    clear hl hx hy
    go_enter Tryz.func155, Tryz.ntmps155
    go_wp2
    go_ret
    exact ⟨by rw [H1.out]; rfl, Below.refl _ _⟩
  have hl : xs.length = ys.length := by omega
  have HL := Lib.hid hl
  have hg := guard_ac
  have hnq := neq_ac
  have hlb : ((xs.length : Int) != ys.length) = false := by simp [hl]
  clear hl
  go_enter Tryz.func155, Tryz.ntmps155
  go_wp2
  go_loopw [13] (fun i wr => ∃ (k n : Nat), k ≤ xs.length ∧ i = .int .i64 k ∧ wr = w.drewN n ∧ Hid (eqAcs xs ys = eqAcs (xs.drop k) (ys.drop k))) (fun i _ => xs.length - (intOf i).toNat)
  case atStart => exact ⟨0, 0, Nat.zero_le _, rfl, rfl, rfl⟩
  case round =>
    obtain ⟨k, n, hk, rfl, rfl, HQ⟩ := hrel
    by_cases hlt : k < xs.length
    · have hlt' : k < ys.length := by have := HL.out; omega
      obtain ⟨b1, o1, rfl, hb1, c0, c1, c2⟩ := acCells hx k hlt
      obtain ⟨b2, o2, rfl, hb2, d0, d1, d2⟩ := acCells hy k hlt'
      have hk1 : (k : Int) < xs.length := by omega
      have hk2 : (k : Int) < ys.length := by omega
      have hk0 : (0 : Int) ≤ k := by omega
      have HD := Lib.hid (eqAcs_drop xs ys k hlt hlt')
      cases he : eqAc xs[k] ys[k]
      · have H1 : Hid (eqAcs xs ys = false) := by unfold Hid; rw [HQ.out, HD.out, he]; rfl
        clear hx hy
        go_wp2
        go_quiet (fail)
        go_wp2
        go_ret
        exact ⟨by rw [H1.out]; rfl, below_drewN (below_drewN (Below.refl _ _) _) _⟩
      · have H1 : Hid (eqAcs xs ys = eqAcs (xs.drop (k + 1)) (ys.drop (k + 1))) := by unfold Hid; rw [HQ.out, HD.out, he]; rfl
        clear hx hy
        go_wp2
        go_quiet (fail)
        go_wp2
        go_roundw
        case rel => exact ⟨k + 1, _, by omega, by go_num, rfl, H1⟩
        case measure => simp [intOf]; omega
    · obtain rfl : k = xs.length := by omega
      have H1 : Hid (eqAcs xs ys = true) := by
        unfold Hid; rw [HQ.out, List.drop_length, HL.out, List.drop_length]; rfl
      clear hx hy
      go_wp2
      go_ret
      exact ⟨by rw [H1.out]; rfl, below_drewN (Below.refl _ _) _⟩
end Go.Proofs.YthinpbdbhijbgaaGreatDoor
