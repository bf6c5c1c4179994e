/- A row of the call's own that shows nodes that were cloned for it; how it grows by one. The walks of arborref05's New and arborref07's Root. What is under a path: itself and what is under its children. Plain law: the parent of a path is a path. No program in sight. The walk of stat.Of. A region that draws its order, whose last operation, a store, comes after all others. A region that draws its order, with one operation that turns memory (an append) ahead of all that follow it in the text. A region that draws its order, its operations turning memory: an invariant that knows which of them are done. A region that draws its order and turns memory: operations without a slot (a store) among them. The walk of (*Tree).Stat. The step of a range over a map keyed by strings: the name is told to be among those that were left. The list that grows while its places are gone through: in the end it holds what is under the first. The list under a path, sorted. The walk of paths.Join. Joining a node's path and a child's last part gives the child's path. -/
import Derived.Test.YthinpbdbhijbgaaGreatDoorJQuotaTexts6
import Derived.Test.YthinpbdbhijbgaaGreatDoorJQuotaTexts4
import Derived.Test.YthinpbdbhijbgaaGreatDoorJQuotaTexts2
import Derived.Test.YthinpbdbhijbgaaGreatDoorJQuotaTexts5
import Derived.Maps.RangeWalk
import Derived.Test.YthinpbdbhijbgaaGreatDoorJQuotaTexts3
import Derived.Lib.IndexLaws
namespace Go.Proofs.YthinpbdbhijbgaaGreatDoor
open Go.RowKit Go.Sort
set_option maxHeartbeats 2000000
set_option maxRecDepth 100000

/-- What a clone of the row's nodes may lie in. -/
def NewN (base : Nat) (v : Value) (w : World) (b : Nat) : Prop := base ≤ b ∧ b < w.heap.size ∧ v.ownBlock ≠ some b
def OwnN (base : Nat) (L : List Nd) (v : Value) (w : World) : Prop :=
  ∃ vs : List (Array Value), w.ownsRow base 44 17 v L.length (vs.flatMap Array.toList) ∧ EachN (NewN base v w) w vs L

theorem EachN.imp {S S' : Nat → Prop} {w w' : World} {vs : List (Array Value)} {L : List Nd} (h : EachN S w vs L) (hS : ∀ b, S b → S' b) (hw : ∀ (b o : Nat) u, S b → w.cell? ⟨b, o, none⟩ = some u → w'.cell? ⟨b, o, none⟩ = some u) : EachN S' w' vs L :=
  ⟨h.1, fun j cs hj => by
    obtain ⟨n, hn, hN⟩ := h.2 j cs hj
    exact ⟨n, hn, NdS.imp hN hS fun b o u hb hu => hw b o u hb hu⟩⟩

theorem OwnN.nil (base : Nat) (w : World) : OwnN base [] (.slice none 0 0) w :=
  ⟨[], World.ownsRow_nil _ _ _ _, ⟨rfl, fun j cs h => by simp at h⟩⟩

theorem cell_ext {w w' : World} (h : Ext w w') (b o : Nat) (u : Value) (hu : w.cell? ⟨b, o, none⟩ = some u) : w'.cell? ⟨b, o, none⟩ = some u :=
  (h.cell (p := ⟨b, o, none⟩) (World.block_lt_of_cell? _ _ hu)).trans hu

theorem OwnN.ext {base : Nat} {L : List Nd} {v : Value} {w w' : World} (h : OwnN base L v w) (hE : Ext w w') : OwnN base L v w' := by
  obtain ⟨vs, h1, h2⟩ := h
  exact ⟨vs, h1.kept (grown_of_ext hE none) (Classical.em _), h2.imp (fun b hb => ⟨hb.1, Nat.lt_of_lt_of_le hb.2.1 hE.size, hb.2.2⟩) fun b o u _ hu => cell_ext hE b o u hu⟩

/-- A new node is handed to the row. -/
theorem OwnN.step {base : Nat} {L : List Nd} {v v' : Value} {w w5 : World} {vs : List (Array Value)} {cs : Array Value} {n : Nd} {t : TypeId} (hE : EachN (NewN base v w) w vs L) (hN : NdS (NewN base v w) w (.agg cs) n)
    (hown : w5.ownsRow base 44 17 v' (L.length + 1) (vs.flatMap Array.toList ++ cs.toList)) (hg : (w.alloc (.cells cs t)).grownBy w5 v.ownBlock) (ho : v'.ownBlock = v.ownBlock ∨ v'.ownBlock = some (w.heap.size + 1)) :
    OwnN base (L ++ [n]) v' w5 := by
  have hz := hg.size
  simp only [World.size_alloc] at hz
  have hS : ∀ b, NewN base v w b → NewN base v' w5 b := fun b hb => ⟨hb.1, by have := hb.2.1; omega, fun e => by
    rcases ho with h | h
    · rw [h] at e; exact hb.2.2 e
    · rw [h] at e; cases e; have := hb.2.1; omega⟩
  have hw : ∀ (b o : Nat) u, NewN base v w b → w.cell? ⟨b, o, none⟩ = some u → w5.cell? ⟨b, o, none⟩ = some u := fun b o u hb hu => by
    rw [World.cell?_of_block ((hg.block b (by simp; have := hb.2.1; omega) (fun e => hb.2.2 e.symm)).trans (heap_alloc_old w _ hb.2.1))]
    exact hu
  refine ⟨vs ++ [cs], by simpa using hown, (hE.imp hS hw).append ((EachN.one hN).imp hS hw)⟩

/-- Memory as it was, but the row. -/
theorem OwnN.keep {base : Nat} {v : Value} {w w5 : World} {cs : Array Value} {n : Nat} {xs : List Value} {t : TypeId} {w0 : World} (hE0 : Ext w0 w) (hb : w0.heap.size ≤ base) (hown : w.ownsRow base 44 17 v n xs) (hg : (w.alloc (.cells cs t)).grownBy w5 v.ownBlock) : Ext w0 w5 := by
  refine hE0.trans' ⟨hg.os, hg.tape, hg.output, by have := hg.size; simp at this; omega, fun k hk => ?_⟩
  have hz := hE0.size
  refine (hg.block k (by simp; omega) (fun e => ?_)).trans (heap_alloc_old w _ (by omega))
  have := ownBlock_ge hown k e.symm
  omega

/-- The row as rows that show nodes. -/
theorem OwnN.rows {base : Nat} {L : List Nd} {v : Value} {w : World} (h : OwnN base L v w) : ∃ a c vs, v = .slice a L.length c ∧ L.length ≤ c ∧ c ≤ maxLen ∧ RowsOf (fun k => base ≤ k ∧ k < w.heap.size) w a vs L ∧ PlainA a c := by
  obtain ⟨vs, h1, h2⟩ := h
  obtain ⟨a, c, e, h3, h4, h5, h6⟩ := RowsOf.of_own (S := fun k => base ≤ k ∧ k < w.heap.size) h1 rfl h2.1 (fun k h1 h2 => ⟨h1, h2⟩) (h2.imp (fun b hb => ⟨hb.1, hb.2.1⟩) fun _ _ _ _ h => h).2
  exact ⟨a, c, vs, e, h3, h4, h5, h6⟩

end Go.Proofs.YthinpbdbhijbgaaGreatDoor
namespace Go.Proofs.YthinpbdbhijbgaaGreatDoor
open Go.RowKit
set_option maxHeartbeats 2000000
set_option maxRecDepth 100000

theorem rnew_any (p : ByteArray) (data : List UInt8) (acl : List Ac) (x y z : Int) (da aa : Option Addr) (dc ac : Nat) (w : World) (hf : Fit (newN p data acl x y z)) (hD : Cells w.heap.size w da (data.map u8v)) (hA : Cells w.heap.size w aa (acCs acl)) :
    Calls Tryz.prog 134 #[.string p, .slice da data.length dc, .slice aa acl.length ac, .int .i64 x, .int .i64 y, .int .i64 z] w (CloneNew (newN p data acl x y z) w) := by
  obtain ⟨i0, hi, hz0, hz1, hz2⟩ := info_parts infoU8
  obtain ⟨i1, hi', hz0', hz1', hz2'⟩ := info_parts infoAc
  have hfd : data.length ≤ 140737488355328 := hf.data
  have hfa : acl.length * 40 ≤ 140737488355328 := hf.acl
  obtain ⟨W1, hW1⟩ : ∃ W1, W1 = w.alloc (.cells zeroNd 44) := ⟨_, rfl⟩
  have hE1 : Ext w W1 := by rw [hW1]; exact Ext.alloc _ _
  have hzW : W1.heap.size = w.heap.size + 1 := by rw [hW1]; simp
  have hr1 : W1.heap[w.heap.size]? = some (.cells zeroNd 44 (0, 0)) := by rw [hW1]; exact heap_alloc_new w _
  have hown1 := ownsRow_empty W1 5 1
  rw [hzW] at hown1
  have hEa : Ext w (W1.alloc (.cells #[] 5)) := hE1.trans (Ext.alloc _ _)
  have hsrc1 : Src Tryz.prog 1 41 (.slice da data.length dc) data.length (data.map u8v) (W1.alloc (.cells #[] 5)) := (hD.below hEa).src Tryz.underlying41 _ _ (by simp) (one_u8 _)
  have HEa := Lib.hid hEa
  have HW1 := Lib.hid hW1
  have HR1 := Lib.hid hr1
  have HA := Lib.hid hA
  rw [hW1] at hown1 hsrc1
  unfold zeroNd at hown1 hsrc1 HW1
  clear hW1 hr1 hEa hD hA hE1
  go_enter Tryz.func134, Tryz.ntmps134
  go_wp2_with (at_builtin; refine wpList_append_src _ rfl (.tmp 14) (.tmp 15) 41 41 rfl (w.heap.size + 1) 5 i0 (.int .u8 0) 1 1 Tryz.underlying41 hi hz0 hz1 hz2 rfl (by decide) _ 0 _ rfl hown1 _ _ _ rfl hsrc1 ?c1 ?c2 ?c3 ?_)
  case c1 => simp only [maxLen]; omega
  case c2 => omega
  case c3 => simp
  intro v1 w4 ho1 hg1 _ _
  rw [← HW1.out] at hg1
  have hz4 := hg1.size
  simp only [World.size_alloc] at hz4
  have hE4 : Ext w w4 := HEa.out.trans' ⟨hg1.os, hg1.tape, hg1.output, hg1.size, fun k hk => hg1.block k (by simp; omega) (fun e => by have h : k = w.heap.size + 1 := Option.some.inj e; omega)⟩
  have hr4 : w4.heap[w.heap.size]? = some (.cells zeroNd 44 (0, 0)) := (hg1.block w.heap.size (by simp; omega) (fun e => by have h : w.heap.size = w.heap.size + 1 := Option.some.inj e; omega)).trans ((heap_alloc_old W1 _ (by omega)).trans HR1.out)
  obtain ⟨va, vc, rfl, hD4⟩ := ownsRow_cells ho1
  have hvb : ∀ b off, va = some ⟨b, off, none⟩ → w.heap.size + 1 ≤ b := by
    intro b off h
    subst h
    rcases ho1.2 with ⟨h, _⟩ | ⟨g, cap, cur, h, k1, _⟩
    · cases h
    · simp only [Value.slice.injEq, Option.some.injEq, Addr.mk.injEq] at h; omega
  have hown2 := ownsRow_empty w4 129 3
  have hEb : Ext w (w4.alloc (.cells #[] 129)) := hE4.trans (Ext.alloc _ _)
  have hsrc2 : Src Tryz.prog 3 42 (.slice aa acl.length ac) acl.length (acCs acl) (w4.alloc (.cells #[] 129)) := (HA.out.below hEb).src Tryz.underlying42 _ _ (acCs_length _) (one_ac _)
  have HD4 := Lib.hid hD4
  have HVB := Lib.hid hvb
  have HR4 := Lib.hid hr4
  have HEb := Lib.hid hEb
  clear ho1 hg1 hown1 hsrc1 hE4 hr4 hEb HW1 HR1 HEa HA hD4 hvb
  go_wp2_with (at_builtin; refine wpList_append_src _ rfl (.tmp 17) (.tmp 18) 42 42 rfl w4.heap.size 129 i1 (.agg #[.int .i32 0, .string ⟨#[]⟩, .string ⟨#[]⟩]) 3 40 Tryz.underlying42 hi' hz0' hz1' hz2' rfl (by decide) _ 0 _ rfl hown2 _ _ _ rfl hsrc2 ?d1 ?d2 ?d3 ?_)
  case d1 => simp only [maxLen]; omega
  case d2 => omega
  case d3 => simp
  intro v2 w6 ho2 hg2 _ _
  have hz6 := hg2.size
  simp only [World.size_alloc] at hz6
  have hE6 : Ext w w6 := HEb.out.trans' ⟨hg2.os, hg2.tape, hg2.output, hg2.size, fun k hk => hg2.block k (by simp; omega) (fun e => by have h : k = w4.heap.size := Option.some.inj e; omega)⟩
  have hr6 : w6.heap[w.heap.size]? = some (.cells zeroNd 44 (0, 0)) := (hg2.block w.heap.size (by simp; omega) (fun e => by have h : w.heap.size = w4.heap.size := Option.some.inj e; omega)).trans ((heap_alloc_old w4 _ (by omega)).trans HR4.out)
  have hD6 : ∀ j u, (data.map u8v)[j]? = some u → ∃ b off, va = some ⟨b, off, none⟩ ∧ (w.heap.size + 1 ≤ b ∧ b < w6.heap.size) ∧ w6.cell? ⟨b, off + j, none⟩ = some u := fun j u hj => by
    obtain ⟨b, off, h1, h2, h3⟩ := HD4.out j u hj
    have h4 := HVB.out b off h1
    exact ⟨b, off, h1, ⟨h4, by omega⟩, (World.cell?_of_block ((hg2.block b (by simp; omega) (fun e => by have h : b = w4.heap.size := Option.some.inj e; omega)).trans (heap_alloc_old w4 _ h2))).trans h3⟩
  obtain ⟨vb, vd, rfl, hA6⟩ := ownsRow_cells ho2
  have hvb2 : ∀ b off, vb = some ⟨b, off, none⟩ → w4.heap.size ≤ b := by
    intro b off h
    subst h
    rcases ho2.2 with ⟨h, _⟩ | ⟨g, cap, cur, h, k1, _⟩
    · cases h
    · simp only [Value.slice.injEq, Option.some.injEq, Addr.mk.injEq] at h; omega
  obtain ⟨cs, hcs⟩ : ∃ cs, cs = ndC (newN p data acl x y z) (.slice va data.length vc) (.slice vb acl.length vd) := ⟨_, rfl⟩
  have hr7 := setRow_heap w6 w.heap.size _ cs 44 (0, 0) hr6
  have hs7 : (w6.setRow w.heap.size cs).heap.size = w6.heap.size := by simp [World.setRow]
  have hE7 : Ext w (w6.setRow w.heap.size cs) := hE6.trans' ⟨rfl, rfl, rfl, by rw [hs7]; exact Nat.le_refl _, fun k hk => setRow_other _ _ _ _ (by omega)⟩
  have cD : CellsS (fun k => w.heap.size ≤ k ∧ k < (w6.setRow w.heap.size cs).heap.size) (w6.setRow w.heap.size cs) va (data.map u8v) := fun j u hj => by
    obtain ⟨b, off, h1, h2, h3⟩ := hD6 j u hj
    exact ⟨b, off, h1, ⟨by omega, by omega⟩, (World.cell?_of_block (setRow_other _ _ _ _ (show b ≠ w.heap.size by omega))).trans h3⟩
  have cA : CellsS (fun k => w.heap.size ≤ k ∧ k < (w6.setRow w.heap.size cs).heap.size) (w6.setRow w.heap.size cs) vb (acCs acl) := fun j u hj => by
    obtain ⟨b, off, h1, h2, h3⟩ := hA6 j u hj
    have h4 := hvb2 b off h1
    exact ⟨b, off, h1, ⟨by omega, by omega⟩, (World.cell?_of_block (setRow_other _ _ _ _ (show b ≠ w.heap.size by omega))).trans h3⟩
  have hfin : CloneNew (newN p data acl x y z) w (.returned (.agg cs)) (w6.setRow w.heap.size cs) := ⟨_, rfl, ⟨va, vc, vb, vd, by rw [hcs]; rfl, cD, cA⟩, hE7⟩
  have HFIN := Lib.hid hfin
  have HR6 := Lib.hid hr6
  have HR7 := Lib.hid hr7
  have hone : cs.all (·.oneCell') = true := by rw [hcs]; exact cells_node (newN p data acl x y z) va vb _ _ vc vd
  have hsz17 : (Tryz.prog.info? 44).map (·.size) = some cs.size := by rw [hcs]; exact sizeNd
  have HONE := Lib.hid hone
  have HSZ := Lib.hid hsz17
  have HCS := Lib.hid hcs
  unfold ndC newN at HCS
  unfold zeroNd at HR6
  clear hfin hr6 hr7 hD6 hA6 hvb2 hE6 hE7 cD cA ho2 hg2 hown2 hsrc2 hone hsz17 hcs HD4 HVB HR4 HEb
  go_wp2_with (rw [← HCS.out]; refine wpList_store_row rfl 44 (.tmp 12) (.tmp 26) rfl w.heap.size _ rfl rfl 44 _ HR6.out HSZ.out (by rw [HCS.out]; rfl) HONE.out ?_)
  refine bodyPost_ret (v := .agg cs) ?_ rfl HFIN.out
  exact results_cell_row (p := 12) (ty := 44) rfl _ _ w.heap.size 44 cs (0, 0) _ rfl HR7.out Tryz.underlying44 rfl HSZ.out

theorem rroot_any (w : World) : Calls Tryz.prog 59 #[] w (CloneNew rootN w) := by
  obtain ⟨W1, hW1⟩ : ∃ W1, W1 = w.alloc (.cells zeroNd 44) := ⟨_, rfl⟩
  obtain ⟨W2, hW2⟩ : ∃ W2, W2 = W1.alloc (.cells #[.int .i32 31, .string ⟨#[119, 111, 114, 108, 100]⟩, .string ⟨#[97, 110, 121, 111, 110, 101]⟩] 129) := ⟨_, rfl⟩
  have hE1 : Ext w W1 := by rw [hW1]; exact Ext.alloc _ _
  have hE2 : Ext W1 W2 := by rw [hW2]; exact Ext.alloc _ _
  have hz1 : W1.heap.size = w.heap.size + 1 := by rw [hW1]; simp
  have hz2 : W2.heap.size = w.heap.size + 1 + 1 := by rw [hW2]; simp [hz1]
  have hr2 : W2.heap[w.heap.size]? = some (.cells zeroNd 44 (0, 0)) := (hE2.block _ (by omega)).trans (by rw [hW1]; exact heap_alloc_new w _)
  have hA : Cells W2.heap.size W2 (some ⟨w.heap.size + 1, 0, none⟩) (acCs [rootAc]) := fun j u hj => by
    refine ⟨_, 0, rfl, by omega, ?_⟩
    have h := heap_alloc_new W1 (.cells #[.int .i32 31, .string ⟨#[119, 111, 114, 108, 100]⟩, .string ⟨#[97, 110, 121, 111, 110, 101]⟩] 129)
    rw [← hW2, hz1] at h
    rw [Nat.zero_add, cell_of_row _ _ _ _ _ _ h]
    simpa [acCs, acC, rootAc] using hj
  have C1 := rnew_any rootP [] [rootAc] 0 0 0 none (some ⟨w.heap.size + 1, 0, none⟩) 0 1 W2 (right_fit rootN_right).1 (Cells.nil _ _ _) hA
  have hW : (w.alloc (.cells zeroNd 44)).alloc (.cells #[.int .i32 31, .string ⟨#[119, 111, 114, 108, 100]⟩, .string ⟨#[97, 110, 121, 111, 110, 101]⟩] 129) = W2 := by rw [hW2, hW1]
  have HW := Lib.hid hW
  have HR2 := Lib.hid hr2
  have HE2 := Lib.hid (hE1.trans hE2)
  have C1 := Lib.hid C1
  unfold zeroNd at HW HR2
  unfold rootP at C1
  clear hW hA hr2 hE1 hE2 hW2 hW1
  go_enter Tryz.func59, Tryz.ntmps59
  go_wp2_with fail
  rw [HW.out]
  refine C1.out.mono ?_
  rintro e w3 ⟨v, rfl, hN, hE3⟩
  have hE3 : Ext W2 w3 := hE3
  obtain ⟨va, vc, vb, vd, rfl, h1, h2⟩ := hN
  have hz3 := hE3.size
  have hr3 := (hE3.block w.heap.size (by omega)).trans HR2.out
  obtain ⟨cs, hcs⟩ : ∃ cs, cs = ndC rootN (.slice va 0 vc) (.slice vb 1 vd) := ⟨_, rfl⟩
  have hr4 := setRow_heap w3 w.heap.size _ cs 44 (0, 0) hr3
  have hs4 : (w3.setRow w.heap.size cs).heap.size = w3.heap.size := by simp [World.setRow]
  have hE4 : Ext w (w3.setRow w.heap.size cs) := (HE2.out.trans hE3).trans' ⟨rfl, rfl, rfl, by rw [hs4]; exact Nat.le_refl _, fun k hk => setRow_other _ _ _ _ (by omega)⟩
  have hk : ∀ (b o : Nat) u, (W2.heap.size ≤ b ∧ b < w3.heap.size) → w3.cell? ⟨b, o, none⟩ = some u → (w3.setRow w.heap.size cs).cell? ⟨b, o, none⟩ = some u := fun b o u hb hu =>
    (World.cell?_of_block (setRow_other _ _ _ _ (show b ≠ w.heap.size by have := hb.1; omega))).trans hu
  have hfin : CloneNew rootN w (.returned (.agg cs)) (w3.setRow w.heap.size cs) := ⟨_, rfl, ⟨va, vc, vb, vd, by rw [hcs]; rfl, h1.imp (fun b hb => ⟨by omega, by omega⟩) hk, h2.imp (fun b hb => ⟨by omega, by omega⟩) hk⟩, hE4⟩
  have HFIN := Lib.hid hfin
  have HR3 := Lib.hid hr3
  have HR4 := Lib.hid hr4
  have HONE := Lib.hid (show cs.all (·.oneCell') = true by rw [hcs]; exact cells_node rootN va vb 0 1 vc vd)
  have HSZ := Lib.hid (show (Tryz.prog.info? 44).map (·.size) = some cs.size by rw [hcs]; exact sizeNd)
  have HS17 := Lib.hid (show cs.size = 17 by rw [hcs]; rfl)
  have hcs2 : ndC (newN ⟨#[47]⟩ [] [rootAc] 0 0 0) (.slice va (newN ⟨#[47]⟩ [] [rootAc] 0 0 0).data.length vc) (.slice vb (newN ⟨#[47]⟩ [] [rootAc] 0 0 0).acl.length vd) = cs := by rw [hcs]; rfl
  rw [hcs2]
  clear hfin hr3 hr4 hE4 hE3 h1 h2 C1 hk hcs hcs2
  go_wp2_with (refine wpList_store_row rfl 44 (.tmp 0) (.tmp 4) rfl w.heap.size _ rfl rfl 44 _ HR3.out HSZ.out (by rw [HS17.out]; rfl) HONE.out ?_)
  refine bodyPost_ret (v := .agg cs) ?_ rfl HFIN.out
  exact results_cell_row (p := 0) (ty := 44) rfl _ _ w.heap.size 44 cs (0, 0) _ rfl HR4.out Tryz.underlying44 rfl HSZ.out
end Go.Proofs.YthinpbdbhijbgaaGreatDoor
namespace Go.Proofs.YthinpbdbhijbgaaGreatDoor
open Go.RowKit
set_option maxHeartbeats 1000000

/-- The steps from a path to the root: is s among them? -/
def undF : Nat → ByteArray → ByteArray → Bool
  | 0, p, s => p.data == s.data
  | f + 1, p, s => p.data == s.data || (p.size != 1 && undF f (parentB p) s)
def und (p s : ByteArray) : Bool := undF p.size p s

/-- Each node's parent is there. -/
def Clo (M : List (Key × Nd)) : Prop := ∀ x ∈ M, x.2.path.size ≠ 1 → ∃ y ∈ M, y.2.path = parentB x.2.path

theorem und_self (p : ByteArray) : und p p = true := by
  unfold und
  cases p.size <;> simp [undF]

theorem und_size {M : List (Key × Nd)} (hM : MOk M) (hc : Clo M) : ∀ (f : Nat) (x : Key × Nd), x ∈ M → ∀ s, undF f x.2.path s = true → s.size ≤ x.2.path.size
  | 0, x, _, s, h => by
    have : x.2.path = s := by
      simp only [undF, beq_iff_eq] at h
      exact ByteArray.ext h
    rw [this]; exact Nat.le_refl _
  | f + 1, x, hx, s, h => by
    simp only [undF, Bool.or_eq_true, beq_iff_eq, Bool.and_eq_true, bne_iff_ne, ne_eq] at h
    rcases h with h | ⟨h1, h⟩
    · have : x.2.path = s := ByteArray.ext h
      rw [this]; exact Nat.le_refl _
    · obtain ⟨y, hy, ey⟩ := hc x hx h1
      have := und_size hM hc f y hy s (by rw [ey]; exact h)
      have hs := (path_split (right_vpath (hM.right x hx)) h1).2.2.1
      rw [ey] at this
      omega

theorem MOk.pos {M : List (Key × Nd)} (hM : MOk M) {x : Key × Nd} (hx : x ∈ M) : 0 < x.2.path.size := by
  have := (vpath_facts (right_vpath (hM.right x hx))).1
  omega

theorem und_fuel {M : List (Key × Nd)} (hM : MOk M) (hc : Clo M) : ∀ (f g : Nat) (x : Key × Nd), x ∈ M → x.2.path.size ≤ f → x.2.path.size ≤ g → ∀ s, undF f x.2.path s = undF g x.2.path s
  | 0, _, x, hx, hf, _, s => by have := hM.pos hx; omega
  | _ + 1, 0, x, hx, _, hg, s => by have := hM.pos hx; omega
  | f + 1, g + 1, x, hx, hf, hg, s => by
    simp only [undF]
    by_cases h1 : x.2.path.size = 1
    · simp only [h1, bne_self_eq_false, Bool.false_and]
    · obtain ⟨y, hy, ey⟩ := hc x hx h1
      have hs := (path_split (right_vpath (hM.right x hx)) h1).2.2.1
      have e1 := und_fuel hM hc f g y hy (by rw [ey]; omega) (by rw [ey]; omega) s
      rw [ey] at e1
      rw [e1]

theorem und_one {M : List (Key × Nd)} (hM : MOk M) {x : Key × Nd} (hx : x ∈ M) (h1 : x.2.path.size = 1) (s : ByteArray) : und x.2.path s = (x.2.path.data == s.data) := by
  unfold und
  rw [h1]
  simp only [undF, h1, bne_self_eq_false, Bool.false_and, Bool.or_false]

theorem und_up {M : List (Key × Nd)} (hM : MOk M) (hc : Clo M) {x y : Key × Nd} (hx : x ∈ M) (hy : y ∈ M) (h1 : x.2.path.size ≠ 1) (ey : y.2.path = parentB x.2.path) (s : ByteArray) :
    und x.2.path s = (x.2.path.data == s.data || und y.2.path s) := by
  have hp := hM.pos hx
  have hs := (path_split (right_vpath (hM.right x hx)) h1).2.2.1
  obtain ⟨g, hg⟩ : ∃ g, x.2.path.size = g + 1 := ⟨x.2.path.size - 1, by omega⟩
  have e1 := und_fuel hM hc g y.2.path.size y hy (by rw [ey]; omega) (Nat.le_refl _) s
  have h2 : (x.2.path.size != 1) = true := by simpa using h1
  unfold und
  rw [hg]
  simp only [undF]
  rw [hg] at h2
  rw [hg, h2, ← ey, e1, Bool.true_and]

theorem und_le {M : List (Key × Nd)} (hM : MOk M) (hc : Clo M) {x : Key × Nd} (hx : x ∈ M) {s : ByteArray} (h : und x.2.path s = true) : s.size ≤ x.2.path.size := und_size hM hc _ x hx s h

section sums
variable {α β : Type}
end sums

/-- A list that holds s and the children of each that it holds has all that is under s. -/
theorem und_closed {M : List (Key × Nd)} (hM : MOk M) (hc : Clo M) (s : ByteArray) (l : List ByteArray) (hs : s ∈ l) (hl : ∀ x ∈ M, x.2.path.size ≠ 1 → parentB x.2.path ∈ l → x.2.path ∈ l) :
    ∀ (f : Nat) (x : Key × Nd), x ∈ M → x.2.path.size ≤ f → und x.2.path s = true → x.2.path ∈ l
  | 0, x, hx, hf, _ => by have := hM.pos hx; omega
  | f + 1, x, hx, hf, h => by
    by_cases h1 : x.2.path.size = 1
    · rw [und_one hM hx h1] at h
      rw [ByteArray.ext (beq_iff_eq.1 h)]; exact hs
    · obtain ⟨y, hy, ey⟩ := hc x hx h1
      have hsz := (path_split (right_vpath (hM.right x hx)) h1).2.2.1
      rw [und_up hM hc hx hy h1 ey, Bool.or_eq_true] at h
      rcases h with h | h
      · rw [ByteArray.ext (beq_iff_eq.1 h)]; exact hs
      · exact hl x hx h1 (by rw [← ey]; exact und_closed hM hc s l hs hl f y hy (by rw [ey]; omega) h)

theorem und_child {M : List (Key × Nd)} (hM : MOk M) (hc : Clo M) {x y : Key × Nd} (hx : x ∈ M) (hy : y ∈ M) (h : childOf y.2.path x.2 = true) (s : ByteArray) (hu : und y.2.path s = true) : und x.2.path s = true := by
  obtain ⟨h1, h2⟩ := childOf_iff.1 h
  rw [und_up hM hc hx hy h1 h2.symm, hu, Bool.or_true]
end Go.Proofs.YthinpbdbhijbgaaGreatDoor
namespace Go.Proofs.YthinpbdbhijbgaaGreatDoor
open Go.RowKit

theorem dec_take {s t : ByteArray} {i : Nat} (hi : i < s.size) (h47 : bat s i = 47) (ht : t.size = i) (hb : ∀ k, k < i → bat t k = bat s k) (p : Nat) (hp : p < i) : Utf8.decode t p = Utf8.decode s p := by
  have c : ∀ k, p + k ≤ i → (decide (p + k < t.size) && bat t (p + k) / 64 == 2) = (decide (p + k < s.size) && bat s (p + k) / 64 == 2) := fun k hk => by
    by_cases h : p + k < i
    · rw [hb _ h, ht]
      simp only [h, decide_true, Bool.true_and, show p + k < s.size by omega]
    · obtain e : p + k = i := by omega
      rw [e, h47, ht]
      simp
  have f : ∀ k, i ≤ p + k → (decide (p + k < t.size) && bat t (p + k) / 64 == 2) = false := fun k hk => by
    rw [ht]
    simp only [show ¬ p + k < i by omega, decide_false, Bool.false_and]
  have g : ∀ k, p + k = i → (decide (p + k < s.size) && bat s (p + k) / 64 == 2) = false := fun k hk => by
    rw [hk, h47]
    simp
  rw [dec_eq, dec_eq]
  simp only [hb p hp]
  by_cases h1 : p + 1 = i
  · have a1 := f 1 (by omega)
    have b1 := g 1 h1
    simp only [a1, b1, Bool.and_false, Bool.false_and, Bool.false_eq_true, if_false]
  · have e1 := c 1 (by omega)
    have v1 := hb (p + 1) (by omega)
    by_cases h2 : p + 2 = i
    · have a2 := f 2 (by omega)
      have b2 := g 2 h2
      simp only [e1, a2, b2]
      simp only [v1, Bool.and_false, Bool.false_and, Bool.false_eq_true, if_false]
    · have e2 := c 2 (by omega)
      have v2 := hb (p + 2) (by omega)
      by_cases h3 : p + 3 = i
      · have a3 := f 3 (by omega)
        have b3 := g 3 h3
        simp only [e1, e2, a3, b3]
        simp only [v1, v2, Bool.and_false, Bool.false_and, Bool.false_eq_true, if_false]
      · have e3 := c 3 (by omega)
        have v3 := hb (p + 3) (by omega)
        simp only [e1, e2, e3]
        simp only [v1, v2, v3]

theorem part_take {s t : ByteArray} {i : Nat} (hi : i < s.size) (h47 : bat s i = 47) (ht : t.data.toList = s.data.toList.take i) (p : Nat) (hp : p ≤ i) : partL t p = partL s p := by
  unfold partL
  have e : s.data.toList.drop p = (s.data.toList.take i).drop p ++ 47 :: s.data.toList.drop (i + 1) := by
    rw [← drop_at_slash hi h47]
    conv => lhs; rw [← List.take_append_drop i s.data.toList]
    rw [List.drop_append_of_le_length (by rw [List.length_take, size_list]; omega)]
  rw [e, ht, List.takeWhile_append]
  split
  · rename_i h
    simp
    have : List.takeWhile (fun x => x != 47) (List.drop p (List.take i s.data.toList)) = List.drop p (List.take i s.data.toList) := by
      exact (List.takeWhile_prefix _).eq_of_length h
    exact this
  · rfl

theorem bat_take {s t : ByteArray} {i : Nat} (hi : i ≤ s.size) (ht : t.data.toList = s.data.toList.take i) (hts : t.size = i) (k : Nat) (hk : k < i) : bat t k = bat s k := by
  rw [bat_get t k (by omega), bat_get s k (by omega)]
  have h1 : t[k]'(by omega) = t.data.toList[k]'(by rw [size_list]; omega) := by rw [Array.getElem_toList]; rfl
  have h2 : s[k]'(by omega) = s.data.toList[k]'(by rw [size_list]; omega) := by rw [Array.getElem_toList]; rfl
  rw [h1, h2]
  simp only [ht, List.getElem_take]

theorem scan_take {s t : ByteArray} {i : Nat} (hi : i < s.size) (h47 : bat s i = 47) (ht : t.data.toList = s.data.toList.take i) (hts : t.size = i) :
    ∀ (n p : Nat), i ≤ p + n → scanAt s p = true → scanAt t p = true
  | 0, p, hn, h => scanAt_end t p (by omega)
  | n + 1, p, hn, h => by
    by_cases hp : p < i
    · have hd := dec_take hi h47 hts (fun k hk => bat_take (by omega) ht hts k hk) p hp
      have d := (dec s p (by omega)).pos
      rw [scanAt_step s p (by omega)] at h
      rw [scanAt_step t p (by omega), hd]
      simp only [Bool.and_eq_true] at h ⊢
      refine ⟨⟨h.1.1, ?_⟩, scan_take hi h47 ht hts n _ (by omega) h.2⟩
      have h2 := h.1.2
      unfold sep dots at h2 ⊢
      rw [part_take hi h47 ht (p + 1) (by omega), bat_take (by omega) ht hts p hp]
      by_cases h0 : 0 < p
      · rw [bat_take (by omega) ht hts (p - 1) (by omega)]
        exact h2
      · have : p = 0 := by omega
        subst this
        simpa using h2
    · exact scanAt_end t p (by omega)

theorem vpath_slash : vpath ⟨#[47]⟩ = true := by decide +kernel
/-- The parent of a path is a path. -/
theorem vpath_parent {s : ByteArray} (h : vpath s = true) (h1 : s.size ≠ 1) : vpath (parentB s) = true := by
  obtain ⟨i, e, hi, h47, hn⟩ := lastS_spec h
  obtain ⟨g1, g2, g3, g4⟩ := vpath_facts h
  have eL : (parentB s).data.toList = s.data.toList.take (max i 1) := by
    unfold parentB
    rw [extract_list, e, List.drop_zero]
    congr 1
    omega
  by_cases h0 : i = 0
  · subst h0
    have : parentB s = ⟨#[47]⟩ := by
      apply ba_ext
      rw [eL]
      have := drop_at_slash (s := s) (i := 0) (by omega) g3
      rw [List.drop_zero] at this
      rw [this]; rfl
    rw [this]; exact vpath_slash
  · have hi1 : i ≠ 1 := by
      intro e1
      subst e1
      exact vpath_noadj h 0 (by omega) g3 h47
    rw [show max i 1 = i by omega] at eL
    have hts : (parentB s).size = i := by rw [← size_list, eL, List.length_take, size_list]; omega
    have hb := fun k hk => bat_take (by omega) eL hts k hk
    rcases g4 with g4 | ⟨_, g4⟩
    · omega
    · have hsc := scan_take hi h47 eL hts i 0 (by omega) g4
      have hlast : bat (parentB s) (i - 1) ≠ 47 := by
        rw [hb (i - 1) (by omega)]
        intro h2
        exact vpath_noadj h (i - 1) (by omega) h2 (by rw [show i - 1 + 1 = i by omega]; exact h47)
      have h3 : bat (parentB s) 0 = 47 := by rw [hb 0 (by omega)]; exact g3
      unfold vpath
      unfold scanAt at hsc
      rw [hts] at hsc ⊢
      simp only [Bool.and_eq_true, Bool.or_eq_true, bne_iff_ne, beq_iff_eq, decide_eq_true_eq, ne_eq]
      exact ⟨⟨⟨by omega, by omega⟩, h3⟩, .inr ⟨hlast, hsc⟩⟩

/-- A step towards the root, of any path. -/
theorem undV_fuel : ∀ (f g : Nat) (p : ByteArray), vpath p = true → p.size ≤ f → p.size ≤ g → ∀ s, undF f p s = undF g p s
  | 0, _, p, hv, hf, _, s => by have := (vpath_facts hv).1; omega
  | _ + 1, 0, p, hv, hf, hg, s => by have := (vpath_facts hv).1; omega
  | f + 1, g + 1, p, hv, hf, hg, s => by
    simp only [undF]
    by_cases h1 : p.size = 1
    · simp only [h1, bne_self_eq_false, Bool.false_and]
    · have hs := (path_split hv h1).2.2.1
      rw [undV_fuel f g (parentB p) (vpath_parent hv h1) (by omega) (by omega) s]
theorem undV_one {p : ByteArray} (h1 : p.size = 1) (s : ByteArray) : und p s = (p.data == s.data) := by
  unfold und
  rw [h1]
  simp only [undF, h1, bne_self_eq_false, Bool.false_and, Bool.or_false]
theorem undV_up {p : ByteArray} (hv : vpath p = true) (h1 : p.size ≠ 1) (s : ByteArray) : und p s = (p.data == s.data || und (parentB p) s) := by
  have hp := (vpath_facts hv).1
  have hs := (path_split hv h1).2.2.1
  obtain ⟨g, hg⟩ : ∃ g, p.size = g + 1 := ⟨p.size - 1, by omega⟩
  have e1 := undV_fuel g (parentB p).size (parentB p) (vpath_parent hv h1) (by omega) (Nat.le_refl _) s
  have h2 : (p.size != 1) = true := by simpa using h1
  unfold und
  rw [hg]
  simp only [undF]
  rw [h2, e1, Bool.true_and]
/-- What a path is under is a path. -/
theorem undV_path : ∀ (n : Nat) (p : ByteArray), p.size ≤ n → vpath p = true → ∀ s, und p s = true → vpath s = true
  | 0, p, hn, hv, s, _ => by have := (vpath_facts hv).1; omega
  | n + 1, p, hn, hv, s, h => by
    by_cases h1 : p.size = 1
    · rw [undV_one h1] at h
      rw [← ByteArray.ext (beq_iff_eq.1 h)]; exact hv
    · rw [undV_up hv h1] at h
      simp only [Bool.or_eq_true] at h
      rcases h with h | h
      · rw [← ByteArray.ext (beq_iff_eq.1 h)]; exact hv
      · have hs := (path_split hv h1).2.2.1
        exact undV_path n (parentB p) (by omega) (vpath_parent hv h1) s h
end Go.Proofs.YthinpbdbhijbgaaGreatDoor
namespace Go.Proofs.YthinpbdbhijbgaaGreatDoor
open Go.RowKit
set_option maxHeartbeats 2000000
set_option maxRecDepth 100000

def zeroStat : Array Value := #[.int .i64 0, .int .i64 0, .int .i64 0, .int .i64 0, .int .i32 0, .int .i32 0, .int .i32 0, .int .i64 0, .int .i32 0, .int .i32 0, .int .i64 0]
end Go.Proofs.YthinpbdbhijbgaaGreatDoor
namespace Go.Proofs.YthinpbdbhijbgaaGreatDoor
open Go.RowKit
section
variable {P : Program} {ops : Array Oper} {Q : Exit → Act → World → Prop} {a0 : Act} {w0 : World}
end
end Go.Proofs.YthinpbdbhijbgaaGreatDoor
namespace Go.Proofs.YthinpbdbhijbgaaGreatDoor
open Go.RowKit
section
variable {P : Program} {ops : Array Oper} {Q : Exit → Act → World → Prop} {a0 : Act} {w0 : World}

/-- Does i wait for j? -/
def reachB (ops : Array Oper) : Nat → Nat → Nat → Bool
  | 0, i, j => i == j
  | f + 1, i, j => i == j || (ops[i]?.any fun o => o.after.toList.any fun e => Region.binds .any e && reachB ops f e.on j)
def Closed (ops : Array Oper) (l : Array Bool) : Prop := ∀ (i : Nat) o, ops[i]? = some o → l.getD i false = true → ∀ e ∈ o.after.toList, Region.binds .any e = true → l.getD e.on false = true
theorem Closed.reach {l : Array Bool} (h : Closed ops l) : ∀ (f i j : Nat), reachB ops f i j = true → l.getD i false = true → l.getD j false = true
  | 0, i, j, hr, hi => by simp [reachB] at hr; rw [← hr]; exact hi
  | f + 1, i, j, hr, hi => by
    simp only [reachB, Bool.or_eq_true, beq_iff_eq] at hr
    rcases hr with rfl | hr
    · exact hi
    · obtain ⟨o, ho, he⟩ := (Option.any_eq_true _ _).1 hr
      obtain ⟨e, hem, h2⟩ := List.any_eq_true.1 he
      simp only [Bool.and_eq_true] at h2
      exact h.reach f e.on j h2.2 (h i o ho hi e hem h2.1)

/-- An operation's duty: p is the one that turns memory; b: has it been? -/
def DutyP (P : Program) (ops : Array Oper) (Q : Exit → Act → World → Prop) (p : Nat) (G : Bool → World → Prop) (Φ : Nat → Value → World → Prop) (a0 : Act) (i : Nat) (o : Oper) : Prop :=
  ∀ b a w, (reachB ops ops.size p i = true → b = false) → (p < i → b = true) → G b w → Framed ops a0 a → Ahead ops Φ o a w →
    o.wp P a w (fun a' w' => ∃ v, a' = a.put o.dst v ∧ Φ i v w' ∧ (∀ j u, j ≠ i → (i = p → j < p) → Φ j u w → Φ j u w') ∧ G (b || i == p) w') Q
def DutiesP (P : Program) (ops : Array Oper) (Q : Exit → Act → World → Prop) (p : Nat) (G : Bool → World → Prop) (Φ : Nat → Value → World → Prop) (a0 : Act) : Nat → List Oper → Prop
  | _, [] => True
  | i, o :: l => DutyP P ops Q p G Φ a0 i o ∧ DutiesP P ops Q p G Φ a0 (i + 1) l
theorem DutiesP.at {p : Nat} {G : Bool → World → Prop} {Φ : Nat → Value → World → Prop} : ∀ {l : List Oper} {k : Nat}, DutiesP P ops Q p G Φ a0 k l → ∀ i o, l[i]? = some o → DutyP P ops Q p G Φ a0 (k + i) o
  | [], _, _, i, o, h => by simp at h
  | q :: l, k, hd, 0, o, h => by simp at h; subst h; exact hd.1
  | q :: l, k, hd, i + 1, o, h => by
    have := DutiesP.at (k := k + 1) hd.2 i o (by simpa using h)
    rwa [show k + 1 + i = k + (i + 1) from by omega] at this

end
end Go.Proofs.YthinpbdbhijbgaaGreatDoor
namespace Go.Proofs.YthinpbdbhijbgaaGreatDoor
open Go.RowKit
section
variable {P : Program} {ops : Array Oper} {Q : Exit → Act → World → Prop} {a0 : Act} {w0 : World}

/-- An operation's duty; l: which are done. Φ speaks of values alone. -/
def DutyS (P : Program) (ops : Array Oper) (Q : Exit → Act → World → Prop) (G : (Nat → Bool) → World → Prop) (Φ : Nat → Value → Prop) (a0 : Act) (i : Nat) (o : Oper) : Prop :=
  ∀ (d : Nat → Bool) a w, d i = false → (∀ f k j, reachB ops f k j = true → d k = true → d j = true) → (∀ e ∈ o.after.toList, Region.binds .any e = true → d e.on = true) → G d w → Framed ops a0 a → Ahead ops (fun i v _ => Φ i v) o a w →
    o.wp P a w (fun a' w' => ∃ v, a' = a.put o.dst v ∧ Φ i v ∧ G (fun k => d k || k == i) w') Q
def DutiesS (P : Program) (ops : Array Oper) (Q : Exit → Act → World → Prop) (G : (Nat → Bool) → World → Prop) (Φ : Nat → Value → Prop) (a0 : Act) : Nat → List Oper → Prop
  | _, [] => True
  | i, o :: l => DutyS P ops Q G Φ a0 i o ∧ DutiesS P ops Q G Φ a0 (i + 1) l
theorem DutiesS.at {G : (Nat → Bool) → World → Prop} {Φ : Nat → Value → Prop} : ∀ {l : List Oper} {k : Nat}, DutiesS P ops Q G Φ a0 k l → ∀ i o, l[i]? = some o → DutyS P ops Q G Φ a0 (k + i) o
  | [], _, _, i, o, h => by simp at h
  | q :: l, k, hd, 0, o, h => by simp at h; subst h; exact hd.1
  | q :: l, k, hd, i + 1, o, h => by
    have := DutiesS.at (k := k + 1) hd.2 i o (by simpa using h)
    rwa [show k + 1 + i = k + (i + 1) from by omega] at this

theorem region_state (m : Nat) (G : (Nat → Bool) → World → Prop) (hG0 : G (fun _ => false) w0.drew) (Φ : Nat → Value → Prop)
    (hchk : (dstsOk ops && aheadB ops && (ops.toList.all fun o => o.guard.isNone && o.dst.any fun d => decide (d < m))) = true) (hsz : a0.tmps.size = m)
    (hd : DutiesS P ops Q G Φ a0 0 ops.toList)
    (hend : ∀ us d w, (∀ i, i < ops.size → d i = true) → G d w → us.length = ops.toList.length → (∀ i u, us[i]? = some u → Φ i u) → Q .normal (filled ops.toList us a0) w) :
    RegionP P ops Q a0 w0 := by
  simp only [Bool.and_eq_true] at hchk
  obtain ⟨⟨hdst, hacy⟩, hall⟩ := hchk
  have hdd : ∀ o ∈ ops.toList, ∃ d, o.dst = some d ∧ d < a0.tmps.size := fun o ho => by
    have := List.all_eq_true.1 hall o ho
    simp only [Bool.and_eq_true] at this
    have h2 := this.2
    cases hq : o.dst with
    | none => rw [hq] at h2; cases h2
    | some d => rw [hq] at h2; exact ⟨d, rfl, by rw [hsz]; simpa using h2⟩
  have hin : ∀ o ∈ ops.toList, ∀ d, o.dst = some d → d < a0.tmps.size := fun o ho d hd => by
    obtain ⟨d', h1, h2⟩ := hdd o ho
    rw [hd] at h1
    rw [Option.some.inj h1]; exact h2
  have hng : ∀ o ∈ ops.toList, o.guard = none := fun o ho => by
    have := List.all_eq_true.1 hall o ho
    simp only [Bool.and_eq_true] at this
    simpa using this.1
  have hdn : (ops.toList.filterMap (·.dst)).Nodup := by simpa [dstsOk] using hdst
  unfold RegionP
  refine wpAny_inv (fun l a w => l.size = ops.size ∧ G (fun k => l.getD k false) w ∧ Framed ops a0 a ∧ (∀ i o, ops[i]? = some o → l.getD i false = true → Φ i (valOf o a)) ∧ Closed ops l) (fun _ _ _ h => h.1) ?_ ?_ _ _ _ _ ?_ ?_
  · rintro l a w i ⟨hs, hE, hF, hP, hC⟩ hi
    obtain ⟨hlt, hu, hpre⟩ := (ready_iff hs).1 hi
    have ho : ops[i]? = some ops[i] := Array.getElem?_eq_getElem hlt
    have hol : ops.toList[i]? = some ops[i] := by simp
    have hmem : ops[i] ∈ ops.toList := by simp
    have hduty := hd.at i ops[i] hol
    rw [Nat.zero_add] at hduty
    have hgo := hduty (fun k => l.getD k false) a w hu (fun f k j h hk => hC.reach f k j h hk) (fun e he hb => hpre e he hb) hE hF (fun e he hb q hq => hP e.on q hq (hpre e he hb))
    unfold wpOpP
    rw [ho]
    simp only []
    rw [if_pos (by unfold Region.wanted; rw [hng _ hmem])]
    refine Oper.wp_mono (fun a' w' h => ?_) hgo
    obtain ⟨v, rfl, hv, hG'⟩ := h
    have hgp : (fun k => (l.setIfInBounds i true).getD k false) = fun k => l.getD k false || k == i := by
      funext k
      by_cases e : k = i
      · subst e
        rw [getD_set_same (by omega)]; simp
      · rw [getD_set_other e]
        have : (k == i) = false := by simpa using e
        rw [this, Bool.or_false]
    refine ⟨by simpa using hs, by rw [hgp]; exact hG', framed_put hF hmem v, fun j o hj hlj => ?_, fun j o hj hlj e he hb => ?_⟩
    · by_cases e : j = i
      · subst e
        rw [ho] at hj
        obtain rfl := Option.some.inj hj
        obtain ⟨d, hd1, _⟩ := hdd _ hmem
        rw [valOf_put_same (fun d hd => by rw [hF.2.1]; exact hin _ hmem d hd) (fun h => by rw [hd1] at h; cases h)]
        exact hv
      · rw [getD_set_other e] at hlj
        rw [valOf_put_other (fun d hd h => e (dst_inj ops.toList hdn j i o ops[i] d (by simpa using hj) hol hd h))]
        exact hP j o hj hlj
    · by_cases hei : e.on = i
      · rw [hei]; exact getD_set_same (by omega)
      · rw [getD_set_other hei]
        by_cases hji : j = i
        · subst hji
          rw [ho] at hj
          obtain rfl := Option.some.inj hj
          exact hpre e he hb
        · rw [getD_set_other hji] at hlj
          exact hC j o hj hlj e he hb
  · rintro l a w ⟨hs, hE, hF, hP, _⟩ hr
    have hdone : ∀ i, i < ops.size → l.getD i false = true := fun i hi => ready_none hs hacy hr (i + 1) i (by omega) hi
    rw [framed_filled hF ops.toList (fun _ h => h) (fun _ h => .inl h) hin]
    refine hend _ _ w hdone hE (by simp) fun i u hu => ?_
    rw [List.getElem?_map, Option.map_eq_some_iff] at hu
    obtain ⟨o, ho, rfl⟩ := hu
    exact hP i o (by simpa using ho) (hdone i (Array.getElem?_eq_some_iff.1 (show ops[i]? = some o by simpa using ho)).1)
  · have hf : ∀ i, (Array.replicate ops.size false).getD i false = false := fun i => by
      rw [Array.getD_eq_getD_getElem?, Array.getElem?_replicate]; split <;> rfl
    refine ⟨by simp, by simp only [hf]; exact hG0, ⟨rfl, rfl, fun _ _ => rfl⟩, ?_, ?_⟩
    · intro i o _ h
      rw [hf] at h; cases h
    · intro i o _ h
      rw [hf] at h; cases h
  · unfold unlisted
    exact Nat.le_trans (List.count_le_length) (by simp)

theorem region_state_vals (m : Nat) (G : (Nat → Bool) → World → Prop) (hG0 : G (fun _ => false) w0.drew) (vals : List Value) (hlen : vals.length = ops.toList.length)
    (hchk : (dstsOk ops && aheadB ops && (ops.toList.all fun o => o.guard.isNone && o.dst.any fun d => decide (d < m))) = true) (hsz : a0.tmps.size = m)
    (hd : DutiesS P ops Q G (fun i v => vals[i]? = some v) a0 0 ops.toList)
    (hend : ∀ d w, (∀ i, i < ops.size → d i = true) → G d w → Q .normal (filled ops.toList vals a0) w) : RegionP P ops Q a0 w0 := by
  refine region_state m G hG0 (fun i v => vals[i]? = some v) hchk hsz hd fun us d w hdn hG hl hP => ?_
  have : us = vals := List.ext_getElem? fun i => by
    by_cases hi : i < us.length
    · rw [hP i us[i] (List.getElem?_eq_getElem hi), List.getElem?_eq_getElem hi]
    · rw [List.getElem?_eq_none (by omega), List.getElem?_eq_none (by omega)]
  rw [this]
  exact hend d w hdn hG

end
end Go.Proofs.YthinpbdbhijbgaaGreatDoor
namespace Go.Proofs.YthinpbdbhijbgaaGreatDoor
open Go.RowKit
section
variable {P : Program} {ops : Array Oper} {Q : Exit → Act → World → Prop} {a0 : Act} {w0 : World}

end
end Go.Proofs.YthinpbdbhijbgaaGreatDoor
namespace Go.Proofs.YthinpbdbhijbgaaGreatDoor
open Go.RowKit
set_option maxHeartbeats 2000000
set_option maxRecDepth 100000

/-- The children's names of a path, as the map that is looked up. -/
theorem TreeAt.kids_look {S : Nat → Prop} {w : World} {bt : Nat} {M : List (Key × Nd)} {N : Nat} (hT : TreeAt S w bt M N) (s : ByteArray) (hs : s.size ≤ maxLen) :
    ∃ (bn bk : Nat) (mb : Option Nat), (∀ b, mb = some b → S b) ∧ ∀ W : World, (∀ k, S k → W.heap[k]? = w.heap[k]?) → Box W bt (treeC bn bk) ∧ (Instr.lookup 121 (.map (some bk)) (.string s) false).run Tryz.prog W = .ok (.map mb) W ∧
      (∀ b, mb = some b → SMap Tryz.prog 9 W b (kidsOf M s)) ∧ (mb = none → kidsOf M s = []) ∧ ∀ ty, (Builtin.len_ #[157] ty #[.map mb]).run Tryz.prog W = .ok (.int .i64 (kidsOf M s).length) W := by
  obtain ⟨bn, bk, K, hd, hNd, hKd⟩ := hT
  have hbox : ∀ W : World, (∀ k, S k → W.heap[k]? = w.heap[k]?) → Box W bt (treeC bn bk) := fun W h j => cell_of_row _ _ _ _ _ _ ((h bt hd.st).trans hd.blk)
  have hlk : ∀ W : World, (∀ k, S k → W.heap[k]? = w.heap[k]?) → (Instr.lookup 121 (.map (some bk)) (.string s) false).run Tryz.prog W = .ok ((mget (kidsV K) s.data.toList).getD (.map none)) W := fun W h =>
    SMap.look (e := 157) (hKd.map.keep (h bk hd.sk)) strT Tryz.underlying121 (z := .map none) (by kernel_rfl) hs
  cases hk : mget K s.data.toList with
  | some b =>
    have hq := hKd.each _ (mget_some_mem hk)
    have hS := hq.1
    have hSM := hq.2.2.2
    rw [key_bytes] at hSM
    have e : (mget (kidsV K) s.data.toList).getD (.map none) = .map (some b) := by rw [kidsV_get, hk]; rfl
    rw [e] at hlk
    refine ⟨bn, bk, some b, fun x hx => by cases hx; exact hS, fun W h => ⟨hbox W h, hlk W h, fun x hx => by cases hx; exact hSM.keep (h b hS), fun hx => (by cases hx), fun ty => ?_⟩⟩
    exact SMap.len (e := 205) (hSM.keep (h b hS)) Tryz.underlying157 ty
  | none =>
    have e : (mget (kidsV K) s.data.toList).getD (.map none) = .map none := by rw [kidsV_get, hk]; rfl
    rw [e] at hlk
    have hno := hKd.rest _ hk
    refine ⟨bn, bk, none, fun x hx => (by cases hx), fun W h => ⟨hbox W h, hlk W h, fun x hx => (by cases hx), fun _ => hno, fun ty => ?_⟩⟩
    rw [hno]
    exact run_len_nilMap (P := Tryz.prog) W 157 ty (by kernel_rfl)

/-- What the region has done. -/
def StG (W3 : World) (gs : Nat) (cs : Array Value) (d : Nat → Bool) (W : World) : Prop :=
  Chg (· = gs) W3 W ∧ W.heap[gs]? = some (.cells (if d 9 = true then cs else zeroStat) 139 (0, 0))
theorem StG.ext {W3 : World} {gs : Nat} {cs : Array Value} {i : Nat} (hi : i ≠ 9) (d d' : Nat → Bool) (w w' : World) (h : StG W3 gs cs d w) (he : Ext w w') (hd : ∀ k, k ≠ i → d' k = d k) : StG W3 gs cs d' w' := by
  obtain ⟨h1, h2⟩ := h
  refine ⟨h1.trans (Chg.of_ext (S := fun _ => False) he) (fun _ _ h => h.elim), ?_⟩
  rw [hd 9 (Ne.symm hi), he.block gs (Array.getElem?_eq_some_iff.1 h2).1]
  exact h2
end Go.Proofs.YthinpbdbhijbgaaGreatDoor
namespace Go.Proofs.YthinpbdbhijbgaaGreatDoor
open Go.RowKit
set_option maxHeartbeats 1000000

section
variable {P : Program} {ops : Array Oper} {rest : List Oper} {o : Oper} {a : Act} {Q : Exit → Act → World → Prop}
theorem wpList_next_left (w : World) (hg : o.guard = none) (it : Operand) (hop : o.op = Op.next it false) (kt : TypeId) (hk : P.underlying kt = some .string) (b r n : Nat) (m : List (Key × Value)) (left : Lit → Bool) (cnt : Nat)
    (hit : a.eval it = .pointer (some ⟨r, 0, none⟩)) (h : w.ranges P kt Rv b r n (kvD m) left cnt)
    (hDone : (∀ kl, left kl = false) → wpList P ops Q rest (a.put o.dst (.tuple #[.bool false])) w)
    (hMore : ∀ (s : ByteArray) (v : Value) (w' : World) (cnt' : Nat), s.size ≤ maxLen → left (.string s.data.toList) = true → mget m s.data.toList = some v → w'.ranges P kt Rv b r n (kvD m) (fun z => left z && !z.sameKey (.string s.data.toList)) cnt' → cnt' < cnt →
      w.grownBy w' (some r) → w'.heap.size = w.heap.size → (Instr.entry (.pointer (some ⟨r, 0, none⟩))).run P w' = .ok (.tuple #[.string s, v]) w' → wpList P ops Q rest (a.put o.dst (.tuple #[.bool true, .string s, v])) w') :
    wpList P ops Q (o :: rest) a w :=
  wpList_next_ranges w hg it hop kt (Maps.string_keyed hk) Rv Value.string (id : Value → Value) (fun key kl hkey => by
      simp only [keyOf, hk, mapKey] at hkey
      cases key <;> simp at hkey
      exact ⟨_, rfl⟩) (fun v y _ => ⟨v, rfl⟩) b r n (kvD m) left cnt hit h (fun _ => hDone) fun s v kl y w' cnt' hkey hlk hv hat hrg hlt hgr hsz hen => by
    have hkl : kl = .string s.data.toList ∧ s.size ≤ maxLen := by
      simp only [keyOf, hk, mapKey] at hkey
      split at hkey
      · rename_i hs; exact ⟨(Option.some.inj hkey).symm, hs⟩
      · cases hkey
    obtain ⟨rfl, hs⟩ := hkl
    simp only [Rv, id, Option.some.injEq] at hv
    subst hv
    refine hMore s v w' cnt' hs hlk ?_ hrg hlt hgr hsz hen
    have h1 := hat (.held (.bool true))
    have h2 := hat (.held (.bool false))
    rw [kvD_at] at h1 h2
    simp only [DataW.held.injEq] at h1 h2
    cases hq : mget m s.data.toList with
    | some u => rw [hq] at h1; exact congrArg some h1
    | none => rw [hq] at h1 h2; simp at h1 h2; rw [← h1] at h2; cases h2
end
end Go.Proofs.YthinpbdbhijbgaaGreatDoor
namespace Go.Proofs.YthinpbdbhijbgaaGreatDoor
open Go.RowKit
set_option maxHeartbeats 1000000

theorem nodup_at {l : List ByteArray} (h : l.Nodup) {i j : Nat} (hi : i < l.length) (hj : j < l.length) (e : l[i] = l[j]) : i = j := by
  have hp := List.pairwise_iff_getElem.1 h
  rcases Nat.lt_trichotomy i j with hij | hij | hij
  · exact absurd e (hp i j hi hj hij)
  · exact hij
  · exact absurd e.symm (hp j i hj hi hij)
theorem nodup_len : ∀ (l m : List ByteArray), l.Nodup → l ⊆ m → l.length ≤ m.length
  | [], m, _, _ => Nat.zero_le _
  | a :: l, m, h, hs => by
    obtain ⟨h1, h2⟩ := List.nodup_cons.1 h
    obtain ⟨u, v, e⟩ := List.append_of_mem (hs (List.mem_cons_self ..))
    have := nodup_len l (u ++ v) h2 fun b hb => by
      have hb' := hs (List.mem_cons_of_mem _ hb)
      rw [e] at hb'
      rcases List.mem_append.1 hb' with hb' | hb'
      · exact List.mem_append_left _ hb'
      · rcases List.mem_cons.1 hb' with hb' | hb'
        · subst hb'; exact absurd hb h1
        · exact List.mem_append_right _ hb'
    rw [e]
    simp only [List.length_append, List.length_cons] at this ⊢
    omega

/-- l's places ahead of i are done, of place i those children that are not left. -/
structure Bfs (M : List (Key × Nd)) (s : ByteArray) (l : List ByteArray) (i : Nat) (left : Key → Bool) : Prop where
  head : s ∈ l
  nodup : l.Nodup
  mem : ∀ p ∈ l, ∃ x ∈ M, x.2.path = p ∧ und p s = true
  done : ∀ j p, j < i → l[j]? = some p → ∀ x ∈ M, childOf p x.2 = true → x.2.path ∈ l
  part : ∀ p, l[i]? = some p → ∀ x ∈ M, childOf p x.2 = true → left (nameK x.2) = false → x.2.path ∈ l
  back : ∀ p ∈ l, p = s ∨ ∃ j q, l[j]? = some q ∧ p.size ≠ 1 ∧ parentB p = q ∧ (j < i ∨ (j = i ∧ left (nameB p).data.toList = false))

theorem Bfs.start {M : List (Key × Nd)} {x : Key × Nd} (hx : x ∈ M) : Bfs M x.2.path [x.2.path] 0 (fun _ => true) :=
  ⟨by simp, by simp, fun p hp => by
    have : p = x.2.path := by simpa using hp
    exact ⟨x, hx, this.symm, by rw [this]; exact und_self _⟩, fun j p hj => by omega, fun p _ y _ _ h => by simp at h, fun p hp => .inl (by simpa using hp)⟩

theorem Bfs.round {M : List (Key × Nd)} {s : ByteArray} {l : List ByteArray} {i : Nat} {left : Key → Bool} (h : Bfs M s l i left) {p : ByteArray} (hp : l[i]? = some p) (hl : ∀ y ∈ kidsOf M p, left y.1 = false) : Bfs M s l (i + 1) (fun _ => true) :=
  ⟨h.head, h.nodup, h.mem, fun j q hj hq x hx hc => by
    by_cases hji : j = i
    · subst hji
      have e : p = q := Option.some.inj (hp.symm.trans hq)
      subst e
      exact h.part p hp x hx hc (hl _ (mem_kids.2 ⟨x, hx, hc, rfl⟩))
    · exact h.done j q (by omega) hq x hx hc, fun p _ y _ _ hh => by simp at hh, fun q hq => by
    rcases h.back q hq with e | ⟨j, r, h1, h2, h3, h4⟩
    · exact .inl e
    · exact .inr ⟨j, r, h1, h2, h3, .inl (by rcases h4 with h4 | h4 <;> omega)⟩⟩

theorem Bfs.step {M : List (Key × Nd)} (hM : MOk M) (hc : Clo M) {s : ByteArray} {l : List ByteArray} {i : Nat} {left : Key → Bool} (h : Bfs M s l i left) {p : ByteArray} (hp : l[i]? = some p) {x : Key × Nd} (hx : x ∈ M) (hch : childOf p x.2 = true) (hleft : left (nameK x.2) = true) :
    Bfs M s (l ++ [x.2.path]) i (fun k => left k && !(k == nameK x.2)) := by
  obtain ⟨c1, c2⟩ := childOf_iff.1 hch
  obtain ⟨y, hy, ey, hu⟩ := h.mem p (List.mem_of_getElem? hp)
  have hsz := (path_split (right_vpath (hM.right x hx)) c1).2.2.1
  have hnew : x.2.path ∉ l := by
    intro hm
    rcases h.back _ hm with e | ⟨j, q, h1, h2, h3, h4⟩
    · have := und_le hM hc hy (by rw [ey]; exact hu)
      rw [← e, ey, ← c2] at this
      omega
    · rw [c2] at h3
      subst h3
      have hj : j = i := by
        obtain ⟨a1, a2⟩ := List.getElem?_eq_some_iff.1 h1
        obtain ⟨b1, b2⟩ := List.getElem?_eq_some_iff.1 hp
        exact nodup_at h.nodup a1 b1 (a2.trans b2.symm)
      rcases h4 with h4 | ⟨_, h4⟩
      · omega
      · rw [show (nameB x.2.path).data.toList = nameK x.2 from rfl, hleft] at h4; cases h4
  obtain ⟨hi, ei⟩ := List.getElem?_eq_some_iff.1 hp
  have old : ∀ j q, (l ++ [x.2.path])[j]? = some q → j ≤ i → l[j]? = some q := fun j q hq hji => by
    rwa [List.getElem?_append_left (by omega)] at hq
  refine ⟨by simp [h.head], ?_, fun q hq => ?_, fun j q hj hq z hz hcz => ?_, fun q hq z hz hcz hlz => ?_, fun q hq => ?_⟩
  · rw [List.nodup_append]
    refine ⟨h.nodup, by simp, fun a ha b hb => ?_⟩
    have : b = x.2.path := by simpa using hb
    subst this
    exact fun e => hnew (e ▸ ha)
  · rcases List.mem_append.1 hq with hq | hq
    · exact h.mem q hq
    · have : q = x.2.path := by simpa using hq
      subst this
      exact ⟨x, hx, rfl, und_child hM hc hx hy (by rw [ey]; exact hch) s (by rw [ey]; exact hu)⟩
  · exact List.mem_append_left _ (h.done j q hj (old j q hq (by omega)) z hz hcz)
  · have hq' := old i q hq (Nat.le_refl _)
    have e : p = q := Option.some.inj (hp.symm.trans hq')
    subst e
    by_cases hn : nameK z.2 = nameK x.2
    · obtain ⟨d1, d2⟩ := childOf_iff.1 hcz
      have : z.2.path = x.2.path := by
        have a1 := (path_split (right_vpath (hM.right z hz)) d1).1
        have a2 := (path_split (right_vpath (hM.right x hx)) c1).1
        apply ba_ext
        rw [a1, a2, d2, c2]
        unfold nameK at hn
        rw [hn]
      rw [this]; simp
    · refine List.mem_append_left _ (h.part p hq' z hz hcz ?_)
      simpa [hn] using hlz
  · rcases List.mem_append.1 hq with hq | hq
    · rcases h.back q hq with e | ⟨j, r, h1, h2, h3, h4⟩
      · exact .inl e
      · refine .inr ⟨j, r, ?_, h2, h3, ?_⟩
        · rw [List.getElem?_append_left (List.getElem?_eq_some_iff.1 h1).1]; exact h1
        · rcases h4 with h4 | ⟨h4, h5⟩
          · exact .inl h4
          · exact .inr ⟨h4, by rw [h5]; rfl⟩
    · have : q = x.2.path := by simpa using hq
      subst this
      refine .inr ⟨i, p, ?_, c1, c2, .inr ⟨rfl, ?_⟩⟩
      · rw [List.getElem?_append_left hi]; exact hp
      · rw [show (nameB x.2.path).data.toList = nameK x.2 from rfl]
        simp

/-- In the end: just what is under s. -/
theorem Bfs.all {M : List (Key × Nd)} (hM : MOk M) (hc : Clo M) {s : ByteArray} {l : List ByteArray} {left : Key → Bool} (h : Bfs M s l l.length left) (p : ByteArray) : p ∈ l ↔ ∃ x ∈ M, x.2.path = p ∧ und p s = true := by
  constructor
  · exact h.mem p
  · rintro ⟨x, hx, rfl, hu⟩
    refine und_closed hM hc s l h.head (fun z hz h1 hpz => ?_) _ x hx (Nat.le_refl _) hu
    obtain ⟨j, hj, ej⟩ := List.getElem_of_mem hpz
    exact h.done j _ hj (by rw [List.getElem?_eq_getElem hj, ej]) z hz (childOf_iff.2 ⟨h1, rfl⟩)

/-- How long it gets. -/
theorem Bfs.length_le {M : List (Key × Nd)} {s : ByteArray} {l : List ByteArray} {i : Nat} {left : Key → Bool} (h : Bfs M s l i left) : l.length ≤ M.length := by
  have hsub : l ⊆ M.map (fun x => x.2.path) := fun p hp => by
    obtain ⟨x, hx, e, _⟩ := h.mem p hp
    exact List.mem_map.2 ⟨x, hx, e⟩
  have := nodup_len l _ h.nodup hsub
  simpa using this
end Go.Proofs.YthinpbdbhijbgaaGreatDoor
namespace Go.Proofs.YthinpbdbhijbgaaGreatDoor
open Go.RowKit
set_option maxHeartbeats 1000000

theorem perm_nodup : ∀ (l m : List Key), l.Nodup → m.Nodup → (∀ x, x ∈ l ↔ x ∈ m) → l.Perm m
  | [], m, _, _, h => by
    cases m with
    | nil => exact .refl _
    | cons b m => exact absurd ((h b).2 (List.mem_cons_self ..)) (by simp)
  | a :: l, m, hl, hm, h => by
    obtain ⟨u, v, rfl⟩ := List.append_of_mem ((h a).1 (List.mem_cons_self ..))
    obtain ⟨h1, h2⟩ := List.nodup_cons.1 hl
    have hm' : (a :: (u ++ v)).Nodup := (List.perm_middle.nodup_iff).1 hm
    obtain ⟨k1, k2⟩ := List.nodup_cons.1 hm'
    refine ((perm_nodup l (u ++ v) h2 k2 fun x => ?_).cons a).trans List.perm_middle.symm
    constructor
    · intro hx
      have := (h x).1 (List.mem_cons_of_mem _ hx)
      have hne : x ≠ a := fun e => h1 (e ▸ hx)
      simp only [List.mem_append, List.mem_cons] at this ⊢
      rcases this with h | h | h
      · exact .inl h
      · exact absurd h hne
      · exact .inr h
    · intro hx
      have hne : x ≠ a := fun e => k1 (e ▸ hx)
      have : x ∈ u ++ a :: v := by
        simp only [List.mem_append, List.mem_cons] at hx ⊢
        rcases hx with h | h
        · exact .inl h
        · exact .inr (.inr h)
      rcases List.mem_cons.1 ((h x).2 this) with h | h
      · exact absurd h hne
      · exact h

/-- The keys under s, in order. -/
def undK (M : List (Key × Nd)) (s : ByteArray) : List Key := (M.filter fun x => und x.2.path s).map (·.1)

theorem undK_sorted {M : List (Key × Nd)} (hM : MOk M) (s : ByteArray) : (undK M s).Pairwise fun a b => bytesBefore a b = true := by
  unfold undK
  rw [List.pairwise_map, List.pairwise_filter]
  exact List.Pairwise.imp (fun h _ _ => h) hM.sorted

theorem Bfs.sorted {M : List (Key × Nd)} (hM : MOk M) (hc : Clo M) {s : ByteArray} {l : List ByteArray} {left : Key → Bool} (h : Bfs M s l l.length left) :
    (l.map fun p => p.data.toList).mergeSort (fun x y => decide (x ≤ y)) = undK M s := by
  refine sortedKeys (undK_sorted hM s) (perm_nodup _ _ ?_ ?_ fun k => ?_)
  · unfold List.Nodup
    rw [List.pairwise_map]
    exact List.Pairwise.imp (fun h e => h (ba_ext e)) h.nodup
  · refine List.Pairwise.imp (fun {a b} hab e => ?_) (undK_sorted hM s)
    rw [e] at hab
    exact before_asymm hab hab
  · unfold undK
    simp only [List.mem_map, List.mem_filter]
    constructor
    · rintro ⟨p, hp, rfl⟩
      obtain ⟨x, hx, e, hu⟩ := (h.all hM hc p).1 hp
      exact ⟨x, ⟨hx, by rw [e]; exact hu⟩, by rw [hM.key x hx]; unfold keyN; rw [e]⟩
    · rintro ⟨x, ⟨hx, hu⟩, rfl⟩
      exact ⟨x.2.path, (h.all hM hc _).2 ⟨x, hx, rfl, hu⟩, (hM.key x hx).symm⟩
end Go.Proofs.YthinpbdbhijbgaaGreatDoor
namespace Go.Proofs.YthinpbdbhijbgaaGreatDoor
open Go.RowKit
set_option maxHeartbeats 1000000
set_option maxRecDepth 100000

/-- What Join joins. -/
def joinP (a n : ByteArray) : ByteArray := ByteArray.mk (Lib.trimSuffix a.data.toList [47]).toArray ++ ByteArray.mk #[47] ++ n
def hasSl (n : ByteArray) : Bool := decide (0 ≤ Lib.indexByte n.data.toList 47)
def joinV (a n : ByteArray) : Value := if vpath a = true ∧ hasSl n = false ∧ vpath (joinP a n) = true ∧ n.size ≠ 0 then .tuple #[.string (joinP a n), .int .i64 0] else .tuple #[.string ⟨#[]⟩, .int .i64 30]

theorem join_any (a n : ByteArray) (w : World) (ha : a.size ≤ 140737488355328) (hn : n.size ≤ 140737488355328) : Calls Tryz.prog 193 #[.string a, .string n] w fun e w' => e = .returned (joinV a n) ∧ Below w.heap.size w w' := by
  have q1 : a.size ≤ 140737488355328 := ha
  have q2 : n.size ≤ 140737488355328 := hn
  have hT : (ByteArray.mk (Lib.trimSuffix a.data.toList [47]).toArray).size ≤ 140737488355328 := by
    refine Nat.le_trans ?_ q1
    rw [← size_list, ← size_list]
    unfold Lib.trimSuffix
    split <;> simp
  have hj : (joinP a n).size ≤ 9223372036854775800 := by
    unfold joinP
    rw [ByteArray.size_append, ByteArray.size_append]
    have : (ByteArray.mk #[47]).size = 1 := rfl
    omega
  have C1 : ∀ w, Calls Tryz.prog 242 #[.string a, .string ⟨#[47]⟩] w fun e w' => e = .returned (.string ⟨(Lib.trimSuffix a.data.toList [47]).toArray⟩) ∧ w' = w := fun w => Tryz.strings_TrimSuffix a ⟨#[47]⟩ w (by omega)
  have C2 : ∀ w, Calls Tryz.prog 131 #[.string a] w fun e w' => e = .returned (.bool (vpath a)) ∧ Below w.heap.size w w' := fun w => valid_any a w (by omega)
  have C3 : ∀ w, Calls Tryz.prog 243 #[.string n, .string ⟨#[47]⟩] w fun e w' => e = .returned (.bool (hasSl n)) ∧ w' = w := fun w => Tryz.strings_Contains_one n 47 w
  have C4 : ∀ w, Calls Tryz.prog 131 #[.string (joinP a n)] w fun e w' => e = .returned (.bool (vpath (joinP a n))) ∧ Below w.heap.size w w' := fun w => valid_any (joinP a n) w (by omega)
  have R : Hid (joinV a n = if vpath a = true ∧ hasSl n = false ∧ vpath (joinP a n) = true ∧ n.size ≠ 0 then .tuple #[.string (joinP a n), .int .i64 0] else .tuple #[.string ⟨#[]⟩, .int .i64 30]) := Lib.hid rfl
  have J : Hid (joinP a n = ByteArray.mk (Lib.trimSuffix a.data.toList [47]).toArray ++ ByteArray.mk #[47] ++ n) := Lib.hid rfl
  generalize joinV a n = V at R
  generalize joinP a n = q at C4 R J hj
  generalize ByteArray.mk (Lib.trimSuffix a.data.toList [47]).toArray = T at C1 J hT
  generalize vpath a = b1 at C2 R
  generalize hasSl n = b2 at C3 R
  generalize vpath q = b3 at C4 R
  have C1 := Lib.hid C1
  have C2 := Lib.hid C2
  have C3 := Lib.hid C3
  have C4 := Lib.hid C4
  have g1 : ¬ (9223372036854775807 : Int) < (T.size : Int) + 1 := by omega
  have g2 : ¬ (9223372036854775807 : Int) < (T.size : Int) + 1 + (n.size : Int) := by omega
  clear q1 q2 ha hn hj hT
  cases b1 with
  | false =>
    go_enter Tryz.func193, Tryz.ntmps193
    go_wp2_with fail
    refine (C1.out _).mono ?_
    rintro e w1 ⟨rfl, rfl⟩
    go_wp2_with fail
    refine (C2.out _).mono ?_
    rintro e w1 ⟨rfl, hb1⟩
    clear C1 C2 C3 C4
    go_wp2
    go_ret2
    exact ⟨by rw [R.out]; rfl, hb1⟩
  | true =>
  cases b2 with
  | true =>
    go_enter Tryz.func193, Tryz.ntmps193
    go_wp2_with fail
    refine (C1.out _).mono ?_
    rintro e w1 ⟨rfl, rfl⟩
    go_wp2_with fail
    refine (C2.out _).mono ?_
    rintro e w1 ⟨rfl, hb1⟩
    go_wp2_with fail
    refine (C3.out _).mono ?_
    rintro e w2 ⟨rfl, rfl⟩
    clear C1 C2 C3 C4
    go_wp2
    go_ret2
    exact ⟨by rw [R.out]; rfl, hb1⟩
  | false =>
  cases b3 with
  | false =>
    go_enter Tryz.func193, Tryz.ntmps193
    go_wp2_with fail
    refine (C1.out _).mono ?_
    rintro e w1 ⟨rfl, rfl⟩
    go_wp2_with fail
    refine (C2.out _).mono ?_
    rintro e w1 ⟨rfl, hb1⟩
    go_wp2_with fail
    refine (C3.out _).mono ?_
    rintro e w2 ⟨rfl, rfl⟩
    go_wp2_with fail
    rw [← J.out]
    refine (C4.out _).mono ?_
    rintro e w3 ⟨rfl, hb3⟩
    clear C1 C2 C3 C4
    go_wp2
    go_ret2
    exact ⟨by rw [R.out]; rfl, hb1.trans (hb3.mono hb1.size)⟩
  | true =>
  by_cases h0 : n.size = 0
  · have e1 : n.toList = [] := by rw [ByteArray.toList_eq]; exact List.eq_nil_of_length_eq_zero (by rw [← size_list] at h0; exact h0)
    go_enter Tryz.func193, Tryz.ntmps193
    go_wp2_with fail
    refine (C1.out _).mono ?_
    rintro e w1 ⟨rfl, rfl⟩
    go_wp2_with fail
    refine (C2.out _).mono ?_
    rintro e w1 ⟨rfl, hb1⟩
    go_wp2_with fail
    refine (C3.out _).mono ?_
    rintro e w2 ⟨rfl, rfl⟩
    go_wp2_with fail
    rw [← J.out]
    refine (C4.out _).mono ?_
    rintro e w3 ⟨rfl, hb3⟩
    clear C1 C2 C3 C4
    go_wp2
    go_ret2
    exact ⟨by rw [R.out, if_neg (by simp [h0])]; rfl, hb1.trans (hb3.mono hb1.size)⟩
  · have e0 : ¬ n.toList = [] := by rw [ByteArray.toList_eq]; exact fun e => h0 (by rw [← size_list, e]; rfl)
    have e1 : (n.toList == []) = false := by simpa using e0
    have H0 := Lib.hid h0
    clear h0
    go_enter Tryz.func193, Tryz.ntmps193
    go_wp2_with fail
    refine (C1.out _).mono ?_
    rintro e w1 ⟨rfl, rfl⟩
    go_wp2_with fail
    refine (C2.out _).mono ?_
    rintro e w1 ⟨rfl, hb1⟩
    go_wp2_with fail
    refine (C3.out _).mono ?_
    rintro e w2 ⟨rfl, rfl⟩
    go_wp2_with fail
    rw [← J.out]
    refine (C4.out _).mono ?_
    rintro e w3 ⟨rfl, hb3⟩
    clear C1 C2 C3 C4
    go_wp2
    go_ret2
    exact ⟨by rw [R.out, if_pos (by simp [H0.out])]; rfl, hb1.trans (hb3.mono hb1.size)⟩
end Go.Proofs.YthinpbdbhijbgaaGreatDoor
namespace Go.Proofs.YthinpbdbhijbgaaGreatDoor
open Go.RowKit
set_option maxHeartbeats 1000000

theorem no_slash {n : ByteArray} (h : ¬ (47 : UInt8) ∈ n.data.toList) : hasSl n = false := by
  unfold hasSl
  have hge := Lib.indexByte_ge n.data.toList 47
  rcases Int.lt_or_le (Lib.indexByte n.data.toList 47) 0 with h0 | h0
  · simp; omega
  · obtain ⟨o, ho⟩ := Int.eq_ofNat_of_zero_le h0
    exact absurd (List.mem_of_getElem? (Lib.indexByte_some ho).1) h

theorem joinP_pre {a : ByteArray} (h : vpath a = true) (n : ByteArray) : (joinP a n).data.toList = preL a ++ n.data.toList := by
  have e : (joinP a n).data.toList = Lib.trimSuffix a.data.toList [47] ++ [47] ++ n.data.toList := by
    unfold joinP
    simp [ByteArray.data_append]
  rw [e]
  congr 1
  by_cases h1 : a.size = 1
  · have hr := (root_iff h).1 h1
    unfold preL
    rw [if_pos h1, hr]
    rfl
  · unfold preL
    rw [if_neg h1]
    congr 1
    unfold Lib.trimSuffix
    rw [if_neg]
    intro hs
    unfold Lib.hasSuffix at hs
    obtain ⟨t, ht⟩ := List.isSuffixOf_iff_suffix.1 hs
    obtain ⟨f1, _, _, f4⟩ := vpath_facts h
    rcases f4 with f4 | f4
    · exact h1 f4
    · apply f4.1
      rw [← bat_toList a (a.size - 1) (by omega)]
      have hl : t.length + 1 = a.size := by rw [← size_list, ← ht]; simp
      have : a.size - 1 = t.length := by omega
      simp only [this, ← ht]
      simp

theorem join_child {M : List (Key × Nd)} (hM : MOk M) {x y : Key × Nd} (hx : x ∈ M) (hy : y ∈ M) (h : childOf y.2.path x.2 = true) {n : ByteArray} (hn : n.data.toList = nameK x.2) :
    joinP y.2.path n = x.2.path ∧ joinV y.2.path n = .tuple #[.string x.2.path, .int .i64 0] := by
  obtain ⟨c1, c2⟩ := childOf_iff.1 h
  obtain ⟨p1, p2, _, p4⟩ := path_split (right_vpath (hM.right x hx)) c1
  have en : n = nameB x.2.path := ba_ext hn
  subst en
  have e : joinP y.2.path (nameB x.2.path) = x.2.path := by
    apply ba_ext
    rw [joinP_pre (right_vpath (hM.right y hy)), p1, c2]
  refine ⟨e, ?_⟩
  unfold joinV
  rw [e, if_pos ⟨right_vpath (hM.right y hy), no_slash p4, right_vpath (hM.right x hx), p2⟩]
end Go.Proofs.YthinpbdbhijbgaaGreatDoor
