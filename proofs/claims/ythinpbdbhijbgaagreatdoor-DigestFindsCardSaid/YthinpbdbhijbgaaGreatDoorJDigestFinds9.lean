/- A row of the call's own that shows nodes that were cloned for it; how it grows by one. A node that was cloned for it is appended to a row of the call's own: one law for the walk. The walks of arborref05's New and arborref07's Root. Plain law: the parent of a path is a path. No program in sight. The walk of arborref03.Under. The plain sums of TreeSums. The walk of (*Tree).Weigh. The walk of arborref07's Below. The walks of arborref07's All, Clone and New. A region that draws its order, whose operations' values are either told or have a property that new memory leaves. The walks of a book's functions: NewBook, Note, Len. The walks of Turn and Value: a number that is carried along. The walk of layer 9's alive; the first note in a book. The walk of layer 9's alive. Laws of sums of nodes' numbers; a number counted round. The law DigestSteps, walked. The walk of the document's Diff. What holds between the rounds of the program's Diff. Plain laws: the paths above a path, the quotas over it, the first one that a change is over. No program in sight. The walk of paths.Above. A node put into a new box. The walk of the law's Texts at two lists of the same texts. The walks of package quota's over and Over: the quotas over a path. -/
import Derived.Test.YthinpbdbhijbgaaGreatDoorJDigestFinds7
import Derived.Test.YthinpbdbhijbgaaGreatDoorJDigestFinds5
import Derived.Test.YthinpbdbhijbgaaGreatDoorJDigestFinds8
import Derived.Test.YthinpbdbhijbgaaGreatDoorJDigestFinds4
import Derived.Test.YthinpbdbhijbgaaGreatDoorJDigestFinds3
import Derived.Great.BuildSlice
import Derived.Test.YthinpbdbhijbgaaGreatDoorRev
import Derived.BigQuiet
namespace Go.Proofs.YthinpbdbhijbgaaGreatDoor
open Go.RowKit Go.Sort
set_option maxHeartbeats 2000000
set_option maxRecDepth 100000

/-- What a clone of the row's nodes may lie in. -/
def NewN (base : Nat) (v : Value) (w : World) (b : Nat) : Prop := base ≤ b ∧ b < w.heap.size ∧ v.ownBlock ≠ some b
def OwnN (base : Nat) (L : List Nd) (v : Value) (w : World) : Prop :=
  ∃ vs : List (Array Value), w.ownsRow base 44 17 v L.length (vs.flatMap Array.toList) ∧ EachN (NewN base v w) w vs L

theorem EachN.imp {S S' : Nat → Prop} {w w' : World} {vs : List (Array Value)} {L : List Nd} (h : EachN S w vs L) (hS : ∀ b, S b → S' b) (hw : ∀ (b o : Nat) u, S b → w.cell? ⟨b, o, none⟩ = some u → w'.cell? ⟨b, o, none⟩ = some u) : EachN S' w' vs L :=
  ⟨h.1, fun j cs hj => by
    obtain ⟨n, hn, hN⟩ := h.2 j cs hj
    exact ⟨n, hn, NdS.imp hN hS fun b o u hb hu => hw b o u hb hu⟩⟩

theorem OwnN.nil (base : Nat) (w : World) : OwnN base [] (.slice none 0 0) w :=
  ⟨[], World.ownsRow_nil _ _ _ _, ⟨rfl, fun j cs h => by simp at h⟩⟩

theorem cell_ext {w w' : World} (h : Ext w w') (b o : Nat) (u : Value) (hu : w.cell? ⟨b, o, none⟩ = some u) : w'.cell? ⟨b, o, none⟩ = some u :=
  (h.cell (p := ⟨b, o, none⟩) (World.block_lt_of_cell? _ _ hu)).trans hu

theorem OwnN.ext {base : Nat} {L : List Nd} {v : Value} {w w' : World} (h : OwnN base L v w) (hE : Ext w w') : OwnN base L v w' := by
  obtain ⟨vs, h1, h2⟩ := h
  exact ⟨vs, h1.kept (grown_of_ext hE none) (Classical.em _), h2.imp (fun b hb => ⟨hb.1, Nat.lt_of_lt_of_le hb.2.1 hE.size, hb.2.2⟩) fun b o u _ hu => cell_ext hE b o u hu⟩

/-- A new node is handed to the row. -/
theorem OwnN.step {base : Nat} {L : List Nd} {v v' : Value} {w w5 : World} {vs : List (Array Value)} {cs : Array Value} {n : Nd} {t : TypeId} (hE : EachN (NewN base v w) w vs L) (hN : NdS (NewN base v w) w (.agg cs) n)
    (hown : w5.ownsRow base 44 17 v' (L.length + 1) (vs.flatMap Array.toList ++ cs.toList)) (hg : (w.alloc (.cells cs t)).grownBy w5 v.ownBlock) (ho : v'.ownBlock = v.ownBlock ∨ v'.ownBlock = some (w.heap.size + 1)) :
    OwnN base (L ++ [n]) v' w5 := by
  have hz := hg.size
  simp only [World.size_alloc] at hz
  have hS : ∀ b, NewN base v w b → NewN base v' w5 b := fun b hb => ⟨hb.1, by have := hb.2.1; omega, fun e => by
    rcases ho with h | h
    · rw [h] at e; exact hb.2.2 e
    · rw [h] at e; cases e; have := hb.2.1; omega⟩
  have hw : ∀ (b o : Nat) u, NewN base v w b → w.cell? ⟨b, o, none⟩ = some u → w5.cell? ⟨b, o, none⟩ = some u := fun b o u hb hu => by
    rw [World.cell?_of_block ((hg.block b (by simp; have := hb.2.1; omega) (fun e => hb.2.2 e.symm)).trans (heap_alloc_old w _ hb.2.1))]
    exact hu
  refine ⟨vs ++ [cs], by simpa using hown, (hE.imp hS hw).append ((EachN.one hN).imp hS hw)⟩

/-- Memory as it was, but the row. -/
theorem OwnN.keep {base : Nat} {v : Value} {w w5 : World} {cs : Array Value} {n : Nat} {xs : List Value} {t : TypeId} {w0 : World} (hE0 : Ext w0 w) (hb : w0.heap.size ≤ base) (hown : w.ownsRow base 44 17 v n xs) (hg : (w.alloc (.cells cs t)).grownBy w5 v.ownBlock) : Ext w0 w5 := by
  refine hE0.trans' ⟨hg.os, hg.tape, hg.output, by have := hg.size; simp at this; omega, fun k hk => ?_⟩
  have hz := hE0.size
  refine (hg.block k (by simp; omega) (fun e => ?_)).trans (heap_alloc_old w _ (by omega))
  have := ownBlock_ge hown k e.symm
  omega

/-- The row as rows that show nodes. -/
theorem OwnN.rows {base : Nat} {L : List Nd} {v : Value} {w : World} (h : OwnN base L v w) : ∃ a c vs, v = .slice a L.length c ∧ L.length ≤ c ∧ c ≤ maxLen ∧ RowsOf (fun k => base ≤ k ∧ k < w.heap.size) w a vs L ∧ PlainA a c := by
  obtain ⟨vs, h1, h2⟩ := h
  obtain ⟨a, c, e, h3, h4, h5, h6⟩ := RowsOf.of_own (S := fun k => base ≤ k ∧ k < w.heap.size) h1 rfl h2.1 (fun k h1 h2 => ⟨h1, h2⟩) (h2.imp (fun b hb => ⟨hb.1, hb.2.1⟩) fun _ _ _ _ h => h).2
  exact ⟨a, c, vs, e, h3, h4, h5, h6⟩

theorem nds_cons (x : Key × Nd) (M : List (Key × Nd)) : nds (x :: M) = x.2 :: nds M := rfl
theorem nds_take_succ {M : List (Key × Nd)} {k : Nat} (hk : k < M.length) : nds (M.take (k + 1)) = nds (M.take k) ++ [M[k].2] := by
  unfold nds
  rw [List.take_succ_eq_append_getElem hk, List.map_append]; rfl
end Go.Proofs.YthinpbdbhijbgaaGreatDoor
namespace Go.Proofs.YthinpbdbhijbgaaGreatDoor
open Go.RowKit Go.Sort
set_option maxHeartbeats 2000000
set_option maxRecDepth 100000

theorem wpList_append_nd {ops : Array Oper} {rest : List Oper} {o : Oper} {a : Act} {Q : Exit → Act → World → Prop} {W4 W5 : World} (hgd : o.guard = none) (s x : Operand)
    (ho : o.op = .call { callee := .builtin .append, args := #[s, x], argTypes := #[50, 50] })
    (base : Nat) (L : List Nd) (ov : Value) (hO : OwnN base L ov W4) (hE : Ext W4 W5) (hb : base ≤ W4.heap.size) (n : Nd) (cs : Array Value) (hN : NdS (fun k => W4.heap.size ≤ k ∧ k < W5.heap.size) W5 (.agg cs) n) (hl : (L.length + 1) * 168 ≤ 140737488355328)
    (hs : a.eval s = ov) (hx : a.eval x = .slice (some ⟨W5.heap.size, 0, none⟩) 1 1)
    (hK : ∀ v' W6, OwnN base (L ++ [n]) v' W6 → (∀ w0, Ext w0 W5 → w0.heap.size ≤ base → Ext w0 W6) → wpList Tryz.prog ops Q rest (a.put o.dst v') W6) : wpList Tryz.prog ops Q (o :: rest) a (W5.alloc (.cells cs 44)) := by
  obtain ⟨qa, qc, ra, rc, hcs, hQ1, hQ2⟩ := hN
  cases hcs
  obtain ⟨ws, hown4, heach4⟩ := hO
  have hz5 := hE.size
  have hlt4 : ∀ g, ov.ownBlock = some g → base ≤ g ∧ g < W4.heap.size := fun g hg => hown4.lt g hg
  have hown5 := hown4.kept (grown_of_ext hE none) (Classical.em _)
  have heach5 : EachN (NewN base ov W5) W5 ws L := heach4.imp (fun b hb => ⟨hb.1, Nat.lt_of_lt_of_le hb.2.1 hE.size, hb.2.2⟩) fun b o u _ hu => cell_ext hE b o u hu
  have hnew5 : NdS (NewN base ov W5) W5 (.agg (ndC n (.slice qa n.data.length qc) (.slice ra n.acl.length rc))) n := NdS.imp ⟨qa, qc, ra, rc, rfl, hQ1, hQ2⟩ (fun k hk => ⟨by omega, hk.2, fun e => by have := (hlt4 k e).2; omega⟩) fun _ _ _ _ h => h
  have hs17 : Cells (W5.alloc (.cells (ndC n (.slice qa n.data.length qc) (.slice ra n.acl.length rc)) 44)).heap.size (W5.alloc (.cells (ndC n (.slice qa n.data.length qc) (.slice ra n.acl.length rc)) 44)) (some ⟨W5.heap.size, 0, none⟩) (ndC n (.slice qa n.data.length qc) (.slice ra n.acl.length rc)).toList := fun j u hj => by
    refine ⟨_, 0, rfl, by simp, ?_⟩
    rw [Nat.zero_add, cell_of_row _ _ _ _ _ _ (heap_alloc_new W5 _)]
    simpa using hj
  have hsrc : Src Tryz.prog 17 50 (.slice (some ⟨W5.heap.size, 0, none⟩) 1 1) 1 (ndC n (.slice qa n.data.length qc) (.slice ra n.acl.length rc)).toList (W5.alloc (.cells (ndC n (.slice qa n.data.length qc) (.slice ra n.acl.length rc)) 44)) :=
    hs17.src Tryz.underlying50 1 1 (by simp [ndC]) (fun u hu => by
      have := cells_node n qa ra n.data.length n.acl.length qc rc
      rw [← Array.all_toList] at this
      exact List.all_eq_true.1 this u hu)
  obtain ⟨i0, hi, hz0, hz1', hz2⟩ := info_parts infoNd
  have hownA := hown5.alloc (.cells (ndC n (.slice qa n.data.length qc) (.slice ra n.acl.length rc)) 44)
  refine wpList_append_src _ hgd s x 50 50 ho base 44 i0 (.agg zeroNd) 17 168 Tryz.underlying50 hi hz0 hz1' hz2 rfl (by decide) ov L.length _ hs hownA _ 1 _ hx hsrc (by unfold maxLen; omega) hl (by simp; omega) ?_
  intro v' w6 hown6 hg6 _ ho6
  exact hK v' w6 (OwnN.step heach5 hnew5 hown6 hg6 (by simpa using ho6)) fun w0 hE0 hb0 => OwnN.keep hE0 hb0 hown5 hg6
end Go.Proofs.YthinpbdbhijbgaaGreatDoor
namespace Go.Proofs.YthinpbdbhijbgaaGreatDoor
open Go.RowKit
set_option maxHeartbeats 2000000
set_option maxRecDepth 100000

end Go.Proofs.YthinpbdbhijbgaaGreatDoor
namespace Go.Proofs.YthinpbdbhijbgaaGreatDoor
open Go.RowKit

theorem dec_take {s t : ByteArray} {i : Nat} (hi : i < s.size) (h47 : bat s i = 47) (ht : t.size = i) (hb : ∀ k, k < i → bat t k = bat s k) (p : Nat) (hp : p < i) : Utf8.decode t p = Utf8.decode s p := by
  have c : ∀ k, p + k ≤ i → (decide (p + k < t.size) && bat t (p + k) / 64 == 2) = (decide (p + k < s.size) && bat s (p + k) / 64 == 2) := fun k hk => by
    by_cases h : p + k < i
    · rw [hb _ h, ht]
      simp only [h, decide_true, Bool.true_and, show p + k < s.size by omega]
    · obtain e : p + k = i := by omega
      rw [e, h47, ht]
      simp
  have f : ∀ k, i ≤ p + k → (decide (p + k < t.size) && bat t (p + k) / 64 == 2) = false := fun k hk => by
    rw [ht]
    simp only [show ¬ p + k < i by omega, decide_false, Bool.false_and]
  have g : ∀ k, p + k = i → (decide (p + k < s.size) && bat s (p + k) / 64 == 2) = false := fun k hk => by
    rw [hk, h47]
    simp
  rw [dec_eq, dec_eq]
  simp only [hb p hp]
  by_cases h1 : p + 1 = i
  · have a1 := f 1 (by omega)
    have b1 := g 1 h1
    simp only [a1, b1, Bool.and_false, Bool.false_and, Bool.false_eq_true, if_false]
  · have e1 := c 1 (by omega)
    have v1 := hb (p + 1) (by omega)
    by_cases h2 : p + 2 = i
    · have a2 := f 2 (by omega)
      have b2 := g 2 h2
      simp only [e1, a2, b2]
      simp only [v1, Bool.and_false, Bool.false_and, Bool.false_eq_true, if_false]
    · have e2 := c 2 (by omega)
      have v2 := hb (p + 2) (by omega)
      by_cases h3 : p + 3 = i
      · have a3 := f 3 (by omega)
        have b3 := g 3 h3
        simp only [e1, e2, a3, b3]
        simp only [v1, v2, Bool.and_false, Bool.false_and, Bool.false_eq_true, if_false]
      · have e3 := c 3 (by omega)
        have v3 := hb (p + 3) (by omega)
        simp only [e1, e2, e3]
        simp only [v1, v2, v3]

theorem part_take {s t : ByteArray} {i : Nat} (hi : i < s.size) (h47 : bat s i = 47) (ht : t.data.toList = s.data.toList.take i) (p : Nat) (hp : p ≤ i) : partL t p = partL s p := by
  unfold partL
  have e : s.data.toList.drop p = (s.data.toList.take i).drop p ++ 47 :: s.data.toList.drop (i + 1) := by
    rw [← drop_at_slash hi h47]
    conv => lhs; rw [← List.take_append_drop i s.data.toList]
    rw [List.drop_append_of_le_length (by rw [List.length_take, size_list]; omega)]
  rw [e, ht, List.takeWhile_append]
  split
  · rename_i h
    simp
    have : List.takeWhile (fun x => x != 47) (List.drop p (List.take i s.data.toList)) = List.drop p (List.take i s.data.toList) := by
      exact (List.takeWhile_prefix _).eq_of_length h
    exact this
  · rfl

theorem bat_take {s t : ByteArray} {i : Nat} (hi : i ≤ s.size) (ht : t.data.toList = s.data.toList.take i) (hts : t.size = i) (k : Nat) (hk : k < i) : bat t k = bat s k := by
  rw [bat_get t k (by omega), bat_get s k (by omega)]
  have h1 : t[k]'(by omega) = t.data.toList[k]'(by rw [size_list]; omega) := by rw [Array.getElem_toList]; rfl
  have h2 : s[k]'(by omega) = s.data.toList[k]'(by rw [size_list]; omega) := by rw [Array.getElem_toList]; rfl
  rw [h1, h2]
  simp only [ht, List.getElem_take]

theorem scan_take {s t : ByteArray} {i : Nat} (hi : i < s.size) (h47 : bat s i = 47) (ht : t.data.toList = s.data.toList.take i) (hts : t.size = i) :
    ∀ (n p : Nat), i ≤ p + n → scanAt s p = true → scanAt t p = true
  | 0, p, hn, h => scanAt_end t p (by omega)
  | n + 1, p, hn, h => by
    by_cases hp : p < i
    · have hd := dec_take hi h47 hts (fun k hk => bat_take (by omega) ht hts k hk) p hp
      have d := (dec s p (by omega)).pos
      rw [scanAt_step s p (by omega)] at h
      rw [scanAt_step t p (by omega), hd]
      simp only [Bool.and_eq_true] at h ⊢
      refine ⟨⟨h.1.1, ?_⟩, scan_take hi h47 ht hts n _ (by omega) h.2⟩
      have h2 := h.1.2
      unfold sep dots at h2 ⊢
      rw [part_take hi h47 ht (p + 1) (by omega), bat_take (by omega) ht hts p hp]
      by_cases h0 : 0 < p
      · rw [bat_take (by omega) ht hts (p - 1) (by omega)]
        exact h2
      · have : p = 0 := by omega
        subst this
        simpa using h2
    · exact scanAt_end t p (by omega)

theorem vpath_slash : vpath ⟨#[47]⟩ = true := by decide +kernel
/-- The parent of a path is a path. -/
theorem vpath_parent {s : ByteArray} (h : vpath s = true) (h1 : s.size ≠ 1) : vpath (parentB s) = true := by
  obtain ⟨i, e, hi, h47, hn⟩ := lastS_spec h
  obtain ⟨g1, g2, g3, g4⟩ := vpath_facts h
  have eL : (parentB s).data.toList = s.data.toList.take (max i 1) := by
    unfold parentB
    rw [extract_list, e, List.drop_zero]
    congr 1
    omega
  by_cases h0 : i = 0
  · subst h0
    have : parentB s = ⟨#[47]⟩ := by
      apply ba_ext
      rw [eL]
      have := drop_at_slash (s := s) (i := 0) (by omega) g3
      rw [List.drop_zero] at this
      rw [this]; rfl
    rw [this]; exact vpath_slash
  · have hi1 : i ≠ 1 := by
      intro e1
      subst e1
      exact vpath_noadj h 0 (by omega) g3 h47
    rw [show max i 1 = i by omega] at eL
    have hts : (parentB s).size = i := by rw [← size_list, eL, List.length_take, size_list]; omega
    have hb := fun k hk => bat_take (by omega) eL hts k hk
    rcases g4 with g4 | ⟨_, g4⟩
    · omega
    · have hsc := scan_take hi h47 eL hts i 0 (by omega) g4
      have hlast : bat (parentB s) (i - 1) ≠ 47 := by
        rw [hb (i - 1) (by omega)]
        intro h2
        exact vpath_noadj h (i - 1) (by omega) h2 (by rw [show i - 1 + 1 = i by omega]; exact h47)
      have h3 : bat (parentB s) 0 = 47 := by rw [hb 0 (by omega)]; exact g3
      unfold vpath
      unfold scanAt at hsc
      rw [hts] at hsc ⊢
      simp only [Bool.and_eq_true, Bool.or_eq_true, bne_iff_ne, beq_iff_eq, decide_eq_true_eq, ne_eq]
      exact ⟨⟨⟨by omega, by omega⟩, h3⟩, .inr ⟨hlast, hsc⟩⟩

/-- A step towards the root, of any path. -/
theorem undV_fuel : ∀ (f g : Nat) (p : ByteArray), vpath p = true → p.size ≤ f → p.size ≤ g → ∀ s, undF f p s = undF g p s
  | 0, _, p, hv, hf, _, s => by have := (vpath_facts hv).1; omega
  | _ + 1, 0, p, hv, hf, hg, s => by have := (vpath_facts hv).1; omega
  | f + 1, g + 1, p, hv, hf, hg, s => by
    simp only [undF]
    by_cases h1 : p.size = 1
    · simp only [h1, bne_self_eq_false, Bool.false_and]
    · have hs := (path_split hv h1).2.2.1
      rw [undV_fuel f g (parentB p) (vpath_parent hv h1) (by omega) (by omega) s]
theorem undV_one {p : ByteArray} (h1 : p.size = 1) (s : ByteArray) : und p s = (p.data == s.data) := by
  unfold und
  rw [h1]
  simp only [undF, h1, bne_self_eq_false, Bool.false_and, Bool.or_false]
theorem undV_up {p : ByteArray} (hv : vpath p = true) (h1 : p.size ≠ 1) (s : ByteArray) : und p s = (p.data == s.data || und (parentB p) s) := by
  have hp := (vpath_facts hv).1
  have hs := (path_split hv h1).2.2.1
  obtain ⟨g, hg⟩ : ∃ g, p.size = g + 1 := ⟨p.size - 1, by omega⟩
  have e1 := undV_fuel g (parentB p).size (parentB p) (vpath_parent hv h1) (by omega) (Nat.le_refl _) s
  have h2 : (p.size != 1) = true := by simpa using h1
  unfold und
  rw [hg]
  simp only [undF]
  rw [h2, e1, Bool.true_and]
end Go.Proofs.YthinpbdbhijbgaaGreatDoor
namespace Go.Proofs.YthinpbdbhijbgaaGreatDoor
open Go.RowKit
set_option maxHeartbeats 2000000
set_option maxRecDepth 100000

theorem data_toList (p s : ByteArray) : (p.toList == s.toList) = (p.data == s.data) := by
  rw [ByteArray.toList_eq, ByteArray.toList_eq]
  by_cases h : p.data = s.data
  · rw [h]; simp
  · have : ¬ p.data.toList = s.data.toList := fun e => h (Array.toList_inj.1 e)
    rw [beq_eq_false_iff_ne.2 this, beq_eq_false_iff_ne.2 h]

end Go.Proofs.YthinpbdbhijbgaaGreatDoor
namespace Go.Proofs.YthinpbdbhijbgaaGreatDoor
open Go.RowKit
set_option maxHeartbeats 1000000

end Go.Proofs.YthinpbdbhijbgaaGreatDoor
namespace Go.Proofs.YthinpbdbhijbgaaGreatDoor
open Go.RowKit Go.Sort
set_option maxHeartbeats 2000000
set_option maxRecDepth 100000

end Go.Proofs.YthinpbdbhijbgaaGreatDoor
namespace Go.Proofs.YthinpbdbhijbgaaGreatDoor
open Go.RowKit Go.Sort
set_option maxHeartbeats 4000000
set_option maxRecDepth 100000

/-- A row of the call's own that shows these nodes. -/
def NodesOut (L : List Nd) (w : World) (e : Ending) (w' : World) : Prop := ∃ v, e = .returned v ∧ OwnN w.heap.size L v w' ∧ Ext w w'

end Go.Proofs.YthinpbdbhijbgaaGreatDoor
namespace Go.Proofs.YthinpbdbhijbgaaGreatDoor
open Go.RowKit Go.Sort
set_option maxHeartbeats 4000000
set_option maxRecDepth 100000

theorem rall_any (w : World) (b : Nat) (M : List (Key × Nd)) (hR : RT w b (nds M)) (hM : MOk M) (hl : M.length * 168 ≤ 140737488355328) :
    Calls Tryz.prog 73 #[.pointer (some ⟨b, 0, none⟩)] w (NodesOut (nds M) w) := by
  obtain ⟨a, cap, vs, hb, hlc, hcm, hS, hrows, _⟩ := hR
  have hcb : w.cell? ⟨b, 0, none⟩ = some (.slice a (nds M).length cap) := cell_of_row _ _ _ _ _ _ hb
  have hbl := (Array.getElem?_eq_some_iff.1 hb).1
  rw [nds_length] at hcb
  have hl64 : M.length ≤ 9223372036854775807 := by omega
  have HROWS := Lib.hid hrows
  have HS := Lib.hid hS
  have HM := Lib.hid hM
  clear hb hrows hS hM hlc hcm
  go_enter Tryz.func73, Tryz.ntmps73
  go_wp2
  go_loopw [3, 4] (fun ov i wr => ∃ k : Nat, k ≤ M.length ∧ i = .int .i64 k ∧ Hid (OwnN w.heap.size (nds (M.take k)) ov wr) ∧ Ext w wr) (fun _ i _ => M.length - (intOf i).toNat)
  case atStart => exact ⟨0, Nat.zero_le _, rfl, OwnN.nil _ _, Ext.refl _⟩
  case round =>
    obtain ⟨k, hk, rfl, HO, hE⟩ := hrel
    have hcr : wr.cell? ⟨b, 0, none⟩ = some (.slice a M.length cap) := (hE.cell (p := ⟨b, 0, none⟩) hbl).trans hcb
    by_cases hlt : k < M.length
    · have hMk : (nds M)[k]? = some M[k].2 := by unfold nds; rw [List.getElem?_map, List.getElem?_eq_getElem hlt]; rfl
      obtain ⟨bl, off, da, dc, aa, ac, ea, hSb, hc, hD, hA, _⟩ := HROWS.out.row hMk
      subst ea
      have hfit := (right_fit (HM.out.right M[k] (List.getElem_mem hlt))).1
      have HST := Lib.hid (nds_take_succ hlt)
      generalize hxx : M[k] = x at *
      obtain ⟨xk, n⟩ := x
      simp only at *
      have hcw : ∀ j u, (ndC n (.slice da n.data.length dc) (.slice aa n.acl.length ac))[j]? = some u → wr.cell? ((⟨bl, off + k * 17, none⟩ : Addr).add j) = some u := fun j u hj => by
        rw [addr_add, hE.cell (p := ⟨bl, off + k * 17 + j, none⟩) (HS.out bl hSb).1]
        exact hc j u hj
      have hll : (nds (M.take k)).length ≤ k := by rw [nds_length, List.length_take]; omega
      have CC := Lib.hid (rclone_new n da aa dc ac wr hfit ((hD.cells fun b hb => (HS.out b hb).1).ext hE) ((hA.cells fun b hb => (HS.out b hb).1).ext hE))
      have HC := Lib.hid hcw
      have HE := Lib.hid hE
      unfold ndC at HC
      clear hc hD hA hfit hE hMk hxx hcw
      go_wp2_with (refine wpList_load_at rfl 44 (.tmp 24) rfl _ rfl _ _ HC.out Tryz.underlying44 rfl sizeNd ?_)
      refine CC.out.mono ?_
      rintro e W5 ⟨v, rfl, hN, hE5⟩
      have hE5 : Ext wr W5 := hE5
      have HNW := Lib.hid hN
      obtain ⟨qa, qc, ra, rc, rfl, _, _⟩ := hN
      have HE5 := Lib.hid hE5
      have hbz : w.heap.size ≤ wr.heap.size := HE.out.size
      have HE05 := Lib.hid (HE.out.trans hE5)
      unfold ndC at HNW ⊢
      clear CC hE5 hcr HC
      go_wp2_with (at_builtin; refine wpList_append_nd rfl (.tmp 18) (.tmp 27) rfl w.heap.size (nds (M.take k)) _ HO.out HE5.out hbz n _ HNW.out (by omega) rfl rfl ?_)
      intro v' W6 hO6 hE6
      have HO6 := Lib.hid hO6
      have HE6 := Lib.hid (hE6 w HE05.out (Nat.le_refl _))
      clear hO6 hE6
      go_wp2
      go_roundw
      case rel => exact ⟨k + 1, by omega, by go_num, by unfold Hid; rw [HST.out]; exact HO6.out, HE6.out⟩
      case measure => simp [intOf]; omega
    · obtain rfl : k = M.length := by omega
      rw [List.take_length] at HO
      have HFIN := Lib.hid (show NodesOut (nds M) w (.returned u3) wr from ⟨_, rfl, HO.out, hE⟩)
      clear hE HROWS HO
      go_wp2
      go_ret
      exact HFIN.out

end Go.Proofs.YthinpbdbhijbgaaGreatDoor
namespace Go.Proofs.YthinpbdbhijbgaaGreatDoor
open Go.RowKit
inductive Sp where
  | val (v : Value)
  | prop (p : Value → World → Prop)
def Sp.ok : Sp → Value → World → Prop
  | .val x, v, _ => v = x
  | .prop p, v, w => p v w
def spP (l : List Sp) (i : Nat) (v : Value) (w : World) : Prop := match l[i]? with
  | some s => s.ok v w
  | none => False
/-- The properties stay. -/
def stayS : List Sp → Prop
  | [] => True
  | .val _ :: r => stayS r
  | .prop p :: r => (∀ v w w', p v w → Ext w w' → p v w') ∧ stayS r
theorem stayS.at : ∀ {l : List Sp}, stayS l → ∀ (i : Nat) (s : Sp), l[i]? = some s → ∀ v w w', s.ok v w → Ext w w' → s.ok v w'
  | [], _, i, s, h, _, _, _, _, _ => by simp at h
  | .val _ :: r, h, 0, s, hs, v, w, w', hv, _ => by simp at hs; subst hs; exact hv
  | .prop p :: r, h, 0, s, hs, v, w, w', hv, hE => by simp at hs; subst hs; exact h.1 v w w' hv hE
  | .val _ :: r, h, i + 1, s, hs, v, w, w', hv, hE => stayS.at (l := r) h i s (by simpa using hs) v w w' hv hE
  | .prop p :: r, h, i + 1, s, hs, v, w, w', hv, hE => stayS.at (l := r) h.2 i s (by simpa using hs) v w w' hv hE
/-- For all values that are as told. -/
def forS : List Sp → World → (List Value → Prop) → Prop
  | [], _, K => K []
  | .val v :: r, w, K => forS r w fun t => K (v :: t)
  | .prop p :: r, w, K => ∀ u, p u w → forS r w fun t => K (u :: t)
theorem forS_all : ∀ (l : List Sp) (w : World) (K : List Value → Prop), forS l w K → ∀ us : List Value, us.length = l.length → (∀ i u, us[i]? = some u → spP l i u w) → K us
  | [], w, K, h, us, hl, _ => by
    obtain rfl := List.eq_nil_of_length_eq_zero (by simpa using hl)
    exact h
  | .val v :: r, w, K, h, [], hl, _ => by simp at hl
  | .prop v :: r, w, K, h, [], hl, _ => by simp at hl
  | .val v :: r, w, K, h, u :: us, hl, hP => by
    have hu : u = v := hP 0 u rfl
    subst hu
    exact forS_all r w _ h us (by simpa using hl) fun i x hx => hP (i + 1) x (by simpa using hx)
  | .prop p :: r, w, K, h, u :: us, hl, hP => by
    have hu : p u w := hP 0 u rfl
    exact forS_all r w _ (h u hu) us (by simpa using hl) fun i x hx => hP (i + 1) x (by simpa using hx)
section
variable {P : Program} {ops : Array Oper} {Q : Exit → Act → World → Prop} {a0 : Act} {w0 : World}
theorem Ahead.pick {Φ : Nat → Value → World → Prop} {o p : Oper} {a : Act} {w : World} (h : Ahead ops Φ o a w) (j : Nat) (d : Tmp) (v : Value) (hp : ops[j]? = some p) (hd : p.dst = some d) (he : ∃ e ∈ o.after.toList, e.on = j ∧ Region.binds .any e = true) (hv : ∀ u, Φ j u w → u = v) : a.eval (.tmp d) = v :=
  hv _ (h.slot j d hp hd he)
/-- An operation whose guard says no. -/
theorem duty_no {Φ : Nat → Value → World → Prop} {i j : Nat} {b : Bool} {o p : Oper} {d : Tmp} (hg : o.guard = some (j, b)) (hp : ops[j]? = some p) (hd : p.dst = some d) (hin : d < a0.tmps.size) (he : ∃ e ∈ o.after.toList, e.on = j ∧ Region.binds .any e = true)
    (hv : ∀ v w, Φ j v w → v = .bool (!b)) (h : ∀ w, Φ i undef w) : Duty P ops Q Φ a0 w0 i o := by
  intro a w hE hF hA
  obtain ⟨e, hem, rfl, heb⟩ := he
  have hval := hv _ _ (hA e hem heb p hp)
  have : Region.wanted o (yielded ops a.tmps) = false := by
    unfold Region.wanted
    rw [hg]
    have hlt : d < a.tmps.size := by rw [hF.2.1]; exact hin
    unfold valOf at hval
    rw [hd] at hval
    simp only [Array.getD_eq_getD_getElem?, Array.getElem?_eq_getElem hlt, Option.getD_some] at hval
    cases b <;> simp [yielded, hp, hd, Array.getElem?_eq_getElem hlt, hval]
  rw [this]
  simp only [Bool.false_eq_true, if_false]
  exact h w
theorem region_sp (m : Nat) (sp : List Sp) (hst : stayS sp) (hlen : sp.length = ops.toList.length) (hchk : (dstsOk ops && aheadB ops && (ops.toList.all fun o => o.dst.any fun d => decide (d < m))) = true) (hsz : a0.tmps.size = m)
    (hd : Duties P ops Q (spP sp) a0 w0 0 ops.toList)
    (hend : ∀ w, Ext w0 w → forS sp w fun us => Q .normal (filled ops.toList us a0) w) : RegionP P ops Q a0 w0 := by
  have hall := hchk
  simp only [Bool.and_eq_true] at hall
  refine region_rel_e m Ext Ext.refl (fun _ _ _ => Ext.trans) Ext.drew (spP sp) (fun i v w w' h hE => ?_) (fun i v w h ho => ?_) ?_ hsz (duties_rel _ _ hd) fun us w hE hl hP => ?_
  · unfold spP at h ⊢
    cases hs : sp[i]? with
    | none => rw [hs] at h; exact h.elim
    | some s => rw [hs] at h; exact hst.at i s hs v w w' h hE
  · exfalso
    cases hoi : ops[i]? with
    | none => rw [hoi] at ho; cases ho
    | some o =>
      rw [hoi] at ho
      have := List.all_eq_true.1 hall.2 o (List.mem_of_getElem? (i := i) (by simpa using hoi))
      cases hd : o.dst with
      | none => rw [hd] at this; cases this
      | some d => simp [hd] at ho
  · simp only [Bool.and_eq_true]
    refine ⟨hall.1, List.all_eq_true.2 fun o ho => ?_⟩
    have := List.all_eq_true.1 hall.2 o ho
    cases hd : o.dst with
    | none => rfl
    | some d => rw [hd] at this; simpa using this
  · exact forS_all sp w _ (hend w hE) us (by rw [hl, hlen]) hP
/-- The same, but for the last operation, which all others are ahead of: it may turn what it likes. -/
theorem region_sp_last (m : Nat) (sp : List Sp) (hst : stayS sp) (k : Nat) (ol : Oper) (hk : ops[k]? = some ol) (hks : ops.size = k + 1) (hlen : sp.length = k) (hg : ol.guard = none) (hdn : ol.dst = none)
    (hchk : (dstsOk ops && aheadB ops && coverOk ops && ((ops.toList.take (ops.size - 1)).all fun o => o.dst.any fun d => decide (d < m))) = true) (hsz : a0.tmps.size = m)
    (hd : Duties P ops Q (spP sp) a0 w0 0 (ops.toList.take k))
    (hlast : ∀ w, Ext w0 w → forS sp w fun us => ol.wp P (filled (ops.toList.take k) us a0) w (fun a' w' => Q .normal a' w') Q) : RegionP P ops Q a0 w0 := by
  refine region_last_e m (spP sp) (fun i v w w' h hE => ?_) hchk hsz k ol hk hks hg hdn hd fun us w hE hl hP => ?_
  · unfold spP at h ⊢
    cases hs : sp[i]? with
    | none => rw [hs] at h; exact h.elim
    | some s => rw [hs] at h; exact hst.at i s hs v w w' h hE
  · exact forS_all sp w _ (hlast w hE) us (by rw [hl, List.length_take, Array.length_toList, hks, hlen]; omega) hP
end
end Go.Proofs.YthinpbdbhijbgaaGreatDoor
namespace Go.Proofs.YthinpbdbhijbgaaGreatDoor
open Go.RowKit
set_option maxHeartbeats 4000000
set_option maxRecDepth 100000

theorem infoEnt : (Tryz.prog.info? 224).map (fun i => (i.zero, i.size, i.bytes)) = some (some (.agg #[.int .i64 0, .int .u64 0]), 2, 16) := by kernel_rfl
theorem sizeEnt : (Tryz.prog.info? 224).map (·.size) = some 2 := by kernel_rfl
theorem infoI64 : (Tryz.prog.info? 2).map (·.size) = some 1 := by kernel_rfl
theorem infoEnts : (Tryz.prog.info? 220).map (·.size) = some 1 := by kernel_rfl

/-- Entries in a row. -/
def entC (R : List (Int × Int)) : List Value := R.flatMap fun e => [.int .i64 e.1, .int .u64 e.2]
def bookC (every most last : Int) (v : Value) (first : Nat) : Array Value := #[.int .i64 every, .int .i64 most, .int .i64 last, v, .int .i64 first]

/-- A book in memory, its blocks in S. -/
structure BookAt (S : Nat → Prop) (w : World) (bb : Nat) (every most last : Int) (R : List (Int × Int)) (first : Nat) (v : Value) : Prop where
  blk : w.heap[bb]? = some (.cells (bookC every most last v first) 222 (0, 0))
  ring : w.ownsRow 0 224 2 v R.length (entC R)
  own : ∀ k, v.ownBlock = some k → S k ∧ k ≠ bb
  mine : S bb
  bound : ∀ k, S k → k < w.heap.size

def NewBookOut (every most : Int) (w : World) (e : Ending) (w' : World) : Prop :=
  if 1 ≤ every ∧ 1 ≤ most then ∃ bb, e = .returned (.tuple #[.pointer (some ⟨bb, 0, none⟩), .int .i64 0]) ∧ w.heap.size ≤ bb ∧ BookAt (fun k => w.heap.size ≤ k ∧ k < w'.heap.size) w' bb every most 0 [] 0 (.slice none 0 0) ∧ Ext w w'
  else e = .returned (.tuple #[.pointer none, .int .i64 1]) ∧ w = w'

theorem newbook_any (every most : Int) (w : World) : Calls Tryz.prog 112 #[.int .i64 every, .int .i64 most] w (NewBookOut every most w) := by
  unfold NewBookOut
  by_cases h1 : every < 1
  · have h2 : ¬ (1 ≤ every ∧ 1 ≤ most) := by omega
    have hd : decide (every < 1) = true := by simpa using h1
    simp only [if_neg h2]
    clear h2
    go_enter Tryz.func112, Tryz.ntmps112
    go_wp2
    go_ret2
    exact ⟨rfl, rfl⟩
  · have hd : decide (every < 1) = false := by simpa using h1
    by_cases h3 : most < 1
    · have h2 : ¬ (1 ≤ every ∧ 1 ≤ most) := by omega
      have hd3 : decide (most < 1) = true := by simpa using h3
      simp only [if_neg h2]
      clear h2
      go_enter Tryz.func112, Tryz.ntmps112
      go_wp2
      go_ret2
      exact ⟨rfl, rfl⟩
    · have h2 : 1 ≤ every ∧ 1 ≤ most := by omega
      have hd3 : decide (most < 1) = false := by simpa using h3
      simp only [if_pos h2]
      have hfin : ∃ bb, (Ending.returned (.tuple #[.pointer (some ⟨w.heap.size, 0, none⟩), .int .i64 0])) = .returned (.tuple #[.pointer (some ⟨bb, 0, none⟩), .int .i64 0]) ∧ w.heap.size ≤ bb ∧
          BookAt (fun k => w.heap.size ≤ k ∧ k < (w.alloc (.cells (bookC every most 0 (.slice none 0 0) 0) 222)).heap.size) (w.alloc (.cells (bookC every most 0 (.slice none 0 0) 0) 222)) bb every most 0 [] 0 (.slice none 0 0) ∧ Ext w (w.alloc (.cells (bookC every most 0 (.slice none 0 0) 0) 222)) :=
        ⟨w.heap.size, rfl, Nat.le_refl _, ⟨heap_alloc_new w _, World.ownsRow_nil _ _ _ _, fun k hk => (by cases hk), ⟨Nat.le_refl _, by simp⟩, fun k hk => hk.2⟩, Ext.alloc _ _⟩
      have HFIN := Lib.hid hfin
      unfold bookC at HFIN
      clear hfin h2
      go_enter Tryz.func112, Tryz.ntmps112
      go_wp2
      go_ret2
      exact HFIN.out

end Go.Proofs.YthinpbdbhijbgaaGreatDoor
namespace Go.Proofs.YthinpbdbhijbgaaGreatDoor
open Go.RowKit Go.Sort
set_option maxHeartbeats 4000000
set_option maxRecDepth 100000

/-- All is as it was, but for one block. -/
structure But (r : Nat) (w w' : World) : Prop where
  os : w'.os = w.os
  tape : w'.tape = w.tape
  output : w'.output = w.output
  size : w.heap.size ≤ w'.heap.size
  same : ∀ k, k < w.heap.size → k ≠ r → w'.heap[k]? = w.heap[k]?
theorem But.refl (r : Nat) (w : World) : But r w w := ⟨rfl, rfl, rfl, Nat.le_refl _, fun _ _ _ => rfl⟩
theorem But.trans {r : Nat} {a b c : World} (h : But r a b) (k : But r b c) : But r a c :=
  ⟨k.os.trans h.os, k.tape.trans h.tape, k.output.trans h.output, Nat.le_trans h.size k.size, fun i hi hn => (k.same i (Nat.lt_of_lt_of_le hi h.size) hn).trans (h.same i hi hn)⟩
theorem But.of_ext {r : Nat} {a b : World} (h : Ext a b) : But r a b := ⟨h.os, h.tape, h.output, h.size, fun k hk _ => h.block k hk⟩
theorem But.set (r : Nat) (w : World) (cs : Array Value) : But r w (w.setRow r cs) := ⟨rfl, rfl, rfl, by simp, fun _ _ hn => setRow_other _ _ _ _ hn⟩
theorem But.below {r B : Nat} {w w' : World} (h : But r w w') (hB : B ≤ r) (hs : B ≤ w.heap.size) : Below B w w' :=
  ⟨h.os, h.tape, h.output, h.size, fun k hk => h.same k (by omega) (by omega)⟩
end Go.Proofs.YthinpbdbhijbgaaGreatDoor
namespace Go.Proofs.YthinpbdbhijbgaaGreatDoor
open Go.RowKit
set_option maxHeartbeats 4000000
set_option maxRecDepth 100000

/-- The cells of a book of every second number, two at the most. -/
def bkC (l : Int) (v : Value) : Array Value := #[.int .i64 2, .int .i64 2, .int .i64 l, v, .int .i64 0]

def FirstOut (w : World) (bb : Nat) (e : Ending) (w' : World) : Prop :=
  e = .returned (.bool true) ∧ (∃ v, w'.heap[bb]? = some (.cells (bkC 2 v) 222 (0, 0)) ∧ ∃ a c, v = .slice a 1 c) ∧ But bb w w'

/-- What the appending of an entry to a nil ring leaves, operation by operation. -/
def PhiF (bb : Nat) (i : Nat) (v : Value) (w : World) : Prop :=
  match i with
  | 0 | 1 | 2 | 8 => v = .pointer (some ⟨bb, 0, none⟩)
  | 3 | 9 => v = .pointer (some ⟨bb, 3, none⟩)
  | 4 => v = .slice none 0 0
  | 5 => v = .agg #[.int .i64 2, .int .u64 6]
  | 6 => ∃ g, v = .slice (some ⟨g, 0, none⟩) 1 1 ∧ w.heap[g]? = some (.cells #[.int .i64 2, .int .u64 6] 224 (0, 0))
  | 7 => ∃ a c, v = .slice a 1 c
  | _ => False
theorem PhiF.stab (bb : Nat) : ∀ i v w w', PhiF bb i v w → Ext w w' → PhiF bb i v w' := by
  intro i v w w' h hE
  unfold PhiF at *
  split <;> rename_i hi <;> simp only [] at h ⊢ <;> try exact h
  obtain ⟨g, rfl, hg⟩ := h
  exact ⟨g, rfl, (hE.block g (Array.getElem?_eq_some_iff.1 hg).1).trans hg⟩

theorem notefirst_any (w : World) (bb : Nat) (hb : w.heap[bb]? = some (.cells (bkC 0 (.slice none 0 0)) 222 (0, 0))) :
    Calls Tryz.prog 114 #[.pointer (some ⟨bb, 0, none⟩), .int .i64 2, .int .u64 6] w (FirstOut w bb) := by
  have hx : Box w bb (bkC 0 (.slice none 0 0)) := fun j => cell_of_row _ _ _ _ _ _ hb
  obtain ⟨W1, hW1⟩ : ∃ W1, W1 = w.setRow bb (bkC 2 (.slice none 0 0)) := ⟨_, rfl⟩
  have hb1 : W1.heap[bb]? = some (.cells (bkC 2 (.slice none 0 0)) 222 (0, 0)) := by rw [hW1]; exact setRow_heap _ _ _ _ _ _ hb
  have hx1 : Box W1 bb (bkC 2 (.slice none 0 0)) := fun j => cell_of_row _ _ _ _ _ _ hb1
  have hC1 : But bb w W1 := by rw [hW1]; exact But.set _ _ _
  have hbl : bb < W1.heap.size := (Array.getElem?_eq_some_iff.1 hb1).1
  obtain ⟨W2, hW2⟩ : ∃ W2, W2 = W1.alloc (.cells #[.int .i64 2, .int .u64 6] 224) := ⟨_, rfl⟩
  have hE2 : Ext W1 W2 := by rw [hW2]; exact Ext.alloc _ _
  have HSET := Lib.hid ((setRow_alloc W1 #[.int .i64 0, .int .u64 0] #[.int .i64 2, .int .u64 6] 224).trans hW2.symm)
  have HNew := Lib.hid (heap_alloc_new W1 (.cells #[.int .i64 0, .int .u64 0] 224))
  have ce : W2.heap[W1.heap.size]? = some (.cells #[.int .i64 2, .int .u64 6] 224 (0, 0)) := by rw [hW2]; exact heap_alloc_new _ _
  have hb2 := (hE2.block bb hbl).trans hb1
  have HB2 := Lib.hid hb2
  have HCE := Lib.hid ce
  have HC2 := Lib.hid (hC1.trans (But.of_ext hE2))
  have HC1' := Lib.hid (show W2.cell? ⟨bb, 1, none⟩ = some (.int .i64 2) from cell_of_row _ _ 1 _ _ _ hb2)
  have HC3' := Lib.hid (show W2.cell? ⟨bb, 3, none⟩ = some (.slice none 0 0) from cell_of_row _ _ 3 _ _ _ hb2)
  have hbl2 : bb ≠ W1.heap.size := by omega
  have HBLK := Lib.hid hb
  have HW1 := Lib.hid hW1
  have hdm : ((bits .and .i64 2 4294967295).tmod 2 != 0) = false := by decide +kernel
  unfold Box bkC at hx hx1
  unfold bkC at HBLK HW1
  clear hW1 hb1 hC1 hW2 hE2 ce hb2 hb
  go_enter Tryz.func114, Tryz.ntmps114
  go_wp2_with (first | (refine wpList_store_in rfl 2 (.tmp 25) (.tmp 23) rfl bb 2 (.int .i64 2) rfl rfl (by simp [Value.cells, Value.oneCell']) 222 _ HBLK.out (by simp [Value.cells]) infoI64 #[.int .i64 2, .int .i64 2, .int .i64 2, .slice none 0 0, .int .i64 0] (by simp [Value.cells]) ?_; rw [← HW1.out]) | (refine wpList_store_row rfl 224 (.tmp 7) (.tmp 36) rfl W1.heap.size _ rfl rfl 224 _ HNew.out sizeEnt rfl (by simp [Value.oneCell']) ?_; rw [HSET.out]))
  have c1 := HC1'.out
  have c3 := HC3'.out
  refine wp_region_P (by kernel_rfl) (region_vals 80 [.pointer (some ⟨bb, 0, none⟩), .pointer (some ⟨bb, 0, none⟩), .pointer (some ⟨bb, 3, none⟩), .slice none 0 0, .int .i64 0, .pointer (some ⟨bb, 0, none⟩), .pointer (some ⟨bb, 0, none⟩), .pointer (some ⟨bb, 1, none⟩), .int .i64 2, .bool true] rfl (by decide) rfl ?duties ?rest)
  case duties =>
    refine ⟨?_, ?_, ?_, ?_, ?_, ?_, ?_, ?_, ?_, ?_, trivial⟩
    · refine duty_free rfl fun a w' hE hF hA => ?_
      have x1 := hF.slot 0 _ (by decide) rfl
      exact wp_value (w' := w') (v := .pointer (some ⟨bb, 0, none⟩)) (by simp only [execOp, x1]; simp [go_sem]) ⟨_, rfl, rfl, Ext.refl _⟩
    · refine duty_free rfl fun a w' hE hF hA => ?_
      have x1 := hA.val 0 37 rfl rfl ⟨⟨0, .data⟩, by simp, rfl, rfl⟩ rfl
      exact wp_value (w' := w') (v := .pointer (some ⟨bb, 0, none⟩)) (by simp only [execOp, x1]; simp [go_sem]) ⟨_, rfl, rfl, Ext.refl _⟩
    · refine duty_free rfl fun a w' hE hF hA => ?_
      have x1 := hA.val 1 38 rfl rfl ⟨⟨1, .data⟩, by simp, rfl, rfl⟩ rfl
      exact wp_value (w' := w') (v := .pointer (some ⟨bb, 3, none⟩)) (by simp only [execOp, x1]; simp [go_sem]) ⟨_, rfl, rfl, Ext.refl _⟩
    · refine duty_free rfl fun a w' hE hF hA => ?_
      have x1 := hA.val 2 39 rfl rfl ⟨⟨2, .data⟩, by simp, rfl, rfl⟩ rfl
      exact wp_value (ex_cell rfl _ _ x1 ((hE.cell (World.block_lt_of_cell? _ _ c3)).trans c3) rfl Tryz.underlying220) ⟨_, rfl, rfl, Ext.refl _⟩
    · refine duty_free rfl fun a w' hE hF hA => ?_
      have x1 := hA.val 3 40 rfl rfl ⟨⟨3, .data⟩, by simp, rfl, rfl⟩ rfl
      exact wp_value (w' := w') (v := .int .i64 0) (by simp only [execOp, resolve, List.map_toArray, List.map_cons, List.map_nil, x1]; simp [go_sem, invoke, builtin, Builtin.len_]) ⟨_, rfl, rfl, Ext.refl _⟩
    · refine duty_free rfl fun a w' hE hF hA => ?_
      have x1 := hF.slot 0 _ (by decide) rfl
      exact wp_value (w' := w') (v := .pointer (some ⟨bb, 0, none⟩)) (by simp only [execOp, x1]; simp [go_sem]) ⟨_, rfl, rfl, Ext.refl _⟩
    · refine duty_free rfl fun a w' hE hF hA => ?_
      have x1 := hA.val 5 42 rfl rfl ⟨⟨5, .data⟩, by simp, rfl, rfl⟩ rfl
      exact wp_value (w' := w') (v := .pointer (some ⟨bb, 0, none⟩)) (by simp only [execOp, x1]; simp [go_sem]) ⟨_, rfl, rfl, Ext.refl _⟩
    · refine duty_free rfl fun a w' hE hF hA => ?_
      have x1 := hA.val 6 43 rfl rfl ⟨⟨6, .data⟩, by simp, rfl, rfl⟩ rfl
      exact wp_value (w' := w') (v := .pointer (some ⟨bb, 1, none⟩)) (by simp only [execOp, x1]; simp [go_sem]) ⟨_, rfl, rfl, Ext.refl _⟩
    · refine duty_free rfl fun a w' hE hF hA => ?_
      have x1 := hA.val 7 44 rfl rfl ⟨⟨7, .data⟩, by simp, rfl, rfl⟩ rfl
      exact wp_value (ex_cell rfl _ _ x1 ((hE.cell (World.block_lt_of_cell? _ _ c1)).trans c1) rfl Tryz.underlying3) ⟨_, rfl, rfl, Ext.refl _⟩
    · refine duty_free rfl fun a w' hE hF hA => ?_
      have x1 := hA.val 4 41 rfl rfl ⟨⟨4, .data⟩, by simp, rfl, rfl⟩ rfl
      have x2 := hA.val 8 45 rfl rfl ⟨⟨8, .data⟩, by simp, rfl, rfl⟩ rfl
      exact wp_value (w' := w') (v := .bool true) (by simp only [execOp, x1, x2]; simp [go_sem]) ⟨_, rfl, rfl, Ext.refl _⟩
  case rest =>
    intro W3 hE3
    clear c1 c3
    simp only [filled, List.zip_cons_cons, List.zip_nil_left, List.foldl_cons, List.foldl_nil, Act.put, List.setIfInBounds_toArray, List.set_cons_succ, List.set_cons_zero, Exit.then]
    rename_i hK
    refine hK _ _ ?_
    go_wp2
    have hb3 := (hE3.block bb (Array.getElem?_eq_some_iff.1 HB2.out).1).trans HB2.out
    have ce3 := (hE3.block _ (Array.getElem?_eq_some_iff.1 HCE.out).1).trans HCE.out
    have c3 : W3.cell? ⟨bb, 3, none⟩ = some (.slice none 0 0) := cell_of_row _ _ 3 _ _ _ hb3
    obtain ⟨i0, hi, hz0, hz1', hz2⟩ := info_parts infoEnt
    refine wp_region_last_e 80 (by kernel_rfl) (PhiF bb) (PhiF.stab bb) (by decide) rfl 10 _ rfl rfl rfl rfl ?duties2 ?last
    case duties2 =>
      refine ⟨?_, ?_, ?_, ?_, ?_, ?_, ?_, ?_, ?_, ?_, trivial⟩
      · exact duty_free rfl fun a w' hE hF hA => wp_value (w' := w') (ex_move rfl) ⟨_, rfl, hF.slot 0 _ (by decide) rfl, Ext.refl _⟩
      · exact duty_free rfl fun a w' hE hF hA => wp_value (w' := w') (ex_move rfl) ⟨_, rfl, hF.slot 0 _ (by decide) rfl, Ext.refl _⟩
      · refine duty_free rfl fun a w' hE hF hA => ?_
        have x1 : a.eval (.tmp 48) = _ := hA.slot 1 48 rfl rfl ⟨⟨1, .data⟩, by simp, rfl, rfl⟩
        exact wp_value (ex_nilCheck rfl _ x1) ⟨_, rfl, rfl, Ext.refl _⟩
      · refine duty_free rfl fun a w' hE hF hA => ?_
        have x1 : a.eval (.tmp 49) = _ := hA.slot 2 49 rfl rfl ⟨⟨2, .data⟩, by simp, rfl, rfl⟩
        exact wp_value (v := .pointer (some ⟨bb, 3, none⟩)) (w' := w') (by simp only [execOp, x1]; simp [go_sem]) ⟨_, rfl, rfl, Ext.refl _⟩
      · refine duty_free rfl fun a w' hE hF hA => ?_
        have x1 : a.eval (.tmp 50) = _ := hA.slot 3 50 rfl rfl ⟨⟨3, .data⟩, by simp, rfl, rfl⟩
        exact wp_value (ex_cell rfl _ _ x1 ((hE.cell (World.block_lt_of_cell? _ _ c3)).trans c3) rfl Tryz.underlying220) ⟨_, rfl, rfl, Ext.refl _⟩
      · refine duty_free rfl fun a w' hE hF hA => ?_
        have x1 := hF.slot 7 _ (by decide) rfl
        exact wp_value (ex_load_row rfl _ x1 224 _ (0, 0) _ ((hE.block _ (Array.getElem?_eq_some_iff.1 ce3).1).trans ce3) Tryz.underlying224 rfl sizeEnt) ⟨_, rfl, rfl, Ext.refl _⟩
      · refine duty_free rfl fun a w' hE hF hA => ?_
        have x1 : a.eval (.tmp 52) = _ := hA.slot 5 52 rfl rfl ⟨⟨5, .data⟩, by simp, rfl, rfl⟩
        refine wp_buildSlice 220 224 1 _ rfl #[.int .i64 2, .int .u64 6] i0 (.agg #[.int .i64 0, .int .u64 0]) Tryz.underlying220 hi hz0 (by rw [hz1']; decide) (by rw [hz1']; decide) (by simp only [List.map_toArray, List.map_cons, List.map_nil, x1, hz1']; kernel_rfl) ⟨_, rfl, ⟨w'.heap.size, rfl, heap_alloc_new _ _⟩, Ext.alloc _ _⟩
      · refine duty_free rfl fun a w' hE hF hA => ?_
        have x1 : a.eval (.tmp 51) = _ := hA.slot 4 51 rfl rfl ⟨⟨4, .data⟩, by simp, rfl, rfl⟩
        obtain ⟨g, x2, hg⟩ : ∃ g, a.eval (.tmp 53) = .slice (some ⟨g, 0, none⟩) 1 1 ∧ w'.heap[g]? = some (.cells #[.int .i64 2, .int .u64 6] 224 (0, 0)) := hA.slot 6 53 rfl rfl ⟨⟨6, .data⟩, by simp, rfl, rfl⟩
        have hcs : Cells w'.heap.size w' (some ⟨g, 0, none⟩) [.int .i64 2, .int .u64 6] := fun j u hj => ⟨g, 0, rfl, (Array.getElem?_eq_some_iff.1 hg).1, by rw [Nat.zero_add, cell_of_row _ _ _ _ _ _ hg]; simpa using hj⟩
        have hsrc : Src Tryz.prog 2 220 (.slice (some ⟨g, 0, none⟩) 1 1) 1 [.int .i64 2, .int .u64 6] w' := hcs.src Tryz.underlying220 1 1 rfl (by simp [Value.oneCell'])
        obtain ⟨v', w2, hr, hown, hgr, _, _⟩ := run_append_own_src (P := Tryz.prog) w' w'.heap.size 220 220 220 224 i0 (.agg #[.int .i64 0, .int .u64 0]) 2 16 Tryz.underlying220 hi hz0 hz1' hz2 rfl (by decide) (.slice none 0 0) 0 [] (World.ownsRow_nil _ _ _ _) _ 1 _ hsrc (by unfold maxLen; omega) (by omega) (Nat.le_refl _)
        obtain ⟨a', c', rfl, _⟩ := ownsRow_from hown
        exact wp_value (ex_append rfl (by rw [x1, x2]; exact hr)) ⟨_, rfl, ⟨a', c', rfl⟩, ⟨hgr.os, hgr.tape, hgr.output, hgr.size, fun k hk => hgr.block k hk (by simp [Value.ownBlock])⟩⟩
      · refine duty_free rfl fun a w' hE hF hA => ?_
        have x1 : a.eval (.tmp 47) = _ := hA.slot 0 47 rfl rfl ⟨⟨0, .data⟩, by simp, rfl, rfl⟩
        exact wp_value (ex_nilCheck rfl _ x1) ⟨_, rfl, rfl, Ext.refl _⟩
      · refine duty_free rfl fun a w' hE hF hA => ?_
        have x1 : a.eval (.tmp 55) = _ := hA.slot 8 55 rfl rfl ⟨⟨8, .data⟩, by simp, rfl, rfl⟩
        exact wp_value (v := .pointer (some ⟨bb, 3, none⟩)) (w' := w') (by simp only [execOp, x1]; simp [go_sem]) ⟨_, rfl, rfl, Ext.refl _⟩
    case last =>
      intro us W4 hE4 hl hP
      have hl' : us.length = 10 := by simpa using hl
      clear hl
      obtain ⟨u0, u1, u2, u3, u4, u5, u6, u7, u8, u9, rfl⟩ := us10 us hl'
      have h7 : ∃ a c, u7 = .slice a 1 c := hP 7 u7 rfl
      have h7a := h7.choose_spec
      generalize h7.choose = a' at h7a
      have h7b := h7a.choose_spec
      generalize h7a.choose = c' at h7b
      have h9 : u9 = .pointer (some ⟨bb, 3, none⟩) := hP 9 u9 rfl
      subst h7b h9
      clear h7 h7a
      have hb4 := (hE4.block bb (Array.getElem?_eq_some_iff.1 hb3).1).trans hb3
      have hfin : FirstOut w bb (.returned (.bool true)) (W4.setRow bb #[.int .i64 2, .int .i64 2, .int .i64 2, .slice a' 1 c', .int .i64 0]) :=
        ⟨rfl, ⟨_, setRow_heap _ _ _ _ _ _ hb4, a', c', rfl⟩, ((HC2.out.trans (But.of_ext hE3)).trans (But.of_ext hE4)).trans (But.set _ _ _)⟩
      have HFIN := Lib.hid hfin
      have HB4 := Lib.hid hb4
      unfold bkC at HB4
      clear hfin hb4 hb3 ce3 c3 hP hl'
      simp only [filled, List.take_succ_cons, List.take_zero, List.zip_cons_cons, List.zip_nil_left, List.foldl_cons, List.foldl_nil, Act.put, List.setIfInBounds_toArray, List.set_cons_succ, List.set_cons_zero]
      refine wp_store_in 220 (.tmp 56) (.tmp 54) bb 3 (.slice a' 1 c') 222 _ #[.int .i64 2, .int .i64 2, .int .i64 2, .slice a' 1 c', .int .i64 0] HB4.out (by simp [Value.cells]) infoEnts (by simp [Value.cells]) (by simp [Value.cells, Value.oneCell']) ?_ rfl rfl rfl
      simp only [Exit.inBlock, Exit.then, Act.put]
      rename_i hK2
      refine hK2 _ _ ?_
      go_wp2
      go_ret
      exact HFIN.out
end Go.Proofs.YthinpbdbhijbgaaGreatDoor
namespace Go.Proofs.YthinpbdbhijbgaaGreatDoor
open Go.RowKit
set_option maxHeartbeats 4000000
set_option maxRecDepth 100000

theorem blen_row (w : World) (bb : Nat) (a : Option Addr) (n c : Nat) (h3 : w.cell? ⟨bb, 3, none⟩ = some (.slice a n c)) : Calls Tryz.prog 115 #[.pointer (some ⟨bb, 0, none⟩)] w fun e w' => e = .returned (.int .i64 n) ∧ w = w' := by
  go_enter Tryz.func115, Tryz.ntmps115
  go_wp2
  go_ret
  exact ⟨rfl, rfl⟩

theorem root_number : addN 0 [rootN] ≠ 0 := by decide +kernel

theorem alive9_any (w : World) (hT : Tabs w) : Calls Tryz.prog 46 #[] w fun e w' => e = .returned (.bool true) ∧ Ext w w' := by
  have hsz := hT.size
  have C1 := newbook_any 2 2 w
  unfold NewBookOut at C1
  simp only [show ((1 : Int) ≤ 2 ∧ (1 : Int) ≤ 2) from by decide, if_true, and_self] at C1
  have C1 := Lib.hid C1
  have HT := Lib.hid hT
  clear hT
  go_enter Tryz.func46, Tryz.ntmps46
  go_wp2_with fail
  refine C1.out.mono ?_
  rintro e W1 ⟨bb, rfl, hbb, hB, hE1⟩
  have hbl := hB.bound _ hB.mine
  have C2 : Calls Tryz.prog 113 #[.slice none 0 0] W1 fun e w' => e = .returned (.int .u64 14695981039346656037) ∧ W1 = w' := sum_any none 0 [] W1 (Cells.nil _ _ _) (by simp)
  have C2 := Lib.hid C2
  have C3 := Lib.hid (notefirst_any W1 bb hB.blk)
  have HE1 := Lib.hid hE1
  have hz1 := hE1.size
  clear hB hE1 C1
  go_wp2_with fail
  refine C2.out.mono ?_
  rintro e W2 ⟨rfl, rfl⟩
  clear C2
  go_wp2_with fail
  refine C3.out.mono ?_
  rintro e W2 ⟨rfl, ⟨v, hrow, a, c, rfl⟩, hBut⟩
  have hB2 : Ext w W2 := HE1.out.trans' (hBut.below hbb (by omega))
  have C4 := Lib.hid (blen_row W2 bb a 1 c (cell_of_row _ _ 3 _ _ _ hrow))
  have C5 := Lib.hid (new_any W2)
  have HB2 := Lib.hid hB2
  clear C3 hrow hBut hB2
  go_wp2_with fail
  refine C4.out.mono ?_
  rintro e W3 ⟨rfl, rfl⟩
  clear C4
  go_wp2_with fail
  refine C5.out.mono ?_
  rintro e W3 ⟨bt, rfl, hTr, hE3⟩
  have hE3 : Ext W2 W3 := hE3
  have hB3 := HB2.out.trans hE3
  have C6 := dof_any _ W3 bt _ _ hTr (HT.out.below hB3 hsz) (by simp)
  simp only [List.map_cons, List.map_nil] at C6
  have C6 := Lib.hid C6
  have HB3 := Lib.hid hB3
  have hne : (addN 0 [rootN] != 0) = true := by simpa using root_number
  have hne2 : decide (addN 0 [rootN] = 0) = false := by simpa using root_number
  clear hTr hE3 hB3 C5
  go_wp2_with fail
  refine C6.out.mono ?_
  rintro e W4 ⟨rfl, hE4⟩
  have HFIN := Lib.hid (HB3.out.trans hE4)
  clear hE4 C6
  go_wp2
  go_ret
  exact ⟨rfl, HFIN.out⟩
end Go.Proofs.YthinpbdbhijbgaaGreatDoor
namespace Go.Proofs.YthinpbdbhijbgaaGreatDoor
open Go.RowKit
set_option maxHeartbeats 2000000

end Go.Proofs.YthinpbdbhijbgaaGreatDoor
namespace Go.Proofs.YthinpbdbhijbgaaGreatDoor
open Go.RowKit
set_option maxHeartbeats 4000000
set_option maxRecDepth 100000

theorem NdsAt.nil (B : Nat) (w : World) (a : Option Addr) : NdsAt B w a [] := fun i n h => by simp at h
end Go.Proofs.YthinpbdbhijbgaaGreatDoor
namespace Go.Proofs.YthinpbdbhijbgaaGreatDoor
open Go.RowKit Go.Sort
set_option maxHeartbeats 4000000
set_option maxRecDepth 100000

def DiffOut (L : List (Key × Int)) (w : World) (e : Ending) (w' : World) : Prop := ∃ a c, e = .returned (.slice a L.length c) ∧ PrtsAt w' a L ∧ Ext w w'
/-- What the document's All hands back, whatever the tree. -/
def RAlls (pv : Value) (M : List (Key × Nd)) (w : World) : Prop := ∀ W, Ext w W → Calls Tryz.prog 73 #[pv] W (NodesOut (nds M) W)
theorem RAlls.of_tree {w : World} {b : Nat} {M : List (Key × Nd)} (hR : RT w b (nds M)) (hM : MOk M) (hl : M.length * 168 ≤ 140737488355328) : RAlls (.pointer (some ⟨b, 0, none⟩)) M w := fun W hE => rall_any W b M (hR.ext hE) hM hl
theorem RAlls.nil (w : World) : RAlls (.pointer none) [] w := fun W _ => by
  go_enter Tryz.func73, Tryz.ntmps73
  go_wp2
  go_loopw [3, 4] (fun ov i wr => ov = .slice none 0 0 ∧ i = .int .i64 0 ∧ wr = W) (fun _ _ _ => 0)
  case atStart => exact ⟨rfl, rfl, rfl⟩
  case round =>
    obtain ⟨rfl, rfl, rfl⟩ := hrel
    go_wp2
    go_ret
    exact ⟨_, rfl, OwnN.nil _ _, Ext.refl _⟩
theorem RAlls.ext {pv : Value} {M : List (Key × Nd)} {w w' : World} (h : RAlls pv M w) (hE : Ext w w') : RAlls pv M w' := fun W hE2 => h W (hE.trans hE2)
/-- The nodes that are left to be gone through. -/
structure LeftN (W : World) (v : Value) (A l : List (Key × Nd)) : Prop where
  val : ∃ a c, v = .slice a l.length c ∧ l.length ≤ c ∧ NdsAt W.heap.size W a (nds l)
  mem : ∀ x ∈ l, x ∈ A
theorem LeftN.ext {W W' : World} {v : Value} {A l : List (Key × Nd)} (h : LeftN W v A l) (hE : Ext W W') : LeftN W' v A l := by
  obtain ⟨a, c, e, h1, h2⟩ := h.val
  exact ⟨⟨a, c, e, h1, h2.ext hE⟩, h.mem⟩
theorem LeftN.of_own {base : Nat} {W : World} {v : Value} {A : List (Key × Nd)} (h : OwnN base (nds A) v W) : LeftN W v A A := by
  obtain ⟨a, c, vs, e, h1, _, h3, _⟩ := h.rows
  rw [nds_length] at e h1
  exact ⟨⟨a, c, e, h1, h3.nds fun k hk => hk.2⟩, fun _ h => h⟩
theorem LeftN.tail {W : World} {A l : List (Key × Nd)} {x : Key × Nd} {b off c : Nat} (h : LeftN W (.slice (some ⟨b, off, none⟩) (x :: l).length c) A (x :: l)) : LeftN W (.slice (if c = 1 then some ⟨b, off, none⟩ else some ⟨b, off + 17, none⟩) l.length (c - 1)) A l := by
  obtain ⟨a, c', e, h1, h2⟩ := h.val
  cases e
  rw [List.length_cons] at h1
  refine ⟨⟨_, _, rfl, by omega, fun i n hi => ?_⟩, fun y hy => h.mem y (List.mem_cons_of_mem _ hy)⟩
  have hil : i < l.length := by
    have := (List.getElem?_eq_some_iff.1 hi).1
    rwa [nds_length] at this
  rw [if_neg (by omega)]
  obtain ⟨b', off', v, e, hb, hv, hc⟩ := h2 (i + 1) n (by rw [nds_cons]; simpa using hi)
  cases e
  refine ⟨_, _, v, rfl, hb, hv, fun j u hj => ?_⟩
  have := hc j u hj
  rwa [show off + (i + 1) * 17 + j = off + 17 + i * 17 + j from by omega] at this
theorem LeftN.head {W : World} {v : Value} {A l : List (Key × Nd)} {x : Key × Nd} (h : LeftN W v A (x :: l)) : ∃ b off c da dc aa ac, v = .slice (some ⟨b, off, none⟩) (l.length + 1) c ∧ b < W.heap.size ∧ l.length + 1 ≤ c ∧ Cells W.heap.size W da (x.2.data.map u8v) ∧ Cells W.heap.size W aa (acCs x.2.acl) ∧
    ∀ j u, (ndC x.2 (.slice da x.2.data.length dc) (.slice aa x.2.acl.length ac))[j]? = some u → W.cell? ((⟨b, off, none⟩ : Addr).add j) = some u := by
  obtain ⟨a, c, e, h1, h2⟩ := h.val
  obtain ⟨b, off, v', rfl, hb, hv, hc⟩ := h2 0 x.2 rfl
  obtain ⟨da, dc, aa, ac, rfl, hD, hA⟩ := hv
  refine ⟨b, off, c, da, dc, aa, ac, e, hb, h1, hD, hA, fun j u hj => ?_⟩
  rw [addr_add]
  have := hc j u hj
  rwa [show off + 0 * 17 + j = off + j from by omega] at this
end Go.Proofs.YthinpbdbhijbgaaGreatDoor
namespace Go.Proofs.YthinpbdbhijbgaaGreatDoor
open Go.RowKit Go.Sort
set_option maxHeartbeats 2000000
set_option maxRecDepth 100000

/-- What All hands back, whatever the tree, where a list grows meanwhile. -/
def AllsO (pv : Value) (M : List (Key × Nd)) (w : World) (bo : Nat) : Prop := ∀ W v, Ext w W → W.cell? ⟨bo, 0, none⟩ = some v → (∀ k, v.ownBlock = some k → w.heap.size ≤ k) → Calls Tryz.prog 89 #[pv] W fun e W1 => ∃ bw btb, e = .returned (.func (.func 195) #[] #[.pointer (some ⟨bw, 0, none⟩), .pointer (some ⟨btb, 0, none⟩)]) ∧
  Tells Fence.wide 5 Tryz.prog 195 #[.pointer (some ⟨bw, 0, none⟩), .pointer (some ⟨btb, 0, none⟩)] (fun x : Value × Nd => #[x.1]) (GS (SafeO bo)) (KeepS (SafeO bo)) (SafeO bo) (fun xs => xs.map (·.2) = nds M) (fun pre => ∃ rest, pre.map (·.2) ++ rest = nds M) W1 ∧ Ext W W1
theorem AllsO.of_tree {S : Nat → Prop} {w : World} {bt : Nat} {M : List (Key × Nd)} {N : Nat} (hT : TreeAt S w bt M N) (hl : M.length * 168 ≤ 140737488355328) (hkl : ∀ k ∈ M.map (·.1), k.length ≤ maxLen) (bo : Nat) (hbo : w.heap.size ≤ bo) : AllsO (.pointer (some ⟨bt, 0, none⟩)) M w bo := fun W v hE hv hvo => by
  refine (tall_any bt W).mono ?_
  rintro e W1 ⟨bw, btb, rfl, hcw, hct, hE1⟩
  have hT1 := (hT.ext hE).ext hE1
  have hok := hT.ok
  have hs1 : ∀ k, S k → SafeO bo W1 k := fun k hk => ⟨by have := hT.bound k hk; omega, v, (hE1.cell (World.block_lt_of_cell? _ _ hv)).trans hv, fun e => by have := hvo k e; have := hT.bound k hk; omega⟩
  have TT := told_tells (SafeO bo) S W1 bt M N hT1 hs1 bw btb 152 #[.pointer (some ⟨bt, 0, none⟩)] #[] hcw hct (enters_of Tryz.func152 (by kernel_rfl) rfl) (M.map (·.1))
    (fun W hW => by simpa using tsorted_any S W bt M N (hT1.ext hW) (by omega)) (by simpa using hl) hkl
  rw [nodesOf_vals hok.sorted] at TT
  exact ⟨bw, btb, rfl, TT, hE1⟩
theorem AllsO.nil (w : World) (bo : Nat) : AllsO (.pointer none) [] w bo := fun W v _ _ _ => by
  refine (tall_nil W).mono ?_
  rintro e W1 ⟨bw, btb, rfl, hcw, hE1⟩
  exact ⟨bw, btb, rfl, told_tells_nil (SafeO bo) W1 bw btb 152 #[.pointer none] #[] hcw (enters_of Tryz.func152 (by kernel_rfl) rfl)
    (fun W _ => (show Calls Tryz.prog 152 #[.pointer none] W _ from (sorted_nil W).mono fun e w' h => by obtain ⟨rfl, rfl⟩ := h; exact ⟨rfl, Ext.refl _⟩)), hE1⟩

/-- The partings of some nodes. -/
noncomputable def parA (B : List (Key × Nd)) (ns : List Nd) : List (Key × Int) := ns.flatMap fun n => partA B (keyN n, n)
def parB (A : List (Key × Nd)) (ns : List Nd) : List (Key × Int) := ns.flatMap fun n => partB A (keyN n, n)
theorem parA_snoc (B : List (Key × Nd)) (ns : List Nd) (n : Nd) : parA B (ns ++ [n]) = parA B ns ++ partA B (keyN n, n) := by unfold parA; simp
theorem parB_snoc (A : List (Key × Nd)) (ns : List Nd) (n : Nd) : parB A (ns ++ [n]) = parB A ns ++ partB A (keyN n, n) := by unfold parB; simp
theorem parA_len (B : List (Key × Nd)) : ∀ ns : List Nd, (parA B ns).length ≤ ns.length
  | [] => Nat.le_refl _
  | n :: ns => by
    have ih := parA_len B ns
    have e : parA B (n :: ns) = partA B (keyN n, n) ++ parA B ns := rfl
    have h1 : (partA B (keyN n, n)).length ≤ 1 := by
      unfold partA; split
      · simp
      · split <;> simp
    rw [e, List.length_append, List.length_cons]; omega
theorem parB_len (A : List (Key × Nd)) : ∀ ns : List Nd, (parB A ns).length ≤ ns.length
  | [] => Nat.le_refl _
  | n :: ns => by
    have ih := parB_len A ns
    have e : parB A (n :: ns) = partB A (keyN n, n) ++ parB A ns := rfl
    have h1 : (partB A (keyN n, n)).length ≤ 1 := by unfold partB; split <;> simp
    rw [e, List.length_append, List.length_cons]; omega
theorem flatMap_congr' {α β : Type} {f g : α → List β} : ∀ {l : List α}, (∀ x ∈ l, f x = g x) → l.flatMap f = l.flatMap g
  | [], _ => rfl
  | x :: l, h => by
    rw [List.flatMap_cons, List.flatMap_cons, h x (List.mem_cons_self ..), flatMap_congr' fun y hy => h y (List.mem_cons_of_mem _ hy)]
theorem par_parts {A B : List (Key × Nd)} (hA : MOk A) (hB : MOk B) : parA B (nds A) ++ parB A (nds B) = partsP A B := by
  unfold parA parB partsP nds
  rw [List.flatMap_map, List.flatMap_map]
  have e : ∀ {M : List (Key × Nd)}, MOk M → ∀ x ∈ M, (keyN x.2, x.2) = x := fun hM x hx => Prod.ext (hM.key x hx).symm rfl
  congr 1
  · exact flatMap_congr' fun x hx => by rw [e hA x hx]
  · exact flatMap_congr' fun x hx => by rw [e hB x hx]

/-- Between two rounds: what the list holds. -/
structure DfI (B bo b1 b2 : Nat) (va vb : Value) (w : World) (P : List (Key × Int)) (W : World) : Prop where
  ex : ∃ v, W.heap[bo]? = some (.cells #[v] 83 (0, 0)) ∧ W.ownsRow B 90 2 v P.length (rowK P)
  c1 : W.heap[b1]? = some (.cells #[va] 37 (0, 0))
  c2 : W.heap[b2]? = some (.cells #[vb] 37 (0, 0))
  size : B ≤ W.heap.size
  keep : Below w.heap.size w W
section
variable {B bo b1 b2 : Nat} {va vb : Value} {w : World} {P : List (Key × Int)} {W W5 X Y : World}
theorem DfI.turn {B' : Nat} (h : DfI B bo b1 b2 va vb w P X) (hT : Turn B' X Y) (hw : w.heap.size ≤ B') (hbo : bo < B) : DfI B bo b1 b2 va vb w P Y ∧ ∀ k, X.heap.size ≤ k → SafeO bo Y k := by
  obtain ⟨v, hv, hrow⟩ := h.ex
  have hs := h.size
  refine ⟨⟨⟨v, hT.cells hv, row_at hrow fun _ _ _ hc => hT.cells hc⟩, hT.cells h.c1, hT.cells h.c2, Nat.le_trans h.size hT.size, h.keep.trans (hT.below hw h.keep.size)⟩, fun k hk => ⟨by omega, v, hT.cell (cell_of_row _ _ _ _ _ _ hv), fun e => ?_⟩⟩
  obtain ⟨c, hc⟩ := ownBlock_lt hrow k e
  have := (Array.getElem?_eq_some_iff.1 hc).1
  omega
theorem DfI.ext (h : DfI B bo b1 b2 va vb w P X) (hE : Ext X Y) (hbo : bo < B) : DfI B bo b1 b2 va vb w P Y := (h.turn (Turn.of_ext (B := w.heap.size) hE) (Nat.le_refl _) hbo).1
theorem keeps_ext {B' : Nat} (hE : Ext W W5) : KeepsRec B' W W5 ∧ KeepS (SafeO bo) W W5 := by
  have hT : Turn 0 W W5 := Turn.of_ext hE
  exact ⟨KeepsRec.of_ext hE, hE.size, fun k c e f hk hs => ⟨hT.cells hk, hs.turn hT⟩⟩
theorem dfI_step {w6 : World} {z : Key × Int} {v v' : Value} (hI : DfI B bo b1 b2 va vb w P W) (hb : bo < B) (hb1 : b1 < B) (hb2 : b2 < B) (hn1 : b1 ≠ bo) (hn2 : b2 ≠ bo) (hwo : w.heap.size ≤ bo) (hE : Ext W W5) (hv : W.heap[bo]? = some (.cells #[v] 83 (0, 0))) (hrow : W.ownsRow B 90 2 v P.length (rowK P))
    (hown : w6.ownsRow B 90 2 v' (P.length + 1) (rowK (P ++ [z]))) (hg : W5.grownBy w6 v.ownBlock) (ho : v'.ownBlock = v.ownBlock ∨ ∃ g, v'.ownBlock = some g ∧ W5.heap.size ≤ g) (B' : Nat) :
    DfI B bo b1 b2 va vb w (P ++ [z]) (w6.setRow bo #[v']) ∧ KeepsRec B' W (w6.setRow bo #[v']) ∧ KeepS (SafeO bo) W (w6.setRow bo #[v']) ∧ w6.heap[bo]? = some (.cells #[v] 83 (0, 0)) := by
  have hz := hg.size
  have hz5 := hE.size
  have hsz := hI.size
  have hblk : ∀ k o, W.heap[k]? = some o → v.ownBlock ≠ some k → w6.heap[k]? = some o := fun k o hk hn => by
    have hlt := (Array.getElem?_eq_some_iff.1 hk).1
    exact (hg.block k (by omega) (fun e => hn e.symm)).trans ((hE.block k hlt).trans hk)
  have h6 : ∀ k o, k ≠ bo → W.heap[k]? = some o → v.ownBlock ≠ some k → (w6.setRow bo #[v']).heap[k]? = some o := fun k o hk ho hn => (setRow_other _ _ _ _ hk).trans (hblk k o ho hn)
  have hov : ∀ k, k < B → v.ownBlock ≠ some k := fun k hk e => by have := ownBlock_ge hrow k e; omega
  have hbo5 := hblk bo _ hv (hov bo hb)
  have hbo6 := setRow_heap w6 bo _ #[v'] _ _ hbo5
  have hc6 : (w6.setRow bo #[v']).cell? ⟨bo, 0, none⟩ = some v' := cell_of_row _ _ _ _ _ _ hbo6
  have hcv : W.cell? ⟨bo, 0, none⟩ = some v := cell_of_row _ _ _ _ _ _ hv
  have hsafe : ∀ k, k < W.heap.size → SafeO bo W k → SafeO bo (w6.setRow bo #[v']) k := fun k hk hs => ⟨hs.1, v', hc6, fun e => by
    obtain ⟨h1, u, h2, h3⟩ := hs
    rw [hcv] at h2
    cases h2
    rcases ho with h | ⟨g, h, hg⟩
    · exact h3 (h.symm.trans e)
    · rw [h] at e; cases e; omega⟩
  have hnb : ∀ k, SafeO bo W k → v.ownBlock ≠ some k := fun k hs => by
    obtain ⟨h1, u, h2, h3⟩ := hs
    rw [hcv] at h2
    cases h2
    exact h3
  refine ⟨⟨⟨v', hbo6, by rw [List.length_append]; exact row_at hown fun g c hg' hc => (setRow_other _ _ _ _ (fun e => by have := ownBlock_ge hown g hg'; omega)).trans hc⟩, h6 b1 _ hn1 hI.c1 (hov b1 hb1), h6 b2 _ hn2 hI.c2 (hov b2 hb2), by simp; omega, ?_⟩, ⟨by simp; omega, fun k o hB hk hr => ?_⟩, ⟨by simp; omega, fun k c e f hk hs => ⟨h6 k _ hs.1 hk (hnb k hs), hsafe k (Array.getElem?_eq_some_iff.1 hk).1 hs⟩⟩, hbo5⟩
  · refine hI.keep.trans ⟨hg.os.trans hE.os, hg.tape.trans hE.tape, hg.output.trans hE.output, by simp; omega, fun k hk => ?_⟩
    have hlt := hI.keep.size
    have hlk : k < W.heap.size := by omega
    exact (h6 k _ (by omega) (Array.getElem?_eq_getElem hlk) (hov k (by omega))).trans (Array.getElem?_eq_getElem hlk).symm
  · by_cases e : k = bo
    · subst e
      rw [hv] at hk
      cases hk
      cases hr
    · refine h6 k o e hk fun e => ?_
      obtain ⟨c, hc⟩ := ownBlock_lt hrow k e
      rw [hk] at hc
      cases hc
      cases hr
end
theorem infoPt : (Tryz.prog.info? 90).map (fun i => (i.zero, i.size, i.bytes)) = some (some (.agg #[.string ⟨#[]⟩, .int .i64 0]), 2, 24) := by kernel_rfl
theorem infoPs : (Tryz.prog.info? 83).map (·.size) = some 1 := by kernel_rfl
/-- An append within a round. -/
theorem wpListIn_append_k {F : Fence} {n : Nat} {ops : Array Oper} {rest : List Oper} {o : Oper} {a : Act} {Q : Exit → Act → World → Prop} {W5 : World} (hF : ∀ f, F.fn f) (e ts : TypeId) (hu : Tryz.prog.underlying ts = some (.slice e)) (hi0 : (Tryz.prog.info? e).map (fun i => (i.zero, i.size, i.bytes)) = some (some (.agg #[.string ⟨#[]⟩, .int .i64 0]), 2, 24)) (hgd : o.guard = none) (s x : Operand)
    (ho : o.op = .call { callee := .builtin .append, args := #[s, x], argTypes := #[ts, ts] })
    (base : Nat) (L : List (Key × Int)) (ov : Value) (hown : W5.ownsRow base e 2 ov L.length (rowK L)) (hb : base ≤ W5.heap.size) (z : Key × Int) (p : ByteArray) (hp : p.data.toList = z.1) (hl : (L.length + 1) * 24 ≤ 140737488355328)
    (hs : a.eval s = ov) (hx : a.eval x = .slice (some ⟨W5.heap.size, 0, none⟩) 1 1)
    (hK : ∀ v' W6, W6.ownsRow base e 2 v' (L.length + 1) (rowK (L ++ [z])) → (v'.ownBlock = ov.ownBlock ∨ ∃ g, v'.ownBlock = some g ∧ W5.heap.size ≤ g) → W5.grownBy W6 ov.ownBlock → wpListIn F n Tryz.prog ops Q rest (a.put o.dst v') W6) : wpListIn F n Tryz.prog ops Q (o :: rest) a (W5.alloc (.cells #[.string p, .int .i64 z.2] e)) := by
  obtain rfl : p = ⟨z.1.toArray⟩ := ByteArray.ext (Array.toList_inj.1 (by rw [hp]))
  have hrow8 := hown.alloc (.cells #[.string ⟨z.1.toArray⟩, .int .i64 z.2] e)
  have hs1 : Cells (W5.alloc (.cells #[.string ⟨z.1.toArray⟩, .int .i64 z.2] e)).heap.size (W5.alloc (.cells #[.string ⟨z.1.toArray⟩, .int .i64 z.2] e)) (some ⟨W5.heap.size, 0, none⟩) (rowK [z]) := fun j u hj => by
    refine ⟨_, 0, rfl, by simp, ?_⟩
    rw [Nat.zero_add, cell_of_row _ _ _ _ _ _ (heap_alloc_new W5 _)]
    rw [rowK_one] at hj
    simpa using hj
  have hsrc : Src Tryz.prog 2 ts (.slice (some ⟨W5.heap.size, 0, none⟩) 1 1) 1 (rowK [z]) (W5.alloc (.cells #[.string ⟨z.1.toArray⟩, .int .i64 z.2] e)) := hs1.src hu 1 1 (by simp [rowK_one]) (fun u hu => by
    rw [rowK_one] at hu
    simp at hu
    rcases hu with rfl | rfl <;> rfl)
  obtain ⟨i0, hi, hz0, hz1', hz2'⟩ := info_parts hi0
  refine wpListIn_append_src hF hgd s x ts ts ho base e i0 (.agg #[.string ⟨#[]⟩, .int .i64 0]) 2 24 hu hi hz0 hz1' hz2' rfl (by decide) ov L.length (rowK L) hs hrow8 _ 1 _ hx hsrc (by unfold maxLen; omega) hl (by simp; omega) ?_
  intro v' w9 hown9 hg9 _ hor
  have hg : W5.grownBy w9 ov.ownBlock := ⟨hg9.os, hg9.tape, hg9.output, by have := hg9.size; simp at this; omega, fun k hk hn => (hg9.block k (by simp; omega) hn).trans (Below.heap_alloc _ _ _ hk)⟩
  exact hK v' w9 (by rw [rowK_append]; exact hown9) (hor.imp id fun h => ⟨_, h, by simp⟩) hg
/-- Partings that memory may hold. -/
theorem lift_pt : ∀ {P : List (Key × Int)}, (∀ z ∈ P, z.1.length ≤ maxLen) → ∃ D : List Pt, D.map (·.1) = P
  | [], _ => ⟨[], rfl⟩
  | z :: P, h => by
    obtain ⟨D, hD⟩ := lift_pt (P := P) fun y hy => h y (List.mem_cons_of_mem _ hy)
    exact ⟨⟨z, h z (List.mem_cons_self ..)⟩ :: D, congrArg (z :: ·) hD⟩
end Go.Proofs.YthinpbdbhijbgaaGreatDoor
namespace Go.Proofs.YthinpbdbhijbgaaGreatDoor
open Go.RowKit

end Go.Proofs.YthinpbdbhijbgaaGreatDoor
namespace Go.Proofs.YthinpbdbhijbgaaGreatDoor
open Go.RowKit Go.Sort
set_option maxHeartbeats 4000000
set_option maxRecDepth 100000

end Go.Proofs.YthinpbdbhijbgaaGreatDoor
namespace Go.Proofs.YthinpbdbhijbgaaGreatDoor
open Go.RowKit Go.Sort
set_option maxHeartbeats 2000000
set_option maxRecDepth 100000

/-- A node put into a new box. -/
theorem box_node {S : Nat → Prop} {w1 : World} {v : Value} {n : Nd} (hv : NdS S w1 v n) (hS : ∀ b, S b → b < w1.heap.size) :
    ∃ da dc aa ac W2, v = .agg (ndC n (.slice da n.data.length dc) (.slice aa n.acl.length ac)) ∧ (w1.alloc (.cells zeroNd 44)).setRow w1.heap.size (ndC n (.slice da n.data.length dc) (.slice aa n.acl.length ac)) = W2 ∧
      W2.heap[w1.heap.size]? = some (.cells (ndC n (.slice da n.data.length dc) (.slice aa n.acl.length ac)) 44 (0, 0)) ∧ Ext w1 W2 ∧ Cells W2.heap.size W2 da (n.data.map u8v) ∧ Cells W2.heap.size W2 aa (acCs n.acl) := by
  obtain ⟨da, dc, aa, ac, rfl, hD, hA⟩ := hv
  have hE : Ext w1 (w1.alloc (.cells (ndC n (.slice da n.data.length dc) (.slice aa n.acl.length ac)) 44)) := Ext.alloc _ _
  exact ⟨da, dc, aa, ac, _, rfl, setRow_alloc w1 zeroNd _ 44, heap_alloc_new w1 _, hE, (hD.cells hS).ext hE, (hA.cells hS).ext hE⟩
theorem OwnN.base {b b' : Nat} {L : List Nd} {v : Value} {w : World} (h : OwnN b L v w) (hb : b' ≤ b) : OwnN b' L v w := by
  obtain ⟨vs, h1, h2⟩ := h
  exact ⟨vs, ⟨h1.1, h1.2.imp id fun ⟨g, cap, cur, q1, q2, q3⟩ => ⟨g, cap, cur, q1, Nat.le_trans hb q2, q3⟩⟩, h2.imp (fun k hk => ⟨Nat.le_trans hb hk.1, hk.2⟩) fun _ _ _ _ h => h⟩
end Go.Proofs.YthinpbdbhijbgaaGreatDoor
namespace Go.Proofs.YthinpbdbhijbgaaGreatDoor
open Go.RowKit Go.Sort
set_option maxHeartbeats 4000000
set_option maxRecDepth 100000

/-- A slice that shows these texts. -/
def StrsAt (B : Nat) (w : World) (a : Option Addr) (L : List ByteArray) : Prop := ∀ i s, L[i]? = some s → ∃ b off, a = some ⟨b, off, none⟩ ∧ b < B ∧ w.cell? ⟨b, off + i, none⟩ = some (.string s)
theorem StrsAt.ext {w w' : World} {a : Option Addr} {L : List ByteArray} (h : StrsAt w.heap.size w a L) (hE : Ext w w') : StrsAt w'.heap.size w' a L := fun i s hi => by
  obtain ⟨b, off, e, hb, hc⟩ := h i s hi
  exact ⟨b, off, e, Nat.lt_of_lt_of_le hb hE.size, (hE.cell (p := ⟨b, off + i, none⟩) hb).trans hc⟩
theorem StrsAt.of_own {w : World} {base : Nat} {v : Value} {ks : List Key} (h : w.ownsRow base 9 1 v ks.length (ks.map encStr)) : ∃ a c, v = .slice a ks.length c ∧ ks.length ≤ c ∧ StrsAt w.heap.size w a (ks.map fun k => ⟨k.toArray⟩) := by
  have h2 := h.2
  obtain ⟨a, c, rfl, hc⟩ := ownsRow_cells h
  refine ⟨a, c, rfl, ?_, fun i s hi => ?_⟩
  · rcases h2 with ⟨e, h0⟩ | ⟨g, cap, cur, e, _, _, hl, _⟩
    · omega
    · cases e; exact hl
  · rw [List.getElem?_map, Option.map_eq_some_iff] at hi
    obtain ⟨k, hk, rfl⟩ := hi
    obtain ⟨b, off, rfl, hb, hcc⟩ := hc i (encStr k) (by rw [List.getElem?_map, hk]; rfl)
    exact ⟨b, off, rfl, hb, hcc⟩

end Go.Proofs.YthinpbdbhijbgaaGreatDoor
namespace Go.Proofs.YthinpbdbhijbgaaGreatDoor
open Go.RowKit Go.Sort
set_option maxHeartbeats 4000000
set_option maxRecDepth 100000

/-- What Get answers, whatever the tree. -/
def GetsM (pv : Value) (M : List (Key × Nd)) (w : World) : Prop := ∀ W (t : ByteArray), Ext w W → t.size ≤ 9223372036854775800 → Calls Tryz.prog 54 #[pv, .string t] W (GetOut M t W)
theorem GetsM.of_tree {S : Nat → Prop} {w : World} {bt : Nat} {M : List (Key × Nd)} {N : Nat} (hT : TreeAt S w bt M N) : GetsM (.pointer (some ⟨bt, 0, none⟩)) M w := fun W t hE ht => tget_any S W bt M N (hT.ext hE) t (by unfold maxLen; omega)
theorem GetsM.nil (w : World) : GetsM (.pointer none) [] w := fun W t _ _ => (tget_nil t W).mono fun e w' h => ⟨_, h.1, zeroN_nds _ _, h.2⟩

end Go.Proofs.YthinpbdbhijbgaaGreatDoor
