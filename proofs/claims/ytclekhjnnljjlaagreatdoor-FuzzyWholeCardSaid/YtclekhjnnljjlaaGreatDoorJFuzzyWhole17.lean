/- The walks of fuzzy's Begin and of a capture's Step. The law TreeAfter, walked. The walk of a capture's Run over a state that stays: all nodes are taken, in order. A region that draws its order, in which a chain of operations makes or turns memory and all others read: what holds at each stage. The walk of the law's Nodes at two lists of the same nodes. The walk of layer 15's Sessions at two lists of the same sessions. -/
import Derived.Test.YtclekhjnnljjlaaGreatDoorJFuzzyWhole11
import Derived.Test.YtclekhjnnljjlaaGreatDoorJFuzzyWhole16
import Derived.Test.YtclekhjnnljjlaaGreatDoorJFuzzyWhole14
import Derived.Test.YtclekhjnnljjlaaGreatDoorJFuzzyWhole13
import Derived.Test.YtclekhjnnljjlaaGreatDoorJFuzzyWhole7
import Derived.Test.YtclekhjnnljjlaaGreatDoorJFuzzyWhole10
namespace Go.Proofs.YtclekhjnnljjlaaGreatDoor
open Go.RowKit
set_option maxHeartbeats 8000000
set_option maxRecDepth 100000

def capC (z : Int) (sv nv : Value) (p : ByteArray) (dn : Bool) : Array Value := #[.int .i64 z, sv, nv, .string p, .bool dn]
/-- A capture: its image so far, the path that was taken last, is it done? -/
def CapAt (w : World) (bc : Nat) (z : Int) (sv : Value) (L : List Nd) (p : ByteArray) (dn : Bool) : Prop :=
  ∃ nv, w.heap[bc]? = some (.cells (capC z sv nv p dn) 98 (0, 0)) ∧ OwnN (bc + 1) L nv w
def FBeginOut (T : List Se) (z : Int) (w : World) (e : Ending) (w' : World) : Prop :=
  ∃ bc sv, e = .returned (.tuple #[.pointer (some ⟨bc, 0, none⟩), .int .i64 0]) ∧ CapAt w' bc z sv [] ⟨#[]⟩ false ∧ OwnSe w.heap.size T sv w' ∧ w.heap.size ≤ bc ∧ (∀ k, sv.ownBlock = some k → k < bc) ∧ SesAt bc w' (match sv with | .slice a _ _ => a | _ => none) T ∧ Ext w w'
theorem fbegin_any (w : World) (b bt bx bm N2 : Nat) (S2 : Nat → Prop) (T : List Se) (z : Int) (hb : w.heap[b]? = some (.cells #[.pointer (some ⟨bt, 0, none⟩), .pointer (some ⟨bx, 0, none⟩), .int .i64 z] 79 (0, 0))) (hX : TblAt S2 w bx bm T N2) (hlT : T.length * 40 ≤ 140737488355328) :
    Calls Tryz.prog 15 #[.pointer (some ⟨b, 0, none⟩)] w (FBeginOut T z w) := by
  have C1 := Lib.hid (plast_any w b bt bx z hb)
  have C2 := Lib.hid (psess_any w b bt bx z hb)
  have C3 := Lib.hid (slist_any S2 w bx bm T N2 hX hlT)
  clear hb hX
  go_enter Tryz.func15, Tryz.ntmps15
  go_wp2_with fail
  refine C1.out.mono ?_
  rintro e W1 ⟨rfl, rfl⟩
  clear C1
  go_wp2_with fail
  refine C2.out.mono ?_
  rintro e W1 ⟨rfl, rfl⟩
  clear C2
  go_wp2_with fail
  refine C3.out.mono ?_
  rintro e W1 ⟨sv, rfl, hO, hE⟩
  have hE : Ext w W1 := hE
  obtain ⟨W2, hW2⟩ : ∃ W2, W2 = W1.alloc (.cells (capC z sv (.slice none 0 0) ⟨#[]⟩ false) 98) := ⟨_, rfl⟩
  have hE2 : Ext W1 W2 := by rw [hW2]; exact Ext.alloc _ _
  have hfin : FBeginOut T z w (.returned (.tuple #[.pointer (some ⟨W1.heap.size, 0, none⟩), .int .i64 0])) W2 := by
    obtain ⟨a, c, vs, rfl, _, _, hR, _⟩ := hO.rows
    refine ⟨_, _, rfl, ⟨_, by rw [hW2]; exact heap_alloc_new _ _, OwnN.nil _ _⟩, hO.ext hE2, hE.size, fun k hk => ?_, ?_, hE.trans hE2⟩
    · obtain ⟨vs', h1, _⟩ := hO
      exact (h1.lt k hk).2
    · exact SesAt.below (hR.ses fun k hk => hk.2) (hE2.mono (Nat.le_refl _))
  obtain ⟨a, c, vs, rfl, _, _, _, _⟩ := hO.rows
  have HFIN := Lib.hid hfin
  have HW2 := Lib.hid hW2
  unfold capC at HW2
  clear C3 hO hE hfin hE2 hW2
  go_wp2
  rw [← HW2.out]
  go_ret2
  exact HFIN.out

/-- What holds while a node is looked for and laid in a box; d: which operations are done. -/
def StepH (w0 : World) (f : Bool) (n : Nd) (d : Nat → Bool) (vals : Nat → Value) (W : World) : Prop :=
  Ext w0 W ∧ ∃ lo hi, w0.heap.size ≤ lo ∧ hi ≤ W.heap.size ∧
    (d 6 = true → ∃ v, vals 6 = .tuple #[v, .bool f] ∧ NdS (fun k => lo ≤ k ∧ k < hi) W v n ∧ (d 7 = true → vals 7 = .tuple #[v, .bool f]) ∧ (d 8 = true → vals 8 = v) ∧
      (d 11 = true → ∃ g cs, vals 10 = .pointer (some ⟨g, 0, none⟩) ∧ w0.heap.size ≤ g ∧ ¬ (lo ≤ g ∧ g < hi) ∧ W.heap[g]? = some (.cells cs 88 (0, 0)) ∧ v = .agg cs)) ∧
    (d 10 = true → ∃ g cs, vals 10 = .pointer (some ⟨g, 0, none⟩) ∧ w0.heap.size ≤ g ∧ ¬ (lo ≤ g ∧ g < hi) ∧ W.heap[g]? = some (.cells cs 88 (0, 0)) ∧ cs.size = 17) ∧ (d 11 = true → d 10 = true ∧ d 8 = true ∧ d 6 = true)
theorem StepH.ext {w0 : World} {f : Bool} {n : Nd} {d : Nat → Bool} {vals : Nat → Value} {W W' : World} {j : Nat} {v : Value} (h : StepH w0 f n d vals W) (hE : Ext W W') (hj : j ≠ 6 ∧ j ≠ 7 ∧ j ≠ 8 ∧ j ≠ 10 ∧ j ≠ 11) : StepH w0 f n (fun k => d k || k == j) (updV vals j v) W' := by
  obtain ⟨h0, lo, hi, h1, h2, h3, h4, h5⟩ := h
  have e : ∀ k, k ≠ j → (d k || k == j) = d k := fun k hk => by
    have : (k == j) = false := by simpa using hk
    rw [this, Bool.or_false]
  refine ⟨h0.trans hE, lo, hi, h1, Nat.le_trans h2 hE.size, ?_, ?_, ?_⟩
  · simp only [e 6 (fun e => hj.1 e.symm), e 7 (fun e => hj.2.1 e.symm), e 8 (fun e => hj.2.2.1 e.symm), e 11 (fun e => hj.2.2.2.2 e.symm)]
    rw [updV_other _ _ (fun e => hj.1 e.symm), updV_other _ _ (fun e => hj.2.1 e.symm), updV_other _ _ (fun e => hj.2.2.1 e.symm), updV_other _ _ (fun e => hj.2.2.2.1 e.symm)]
    intro h6
    obtain ⟨v', k1, k2, k3, k4, k5⟩ := h3 h6
    refine ⟨v', k1, NdS.imp k2 (fun _ h => h) fun b o u hb hu => (hE.cell (p := ⟨b, o, none⟩) (by have := hb.2; show b < _; omega)).trans hu, k3, k4, fun h11 => ?_⟩
    obtain ⟨g, cs, q1, q2, q3, q4, q5⟩ := k5 h11
    exact ⟨g, cs, q1, q2, q3, (hE.block g (Array.getElem?_eq_some_iff.1 q4).1).trans q4, q5⟩
  · simp only [e 10 (fun e => hj.2.2.2.1 e.symm)]
    rw [updV_other _ _ (fun e => hj.2.2.2.1 e.symm)]
    intro h10
    obtain ⟨g, cs, q1, q2, q3, q4, q5⟩ := h4 h10
    exact ⟨g, cs, q1, q2, q3, (hE.block g (Array.getElem?_eq_some_iff.1 q4).1).trans q4, q5⟩
  · simp only [e 10 (fun e => hj.2.2.2.1 e.symm), e 11 (fun e => hj.2.2.2.2 e.symm), e 8 (fun e => hj.2.2.1 e.symm), e 6 (fun e => hj.1 e.symm)]
    exact h5
theorem StepH.sub {w0 : World} {f : Bool} {n : Nd} {d : Nat → Bool} {vals : Nat → Value} {W : World} (h : StepH w0 f n d vals W) : Ext w0 W := h.1

def FStepOut (bc : Nat) (z : Int) (sv : Value) (L : List Nd) (p : ByteArray) (dn f : Bool) (n : Nd) (w : World) (e : Ending) (w' : World) : Prop :=
  if (dn || !f) = true then e = .returned (.tuple #[.string ⟨#[]⟩, .bool false, .int .i64 0]) ∧ CapAt w' bc z sv L p true ∧ Below bc w w'
  else e = .returned (.tuple #[.string n.path, .bool true, .int .i64 0]) ∧ CapAt w' bc z sv (L ++ [n]) n.path false ∧ Below bc w w'

theorem OwnN.same {base : Nat} {L : List Nd} {v : Value} {w w' : World} (h : OwnN base L v w) (hz : w.heap.size ≤ w'.heap.size) (hs : ∀ k, base ≤ k → k < w.heap.size → w'.heap[k]? = w.heap[k]?) : OwnN base L v w' := by
  obtain ⟨vs, h1, h2⟩ := h
  exact ⟨vs, row_at h1 fun g c hg hc => (hs g (h1.lt g hg).1 (h1.lt g hg).2).trans hc, h2.imp (fun k hk => ⟨hk.1, Nat.lt_of_lt_of_le hk.2.1 hz, hk.2.2⟩) fun b o u hb hu => (World.cell?_of_block (hs b hb.1 hb.2.1)).trans hu⟩
theorem step_rest {w0 : World} {f : Bool} {n : Nd} {d : Nat → Bool} {vals : Nat → Value} {W : World} (h : StepH w0 f n d vals W) (h6 : d 6 = true) (h10 : d 10 = true) (h11 : d 11 = true) :
    ∃ q : Nat × Option Addr × Option Addr × Nat × Nat, vals 10 = .pointer (some ⟨q.1, 0, none⟩) ∧ w0.heap.size ≤ q.1 ∧ W.heap[q.1]? = some (.cells (ndC n (.slice q.2.1 n.data.length q.2.2.2.1) (.slice q.2.2.1 n.acl.length q.2.2.2.2)) 88 (0, 0)) ∧ NdS (fun k => w0.heap.size ≤ k ∧ k < W.heap.size ∧ k ≠ q.1) W (.agg (ndC n (.slice q.2.1 n.data.length q.2.2.2.1) (.slice q.2.2.1 n.acl.length q.2.2.2.2))) n := by
  obtain ⟨h0, lo, hi, h1, h2, h3, h4, h5⟩ := h
  obtain ⟨v, k1, k2, k3, k4, k5⟩ := h3 h6
  obtain ⟨g, cs, q1, q2, q3, q4, rfl⟩ := k5 h11
  obtain ⟨da, dc, aa, ac, e, hD, hA⟩ := k2
  have hcs : cs = ndC n (.slice da n.data.length dc) (.slice aa n.acl.length ac) := by cases e; rfl
  subst hcs
  have hs : ∀ b, lo ≤ b ∧ b < hi → w0.heap.size ≤ b ∧ b < W.heap.size ∧ b ≠ g := fun b hb => ⟨by omega, by omega, fun e => q3 (e ▸ hb)⟩
  exact ⟨(g, da, aa, dc, ac), q1, q2, q4, ⟨da, dc, aa, ac, rfl, hD.imp hs fun _ _ _ _ h => h, hA.imp hs fun _ _ _ _ h => h⟩⟩
theorem step_stop {bc : Nat} {z : Int} {sv nv : Value} {L : List Nd} {p : ByteArray} {dn f : Bool} {n : Nd} {w W2 : World} (hE : Ext w W2) (hbl : bc < w.heap.size) (hcb : W2.heap[bc]? = some (.cells (capC z sv nv p dn) 98 (0, 0))) (hO : OwnN (bc + 1) L nv w) (hs : (dn || !f) = true) :
    FStepOut bc z sv L p dn f n w (.returned (.tuple #[.string ⟨#[]⟩, .bool false, .int .i64 0])) (W2.setCell ⟨bc, 4, none⟩ (.bool true)) := by
  unfold FStepOut
  rw [if_pos hs]
  have hz := hE.size
  have hso : ∀ k, k ≠ bc → (W2.setCell ⟨bc, 4, none⟩ (.bool true)).heap[k]? = W2.heap[k]? := fun k hk => Below.heap_setCell _ _ _ _ (by simpa using hk)
  refine ⟨rfl, ⟨nv, by rw [heap_setCell_same W2 bc 4 _ _ _ hcb]; rfl, OwnN.same (hO.ext hE) (by simp [World.setCell]) fun k hk _ => hso k (by omega)⟩, (hE.mono (Nat.le_of_lt hbl)).trans ⟨rfl, rfl, rfl, by simp [World.setCell], fun k hk => hso k (by omega)⟩⟩
/-- What holds as the node was laid into the row. -/
def StepG (bc g : Nat) (z : Int) (sv nv : Value) (L : List Nd) (p : ByteArray) (n : Nd) (w W7 : World) (u7 : Value) : Prop :=
  ∃ q : Option Addr × Nat, u7 = .slice q.1 (L.length + 1) q.2 ∧ W7.cell? ⟨bc, 2, none⟩ = some nv ∧ W7.frozen? ⟨bc, 2, none⟩ = false ∧
    (W7.setCell ⟨bc, 2, none⟩ (.slice q.1 (L.length + 1) q.2)).cell? ⟨bc, 3, none⟩ = some (.string p) ∧ (W7.setCell ⟨bc, 2, none⟩ (.slice q.1 (L.length + 1) q.2)).frozen? ⟨bc, 3, none⟩ = false ∧ (W7.setCell ⟨bc, 2, none⟩ (.slice q.1 (L.length + 1) q.2)).cell? ⟨g, 0, none⟩ = some (.string n.path) ∧
    ((W7.setCell ⟨bc, 2, none⟩ (.slice q.1 (L.length + 1) q.2)).setCell ⟨bc, 3, none⟩ (.string n.path)).cell? ⟨g, 0, none⟩ = some (.string n.path) ∧
    FStepOut bc z sv L p false true n w (.returned (.tuple #[.string n.path, .bool true, .int .i64 0])) ((W7.setCell ⟨bc, 2, none⟩ (.slice q.1 (L.length + 1) q.2)).setCell ⟨bc, 3, none⟩ (.string n.path))
theorem step_go {bc g : Nat} {z : Int} {sv nv : Value} {L : List Nd} {p : ByteArray} {dn f : Bool} {n : Nd} {w W2 : World} {da aa : Option Addr} {dc ac : Nat} (hE : Ext w W2) (hbl : bc < w.heap.size) (hcb : W2.heap[bc]? = some (.cells (capC z sv nv p dn) 98 (0, 0))) (hg : w.heap.size ≤ g) (hn : W2.heap[g]? = some (.cells (ndC n (.slice da n.data.length dc) (.slice aa n.acl.length ac)) 88 (0, 0)))
    (hN : NdS (fun k => w.heap.size ≤ k ∧ k < W2.heap.size ∧ k ≠ g) W2 (.agg (ndC n (.slice da n.data.length dc) (.slice aa n.acl.length ac))) n) (hO : OwnN (bc + 1) L nv w) (hd : dn = false) :
    OwnN (bc + 1) L nv W2 ∧ ∀ vs : List (Array Value), W2.ownsRow (bc + 1) 88 17 nv L.length (vs.flatMap Array.toList) → EachN (NewN (bc + 1) nv W2) W2 vs L → ∀ (W7 : World) (u7 : Value), (RowA (bc + 1) 88 17 L.length 1 nv (vs.flatMap Array.toList) (fun l _ => l = (ndC n (.slice da n.data.length dc) (.slice aa n.acl.length ac)).toList)) W2 W7 → (fun u W => (∃ l, (fun l _ => l = (ndC n (.slice da n.data.length dc) (.slice aa n.acl.length ac)).toList) l W ∧ W.ownsRow (bc + 1) 88 17 u (L.length + 1) ((vs.flatMap Array.toList) ++ l)) ∧ (u.ownBlock = Value.ownBlock nv ∨ ∃ b', u.ownBlock = some b' ∧ W2.heap.size ≤ b')) u7 W7 → StepG bc g z sv nv L p n w W7 u7 := by
  subst hd
  have hz := hE.size
  refine ⟨hO.ext hE, fun vs hown6 heach W7 u7 hR h7 => ?_⟩
  have hlw : ∀ k, nv.ownBlock = some k → k < w.heap.size := fun k hk => by
    obtain ⟨vs', h1, _⟩ := hO
    exact (h1.lt k hk).2
  obtain ⟨⟨l, rfl, hown7⟩, hb7⟩ := h7
  have hz7 := hR.row.size
  have hob : nv.ownBlock ≠ some bc := fun e => by have := (hown6.lt _ e).1; omega
  have hog : nv.ownBlock ≠ some g := fun e => by have := hlw _ e; omega
  have hk7 : ∀ j, j < W2.heap.size → nv.ownBlock ≠ some j → W7.heap[j]? = W2.heap[j]? := fun j hj hn => hR.row.block j hj hn
  have hcb7 : W7.heap[bc]? = some (.cells (capC z sv nv p false) 98 (0, 0)) := (hk7 bc (by omega) hob).trans hcb
  have hgl := (Array.getElem?_eq_some_iff.1 hn).1
  have hg7 := (hk7 g hgl hog).trans hn
  have hO7 : OwnN (bc + 1) (L ++ [n]) u7 W7 := by
    refine ⟨vs ++ [ndC n (.slice da n.data.length dc) (.slice aa n.acl.length ac)], by rw [List.length_append]; simpa using hown7, EachN.append (heach.imp (fun j hj => ⟨hj.1, by have := hj.2.1; omega, fun e => ?_⟩) fun q o u hq hu => ?_) (EachN.one (NdS.imp hN (fun j hj => ⟨by omega, by omega, fun e => ?_⟩) fun q o u hq hu => ?_))⟩
    · rcases hb7 with h | ⟨b', h, hb'⟩
      · exact hj.2.2 (by rw [← h]; exact e)
      · rw [h] at e; cases e; have := hj.2.1; omega
    · exact (World.cell?_of_block (hk7 q hq.2.1 hq.2.2)).trans hu
    · rcases hb7 with h | ⟨b', h, hb'⟩
      · rw [h] at e; have := hlw j e; omega
      · rw [h] at e; cases e; omega
    · exact (World.cell?_of_block (hk7 q hq.2.1 (fun e => by have := hlw q e; omega))).trans hu
  obtain ⟨ua, uc, rfl, _⟩ := ownsRow_from hown7
  obtain ⟨W8, hW8⟩ : ∃ W8, W8 = W7.setCell ⟨bc, 2, none⟩ (.slice ua (L.length + 1) uc) := ⟨_, rfl⟩
  have hz8 : W8.heap.size = W7.heap.size := by rw [hW8]; simp [World.setCell]
  have ho8 : ∀ k, k ≠ bc → W8.heap[k]? = W7.heap[k]? := fun k hk => by rw [hW8]; exact Below.heap_setCell _ _ _ _ (by simpa using hk)
  have hcb8 : W8.heap[bc]? = some (.cells (capC z sv (.slice ua (L.length + 1) uc) p false) 98 (0, 0)) := by
    rw [hW8, heap_setCell_same W7 bc 2 _ _ _ hcb7]; rfl
  have hg8 := (ho8 g (by omega)).trans hg7
  obtain ⟨W9, hW9⟩ : ∃ W9, W9 = W8.setCell ⟨bc, 3, none⟩ (.string n.path) := ⟨_, rfl⟩
  have hz9 : W9.heap.size = W8.heap.size := by rw [hW9]; simp [World.setCell]
  have ho9 : ∀ k, k ≠ bc → W9.heap[k]? = W8.heap[k]? := fun k hk => by rw [hW9]; exact Below.heap_setCell _ _ _ _ (by simpa using hk)
  have hcb9 : W9.heap[bc]? = some (.cells (capC z sv (.slice ua (L.length + 1) uc) n.path false) 98 (0, 0)) := by
    rw [hW9, heap_setCell_same W8 bc 3 _ _ _ hcb8]; rfl
  have hg9 := (ho9 g (by omega)).trans hg8
  refine ⟨(ua, uc), rfl, cell_of_row _ _ _ _ _ _ hcb7, frozen_of_row W7 bc 2 _ _ hcb7, ?_⟩
  simp only
  rw [← hW8, ← hW9]
  refine ⟨cell_of_row _ _ _ _ _ _ hcb8, frozen_of_row W8 bc 3 _ _ hcb8, cell_of_row _ _ _ _ _ _ hg8, cell_of_row _ _ _ _ _ _ hg9, ?_⟩
  unfold FStepOut
  rw [if_neg (by simp)]
  refine ⟨rfl, ⟨_, hcb9, OwnN.same hO7 (by omega) fun k hk _ => (ho9 k (by omega)).trans (ho8 k (by omega))⟩, (hE.mono (Nat.le_of_lt hbl)).trans ⟨by rw [hW9, hW8]; exact hR.row.os, by rw [hW9, hW8]; exact hR.row.tape, by rw [hW9, hW8]; exact hR.row.output, by omega, fun k hk => (ho9 k (by omega)).trans ((ho8 k (by omega)).trans (hk7 k (by omega) (fun e => by have := (hown6.lt _ e).1; omega)))⟩⟩

theorem fstep_any (w : World) (b bt bx : Nat) (zz : Int) (S : Nat → Prop) (M : List (Key × Nd)) (N : Nat) (hb : w.heap[b]? = some (.cells #[.pointer (some ⟨bt, 0, none⟩), .pointer (some ⟨bx, 0, none⟩), .int .i64 zz] 79 (0, 0))) (hT : TreeAt S w bt M N)
    (bc : Nat) (z : Int) (sv : Value) (L : List Nd) (p : ByteArray) (dn : Bool) (hC : CapAt w bc z sv L p dn) (hl : (afterN M p).isSome = true → (L.length + 1) * 168 ≤ 140737488355328) :
    Calls Tryz.prog 16 #[.pointer (some ⟨bc, 0, none⟩), .pointer (some ⟨b, 0, none⟩)] w (FStepOut bc z sv L p dn (afterN M p).isSome (((afterN M p).map (·.2)).getD zeroN) w) := by
  obtain ⟨nv, hcb, hO⟩ := hC
  have hbcl := (Array.getElem?_eq_some_iff.1 hcb).1
  have g3 : w.cell? ⟨bc, 3, none⟩ = some (.string p) := cell_of_row _ _ _ _ _ _ hcb
  have HB := Lib.hid hb
  have HT := Lib.hid hT
  have HCB := Lib.hid hcb
  have HO := Lib.hid hO
  have HLB := Lib.hid hl
  clear hl
  have HAF := Lib.hid (fun W (hE : Ext w W) => after_any S W bt M N (HT.out.ext hE) p)
  unfold AfterOut at HAF
  generalize hn : ((afterN M p).map (·.2)).getD zeroN = n at *
  generalize hf : (afterN M p).isSome = f at *
  clear hb hT hcb hO hn hf
  go_enter Tryz.func16, Tryz.ntmps16
  go_wp2
  refine wp_region_P (by kernel_rfl) (region_gen 55 (fun d vals W => ToldV [some (.pointer (some ⟨b, 0, none⟩)), some (.pointer (some ⟨bt, 0, none⟩)), some (.pointer (some ⟨bc, 0, none⟩)), some (.pointer (some ⟨bc, 0, none⟩)), some (.pointer (some ⟨bc, 3, none⟩)), some (.string p), none, none, none, some (.bool f), none, none, some (.bool f)] d vals ∧ StepH w f n d vals W) ?g0 (by decide) rfl ?duties ?rest)
  case g0 => exact fun vals => ⟨ToldV.none _ _, Ext.drew _, w.heap.size, w.heap.size, Nat.le_refl _, by simp, fun h => (by cases h), fun h => (by cases h), fun h => (by cases h)⟩
  case duties =>
    refine ⟨?_, ?_, ?_, ?_, ?_, ?_, ?_, ?_, ?_, ?_, ?_, ?_, ?_, trivial⟩
    · refine dutyG_val rfl rfl (fun d vals W W' hdi hcl h hE => h.ext hE (by decide)) fun d a W hdi hcl hH hx hF => ?_
      have x1 := hF.slot 1 _ (by decide) rfl
      exact wp_value (w' := W) (v := .pointer (some ⟨b, 0, none⟩)) (by simp only [execOp, x1]; simp [go_sem]) ⟨rfl, Ext.refl _⟩
    · refine dutyG_val rfl rfl (fun d vals W W' hdi hcl h hE => h.ext hE (by decide)) fun d a W hdi hcl hH hx hF => ?_
      have x1 := hx 0 16 _ _ rfl rfl ⟨⟨0, .data⟩, by simp, rfl, rfl⟩ rfl
      refine wp_enter (ex_call rfl (enters_f Tryz.func8 (by kernel_rfl) rfl)) (by simp only [List.map_toArray, List.map_cons, List.map_nil, x1]; exact ptree_any W b bt bx zz ((hH.sub.block _ (Array.getElem?_eq_some_iff.1 HB.out).1).trans HB.out)) ?_
      rintro e w4 ⟨rfl, rfl⟩
      exact ⟨_, rfl, rfl, Ext.refl _⟩
    · refine dutyG_val rfl rfl (fun d vals W W' hdi hcl h hE => h.ext hE (by decide)) fun d a W hdi hcl hH hx hF => ?_
      have x1 := hF.slot 0 _ (by decide) rfl
      exact wp_value (w' := W) (v := .pointer (some ⟨bc, 0, none⟩)) (by simp only [execOp, x1]; simp [go_sem]) ⟨rfl, Ext.refl _⟩
    · refine dutyG_val rfl rfl (fun d vals W W' hdi hcl h hE => h.ext hE (by decide)) fun d a W hdi hcl hH hx hF => ?_
      have x1 := hx 2 18 _ _ rfl rfl ⟨⟨2, .data⟩, by simp, rfl, rfl⟩ rfl
      exact wp_value (ex_nilCheck rfl _ x1) ⟨rfl, Ext.refl _⟩
    · refine dutyG_val rfl rfl (fun d vals W W' hdi hcl h hE => h.ext hE (by decide)) fun d a W hdi hcl hH hx hF => ?_
      have x1 := hx 3 19 _ _ rfl rfl ⟨⟨3, .data⟩, by simp, rfl, rfl⟩ rfl
      exact wp_value (w' := W) (v := .pointer (some ⟨bc, 3, none⟩)) (by simp only [execOp, x1]; simp [go_sem]) ⟨rfl, Ext.refl _⟩
    · refine dutyG_val rfl rfl (fun d vals W W' hdi hcl h hE => h.ext hE (by decide)) fun d a W hdi hcl hH hx hF => ?_
      have x1 := hx 4 20 _ _ rfl rfl ⟨⟨4, .data⟩, by simp, rfl, rfl⟩ rfl
      exact wp_value (ex_cell rfl _ _ x1 ((hH.sub.cell (World.block_lt_of_cell? _ _ g3)).trans g3) rfl Tryz.underlying9) ⟨rfl, Ext.refl _⟩
    · intro d a W hdi hcl hpre hG hF
      have x1 : a.eval (.tmp 17) = .pointer (some ⟨bt, 0, none⟩) := (valsOf_eval 1 17 rfl rfl).trans (hG.1 1 _ rfl (hpre ⟨1, .data⟩ (by simp) rfl))
      have x2 : a.eval (.tmp 21) = .string p := (valsOf_eval 5 21 rfl rfl).trans (hG.1 5 _ rfl (hpre ⟨5, .data⟩ (by simp) rfl))
      obtain ⟨h0, lo, hi, h1, h2, h3, h4, h5⟩ := hG.2
      have hd : d 6 = false := hdi
      have hd11 : d 11 = false := by
        cases hq : d 11 with
        | false => rfl
        | true => have := (h5 hq).2.2; rw [hd] at this; cases this
      have hd8 : d 8 = false := by
        cases hq : d 8 with
        | false => rfl
        | true => have := hcl 3 8 6 (by kernel_rfl) hq; rw [hd] at this; cases this
      have hd7 : d 7 = false := by
        cases hq : d 7 with
        | false => rfl
        | true => have := hcl 3 7 6 (by kernel_rfl) hq; rw [hd] at this; cases this
      refine wp_enter (ex_call rfl (enters_f Tryz.func36 (by kernel_rfl) rfl)) (by simp only [List.map_toArray, List.map_cons, List.map_nil, x1, x2]; exact HAF.out W h0) ?_
      rintro e w4 ⟨v, rfl, hv, hE4⟩
      have hE4 : Ext W w4 := hE4
      refine ⟨_, rfl, _, rfl, hG.1.put 6 _ (fun u hu => by cases hu), h0.trans hE4, W.heap.size, w4.heap.size, h0.size, Nat.le_refl _, ?_, ?_, ?_⟩
      · intro _
        refine ⟨v, updV_same _ _ _, hv, ?_, ?_, ?_⟩
        · intro h; simp [hd7] at h
        · intro h; simp [hd8] at h
        · intro h; simp [hd11] at h
      · intro h
        have h10 : d 10 = true := by simpa using h
        obtain ⟨g, cs, q1, q2, q3, q4, q5⟩ := h4 h10
        have hgl := (Array.getElem?_eq_some_iff.1 q4).1
        exact ⟨g, cs, by rw [updV_other _ _ (by decide)]; exact q1, q2, by omega, (hE4.block g hgl).trans q4, q5⟩
      · intro h; simp [hd11] at h
    · intro d a W hdi hcl hpre hG hF
      obtain ⟨h0, lo, hi, h1, h2, h3, h4, h5⟩ := hG.2
      have h6 : d 6 = true := hpre ⟨6, .data⟩ (by simp) rfl
      obtain ⟨v, k1, k2, k3, k4, k5⟩ := h3 h6
      have x1 : a.eval (.tmp 22) = .tuple #[v, .bool f] := (valsOf_eval 6 22 rfl rfl).trans k1
      refine wp_value (w' := W) (v := .tuple #[v, .bool f]) (by simp only [execOp, x1]; simp [go_sem]) ⟨_, rfl, hG.1.put 7 _ (fun u hu => by cases hu), h0, lo, hi, h1, h2, ?_, ?_, ?_⟩
      · intro _
        refine ⟨v, by rw [updV_other _ _ (by decide)]; exact k1, k2, fun _ => updV_same _ _ _, fun h => ?_, fun h => ?_⟩
        · rw [updV_other _ _ (by decide)]; exact k4 (by simpa using h)
        · rw [updV_other _ _ (by decide)]; exact k5 (by simpa using h)
      · intro h
        rw [updV_other _ _ (by decide)]; exact h4 (by simpa using h)
      · intro h
        have := h5 (by simpa using h)
        exact ⟨by simp [this.1], by simp [this.2.1], by simp [this.2.2]⟩
    · intro d a W hdi hcl hpre hG hF
      obtain ⟨h0, lo, hi, h1, h2, h3, h4, h5⟩ := hG.2
      have h7 : d 7 = true := hpre ⟨7, .data⟩ (by simp) rfl
      have h6 : d 6 = true := hcl 2 7 6 (by kernel_rfl) h7
      obtain ⟨v, k1, k2, k3, k4, k5⟩ := h3 h6
      have x1 : a.eval (.tmp 15) = .tuple #[v, .bool f] := (valsOf_eval 7 15 rfl rfl).trans (k3 h7)
      refine wp_value (w' := W) (v := v) (by simp only [execOp, x1]; simp [go_sem]) ⟨_, rfl, hG.1.put 8 _ (fun u hu => by cases hu), h0, lo, hi, h1, h2, ?_, ?_, ?_⟩
      · intro _
        refine ⟨v, by rw [updV_other _ _ (by decide)]; exact k1, k2, fun h => ?_, fun _ => updV_same _ _ _, fun h => ?_⟩
        · rw [updV_other _ _ (by decide)]; exact k3 h7
        · rw [updV_other _ _ (by decide)]; exact k5 (by simpa using h)
      · intro h
        rw [updV_other _ _ (by decide)]; exact h4 (by simpa using h)
      · intro h
        have := h5 (by simpa using h)
        exact ⟨by simp [this.1], by simp, by simp [this.2.2]⟩
    · intro d a W hdi hcl hpre hG hF
      obtain ⟨h0, lo, hi, h1, h2, h3, h4, h5⟩ := hG.2
      have h7 : d 7 = true := hpre ⟨7, .data⟩ (by simp) rfl
      have h6 : d 6 = true := hcl 2 7 6 (by kernel_rfl) h7
      obtain ⟨v, k1, k2, k3, k4, k5⟩ := h3 h6
      have x1 : a.eval (.tmp 15) = .tuple #[v, .bool f] := (valsOf_eval 7 15 rfl rfl).trans (k3 h7)
      refine wp_value (w' := W) (v := .bool f) (by simp only [execOp, x1]; simp [go_sem]) ⟨_, rfl, hG.1.put 9 _ (fun u hu => by cases hu; rfl), StepH.ext hG.2 (Ext.refl _) (by decide)⟩
    · intro d a W hdi hcl hpre hG hF
      obtain ⟨h0, lo, hi, h1, h2, h3, h4, h5⟩ := hG.2
      have hd : d 10 = false := hdi
      have hd11 : d 11 = false := by
        cases hq : d 11 with
        | false => rfl
        | true => have := (h5 hq).1; rw [hd] at this; cases this
      have hE4 : Ext W (W.alloc (.cells zeroNd 88)) := Ext.alloc _ _
      refine wp_value (w' := W.alloc (.cells zeroNd 88)) (v := .pointer (some ⟨W.heap.size, 0, none⟩)) (by kernel_rfl) ⟨_, rfl, hG.1.put 10 _ (fun u hu => by cases hu), h0.trans hE4, lo, hi, h1, Nat.le_trans h2 hE4.size, ?_, ?_, ?_⟩
      · intro h
        have h6 : d 6 = true := by simpa using h
        obtain ⟨v, k1, k2, k3, k4, k5⟩ := h3 h6
        refine ⟨v, by rw [updV_other _ _ (by decide)]; exact k1, NdS.imp k2 (fun _ h => h) fun b o u hb hu => (hE4.cell (p := ⟨b, o, none⟩) (by have := hb.2; show b < _; omega)).trans hu, fun h => ?_, fun h => ?_, fun h => ?_⟩
        · rw [updV_other _ _ (by decide)]; exact k3 (by simpa using h)
        · rw [updV_other _ _ (by decide)]; exact k4 (by simpa using h)
        · simp [hd11] at h
      · intro _
        exact ⟨W.heap.size, zeroNd, updV_same _ _ _, h0.size, by omega, heap_alloc_new _ _, rfl⟩
      · intro h; simp [hd11] at h
    · intro d a W hdi hcl hpre hG hF
      obtain ⟨h0, lo, hi, h1, h2, h3, h4, h5⟩ := hG.2
      have h10 : d 10 = true := hpre ⟨10, .data⟩ (by simp) rfl
      have h8 : d 8 = true := hpre ⟨8, .data⟩ (by simp) rfl
      have h6 : d 6 = true := hcl 3 8 6 (by kernel_rfl) h8
      obtain ⟨v, k1, k2, k3, k4, k5⟩ := h3 h6
      obtain ⟨g, cs, q1, q2, q3, q4, q5⟩ := h4 h10
      obtain ⟨da, dc, aa, ac, rfl, hD, hA⟩ := k2
      have x1 : a.eval (.tmp 7) = .pointer (some ⟨g, 0, none⟩) := (valsOf_eval 10 7 rfl rfl).trans q1
      have x2 : a.eval (.tmp 23) = .agg (ndC n (.slice da n.data.length dc) (.slice aa n.acl.length ac)) := (valsOf_eval 8 23 rfl rfl).trans (k4 h8)
      have hgl := (Array.getElem?_eq_some_iff.1 q4).1
      have hso : ∀ k, k ≠ g → (W.setRow g (ndC n (.slice da n.data.length dc) (.slice aa n.acl.length ac))).heap[k]? = W.heap[k]? := fun k hk => setRow_other _ _ _ _ hk
      have hsz : (W.setRow g (ndC n (.slice da n.data.length dc) (.slice aa n.acl.length ac))).heap.size = W.heap.size := by simp [World.setRow]
      refine wp_store_row 88 (.tmp 7) (.tmp 23) rfl g _ x1 x2 88 cs q4 sizeNd q5 (cells_node n da aa _ _ _ _) ⟨_, rfl, hG.1.put 11 _ (fun u hu => by cases hu), h0.trans' ⟨rfl, rfl, rfl, by rw [hsz]; exact Nat.le_refl _, fun k hk => hso k (by omega)⟩, lo, hi, h1, by rw [hsz]; exact h2, ?_, ?_, ?_⟩
      · intro _
        have hnew := setRow_heap W g _ (ndC n (.slice da n.data.length dc) (.slice aa n.acl.length ac)) _ _ q4
        refine ⟨_, by rw [updV_other _ _ (by decide)]; exact k1, ⟨da, dc, aa, ac, rfl, hD.imp (fun _ h => h) fun b o u hb hu => (World.cell?_of_block (hso b (fun e => q3 (e ▸ hb)))).trans hu, hA.imp (fun _ h => h) fun b o u hb hu => (World.cell?_of_block (hso b (fun e => q3 (e ▸ hb)))).trans hu⟩, fun h => ?_, fun h => ?_, fun _ => ?_⟩
        · rw [updV_other _ _ (by decide)]; exact k3 (by simpa using h)
        · rw [updV_other _ _ (by decide)]; exact k4 h8
        · exact ⟨g, _, by rw [updV_other _ _ (by decide)]; exact q1, q2, q3, hnew, rfl⟩
      · intro _
        exact ⟨g, _, by rw [updV_other _ _ (by decide)]; exact q1, q2, q3, setRow_heap W g _ _ _ _ q4, rfl⟩
      · intro _
        exact ⟨by simp [h10], by simp [h8], by simp [h6]⟩
    · refine dutyG_val rfl rfl (fun d vals W W' hdi hcl h hE => h.ext hE (by decide)) fun d a W hdi hcl hH hx hF => ?_
      have x1 := hx 9 24 _ _ rfl rfl ⟨⟨9, .data⟩, by simp, rfl, rfl⟩ rfl
      exact wp_value (w' := W) (v := .bool f) (by simp only [execOp, x1]; simp [go_sem]) ⟨rfl, Ext.refl _⟩
  case rest =>
    intro us d W2 hdn hl' hG
    have hl13 : us.length = 13 := by simpa using hl'
    have hS := step_rest hG.2 (hdn 6 (by decide)) (hdn 10 (by decide)) (hdn 11 (by decide))
    have h12 : us.getD 12 undef = .bool f := hG.1 12 _ rfl (hdn 12 (by decide))
    have hE2 := hG.2.1
    clear hdn hl' hG
    have hS1 := hS.choose_spec
    generalize hS.choose = q at hS1
    clear hS
    obtain ⟨g, da, aa, dc, ac⟩ := q
    obtain ⟨u0, u1, u2, u3, u4, u5, u6, u7, u8, u9, u10, u11, u12, rfl⟩ := us13 us hl13
    clear hl13
    have e10 : u10 = .pointer (some ⟨g, 0, none⟩) := hS1.1
    have e12 : u12 = .bool f := h12
    subst e10 e12
    clear h12
    have hgw := hS1.2.1
    have hn6 := hS1.2.2.1
    have hNd := hS1.2.2.2
    simp only at hgw hn6 hNd
    clear hS1
    have hO := HO.out
    have hcb2 : W2.heap[bc]? = some (.cells (capC z sv nv p dn) 98 (0, 0)) := (hE2.block bc hbcl).trans HCB.out
    have c2 : W2.cell? ⟨bc, 2, none⟩ = some nv := cell_of_row _ _ _ _ _ _ hcb2
    have c3 : W2.cell? ⟨bc, 3, none⟩ = some (.string p) := cell_of_row _ _ _ _ _ _ hcb2
    have c4 : W2.cell? ⟨bc, 4, none⟩ = some (.bool dn) := cell_of_row _ _ _ _ _ _ hcb2
    have f4 : W2.frozen? ⟨bc, 4, none⟩ = false := frozen_of_row W2 bc 4 _ _ hcb2
    have hstop := Lib.hid (step_stop (dn := dn) (f := f) (n := n) hE2 hbcl hcb2 HO.out)
    have hgo := Lib.hid (step_go (dn := dn) (f := f) hE2 hbcl hcb2 hgw hn6 hNd HO.out)
    have HE2 := Lib.hid hE2
    have HN6 := Lib.hid hn6
    have HCB2 := Lib.hid hcb2
    clear hE2 hNd hn6 hcb2 hO HAF g3
    simp only [filled, List.zip_cons_cons, List.zip_nil_right, List.zip_nil_left, List.foldl_cons, List.foldl_nil, Act.put]
    go_simp
    rename_i hK
    refine hK _ _ ?_
    clear hK
    cases dn with
    | true =>
      have HFIN := Lib.hid (hstop.out rfl)
      clear hstop hgo
      go_wp2
      go_ret3
      exact HFIN.out
    | false =>
      cases f with
      | false =>
        have HFIN := Lib.hid (hstop.out rfl)
        clear hstop hgo
        go_wp2
        go_ret3
        exact HFIN.out
      | true =>
        have hl := HLB.out rfl
        have hgo2 := hgo.out rfl
        obtain ⟨vs, hown6, heach⟩ := hgo2.1
        have HLAST0 := Lib.hid (hgo2.2 vs)
        have hlt6 : ∀ j, nv.ownBlock = some j → j < W2.heap.size := fun j hj => (hown6.lt j hj).2
        have hob : nv.ownBlock ≠ some bc := fun e => by have := (hown6.lt _ e).1; omega
        have hog : nv.ownBlock ≠ some g := fun e => by
          obtain ⟨vs', h1, _⟩ := HO.out
          have := (h1.lt _ e).2; omega
        obtain ⟨i0, hi, hz0, hz1', hz2'⟩ := info_parts infoNd
        have hzw := HE2.out.size
        have hn6 := HN6.out
        have hcv6 := c2
        have HLAST : Hid (∀ (W7 : World) (u7 : Value), (RowA (bc + 1) 88 17 L.length 1 nv (vs.flatMap Array.toList) (fun l _ => l = (ndC n (.slice da n.data.length dc) (.slice aa n.acl.length ac)).toList)) W2 W7 → (fun u W => (∃ l, (fun l _ => l = (ndC n (.slice da n.data.length dc) (.slice aa n.acl.length ac)).toList) l W ∧ W.ownsRow (bc + 1) 88 17 u (L.length + 1) ((vs.flatMap Array.toList) ++ l)) ∧ (u.ownBlock = Value.ownBlock nv ∨ ∃ b', u.ownBlock = some b' ∧ W2.heap.size ≤ b')) u7 W7 → StepG bc g z sv nv L p n w W7 u7) := fun W7 u7 h1 h2 => HLAST0.out hown6 heach W7 u7 h1 h2
        clear hstop hgo hgo2 HLAST0 heach c3 f4
        go_wp2
        refine wp_region_P (by kernel_rfl) (region_sp_lastR 55 (RowA (bc + 1) 88 17 L.length 1 nv (vs.flatMap Array.toList) (fun l _ => l = (ndC n (.slice da n.data.length dc) (.slice aa n.acl.length ac)).toList)) (RowA.refl _ _ _ _ _ _ _ _) (fun _ _ _ => RowA.trans) (RowA.drew (fun _ _ _ _ h => h)) [.val (.pointer (some ⟨bc, 0, none⟩)), .val (.pointer (some ⟨bc, 0, none⟩)), .val (.pointer (some ⟨bc, 0, none⟩)), .val (.pointer (some ⟨bc, 0, none⟩)), .val (.pointer (some ⟨bc, 2, none⟩)), .val (nv), .val (.agg (ndC n (.slice da n.data.length dc) (.slice aa n.acl.length ac))), .prop (fun u W => ∃ g' : Nat, u = .slice (some ⟨g', 0, none⟩) 1 1 ∧ W2.heap.size ≤ g' ∧ W.heap[g']? = some (.cells (ndC n (.slice da n.data.length dc) (.slice aa n.acl.length ac)) 88 (0, 0))), .prop (fun u W => (∃ l, (fun l _ => l = (ndC n (.slice da n.data.length dc) (.slice aa n.acl.length ac)).toList) l W ∧ W.ownsRow (bc + 1) 88 17 u (L.length + 1) ((vs.flatMap Array.toList) ++ l)) ∧ (u.ownBlock = Value.ownBlock nv ∨ ∃ b', u.ownBlock = some b' ∧ W2.heap.size ≤ b')), .val (.pointer (some ⟨bc, 0, none⟩)), .val (.pointer (some ⟨bc, 0, none⟩)), .val (.pointer (some ⟨bc, 2, none⟩))] ?stay 12 _ rfl rfl rfl rfl rfl (by decide) rfl ?duties ?last)
        case stay =>
          refine ⟨fun v w w' ⟨g', h1, h2, h3⟩ h => ⟨g', h1, h2, (h.row.block g' (Array.getElem?_eq_some_iff.1 h3).1 (fun e => by have := hlt6 g' e; omega)).trans h3⟩, fun v w w' ⟨h1, h2⟩ h => ⟨h.keep v h1, h2⟩, trivial⟩
        case duties =>
          refine ⟨?_, ?_, ?_, ?_, ?_, ?_, ?_, ?_, ?_, ?_, ?_, ?_, trivial⟩
          · exact dutyR_free rfl fun a w' hE hF hA => wp_value (w' := w') (ex_move rfl) ⟨_, rfl, hF.slot 0 _ (by decide) rfl, RowA.refl _ _ _ _ _ _ _ _ _⟩
          · exact dutyR_free rfl fun a w' hE hF hA => wp_value (w' := w') (ex_move rfl) ⟨_, rfl, hF.slot 0 _ (by decide) rfl, RowA.refl _ _ _ _ _ _ _ _ _⟩
          · refine dutyR_free rfl fun a w' hE hF hA => ?_
            have x1 := hA.pick 1 37 (.pointer (some ⟨bc, 0, none⟩)) rfl rfl ⟨⟨1, .data⟩, by simp, rfl, rfl⟩ (fun u h => h)
            exact wp_value (ex_nilCheck rfl _ x1) ⟨_, rfl, rfl, RowA.refl _ _ _ _ _ _ _ _ _⟩
          · refine dutyR_free rfl fun a w' hE hF hA => ?_
            have x1 := hA.pick 2 38 (.pointer (some ⟨bc, 0, none⟩)) rfl rfl ⟨⟨2, .data⟩, by simp, rfl, rfl⟩ (fun u h => h)
            exact wp_value (w' := w') (v := .pointer (some ⟨bc, 0, none⟩)) (by simp only [execOp, x1]; simp [go_sem]) ⟨_, rfl, rfl, RowA.refl _ _ _ _ _ _ _ _ _⟩
          · refine dutyR_free rfl fun a w' hE hF hA => ?_
            have x1 := hA.pick 3 39 (.pointer (some ⟨bc, 0, none⟩)) rfl rfl ⟨⟨3, .data⟩, by simp, rfl, rfl⟩ (fun u h => h)
            exact wp_value (w' := w') (v := .pointer (some ⟨bc, 2, none⟩)) (by simp only [execOp, x1]; simp [go_sem]) ⟨_, rfl, rfl, RowA.refl _ _ _ _ _ _ _ _ _⟩
          · refine dutyR_free rfl fun a w' hE hF hA => ?_
            have x1 := hA.pick 4 40 (.pointer (some ⟨bc, 2, none⟩)) rfl rfl ⟨⟨4, .data⟩, by simp, rfl, rfl⟩ (fun u h => h)
            exact wp_value (ex_cell rfl _ _ x1 (hE.row.cell hcv6 hob) rfl Tryz.underlying22) ⟨_, rfl, rfl, RowA.refl _ _ _ _ _ _ _ _ _⟩
          · refine dutyR_free rfl fun a w' hE hF hA => ?_
            have x1 := hF.slot 7 _ (by decide) rfl
            exact wp_value (ex_load_row rfl _ x1 88 _ (0, 0) _ ((hE.row.block _ (Array.getElem?_eq_some_iff.1 hn6).1 hog).trans hn6) Tryz.underlying88 rfl sizeNd) ⟨_, rfl, rfl, RowA.refl _ _ _ _ _ _ _ _ _⟩
          · refine dutyR_free rfl fun a w' hE hF hA => ?_
            have x1 := hA.pick 6 42 (.agg (ndC n (.slice da n.data.length dc) (.slice aa n.acl.length ac))) rfl rfl ⟨⟨6, .data⟩, by simp, rfl, rfl⟩ (fun u h => h)
            refine wp_buildSlice 22 88 1 _ rfl (ndC n (.slice da n.data.length dc) (.slice aa n.acl.length ac)) i0 (.agg zeroNd) Tryz.underlying22 hi hz0 (by rw [hz1']; decide) (by rw [hz1']; decide) (by simp only [List.map_toArray, List.map_cons, List.map_nil, x1, hz1']; kernel_rfl) ⟨_, rfl, ⟨w'.heap.size, rfl, hE.row.size, heap_alloc_new _ _⟩, RowA.of_ext (fun _ _ _ _ h => h) (Ext.alloc _ _)⟩
          · refine dutyR_free rfl fun a w' hE hF hA => ?_
            have x1 := hA.pick 5 41 (nv) rfl rfl ⟨⟨5, .data⟩, by simp, rfl, rfl⟩ (fun u h => h)
            obtain ⟨g', x2, hgB, hg⟩ : ∃ g' : Nat, a.eval (.tmp 43) = .slice (some ⟨g', 0, none⟩) 1 1 ∧ W2.heap.size ≤ g' ∧ w'.heap[g']? = some (.cells (ndC n (.slice da n.data.length dc) (.slice aa n.acl.length ac)) 88 (0, 0)) := hA.slot 7 43 rfl rfl ⟨⟨7, .data⟩, by simp, rfl, rfl⟩
            have hcs : Cells w'.heap.size w' (some ⟨g', 0, none⟩) (ndC n (.slice da n.data.length dc) (.slice aa n.acl.length ac)).toList := fun j u hj => ⟨g', 0, rfl, (Array.getElem?_eq_some_iff.1 hg).1, by rw [Nat.zero_add, cell_of_row _ _ _ _ _ _ hg]; simpa using hj⟩
            have hsrc : Src Tryz.prog 17 22 (.slice (some ⟨g', 0, none⟩) 1 1) 1 (ndC n (.slice da n.data.length dc) (.slice aa n.acl.length ac)).toList w' := hcs.src Tryz.underlying22 1 1 rfl (fun u hu => by
              have := cells_node n da aa n.data.length n.acl.length dc ac
              rw [← Array.all_toList] at this
              exact List.all_eq_true.1 this u hu)
            obtain ⟨v', w2, hr, hown2, hRA, h5⟩ := run_append_row (P := Tryz.prog) w' (bc + 1) 22 22 22 88 i0 (.agg zeroNd) 17 168 Tryz.underlying22 hi hz0 hz1' hz2' rfl (by decide) _ L.length _ (hE.row.own rfl hown6) _ 1 _ hsrc (fun l _ => l = (ndC n (.slice da n.data.length dc) (.slice aa n.acl.length ac)).toList) (fun _ _ _ _ h => h) rfl (by unfold maxLen; omega) (by omega) (by have := hE.row.size; omega)
            exact wp_value (ex_append rfl (by rw [x1, x2]; exact hr)) ⟨_, rfl, ⟨⟨_, rfl, hown2⟩, h5.imp id fun e => ⟨_, e, hE.row.size⟩⟩, hRA⟩
          · refine dutyR_free rfl fun a w' hE hF hA => ?_
            have x1 := hA.pick 0 36 (.pointer (some ⟨bc, 0, none⟩)) rfl rfl ⟨⟨0, .data⟩, by simp, rfl, rfl⟩ (fun u h => h)
            exact wp_value (ex_nilCheck rfl _ x1) ⟨_, rfl, rfl, RowA.refl _ _ _ _ _ _ _ _ _⟩
          · refine dutyR_free rfl fun a w' hE hF hA => ?_
            have x1 := hA.pick 9 45 (.pointer (some ⟨bc, 0, none⟩)) rfl rfl ⟨⟨9, .data⟩, by simp, rfl, rfl⟩ (fun u h => h)
            exact wp_value (w' := w') (v := .pointer (some ⟨bc, 0, none⟩)) (by simp only [execOp, x1]; simp [go_sem]) ⟨_, rfl, rfl, RowA.refl _ _ _ _ _ _ _ _ _⟩
          · refine dutyR_free rfl fun a w' hE hF hA => ?_
            have x1 := hA.pick 10 46 (.pointer (some ⟨bc, 0, none⟩)) rfl rfl ⟨⟨10, .data⟩, by simp, rfl, rfl⟩ (fun u h => h)
            exact wp_value (w' := w') (v := .pointer (some ⟨bc, 2, none⟩)) (by simp only [execOp, x1]; simp [go_sem]) ⟨_, rfl, rfl, RowA.refl _ _ _ _ _ _ _ _ _⟩
        case last =>
          intro W7 hR
          simp only [forS]
          intro u43 h43 u44 h44
          have h := HLAST.out W7 u44 hR h44
          unfold StepG at h
          have h1 := h.choose_spec
          generalize h.choose = q at h1
          obtain ⟨ua, uc⟩ := q
          simp only at h1
          have e7 := h1.1
          subst e7
          have k1 := h1.2.1
          have k2 := h1.2.2.1
          have k3 := h1.2.2.2.1
          have k4 := h1.2.2.2.2.1
          have k5 := h1.2.2.2.2.2.1
          have k6 := h1.2.2.2.2.2.2.1
          have HFIN := Lib.hid h1.2.2.2.2.2.2.2
          clear h h1 h43 h44 hown6 hlt6 hcv6 hob hog hn6 hR HLAST c2 c4
          simp only [filled, List.take_succ_cons, List.take_zero, List.zip_cons_cons, List.zip_nil_right, List.foldl_cons, List.foldl_nil, Act.put]
          go_simp
          rename_i hK
          refine hK _ _ ?_
          clear hK
          go_wp2
          go_ret3
          exact HFIN.out
end Go.Proofs.YtclekhjnnljjlaaGreatDoor
namespace Go.Proofs.YtclekhjnnljjlaaGreatDoor
open Go.RowKit Go.Sort
set_option maxHeartbeats 4000000
set_option maxRecDepth 100000

theorem find_sorted {M : List (Key × Nd)} (h : MSorted M) (s : Key) (k : Nat) (hk : k < M.length) (hlo : ∀ i (hi : i < k), bytesBefore s (M[i]'(by omega)).1 = false) (hhi : bytesBefore s M[k].1 = true) : M.find? (fun x => bytesBefore s x.1) = some M[k] :=
  List.find?_eq_some_iff_getElem.2 ⟨hhi, k, hk, rfl, fun j hj => by rw [hlo j hj]; rfl⟩

/-- The path that the law stands at. -/
def atN (M : List (Key × Nd)) : Nat → ByteArray
  | 0 => ⟨#[]⟩
  | k + 1 => ((M.map (·.2.path))[k]?).getD ⟨#[]⟩

theorem atN_succ (M : List (Key × Nd)) (k : Nat) (hk : k < M.length) : atN M (k + 1) = M[k].2.path := by
  show ((M.map (·.2.path))[k]?).getD ⟨#[]⟩ = _
  rw [List.getElem?_map, List.getElem?_eq_getElem hk]; rfl

theorem after_at {M : List (Key × Nd)} (hM : MOk M) (k : Nat) (hk : k < M.length) : afterN M (atN M k) = some M[k] := by
  have hs := hM.sorted
  cases k with
  | zero =>
    refine find_sorted hs _ 0 hk (fun i hi => by omega) ?_
    have h1 := (vpath_facts (right_vpath (hM.right _ (List.getElem_mem hk)))).1
    have h2 := hM.key _ (List.getElem_mem hk)
    rw [h2]
    unfold keyN
    rw [← size_list] at h1
    show bytesBefore [] _ = true
    cases hq : M[0].2.path.data.toList with
    | nil => rw [hq] at h1; simp at h1
    | cons a l => rfl
  | succ k =>
    have e : (atN M (k + 1)).data.toList = (M[k]'(by omega)).1 := by
      rw [atN_succ M k (by omega)]
      exact (hM.key _ (List.getElem_mem _)).symm
    have hp := List.pairwise_iff_getElem.1 hs
    unfold afterN
    rw [e]
    refine find_sorted hs _ (k + 1) hk (fun i hi => ?_) (hp k (k + 1) (by omega) hk (by omega))
    by_cases hik : i = k
    · subst hik; exact WideAt.bytes_irrefl _
    · have := hp i k (by omega) (by omega) (by omega)
      cases hb : bytesBefore (M[k]'(by omega)).1 (M[i]'(by omega)).1 with
      | false => rfl
      | true => have h3 := WideShapes.bytes_trans _ _ _ this hb; rw [WideAt.bytes_irrefl] at h3; cases h3

theorem after_end {M : List (Key × Nd)} (hM : MOk M) : afterN M (atN M M.length) = none ∨ M = [] := by
  cases hl : M.length with
  | zero => exact .inr (List.eq_nil_of_length_eq_zero hl)
  | succ k =>
    left
    have e : (atN M (k + 1)).data.toList = (M[k]'(by omega)).1 := by
      rw [atN_succ M k (by omega)]
      exact (hM.key _ (List.getElem_mem _)).symm
    have hp := List.pairwise_iff_getElem.1 hM.sorted
    unfold afterN
    rw [e]
    refine List.find?_eq_none.2 fun x hx => ?_
    obtain ⟨i, hi, rfl⟩ := List.getElem_of_mem hx
    by_cases hik : i = k
    · subst hik; rw [WideAt.bytes_irrefl]; simp
    · have := hp i k hi (by omega) (by omega)
      cases hb : bytesBefore (M[k]'(by omega)).1 M[i].1 with
      | false => simp
      | true => have h3 := WideShapes.bytes_trans _ _ _ this hb; rw [WideAt.bytes_irrefl] at h3; cases h3

end Go.Proofs.YtclekhjnnljjlaaGreatDoor
namespace Go.Proofs.YtclekhjnnljjlaaGreatDoor
open Go.RowKit
set_option maxHeartbeats 8000000
set_option maxRecDepth 100000

theorem CapAt.lt {w : World} {bc : Nat} {z : Int} {sv : Value} {L : List Nd} {p : ByteArray} {dn : Bool} (h : CapAt w bc z sv L p dn) : bc < w.heap.size := by
  obtain ⟨nv, h1, _⟩ := h
  exact (Array.getElem?_eq_some_iff.1 h1).1
theorem fstep_more (w : World) (b bt bx : Nat) (zz : Int) (S : Nat → Prop) (M : List (Key × Nd)) (N : Nat) (hb : w.heap[b]? = some (.cells #[.pointer (some ⟨bt, 0, none⟩), .pointer (some ⟨bx, 0, none⟩), .int .i64 zz] 79 (0, 0))) (hT : TreeAt S w bt M N)
    (bc : Nat) (z : Int) (sv : Value) (k : Nat) (hk : k < M.length) (hC : CapAt w bc z sv (nds (M.take k)) (atN M k) false) (hl : M.length * 168 ≤ 140737488355328) :
    Calls Tryz.prog 16 #[.pointer (some ⟨bc, 0, none⟩), .pointer (some ⟨b, 0, none⟩)] w fun e w' => e = .returned (.tuple #[.string M[k].2.path, .bool true, .int .i64 0]) ∧ CapAt w' bc z sv (nds (M.take (k + 1))) (atN M (k + 1)) false ∧ Below bc w w' := by
  have hll : (nds (M.take k)).length ≤ k := by rw [nds_length, List.length_take]; omega
  have h := fstep_any w b bt bx zz S M N hb hT bc z sv _ _ false hC (fun _ => by omega)
  rw [after_at hT.ok k hk] at h
  rw [nds_take_succ hk, atN_succ M k hk]
  exact h
theorem fstep_end (w : World) (b bt bx : Nat) (zz : Int) (S : Nat → Prop) (M : List (Key × Nd)) (N : Nat) (hb : w.heap[b]? = some (.cells #[.pointer (some ⟨bt, 0, none⟩), .pointer (some ⟨bx, 0, none⟩), .int .i64 zz] 79 (0, 0))) (hT : TreeAt S w bt M N)
    (bc : Nat) (z : Int) (sv : Value) (hC : CapAt w bc z sv (nds M) (atN M M.length) false) :
    Calls Tryz.prog 16 #[.pointer (some ⟨bc, 0, none⟩), .pointer (some ⟨b, 0, none⟩)] w fun e w' => e = .returned (.tuple #[.string ⟨#[]⟩, .bool false, .int .i64 0]) ∧ CapAt w' bc z sv (nds M) (atN M M.length) true ∧ Below bc w w' := by
  have h0 : afterN M (atN M M.length) = none := by
    rcases after_end hT.ok with h | h
    · exact h
    · subst h; rfl
  have h := fstep_any w b bt bx zz S M N hb hT bc z sv _ _ false hC (fun h => by rw [h0] at h; cases h)
  rw [h0] at h
  exact h
theorem frun_any (w : World) (b bt bx : Nat) (zz : Int) (S : Nat → Prop) (M : List (Key × Nd)) (N : Nat) (hb : w.heap[b]? = some (.cells #[.pointer (some ⟨bt, 0, none⟩), .pointer (some ⟨bx, 0, none⟩), .int .i64 zz] 79 (0, 0))) (hT : TreeAt S w bt M N)
    (bc : Nat) (z : Int) (sv : Value) (hC : CapAt w bc z sv [] ⟨#[]⟩ false) (hbb : b < bc) (hSb : ∀ k, S k → k < bc) (hl : M.length * 168 ≤ 140737488355328) :
    Calls Tryz.prog 25 #[.pointer (some ⟨bc, 0, none⟩), .pointer (some ⟨b, 0, none⟩)] w fun e w' => (∃ n : Int, e = .returned (.tuple #[.int .i64 n, .int .i64 0])) ∧ CapAt w' bc z sv (nds M) (atN M M.length) true ∧ Below bc w w' := by
  have hbc := hC.lt
  have HB := Lib.hid hb
  have HT := Lib.hid hT
  have HC := Lib.hid hC
  have HSB := Lib.hid hSb
  clear hb hT hC hSb
  go_enter Tryz.func25, Tryz.ntmps25
  go_wp2
  go_loopw [6] (fun i wr => ∃ k : Nat, k ≤ M.length ∧ i = .int .i64 k ∧ Hid (CapAt wr bc z sv (nds (M.take k)) (atN M k) false) ∧ Below bc w wr) (fun i _ => M.length + 1 - (intOf i).toNat)
  case atStart => exact ⟨0, Nat.zero_le _, rfl, HC.out, Below.refl _ _⟩
  case round =>
    obtain ⟨k, hk, rfl, HCr, hE⟩ := hrel
    have hbr := (hE.block b hbb).trans HB.out
    have hz := hE.size
    have hTr := HT.out.keep (w' := wr) (S' := S) (fun k hk => hE.block k (HSB.out k hk)) (fun _ h => h) (fun k hk => by have := HSB.out k hk; omega) (Nat.le_refl _)
    have HE := Lib.hid hE
    clear hE
    by_cases hlt : k < M.length
    · have CS := Lib.hid (fstep_more wr b bt bx zz S M N hbr hTr bc z sv k hlt HCr.out hl)
      generalize M[k].2.path = pp at *
      clear hbr hTr HCr
      go_wp2_with fail
      refine CS.out.mono ?_
      rintro e W2 ⟨rfl, hC2, hE2⟩
      have HC2 := Lib.hid hC2
      have HE2 := Lib.hid (HE.out.trans hE2)
      clear CS hC2 hE2
      go_wp2
      go_roundw
      case rel => exact ⟨k + 1, by omega, by go_num, HC2.out, HE2.out⟩
      case measure => simp [intOf]; omega
    · obtain rfl : k = M.length := by omega
      rw [List.take_length] at HCr
      have CS := Lib.hid (fstep_end wr b bt bx zz S M N hbr hTr bc z sv HCr.out)
      clear hbr hTr HCr
      go_wp2_with fail
      refine CS.out.mono ?_
      rintro e W2 ⟨rfl, hC2, hE2⟩
      have HC2 := Lib.hid hC2
      have HE2 := Lib.hid (HE.out.trans hE2)
      clear CS hC2 hE2
      go_wp2
      go_ret2
      exact ⟨⟨_, rfl⟩, HC2.out, HE2.out⟩
end Go.Proofs.YtclekhjnnljjlaaGreatDoor
namespace Go.Proofs.YtclekhjnnljjlaaGreatDoor
open Go.RowKit
set_option maxHeartbeats 1000000

/-- What holds: of the latest operation that is done. -/
def Stg (P0 : World → Prop) : List (Nat × (Value → World → Prop)) → (Nat → Bool) → (Nat → Value) → World → Prop
  | [], _, _, W => P0 W
  | (i, P) :: r, d, vals, W => if d i = true then P (vals i) W else Stg P0 r d vals W
def stayG : List (Nat × (Value → World → Prop)) → Prop
  | [] => True
  | (_, P) :: r => (∀ v W W', P v W → Ext W W' → P v W') ∧ stayG r
theorem Stg.read {P0 : World → Prop} (h0 : ∀ W W', P0 W → Ext W W' → P0 W') : ∀ {st : List (Nat × (Value → World → Prop))}, stayG st → ∀ {d : Nat → Bool} {vals : Nat → Value} {W W' : World} {j : Nat} {v : Value}, Stg P0 st d vals W → Ext W W' → (st.all fun x => x.1 != j) = true → Stg P0 st (fun k => d k || k == j) (updV vals j v) W'
  | [], _, d, vals, W, W', j, v, h, hE, _ => h0 _ _ h hE
  | (i, P) :: r, hs, d, vals, W, W', j, v, h, hE, hj => by
    simp only [List.all_cons, Bool.and_eq_true, bne_iff_ne, ne_eq] at hj
    unfold Stg at h ⊢
    have e : (i == j) = false := by simpa using hj.1
    simp only [e, Bool.or_false]
    rw [updV_other _ _ hj.1]
    split
    · rename_i hd; rw [if_pos hd] at h; exact hs.1 _ _ _ h hE
    · rename_i hd; rw [if_neg hd] at h
      exact Stg.read h0 hs.2 h hE hj.2
theorem nd_off {ops : Array Oper} (d : Nat → Bool) (i q f : Nat) (h : d i = false) (hcl : ∀ f k j, reachB ops f k j = true → d k = true → d j = true) (hr : reachB ops f q i = true) : d q = false := by
  cases hq : d q with
  | false => rfl
  | true => rw [hcl f q i hr hq] at h; cases h
end Go.Proofs.YtclekhjnnljjlaaGreatDoor
namespace Go.Proofs.YtclekhjnnljjlaaGreatDoor
open Go.RowKit
set_option maxHeartbeats 2000000
set_option maxRecDepth 100000

theorem nodes_self (L : List Nd) (a b : Option Addr) (c d : Nat) (w : World) (hA : NdsAt w.heap.size w a L) (hB : NdsAt w.heap.size w b L) (hf : ∀ n ∈ L, Fit n) (hl : L.length ≤ 9223372036854775807) :
    Calls Tryz.prog 11 #[.slice a L.length c, .slice b L.length d] w fun e w' => e = .returned (.bool true) ∧ Ext w w' := by
  have HA := Lib.hid hA
  have HB := Lib.hid hB
  have HF := Lib.hid hf
  clear hA hB hf
  go_enter Tryz.func11, Tryz.ntmps11
  go_wp2
  go_loopw [5] (fun i wr => ∃ k : Nat, k ≤ L.length ∧ i = .int .i64 k ∧ Ext w wr) (fun i _ => L.length - (intOf i).toNat)
  case atStart => exact ⟨0, Nat.zero_le _, rfl, Ext.refl _⟩
  case round =>
    obtain ⟨k, hk, rfl, hE⟩ := hrel
    have HE := Lib.hid hE
    by_cases hlt : k < L.length
    · obtain ⟨b1, o1, v1, rfl, hb1, hv1, hc1⟩ := HA.out k L[k] (List.getElem?_eq_getElem hlt)
      obtain ⟨b2, o2, v2, rfl, hb2, hv2, hc2⟩ := HB.out k L[k] (List.getElem?_eq_getElem hlt)
      have hfit := HF.out L[k] (List.getElem_mem hlt)
      generalize L[k] = n at *
      obtain ⟨da, dc, aa, ac, rfl, hD, hAc⟩ := hv1
      obtain ⟨db, dd, ab, ad, rfl, hD2, hAc2⟩ := hv2
      have hr1 : ∀ W, Ext w W → ∀ j u, (ndC n (.slice da n.data.length dc) (.slice aa n.acl.length ac))[j]? = some u → W.cell? ((⟨b1, o1 + k * 17, none⟩ : Addr).add j) = some u := fun W h j u hj => by
        rw [addr_add, h.cell (p := ⟨b1, o1 + k * 17 + j, none⟩) hb1]; exact hc1 j u hj
      have hr2 : ∀ W, Ext w W → ∀ j u, (ndC n (.slice db n.data.length dd) (.slice ab n.acl.length ad))[j]? = some u → W.cell? ((⟨b2, o2 + k * 17, none⟩ : Addr).add j) = some u := fun W h j u hj => by
        rw [addr_add, h.cell (p := ⟨b2, o2 + k * 17 + j, none⟩) hb2]; exact hc2 j u hj
      have HR1 := Lib.hid hr1
      have HR2 := Lib.hid hr2
      have HD := Lib.hid hD
      have HAc := Lib.hid hAc
      have HD2 := Lib.hid hD2
      have HAc2 := Lib.hid hAc2
      clear hr1 hr2 hc1 hc2 hD hAc hD2 hAc2 hE
      go_wp2
      refine wp_region_P (by kernel_rfl) (region_vals 27 [.slice (some ⟨b1, o1, none⟩) L.length c, .int .i64 k, .pointer (some ⟨b1, o1 + k * 17, none⟩), .agg (ndC n (.slice da n.data.length dc) (.slice aa n.acl.length ac)), .slice (some ⟨b2, o2, none⟩) L.length d, .int .i64 k, .pointer (some ⟨b2, o2 + k * 17, none⟩), .agg (ndC n (.slice db n.data.length dd) (.slice ab n.acl.length ad)), .bool true, .bool false] rfl (by decide) rfl ?duties ?rest)
      case duties =>
        refine ⟨?_, ?_, ?_, ?_, ?_, ?_, ?_, ?_, ?_, ?_, trivial⟩
        · refine duty_free rfl fun a w' hE hF hA => ?_
          have x1 := hF.slot 0 _ (by decide) rfl
          exact wp_value (w' := w') (v := .slice (some ⟨b1, o1, none⟩) L.length c) (by simp only [execOp, x1]; simp [go_sem]) ⟨_, rfl, rfl, Ext.refl _⟩
        · refine duty_free rfl fun a w' hE hF hA => ?_
          have x1 := hF.slot 5 _ (by decide) rfl
          exact wp_value (w' := w') (v := .int .i64 k) (by simp only [execOp, x1]; simp [go_sem]) ⟨_, rfl, rfl, Ext.refl _⟩
        · refine duty_free rfl fun a w' hE hF hA => ?_
          have x1 := hA.val 0 17 rfl rfl ⟨⟨0, .data⟩, by simp, rfl, rfl⟩ rfl
          have x2 := hA.val 1 18 rfl rfl ⟨⟨1, .data⟩, by simp, rfl, rfl⟩ rfl
          exact wp_value (w' := w') (v := .pointer (some ⟨b1, o1 + k * 17, none⟩)) (by simp only [execOp, x1, x2]; simp [go_sem, hlt]) ⟨_, rfl, rfl, Ext.refl _⟩
        · refine duty_free rfl fun a w' hE hF hA => ?_
          have x1 := hA.val 2 19 rfl rfl ⟨⟨2, .data⟩, by simp, rfl, rfl⟩ rfl
          exact wp_value (ex_load_at rfl _ x1 (ndC n (.slice da n.data.length dc) (.slice aa n.acl.length ac)) (HR1.out w' (HE.out.trans hE)) Tryz.underlying88 rfl sizeNd) ⟨_, rfl, rfl, Ext.refl _⟩
        · refine duty_free rfl fun a w' hE hF hA => ?_
          have x1 := hF.slot 1 _ (by decide) rfl
          exact wp_value (w' := w') (v := .slice (some ⟨b2, o2, none⟩) L.length d) (by simp only [execOp, x1]; simp [go_sem]) ⟨_, rfl, rfl, Ext.refl _⟩
        · refine duty_free rfl fun a w' hE hF hA => ?_
          have x1 := hF.slot 5 _ (by decide) rfl
          exact wp_value (w' := w') (v := .int .i64 k) (by simp only [execOp, x1]; simp [go_sem]) ⟨_, rfl, rfl, Ext.refl _⟩
        · refine duty_free rfl fun a w' hE hF hA => ?_
          have x1 := hA.val 4 21 rfl rfl ⟨⟨4, .data⟩, by simp, rfl, rfl⟩ rfl
          have x2 := hA.val 5 22 rfl rfl ⟨⟨5, .data⟩, by simp, rfl, rfl⟩ rfl
          exact wp_value (w' := w') (v := .pointer (some ⟨b2, o2 + k * 17, none⟩)) (by simp only [execOp, x1, x2]; simp [go_sem, hlt]) ⟨_, rfl, rfl, Ext.refl _⟩
        · refine duty_free rfl fun a w' hE hF hA => ?_
          have x1 := hA.val 6 23 rfl rfl ⟨⟨6, .data⟩, by simp, rfl, rfl⟩ rfl
          exact wp_value (ex_load_at rfl _ x1 (ndC n (.slice db n.data.length dd) (.slice ab n.acl.length ad)) (HR2.out w' (HE.out.trans hE)) Tryz.underlying88 rfl sizeNd) ⟨_, rfl, rfl, Ext.refl _⟩
        · refine duty_free rfl fun a w' hE hF hA => ?_
          have x1 := hA.val 3 20 rfl rfl ⟨⟨3, .data⟩, by simp, rfl, rfl⟩ rfl
          have x2 := hA.val 7 24 rfl rfl ⟨⟨7, .data⟩, by simp, rfl, rfl⟩ rfl
          have hEE := HE.out.trans hE
          refine wp_enter (ex_call rfl (enters_f Tryz.func31 (by kernel_rfl) rfl)) (by simp only [List.map_toArray, List.map_cons, List.map_nil, x1, x2]; exact rsame_self n da aa db ab dc ac dd ad w' hfit (HD.out.ext hEE) (HAc.out.ext hEE) (HD2.out.ext hEE) (HAc2.out.ext hEE)) ?_
          rintro e w4 ⟨rfl, hb⟩
          exact ⟨_, rfl, _, rfl, rfl, hb⟩
        · refine duty_free rfl fun a w' hE hF hA => ?_
          have x1 := hA.val 8 25 rfl rfl ⟨⟨8, .data⟩, by simp, rfl, rfl⟩ rfl
          exact wp_value (w' := w') (v := .bool false) (by simp only [execOp, x1]; simp [go_sem]) ⟨_, rfl, rfl, Ext.refl _⟩
      case rest =>
        intro W8 hE8
        have HE8 := Lib.hid (HE.out.trans hE8)
        clear hE8 HR1 HR2
        simp only [filled, List.zip_cons_cons, List.zip_nil_left, List.foldl_cons, List.foldl_nil, Act.put, List.setIfInBounds_toArray, List.set_cons_succ, List.set_cons_zero, Exit.then]
        rename_i hK
        refine hK _ _ ?_
        clear hK
        go_wp2
        go_roundw
        case rel => exact ⟨k + 1, by omega, by go_num, HE8.out⟩
        case measure => simp [intOf]; omega
    · obtain rfl : k = L.length := by omega
      clear hE
      go_wp2
      go_ret
      exact ⟨rfl, HE.out⟩
end Go.Proofs.YtclekhjnnljjlaaGreatDoor
namespace Go.Proofs.YtclekhjnnljjlaaGreatDoor
open Go.RowKit
set_option maxHeartbeats 2000000
set_option maxRecDepth 100000

theorem r8same_self (s : Se) (a b : Option Addr) (c d : Nat) (w : World) (hf : FitS s) (hc : Cells w.heap.size w a (idCs s.ids)) (hd : Cells w.heap.size w b (idCs s.ids)) :
    Calls Tryz.prog 84 #[.agg (seC s (.slice a s.ids.length c)), .agg (seC s (.slice b s.ids.length d))] w fun e w' => e = .returned (.bool true) ∧ Ext w w' := by
  have h := rsame8_any s s a b c d w (by have := hf.ids; omega) (by have := hf.ids; omega) hc hd
  rw [show sameS s s = true from sameS_iff.2 rfl] at h
  exact h
theorem sess_self (L : List Se) (a b : Option Addr) (c d : Nat) (w : World) (hA : SesAt w.heap.size w a L) (hB : SesAt w.heap.size w b L) (hf : ∀ n ∈ L, FitS n) (hl : L.length ≤ 9223372036854775807) :
    Calls Tryz.prog 51 #[.slice a L.length c, .slice b L.length d] w fun e w' => e = .returned (.bool true) ∧ Ext w w' := by
  have HA := Lib.hid hA
  have HB := Lib.hid hB
  have HF := Lib.hid hf
  clear hA hB hf
  go_enter Tryz.func51, Tryz.ntmps51
  go_wp2
  go_loopw [5] (fun i wr => ∃ k : Nat, k ≤ L.length ∧ i = .int .i64 k ∧ Ext w wr) (fun i _ => L.length - (intOf i).toNat)
  case atStart => exact ⟨0, Nat.zero_le _, rfl, Ext.refl _⟩
  case round =>
    obtain ⟨k, hk, rfl, hE⟩ := hrel
    have HE := Lib.hid hE
    by_cases hlt : k < L.length
    · obtain ⟨b1, o1, v1, rfl, hb1, hv1, hc1⟩ := HA.out k L[k] (List.getElem?_eq_getElem hlt)
      obtain ⟨b2, o2, v2, rfl, hb2, hv2, hc2⟩ := HB.out k L[k] (List.getElem?_eq_getElem hlt)
      have hfit := HF.out L[k] (List.getElem_mem hlt)
      generalize L[k] = n at *
      obtain ⟨da, dc, rfl, hdc, hD⟩ := hv1
      obtain ⟨db, dd, rfl, hdd, hD2⟩ := hv2
      have hr1 : ∀ W, Ext w W → ∀ j u, (seC n (.slice da n.ids.length dc))[j]? = some u → W.cell? ((⟨b1, o1 + k * 3, none⟩ : Addr).add j) = some u := fun W h j u hj => by
        rw [addr_add, h.cell (p := ⟨b1, o1 + k * 3 + j, none⟩) hb1]; exact hc1 j u hj
      have hr2 : ∀ W, Ext w W → ∀ j u, (seC n (.slice db n.ids.length dd))[j]? = some u → W.cell? ((⟨b2, o2 + k * 3, none⟩ : Addr).add j) = some u := fun W h j u hj => by
        rw [addr_add, h.cell (p := ⟨b2, o2 + k * 3 + j, none⟩) hb2]; exact hc2 j u hj
      have HR1 := Lib.hid hr1
      have HR2 := Lib.hid hr2
      have HD := Lib.hid (CellsS.cells (B := w.heap.size) hD fun _ h => h)
      have HD2 := Lib.hid (CellsS.cells (B := w.heap.size) hD2 fun _ h => h)
      clear hr1 hr2 hc1 hc2 hD hD2 hE
      go_wp2
      refine wp_region_P (by kernel_rfl) (region_vals 27 [.slice (some ⟨b1, o1, none⟩) L.length c, .int .i64 k, .pointer (some ⟨b1, o1 + k * 3, none⟩), .agg (seC n (.slice da n.ids.length dc)), .slice (some ⟨b2, o2, none⟩) L.length d, .int .i64 k, .pointer (some ⟨b2, o2 + k * 3, none⟩), .agg (seC n (.slice db n.ids.length dd)), .bool true, .bool false] rfl (by decide) rfl ?duties ?rest)
      case duties =>
        refine ⟨?_, ?_, ?_, ?_, ?_, ?_, ?_, ?_, ?_, ?_, trivial⟩
        · refine duty_free rfl fun a w' hE hF hA => ?_
          have x1 := hF.slot 0 _ (by decide) rfl
          exact wp_value (w' := w') (v := .slice (some ⟨b1, o1, none⟩) L.length c) (by simp only [execOp, x1]; simp [go_sem]) ⟨_, rfl, rfl, Ext.refl _⟩
        · refine duty_free rfl fun a w' hE hF hA => ?_
          have x1 := hF.slot 5 _ (by decide) rfl
          exact wp_value (w' := w') (v := .int .i64 k) (by simp only [execOp, x1]; simp [go_sem]) ⟨_, rfl, rfl, Ext.refl _⟩
        · refine duty_free rfl fun a w' hE hF hA => ?_
          have x1 := hA.val 0 17 rfl rfl ⟨⟨0, .data⟩, by simp, rfl, rfl⟩ rfl
          have x2 := hA.val 1 18 rfl rfl ⟨⟨1, .data⟩, by simp, rfl, rfl⟩ rfl
          exact wp_value (w' := w') (v := .pointer (some ⟨b1, o1 + k * 3, none⟩)) (by simp only [execOp, x1, x2]; simp [go_sem, hlt]) ⟨_, rfl, rfl, Ext.refl _⟩
        · refine duty_free rfl fun a w' hE hF hA => ?_
          have x1 := hA.val 2 19 rfl rfl ⟨⟨2, .data⟩, by simp, rfl, rfl⟩ rfl
          exact wp_value (ex_load_at rfl _ x1 (seC n (.slice da n.ids.length dc)) (HR1.out w' (HE.out.trans hE)) Tryz.underlying62 rfl sizeSe) ⟨_, rfl, rfl, Ext.refl _⟩
        · refine duty_free rfl fun a w' hE hF hA => ?_
          have x1 := hF.slot 1 _ (by decide) rfl
          exact wp_value (w' := w') (v := .slice (some ⟨b2, o2, none⟩) L.length d) (by simp only [execOp, x1]; simp [go_sem]) ⟨_, rfl, rfl, Ext.refl _⟩
        · refine duty_free rfl fun a w' hE hF hA => ?_
          have x1 := hF.slot 5 _ (by decide) rfl
          exact wp_value (w' := w') (v := .int .i64 k) (by simp only [execOp, x1]; simp [go_sem]) ⟨_, rfl, rfl, Ext.refl _⟩
        · refine duty_free rfl fun a w' hE hF hA => ?_
          have x1 := hA.val 4 21 rfl rfl ⟨⟨4, .data⟩, by simp, rfl, rfl⟩ rfl
          have x2 := hA.val 5 22 rfl rfl ⟨⟨5, .data⟩, by simp, rfl, rfl⟩ rfl
          exact wp_value (w' := w') (v := .pointer (some ⟨b2, o2 + k * 3, none⟩)) (by simp only [execOp, x1, x2]; simp [go_sem, hlt]) ⟨_, rfl, rfl, Ext.refl _⟩
        · refine duty_free rfl fun a w' hE hF hA => ?_
          have x1 := hA.val 6 23 rfl rfl ⟨⟨6, .data⟩, by simp, rfl, rfl⟩ rfl
          exact wp_value (ex_load_at rfl _ x1 (seC n (.slice db n.ids.length dd)) (HR2.out w' (HE.out.trans hE)) Tryz.underlying62 rfl sizeSe) ⟨_, rfl, rfl, Ext.refl _⟩
        · refine duty_free rfl fun a w' hE hF hA => ?_
          have x1 := hA.val 3 20 rfl rfl ⟨⟨3, .data⟩, by simp, rfl, rfl⟩ rfl
          have x2 := hA.val 7 24 rfl rfl ⟨⟨7, .data⟩, by simp, rfl, rfl⟩ rfl
          have hEE := HE.out.trans hE
          refine wp_enter (ex_call rfl (enters_f Tryz.func84 (by kernel_rfl) rfl)) (by simp only [List.map_toArray, List.map_cons, List.map_nil, x1, x2]; exact r8same_self n da db dc dd w' hfit (HD.out.ext hEE) (HD2.out.ext hEE)) ?_
          rintro e w4 ⟨rfl, hb⟩
          exact ⟨_, rfl, _, rfl, rfl, hb⟩
        · refine duty_free rfl fun a w' hE hF hA => ?_
          have x1 := hA.val 8 25 rfl rfl ⟨⟨8, .data⟩, by simp, rfl, rfl⟩ rfl
          exact wp_value (w' := w') (v := .bool false) (by simp only [execOp, x1]; simp [go_sem]) ⟨_, rfl, rfl, Ext.refl _⟩
      case rest =>
        intro W8 hE8
        have HE8 := Lib.hid (HE.out.trans hE8)
        clear hE8 HR1 HR2
        simp only [filled, List.zip_cons_cons, List.zip_nil_left, List.foldl_cons, List.foldl_nil, Act.put, List.setIfInBounds_toArray, List.set_cons_succ, List.set_cons_zero, Exit.then]
        rename_i hK
        refine hK _ _ ?_
        clear hK
        go_wp2
        go_roundw
        case rel => exact ⟨k + 1, by omega, by go_num, HE8.out⟩
        case measure => simp [intOf]; omega
    · obtain rfl : k = L.length := by omega
      clear hE
      go_wp2
      go_ret
      exact ⟨rfl, HE.out⟩
end Go.Proofs.YtclekhjnnljjlaaGreatDoor
