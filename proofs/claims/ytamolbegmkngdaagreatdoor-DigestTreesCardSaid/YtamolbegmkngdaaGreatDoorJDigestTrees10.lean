/- The walk of arborref07's Insert. The walks of the reference of stat.Right, and of its look at UTF-8. The walk of the reference of stat.Right. The walks of the reference's record of a node: numbers, texts, lists of permissions. The walks of the reference's record of a node, whole. The walk of the reference's record of a node. -/
import Derived.Test.YtamolbegmkngdaaGreatDoorJDigestTrees9
import Derived.Test.YtamolbegmkngdaaGreatDoorJDigestTrees7
import Derived.Test.YtamolbegmkngdaaGreatDoorJDigestTrees2
import Derived.Test.YtamolbegmkngdaaGreatDoorJDigestTrees8
namespace Go.Proofs.YtamolbegmkngdaaGreatDoor
open Go.RowKit
set_option maxHeartbeats 2000000
set_option maxRecDepth 100000

theorem infoNd17 : (Tryz.prog.info? 47).map (·.size) = some 17 := by kernel_rfl
theorem run_slice_to (a : Option Addr) (len cap i : Nat) (ha : ∀ p, a = some p → ∃ b off, p = ⟨b, off, none⟩) (hi : i ≤ cap) (W : World) : (Instr.slice 22 (.slice a len cap) none (some (.int .i64 i)) none).run Tryz.prog W = .ok (.slice a i cap) W := by
  have h1 : (0 : Int) ≤ i := by omega
  have h2 : (i : Int) ≤ cap := by omega
  obtain ⟨inf, hinf, hs⟩ := Option.map_eq_some_iff.1 infoNd17
  have hm : (if cap = 0 then a else a.map fun x => x.add 0) = a := by
    split
    · rfl
    · cases a with
      | none => rfl
      | some p =>
        obtain ⟨b, off, rfl⟩ := ha p rfl
        simp [Addr.add]
  simp [Instr.slice, Instr.sliceBounds, Instr.sliceBound, run_underlying Tryz.underlying22, asIntOf, Int.toNat_natCast, h1, h2, hi, sizeOf, typeInfo, hinf, hm, Sem.run, Result.andThen]
theorem run_slice_from (b off len cap i : Nat) (hi : i ≤ len) (hl : len ≤ cap) (W : World) : (Instr.slice 22 (.slice (some ⟨b, off, none⟩) len cap) (some (.int .i64 i)) none none).run Tryz.prog W = .ok (.slice (some (if cap = i then ⟨b, off, none⟩ else ⟨b, off + i * 17, none⟩)) (len - i) (cap - i)) W := by
  have h1 : (0 : Int) ≤ i := by omega
  have h2 : (i : Int) ≤ len := by omega
  obtain ⟨inf, hinf, hs⟩ := Option.map_eq_some_iff.1 infoNd17
  by_cases h0 : i = 0
  · subst h0
    by_cases hc : cap = 0 <;>
    simp [Instr.slice, Instr.sliceBounds, Instr.sliceBound, run_underlying Tryz.underlying22, asIntOf, sizeOf, typeInfo, hinf, hs, hc, Sem.run, Result.andThen, Addr.add]
  have h3 : ¬ i * 17 = 0 := by omega
  by_cases hc : cap = i <;>
  simp [Instr.slice, Instr.sliceBounds, Instr.sliceBound, run_underlying Tryz.underlying22, asIntOf, Int.toNat_natCast, h1, h2, hi, h0, h3, sizeOf, typeInfo, hinf, hs, hc, Sem.run, Result.andThen, Addr.add]
theorem run_slice_nil (W : World) : (Instr.slice 22 (.slice none 0 0) (some (.int .i64 0)) none none).run Tryz.prog W = .ok (.slice none 0 0) W := by
  obtain ⟨inf, hinf, hs⟩ := Option.map_eq_some_iff.1 infoNd17
  simp [Instr.slice, Instr.sliceBounds, Instr.sliceBound, run_underlying Tryz.underlying22, asIntOf, sizeOf, typeInfo, hinf, Sem.run, Result.andThen]

/-- A row of the call's own that shows nodes. -/
theorem RowsOf.of_own {S : Nat → Prop} {w : World} {base n : Nat} {v : Value} {vs : List (Array Value)} {L : List Nd} (h : w.ownsRow base 47 17 v n (vs.flatMap Array.toList)) (hn : n = L.length) (hl : vs.length = L.length) (hS : ∀ k, base ≤ k → k < w.heap.size → S k)
    (he : ∀ (j : Nat) (cs : Array Value), vs[j]? = some cs → ∃ n, L[j]? = some n ∧ NdS S w (.agg cs) n) : ∃ a c, v = .slice a n c ∧ n ≤ c ∧ c ≤ maxLen ∧ RowsOf S w a vs L ∧ PlainA a c := by
  rcases h.2 with ⟨rfl, h0⟩ | ⟨g, cap, cur, rfl, hb, hg, h1, h2, h3, h4⟩
  · have hL : L = [] := List.eq_nil_of_length_eq_zero (by omega)
    have hv : vs = [] := List.eq_nil_of_length_eq_zero (by rw [hl, hL]; rfl)
    subst h0 hL hv
    exact ⟨none, 0, rfl, Nat.le_refl _, Nat.zero_le _, ⟨rfl, fun j u hj => by simp at hj, he⟩, .inl ⟨rfl, rfl⟩⟩
  · refine ⟨some ⟨g, 0, none⟩, cap, rfl, h1, h2, ⟨hl, fun j u hj => ?_, he⟩, .inr ⟨g, 0, rfl⟩⟩
    have hc := h.cells (g := g) rfl j u hj
    rw [addr_add] at hc
    exact ⟨g, 0, rfl, hS g hb (Array.getElem?_eq_some_iff.1 hg).1, hc⟩

/-- The document's tree, its rows in whatever blocks but its own. -/
def RT (w : World) (b : Nat) (L : List Nd) : Prop := RTree (fun k => k < w.heap.size ∧ k ≠ b) w b L
theorem RTree.rt {S : Nat → Prop} {w : World} {b : Nat} {L : List Nd} (h : RTree S w b L) : RT w b L := h.keep h.bound rfl (fun _ _ => rfl) fun _ h => h
theorem RT.ext {w w' : World} {b : Nat} {L : List Nd} (h : RT w b L) (he : Ext w w') : RT w' b L := (RTree.ext h he).rt
theorem RT.lt {w : World} {b : Nat} {L : List Nd} (h : RT w b L) : b < w.heap.size := RTree.lt h

theorem flat_take (vs : List (Array Value)) (i : Nat) (h17 : ∀ x ∈ vs, x.size = 17) : (vs.flatMap Array.toList).take (i * 17) = (vs.take i).flatMap Array.toList := by
  induction vs generalizing i with
  | nil => simp
  | cons x vs ih =>
    cases i with
    | zero => simp
    | succ i =>
      have hx : x.toList.length = 17 := by simpa using h17 x (List.mem_cons_self ..)
      rw [List.take_succ_cons, List.flatMap_cons, List.flatMap_cons, ← ih i fun y hy => h17 y (List.mem_cons_of_mem _ hy), List.take_append, List.take_of_length_le (by omega), hx, show (i + 1) * 17 - 17 = i * 17 by omega]
theorem flat_drop (vs : List (Array Value)) (i : Nat) (h17 : ∀ x ∈ vs, x.size = 17) : (vs.flatMap Array.toList).drop (i * 17) = (vs.drop i).flatMap Array.toList := by
  induction vs generalizing i with
  | nil => simp
  | cons x vs ih =>
    cases i with
    | zero => simp
    | succ i =>
      have hx : x.toList.length = 17 := by simpa using h17 x (List.mem_cons_self ..)
      rw [List.drop_succ_cons, List.flatMap_cons, ← ih i fun y hy => h17 y (List.mem_cons_of_mem _ hy), List.drop_append, List.drop_eq_nil_of_le (by omega), hx, show (i + 1) * 17 - 17 = i * 17 by omega, List.nil_append]
theorem flat_len (vs : List (Array Value)) (h17 : ∀ x ∈ vs, x.size = 17) : (vs.flatMap Array.toList).length = vs.length * 17 := by
  induction vs with
  | nil => rfl
  | cons x vs ih =>
    have hx : x.toList.length = 17 := by simpa using h17 x (List.mem_cons_self ..)
    rw [List.flatMap_cons, List.length_append, hx, ih fun y hy => h17 y (List.mem_cons_of_mem _ hy), List.length_cons]; omega
theorem RowsOf.one {S : Nat → Prop} {w : World} {a : Option Addr} {vs : List (Array Value)} {L : List Nd} (h : RowsOf S w a vs L) : ∀ u ∈ vs.flatMap Array.toList, u.oneCell' = true := fun u hu => by
  obtain ⟨x, hx, hux⟩ := List.mem_flatMap.1 hu
  obtain ⟨i, hi, ei⟩ := List.getElem_of_mem hx
  obtain ⟨n2, _, da2, dc2, aa2, ac2, e2, _⟩ := h.each i x (by rw [List.getElem?_eq_getElem hi, ei])
  simp only [Value.agg.injEq] at e2
  have := cells_node n2 da2 aa2 n2.data.length n2.acl.length dc2 ac2
  rw [← e2, ← Array.all_toList] at this
  exact List.all_eq_true.1 this u hux

/-- What a slice's first places show, and what those behind them. -/
theorem RowsOf.src_to {S : Nat → Prop} {w : World} {a : Option Addr} {vs : List (Array Value)} {L : List Nd} (h : RowsOf S w a vs L) {i cap : Nat} (hi : i ≤ L.length) (hS : ∀ k, S k → k < w.heap.size) : Src Tryz.prog 17 22 (.slice a i cap) i ((vs.take i).flatMap Array.toList) w := by
  have h17 : ∀ x ∈ vs.take i, x.size = 17 := fun x hx => h.v17 x (List.mem_of_mem_take hx)
  have hc : Cells w.heap.size w a ((vs.take i).flatMap Array.toList) := fun j u hj => by
    rw [← flat_take vs i h.v17, List.getElem?_take] at hj
    split at hj
    · obtain ⟨b, off, e, hb, hc⟩ := h.cells j u hj
      exact ⟨b, off, e, hS b hb, hc⟩
    · cases hj
  exact hc.src Tryz.underlying22 i cap (by rw [flat_len _ h17, List.length_take, h.len]; congr 1; omega) fun u hu => h.one u (by
    rw [← flat_take vs i h.v17] at hu
    exact List.mem_of_mem_take hu)
theorem RowsOf.src_from {S : Nat → Prop} {w : World} {b off : Nat} {vs : List (Array Value)} {L : List Nd} (h : RowsOf S w (some ⟨b, off, none⟩) vs L) {i cap : Nat} (hi : i ≤ L.length) (hl : L.length ≤ cap) (hS : ∀ k, S k → k < w.heap.size) : Src Tryz.prog 17 22 (.slice (some (if cap = i then ⟨b, off, none⟩ else ⟨b, off + i * 17, none⟩)) (L.length - i) (cap - i)) (L.length - i) ((vs.drop i).flatMap Array.toList) w := by
  have h17 : ∀ x ∈ vs.drop i, x.size = 17 := fun x hx => h.v17 x (List.mem_of_mem_drop hx)
  have hc : Cells w.heap.size w (some (if cap = i then ⟨b, off, none⟩ else ⟨b, off + i * 17, none⟩)) ((vs.drop i).flatMap Array.toList) := fun j u hj => by
    rw [← flat_drop vs i h.v17, List.getElem?_drop] at hj
    obtain ⟨b', off', e, hb, hc⟩ := h.cells (i * 17 + j) u hj
    simp only [Option.some.injEq, Addr.mk.injEq, and_true] at e
    obtain ⟨rfl, rfl⟩ := e
    by_cases hci : cap = i
    · exfalso
      have h1 := (List.getElem?_eq_some_iff.1 hj).1
      rw [flat_len _ h.v17, h.len] at h1
      omega
    · rw [if_neg hci]
      exact ⟨b, off + i * 17, rfl, hS b hb, by rw [Nat.add_assoc]; exact hc⟩
  exact hc.src Tryz.underlying22 _ _ (by rw [flat_len _ h17, List.length_drop, h.len]) fun u hu => h.one u (by
    rw [← flat_drop vs i h.v17] at hu
    exact List.mem_of_mem_drop hu)

theorem wpList_store_one {P : Program} {ops : Array Oper} {rest : List Oper} {o : Oper} {a : Act} {Q : Exit → Act → World → Prop} {w : World} (hgd : o.guard = none) (ty : TypeId) (x y : Operand) (ho : o.op = .store ty x y)
    (g : Nat) (v : Value) (hx : a.eval x = .pointer (some ⟨g, 0, none⟩)) (hy : a.eval y = v) (h1 : v.oneCell' = true) (t : TypeId) (old : Value) (hg : w.heap[g]? = some (.cells #[old] t (0, 0))) (hi : (P.info? ty).map (·.size) = some 1)
    (hK : wpList P ops Q rest (a.put o.dst undef) (w.setRow g #[v])) : wpList P ops Q (o :: rest) a w :=
  wpList_plain hgd fun _ hK' => wp_skipped (run_store_one ty x y ho g v hx hy h1 t old hg hi) (hK' _ _ hK)

def EachN (S : Nat → Prop) (w : World) (vs : List (Array Value)) (L : List Nd) : Prop := vs.length = L.length ∧ ∀ (j : Nat) (cs : Array Value), vs[j]? = some cs → ∃ n, L[j]? = some n ∧ NdS S w (.agg cs) n
theorem EachN.append {S : Nat → Prop} {w : World} {vs vs' : List (Array Value)} {L L' : List Nd} (h : EachN S w vs L) (k : EachN S w vs' L') : EachN S w (vs ++ vs') (L ++ L') := by
  refine ⟨by rw [List.length_append, List.length_append, h.1, k.1], fun j cs hj => ?_⟩
  by_cases hl : j < vs.length
  · rw [List.getElem?_append_left hl] at hj
    rw [List.getElem?_append_left (by rw [← h.1]; exact hl)]
    exact h.2 j cs hj
  · rw [List.getElem?_append_right (by omega)] at hj
    rw [List.getElem?_append_right (by rw [← h.1]; omega), ← h.1]
    exact k.2 _ cs hj
theorem EachN.take {S : Nat → Prop} {w : World} {vs : List (Array Value)} {L : List Nd} (h : EachN S w vs L) (i : Nat) : EachN S w (vs.take i) (L.take i) := by
  refine ⟨by rw [List.length_take, List.length_take, h.1], fun j cs hj => ?_⟩
  rw [List.getElem?_take] at hj ⊢
  split at hj
  · rename_i hlt; rw [if_pos hlt]; exact h.2 j cs hj
  · cases hj
theorem EachN.drop {S : Nat → Prop} {w : World} {vs : List (Array Value)} {L : List Nd} (h : EachN S w vs L) (i : Nat) : EachN S w (vs.drop i) (L.drop i) := by
  refine ⟨by rw [List.length_drop, List.length_drop, h.1], fun j cs hj => ?_⟩
  rw [List.getElem?_drop] at hj ⊢
  exact h.2 _ cs hj
theorem EachN.one {S : Nat → Prop} {w : World} {cs : Array Value} {n : Nd} (h : NdS S w (.agg cs) n) : EachN S w [cs] [n] := by
  refine ⟨rfl, fun j c hj => ?_⟩
  cases j with
  | zero => simp at hj; subst hj; exact ⟨n, rfl, h⟩
  | succ j => simp at hj
theorem grown_of_ext {a b : World} (h : Ext a b) (row : Option Nat) : a.grownBy b row := ⟨h.os, h.tape, h.output, h.size, fun k hk _ => h.block k hk⟩

set_option maxHeartbeats 4000000 in
theorem rinsert_any (w : World) (b : Nat) (L : List Nd) (n : Nd) (da aa : Option Addr) (dc ac : Nat) (hR : RT w b L) (hfL : ∀ m ∈ L, Fit m) (hf : Fit n) (hD : Cells w.heap.size w da (n.data.map u8v)) (hA : Cells w.heap.size w aa (acCs n.acl)) (hl : (L.length + 1) * 168 ≤ 140737488355328) :
    Calls Tryz.prog 75 #[.pointer (some ⟨b, 0, none⟩), .agg (ndC n (.slice da n.data.length dc) (.slice aa n.acl.length ac))] w fun e w' => e = .returned (.tuple #[]) ∧ RT w' b (L.take (rfind L n.path).1 ++ n :: L.drop (rfind L n.path).1) ∧ Chg (· = b) w w' := by
  obtain ⟨W1, hW1⟩ : ∃ W1, W1 = w.alloc (.cells (ndC n (.slice da n.data.length dc) (.slice aa n.acl.length ac)) 47) := ⟨_, rfl⟩
  have hE1 : Ext w W1 := by rw [hW1]; exact Ext.alloc _ _
  have hz1 : W1.heap.size = w.heap.size + 1 := by rw [hW1]; simp
  have hn1 : W1.heap[w.heap.size]? = some (.cells (ndC n (.slice da n.data.length dc) (.slice aa n.acl.length ac)) 47 (0, 0)) := by rw [hW1]; exact heap_alloc_new w _
  have hx : Box W1 w.heap.size (ndC n (.slice da n.data.length dc) (.slice aa n.acl.length ac)) := fun j => cell_of_row _ _ _ _ _ _ hn1
  have hR1 : RT W1 b L := hR.ext hE1
  have hbl := hR.lt
  have C1 := Lib.hid (rfind_any _ W1 b L hR1 hfL n.path hf.path)
  have hik := rfind_le L n.path
  generalize (rfind L n.path).1 = i at *
  generalize (rfind L n.path).2 = th at *
  have HW1 := Lib.hid hW1
  have HD := Lib.hid hD
  have HA := Lib.hid hA
  have HN1 := Lib.hid hn1
  have HR1 := Lib.hid hR1
  have HE1 := Lib.hid hE1
  rw [hW1] at hx
  unfold Box at hx
  unfold ndC at hx HW1
  clear hW1 hD hA hn1 hR1 hR hE1
  unfold ndC
  go_enter Tryz.func75, Tryz.ntmps75
  go_wp2_with fail
  rw [← HW1.out]
  refine C1.out.mono ?_
  rintro e W2 ⟨rfl, hE2⟩
  clear hx C1
  obtain ⟨a, cap, vs, hb2, hlc, hcm, hS2, hrows, hpl⟩ := RTree.ext HR1.out hE2
  have hz2 := hE2.size
  have hc2 : W2.cell? ⟨b, 0, none⟩ = some (.slice a L.length cap) := cell_of_row _ _ _ _ _ _ hb2
  have hsl1 := fun W => run_slice_to a L.length cap i (fun p hp => by
    rcases hpl with ⟨h, _⟩ | ⟨bl, off, h⟩
    · rw [h] at hp; cases hp
    · exact ⟨bl, off, by rw [h] at hp; exact (Option.some.inj hp).symm⟩) (by omega) W
  obtain ⟨v3, hsl2, hsrcf⟩ : ∃ v3, (∀ W, (Instr.slice 22 (.slice a L.length cap) (some (.int .i64 i)) none none).run Tryz.prog W = .ok v3 W) ∧ ∀ W S, RowsOf S W a vs L → (∀ k, S k → k < W.heap.size) → Src Tryz.prog 17 22 v3 (L.length - i) ((vs.drop i).flatMap Array.toList) W := by
    rcases hpl with ⟨h, h0⟩ | ⟨bl, off, h⟩
    · subst h h0
      have hL0 : L.length = 0 := by omega
      have hi0 : i = 0 := by omega
      subst hi0
      rw [hL0]
      refine ⟨.slice none 0 0, run_slice_nil, fun W S hr hS => ?_⟩
      have hv0 : vs = [] := List.eq_nil_of_length_eq_zero (by rw [hr.len]; exact hL0)
      subst hv0
      exact (Cells.nil W.heap.size W none).src Tryz.underlying22 0 0 rfl (fun u hu => by simp at hu)
    · subst h
      exact ⟨_, run_slice_from bl off L.length cap i hik hlc, fun W S hr hS => hr.src_from hik hlc hS⟩
  -- the first part
  obtain ⟨i0, hi, hz0, hz1', hz2'⟩ := info_parts infoNd
  obtain ⟨W3, hW3⟩ : ∃ W3, W3 = W2.alloc (.cells #[] 47) := ⟨_, rfl⟩
  have hE3 : Ext W2 W3 := by rw [hW3]; exact Ext.alloc _ _
  have hz3 : W3.heap.size = W2.heap.size + 1 := by rw [hW3]; simp
  have hown0 : W3.ownsRow W2.heap.size 47 17 (.slice (some ⟨W2.heap.size, 0, none⟩) 0 0) 0 [] := by rw [hW3]; exact World.ownsRow_made W2 #[] 0 (Nat.le_refl _) (Nat.zero_le _) rfl
  have hrows3 : RowsOf (fun k => k < W2.heap.size ∧ k ≠ b) W3 a vs L := hrows.imp (fun k hk => ⟨(hS2 k hk).1, (hS2 k hk).2⟩) (fun k hk => hE3.block k (hS2 k hk).1)
  have hsrc1 := hrows3.src_to (cap := cap) hik (fun k hk => by have := hk.1; omega)
  have hc3 : W3.cell? ⟨b, 0, none⟩ = some (.slice a L.length cap) := (hE3.cell (p := ⟨b, 0, none⟩) (show b < W2.heap.size by omega)).trans hc2
  have HW3 := Lib.hid hW3
  have HE2 := Lib.hid hE2
  have HE3 := Lib.hid hE3
  have HB2 := Lib.hid hb2
  have HSF := Lib.hid hsrcf
  have HRW3 := Lib.hid hrows3
  rw [hW3] at hown0 hsrc1 hc3
  clear hW3 hE2 hE3 hb2 hsrcf hrows3 hrows hS2 hpl
  go_wp2_with (at_builtin; refine wpList_append_src _ rfl (.tmp 14) (.tmp 20) 22 22 rfl W2.heap.size 47 i0 (.agg zeroNd) 17 168 Tryz.underlying22 hi hz0 hz1' hz2' rfl (by decide) _ 0 _ rfl hown0 _ i _ rfl hsrc1 ?c1 ?c2 ?c3 ?_)
  case c1 => unfold maxLen at *; omega
  case c2 => omega
  case c3 => simp
  intro v1 w4 hown1 hg1 _ _
  rw [← HW3.out] at hg1
  try simp only [List.nil_append, Nat.zero_add] at hown1
  have hz4 := hg1.size
  have hE24 : Ext W2 w4 := ⟨hg1.os.trans HE3.out.os, hg1.tape.trans HE3.out.tape, hg1.output.trans HE3.out.output, by omega, fun k hk => (hg1.block k (by omega) (fun e => by have h : k = W2.heap.size := Option.some.inj e; omega)).trans (HE3.out.block k hk)⟩
  have hEw4 : Ext w w4 := (HE1.out.trans HE2.out).trans hE24
  have hn4 : w4.heap[w.heap.size]? = some (.cells (ndC n (.slice da n.data.length dc) (.slice aa n.acl.length ac)) 47 (0, 0)) := (hE24.block _ (by omega)).trans ((HE2.out.block _ (by omega)).trans HN1.out)
  have C2 := Lib.hid (rclone_new n da aa dc ac w4 hf (HD.out.ext hEw4) (HA.out.ext hEw4))
  have hv1 : ∀ k, v1.ownBlock = some k → W2.heap.size ≤ k ∧ k < w4.heap.size := fun k hk => hown1.lt k hk
  have HN4 := Lib.hid hn4
  have HE24 := Lib.hid hE24
  have HO1 := Lib.hid hown1
  have HV1 := Lib.hid hv1
  unfold ndC at HN4
  clear hE24 hEw4 hn4 hown1 hv1 hg1 hown0 hsrc1 hc2 hc3 HW3
  go_wp2_with (refine wpList_load_row rfl 47 (.tmp 3) rfl w.heap.size rfl 47 _ (0, 0) _ HN4.out Tryz.underlying47 rfl sizeNd ?_)
  refine C2.out.mono ?_
  rintro e w5 ⟨v, rfl, ⟨ea, ec, fa, fc, rfl, hD5, hA5⟩, hE5⟩
  have hE5 : Ext w4 w5 := hE5
  have hz5 := hE5.size
  obtain ⟨cs, hcs⟩ : ∃ cs, cs = ndC n (.slice ea n.data.length ec) (.slice fa n.acl.length fc) := ⟨_, rfl⟩
  have hown5 := (HO1.out.kept (grown_of_ext hE5 none) (by cases h : v1.ownBlock <;> simp)).alloc (.cells cs 47)
  have hs17 : Cells (w5.alloc (.cells cs 47)).heap.size (w5.alloc (.cells cs 47)) (some ⟨w5.heap.size, 0, none⟩) cs.toList := fun j u hj => by
    refine ⟨_, 0, rfl, by simp, ?_⟩
    rw [Nat.zero_add, cell_of_row _ _ _ _ _ _ (heap_alloc_new w5 _)]
    simpa using hj
  have hsrc2 : Src Tryz.prog 17 22 (.slice (some ⟨w5.heap.size, 0, none⟩) 1 1) 1 cs.toList (w5.alloc (.cells cs 47)) :=
    hs17.src Tryz.underlying22 1 1 (by rw [hcs]; rfl) (fun u hu => by
      have := cells_node n ea fa n.data.length n.acl.length ec fc
      rw [← hcs, ← Array.all_toList] at this
      exact List.all_eq_true.1 this u hu)
  have hnew5 : NdS (fun k => w4.heap.size ≤ k ∧ k < w5.heap.size) w5 (.agg cs) n := ⟨ea, ec, fa, fc, by rw [hcs], hD5, hA5⟩
  have HNEW5 := Lib.hid hnew5
  have HE5 := Lib.hid hE5
  have HCS := Lib.hid hcs
  rw [hcs] at hown5 hsrc2
  unfold ndC at hown5 hsrc2 ⊢
  clear C2 hnew5 hE5 hcs hs17 hD5 hA5
  go_wp2_with (at_builtin; refine wpList_append_src _ rfl (.tmp 22) (.tmp 25) 22 22 rfl W2.heap.size 47 i0 (.agg zeroNd) 17 168 Tryz.underlying22 hi hz0 hz1' hz2' rfl (by decide) _ i _ rfl hown5 _ 1 _ rfl hsrc2 ?d1 ?d2 ?d3 ?_)
  case d1 => unfold maxLen at *; omega
  case d2 => omega
  case d3 => simp; omega
  intro v2 w7 hown7 hg2 _ ho2
  have hz7 := hg2.size
  simp only [World.size_alloc] at hz7
  have hW6b : ∀ k, k < w5.heap.size → v1.ownBlock ≠ some k → w7.heap[k]? = w5.heap[k]? := fun k hk hn => (hg2.block k (by simp; omega) (fun e => hn e.symm)).trans (heap_alloc_old w5 _ hk)
  have hE27 : Ext W2 w7 := ⟨hg2.os.trans (HE5.out.os.trans HE24.out.os), hg2.tape.trans (HE5.out.tape.trans HE24.out.tape), hg2.output.trans (HE5.out.output.trans HE24.out.output), by omega, fun k hk =>
    (hW6b k (by omega) (fun e => by have := HV1.out k e; omega)).trans ((HE5.out.block k (by omega)).trans (HE24.out.block k hk))⟩
  have hnew7 : NdS (fun k => w4.heap.size ≤ k ∧ k < w5.heap.size) w7 (.agg cs) n := NdS.imp HNEW5.out (fun _ h => h) fun bl o u hb hu => (World.cell?_of_block (hW6b bl hb.2 (fun e => by have := HV1.out bl e; omega))).trans hu
  have hv2 : ∀ k, v2.ownBlock = some k → W2.heap.size ≤ k ∧ (k < w4.heap.size ∨ w5.heap.size ≤ k) := fun k hk => by
    rcases ho2 with h | h
    · rw [h] at hk; have := HV1.out k hk; exact ⟨this.1, .inl this.2⟩
    · rw [h] at hk; have h9 : (w5.heap.size + 1) = k := by have := Option.some.inj hk; simpa using this
      omega
  have hrows7 : RowsOf (fun k => k < W2.heap.size ∧ k ≠ b) w7 a vs L := HRW3.out.imp (fun _ h => h) (fun k hk => by
    rw [hE27.block k hk.1, HE3.out.block k hk.1])
  have hsrc3 := HSF.out w7 _ hrows7 (fun k hk => by have := hk.1; omega)
  have hc7 : w7.cell? ⟨b, 0, none⟩ = some (.slice a L.length cap) := cell_of_row _ _ _ _ _ _ ((hE27.block b (by omega)).trans HB2.out)
  rw [show [Value.string n.path, .slice ea n.data.length ec, .slice fa n.acl.length fc, .int .i64 n.owner, .int .i64 n.czxid, .int .i64 n.mzxid, .int .i64 n.pzxid, .int .i64 n.azxid, .int .i64 n.qzxid, .int .i64 n.ctime, .int .i64 n.mtime, .int .i32 n.version, .int .i32 n.creates, .int .i32 n.aversion, .bool n.has, .int .i64 n.count, .int .i64 n.bytes] = cs.toList from by rw [HCS.out]; rfl] at hown7
  have HO7 := Lib.hid hown7
  have HE27 := Lib.hid hE27
  have HNEW7 := Lib.hid hnew7
  have HV2 := Lib.hid hv2
  have HR7 := Lib.hid hrows7
  clear hown5 hsrc2 hg2 ho2 hW6b hE27 hnew7 hv2 hrows7 HNEW5 hown7
  have hown8 := HO7.out
  go_wp2_with (at_builtin; refine wpList_append_src _ rfl (.tmp 28) (.tmp 34) 22 22 rfl W2.heap.size 47 i0 (.agg zeroNd) 17 168 Tryz.underlying22 hi hz0 hz1' hz2' rfl (by decide) _ (i + 1) _ rfl hown8 _ (L.length - i) _ rfl hsrc3 ?e1 ?e2 ?e3 ?_)
  case e1 => unfold maxLen at *; omega
  case e2 => omega
  case e3 => omega
  intro v4 w8 hown9 hg3 _ _
  have hz8 := hg3.size
  have hb8 : w8.heap[b]? = some (.cells #[.slice a L.length cap] 53 (0, 0)) := (hg3.block b (by omega) (fun e => by have := HV2.out b e.symm; omega)).trans ((HE27.out.block b (by omega)).trans HB2.out)
  have hk8 : ∀ k, k < W2.heap.size → w8.heap[k]? = W2.heap[k]? := fun k hk => (hg3.block k (by omega) (fun e => by have := HV2.out k e.symm; omega)).trans (HE27.out.block k hk)
  have hnew8 : NdS (fun k => k < w8.heap.size ∧ k ≠ b) w8 (.agg cs) n := NdS.imp HNEW7.out (fun k hk => ⟨by omega, by omega⟩) fun bl o u hb hu => (World.cell?_of_block (hg3.block bl (by omega) (fun e => by have := HV2.out bl e.symm; omega))).trans hu
  have hold8 : RowsOf (fun k => k < w8.heap.size ∧ k ≠ b) w8 a vs L := HR7.out.imp (fun k hk => ⟨by have := hk.1; omega, hk.2⟩) fun k hk => by rw [hk8 k hk.1, HE27.out.block k hk.1]
  have heach : EachN (fun k => k < w8.heap.size ∧ k ≠ b) w8 (vs.take i ++ ([cs] ++ vs.drop i)) (L.take i ++ ([n] ++ L.drop i)) :=
    EachN.append (EachN.take ⟨hold8.len, hold8.each⟩ i) ((EachN.one hnew8).append (EachN.drop ⟨hold8.len, hold8.each⟩ i))
  have hfl : (vs.take i).flatMap Array.toList ++ (cs.toList ++ (vs.drop i).flatMap Array.toList) = (vs.take i ++ ([cs] ++ vs.drop i)).flatMap Array.toList := by
    simp [List.flatMap_append]
  rw [hfl] at hown9
  have hln : i + 1 + (L.length - i) = (L.take i ++ ([n] ++ L.drop i)).length := by simp; omega
  obtain ⟨a9, c9, rfl, hc9, hm9, hr9, hp9⟩ := RowsOf.of_own hown9 hln heach.1 (fun k h1 h2 => ⟨h2, by omega⟩) heach.2
  have HK8 := Lib.hid hk8
  have HB8 := Lib.hid hb8
  have HR9 := Lib.hid hr9
  have HP9 := Lib.hid hp9
  have HG3 := Lib.hid hg3
  clear hk8 hb8 hr9 hp9 hown9 hown8 heach hfl hnew8 hold8 hsrc3 hg3 hsl1 hsl2
  have hfin : RT (w8.setRow b #[.slice a9 (i + 1 + (L.length - i)) c9]) b (L.take i ++ n :: L.drop i) ∧ Chg (· = b) w (w8.setRow b #[.slice a9 (i + 1 + (L.length - i)) c9]) := by
    have hb9 := setRow_heap w8 b _ #[.slice a9 (i + 1 + (L.length - i)) c9] _ _ HB8.out
    have hs9 : (w8.setRow b #[Value.slice a9 (i + 1 + (L.length - i)) c9]).heap.size = w8.heap.size := by simp [World.setRow]
    rw [hln] at hb9 hc9
    refine ⟨⟨a9, c9, _, by rw [hln]; exact hb9, hc9, hm9, fun k hk => hk, HR9.out.imp (fun k hk => ⟨by rw [hs9]; exact hk.1, hk.2⟩) (fun k hk => setRow_other _ _ _ _ hk.2), HP9.out⟩, ?_⟩
    have hc8 : Chg (· = b) w w8 := ⟨HG3.out.os.trans (HE27.out.os.trans (HE2.out.os.trans HE1.out.os)), HG3.out.tape.trans (HE27.out.tape.trans (HE2.out.tape.trans HE1.out.tape)), HG3.out.output.trans (HE27.out.output.trans (HE2.out.output.trans HE1.out.output)), by omega, fun k hk _ =>
      (HK8.out k (by omega)).trans ((HE2.out.block k (by omega)).trans (HE1.out.block k hk))⟩
    exact hc8.trans (Chg.set (S := (· = b)) b w8 _ rfl) fun _ _ h => h
  have HFIN := Lib.hid hfin
  clear hfin
  go_wp2_with (refine wpList_store_one rfl 22 (.tmp 37) (.tmp 35) rfl b _ rfl rfl rfl 53 _ HB8.out infoSl ?_)
  exact bodyPost_end (results_none rfl _ _ _) rfl ⟨rfl, by rw [show i + (L.length - i + 1) = i + 1 + (L.length - i) by omega]; exact HFIN.out⟩
end Go.Proofs.YtamolbegmkngdaaGreatDoor
namespace Go.Proofs.YtamolbegmkngdaaGreatDoor
open Go.RowKit
set_option maxHeartbeats 1000000
set_option maxRecDepth 100000

theorem more_any (b : Nat) (w : World) : Calls Tryz.prog 190 #[.int .u8 b] w fun e w' => e = .returned (.tuple #[.int .i64 (moreF b).1, .int .u8 (moreF b).2.1, .int .u8 (moreF b).2.2]) ∧ w = w' := by
  go_enter Tryz.func190, Tryz.ntmps190
  go_wp2
  all_goals (try go_ret3)
  all_goals (refine ⟨?_, rfl⟩; go_light; (try simp only [beq_iff_eq, beq_eq_false_iff_ne, ne_eq] at *))
  all_goals (have key : ∀ n lo h, moreF b = (n, lo, h) → Ending.returned (.tuple #[.int .i64 n, .int .u8 lo, .int .u8 h]) = Ending.returned (.tuple #[.int .i64 (moreF b).1, .int .u8 (moreF b).2.1, .int .u8 (moreF b).2.2]) := fun n lo h e => by rw [e])
  all_goals (refine key _ _ _ ?_; unfold moreF; repeat' split)
  all_goals (first | rfl | (exfalso; omega))

theorem utf8_any (s : ByteArray) (w : World) (hs : s.size ≤ 9223372036854775800) : Calls Tryz.prog 167 #[.string s] w fun e w' => e = .returned (.bool (Lib.validD s.data.toList)) ∧ w = w' := by
  have hz := Lib.hid (validAt_zero s)
  go_enter Tryz.func167, Tryz.ntmps167
  go_wp2
  go_loop [3] (fun i => ∃ q : Nat, i = .int .i64 q ∧ q ≤ s.size ∧ Hid (validAt s 0 = validAt s q)) (fun i => s.size - (intOf i).toNat)
  case atStart => exact ⟨0, rfl, Nat.zero_le _, rfl⟩
  case round =>
    obtain ⟨q, rfl, hq, Hv⟩ := hrel
    by_cases hlt : q < s.size
    · have hbg := bat_get s q hlt
      have hb := bat_lt s q
      have hC := more_any (bat s q)
      obtain ⟨n0, lo0, hi0, hm⟩ : Exists fun n => Exists fun lo => Exists fun h => moreF (bat s q) = (n, lo, h) := ⟨_, _, _, rfl⟩
      have hcs := moreF_cases (bat s q) hb
      rw [hm] at hC hcs
      simp only [Prod.mk.injEq] at hcs
      by_cases hneg : n0 = -1
      · subst hneg
        have H1 : Hid (Lib.validD s.data.toList = false) := by
          unfold Hid; rw [← hz.out, Hv.out]; exact validAt_bad s q hlt (ut_none s q _ _ hm)
        rw [hbg] at hC
        have HC := Lib.hid hC
        clear hm hcs hC Hv hbg hb
        go_wp2_with fail
        refine (HC.out _).mono ?_
        rintro e w' ⟨rfl, rfl⟩
        go_wp2
        go_ret
        exact ⟨by rw [H1.out]; rfl, rfl⟩
      · obtain ⟨n, rfl⟩ : Exists fun n : Nat => n0 = (n : Int) := ⟨n0.toNat, by omega⟩
        have hn3 : n ≤ 3 := by omega
        have hlo : 0 ≤ lo0 ∧ lo0 ≤ 255 ∧ 0 ≤ hi0 ∧ hi0 ≤ 255 := by omega
        have hd := ut_dec s q hlt n lo0 hi0 hm
        have D1 := Lib.hid hd.1
        have D2 := Lib.hid hd.2.1
        have D3 := Lib.hid hd.2.2
        have hok1 : ∀ j, okAt s q lo0 hi0 j ↔ if j = 1 then lo0 ≤ bat s (q + 1) ∧ (bat s (q + 1) : Int) ≤ hi0 else 128 ≤ bat s (q + j) ∧ bat s (q + j) ≤ 191 := fun j => Iff.rfl
        have OK := Lib.hid hok1
        rw [hbg] at hC
        have HC := Lib.hid hC
        clear hd hm hcs hC hbg hb hok1
        by_cases hout : 0 < n ∧ s.size ≤ q + n
        · have H1 : Hid (Lib.validD s.data.toList = false) := by
            unfold Hid; rw [← hz.out, Hv.out]; exact validAt_bad s q hlt (D2.out hout.1 hout.2)
          obtain ⟨h0, h1⟩ := hout
          have h1' : (s.size : Int) ≤ (q : Int) + n := by omega
          go_wp2_with fail
          refine (HC.out _).mono ?_
          rintro e w' ⟨rfl, rfl⟩
          go_wp2
          go_ret
          exact ⟨by rw [H1.out]; rfl, rfl⟩
        · have hin : q + n < s.size := by omega
          have hin' : (q : Int) + n < s.size := by omega
          have hnn : (0 : Int) ≤ n := by omega
          clear hout
          go_wp2_with fail
          refine (HC.out _).mono ?_
          rintro e w' ⟨rfl, rfl⟩
          clear HC
          go_wp2
          go_loop [5, 6, 7] (fun lo h k => ∃ (m : Nat) (lk hk : Int), k = .int .i64 m ∧ 1 ≤ m ∧ m ≤ n + 1 ∧ lo = .int .u8 lk ∧ h = .int .u8 hk ∧ 0 ≤ lk ∧ lk ≤ 255 ∧ 0 ≤ hk ∧ hk ≤ 255 ∧ Hid (okAt s q lo0 hi0 m ↔ (lk ≤ bat s (q + m) ∧ (bat s (q + m) : Int) ≤ hk)) ∧ Hid (∀ j, 1 ≤ j → j < m → okAt s q lo0 hi0 j)) (fun _ _ k => n + 1 - (intOf k).toNat)
          case atStart => exact ⟨1, lo0, hi0, rfl, by omega, by omega, rfl, rfl, hlo.1, hlo.2.1, hlo.2.2.1, hlo.2.2.2, by unfold Hid; rw [OK.out 1, if_pos rfl], fun j h1 h2 => by omega⟩
          case round =>
            obtain ⟨m, lk, hk, rfl, hm1, hm2, rfl, rfl, hl0, hl1, hk0, hk1, HO, HA⟩ := hrel
            by_cases hmn : m ≤ n
            · have hpos : q + m < s.size := by omega
              have hbg := bat_get s (q + m) hpos
              by_cases hok : okAt s q lo0 hi0 m
              · have h2 := HO.out.1 hok
                rw [hbg] at h2
                obtain ⟨h3, h4⟩ := h2
                have HN : Hid (∀ j, 1 ≤ j → j < m + 1 → okAt s q lo0 hi0 j) := fun j h1 h2 => by
                  by_cases e : j = m
                  · rw [e]; exact hok
                  · exact HA.out j h1 (by omega)
                clear hbg hok HO HA
                go_wp2
                go_round
                case rel => exact ⟨m + 1, 128, 191, by go_num, by omega, by omega, rfl, rfl, by omega, by omega, by omega, by omega, by unfold Hid; rw [OK.out (m + 1), if_neg (by omega)]; omega, HN⟩
                case measure => simp [intOf]; omega
              · have H1 : Hid (Lib.validD s.data.toList = false) := by
                  unfold Hid; rw [← hz.out, Hv.out]; exact validAt_bad s q hlt (D3.out m hm1 hmn hin hok)
                have h2 : (s[q + m].toNat : Int) < lk ∨ (lk ≤ (s[q + m].toNat : Int) ∧ hk < (s[q + m].toNat : Int)) := by
                  have : ¬ (lk ≤ (bat s (q + m) : Int) ∧ (bat s (q + m) : Int) ≤ hk) := fun h => hok (HO.out.2 h)
                  rw [hbg] at this
                  omega
                clear hbg hok HO HA
                rcases h2 with h2 | ⟨h2, h3⟩
                all_goals
                  go_wp2
                  go_ret
                  exact ⟨by rw [H1.out]; rfl, rfl⟩
            · have hd := D1.out (.inr hin) (fun j h1 h2 => HA.out j h1 (by omega))
              have H1 : Hid (validAt s 0 = validAt s (q + 1 + n)) := by
                unfold Hid; rw [Hv.out, validAt_good s q hlt hd.1, hd.2]; congr 1; omega
              clear HO HA hd Hv
              go_wp2
              go_round
              case rel => exact ⟨q + 1 + n, by go_num, by omega, H1⟩
              case measure => simp [intOf]; omega
    · have H1 : Hid (Lib.validD s.data.toList = true) := by
        unfold Hid; rw [← hz.out, Hv.out]; exact validAt_end s q (by omega)
      clear Hv
      go_wp2
      go_ret
      exact ⟨by rw [H1.out]; rfl, rfl⟩

/-- What the reference says of a list's texts. -/
def textsN (l : List Ac) : Int := if l.any bigAc then 3 else if l.any badAc then 1 else 0

theorem textsN_eq (n : Nd) : rightN n = if !vpath n.path then 30 else if 1048575 < n.data.length ∨ 16 < n.acl.length then 3 else if textsN n.acl ≠ 0 then textsN n.acl else if badQ n then 1 else 0 := by
  unfold rightN textsN
  generalize n.acl.any bigAc = B
  generalize n.acl.any badAc = A
  generalize vpath n.path = v
  by_cases h : 1048575 < n.data.length ∨ 16 < n.acl.length
  · have h' : 1048575 < n.data.length ∨ 16 < n.acl.length ∨ B = true := h.elim .inl (fun k => .inr (.inl k))
    rw [if_pos h, if_pos h']
  · have h' : (1048575 < n.data.length ∨ 16 < n.acl.length ∨ B = true) ↔ B = true := ⟨fun k => k.elim (fun k => absurd (.inl k) h) (fun k => k.elim (fun k => absurd (.inr k) h) id), fun k => .inr (.inr k)⟩
    rw [if_neg h]
    simp only [h']
    cases B <;> cases A <;> simp

theorem texts_any (a : Option Addr) (c : Nat) (l : List Ac) (w : World) (hc : Cells w.heap.size w a (acCs l)) (hm : l.length ≤ 9223372036854775807) (ht : ∀ x ∈ l, x.scheme.size ≤ 9223372036854775800 ∧ x.id.size ≤ 9223372036854775800) :
    Calls Tryz.prog 135 #[.slice a l.length c] w fun e w' => e = .returned (.int .i64 (textsN l)) ∧ w = w' := by
  have HT := Lib.hid ht
  clear ht
  go_enter Tryz.func135, Tryz.ntmps135
  go_wp2
  go_loop [3, 4] (fun e i => ∃ (k : Nat) (ev : Int), k ≤ l.length ∧ i = .int .i64 k ∧ e = .int .i64 ev ∧ Hid (ev = if (l.take k).any badAc then 1 else 0) ∧ Hid ((l.take k).any bigAc = false)) (fun _ i => l.length - (intOf i).toNat)
  case atStart => exact ⟨0, 0, Nat.zero_le _, rfl, rfl, by simp [Hid], by simp [Hid]⟩
  case round =>
    obtain ⟨k, ev, hk, rfl, rfl, HE, HB⟩ := hrel
    by_cases hlt : k < l.length
    · obtain ⟨b, off, rfl, hb, c0, c1, c2⟩ := acCells hc k hlt
      have htk := HT.out l[k] (List.getElem_mem hlt)
      have ht1 := htk.1
      have ht2 := htk.2
      clear htk
      have hts : ∀ p : Ac → Bool, (l.take (k + 1)).any p = ((l.take k).any p || p l[k]) := fun p => by
        rw [List.take_succ_eq_append_getElem hlt, List.any_append]; simp
      have HTS := Lib.hid hts
      have hbig : l[k] ∈ l := List.getElem_mem hlt
      clear hts
      by_cases hbg : bigAc l[k] = true
      · have H1 : Hid (textsN l = 3) := by
          unfold Hid textsN
          rw [if_pos (List.any_eq_true.2 ⟨l[k], hbig, hbg⟩)]
        have h2 : 256 < (l[k].scheme.size : Int) ∨ ((l[k].scheme.size : Int) ≤ 256 ∧ 256 < (l[k].id.size : Int)) := by
          simp [bigAc] at hbg; omega
        clear hbg
        rcases h2 with h2 | ⟨h2, h3⟩
        all_goals
          go_wp2
          go_ret
          exact ⟨ret_int H1.out.symm, rfl⟩
      · have h2 : (l[k].scheme.size : Int) ≤ 256 ∧ (l[k].id.size : Int) ≤ 256 := by simp [bigAc] at hbg; omega
        obtain ⟨h2, h3⟩ := h2
        have hbf : bigAc l[k] = false := by simpa using hbg
        have HB2 : Hid ((l.take (k + 1)).any bigAc = false) := by unfold Hid; rw [HTS.out, HB.out, hbf]; rfl
        clear hbg hbf
        have U1 := utf8_any l[k].scheme
        have U2 := utf8_any l[k].id
        cases hv1 : Lib.validD l[k].scheme.data.toList
        · have HE2 : Hid ((1 : Int) = if (l.take (k + 1)).any badAc then 1 else 0) := by
            unfold Hid; rw [HTS.out, show badAc l[k] = true from by simp [badAc, hv1]]; simp
          rw [hv1] at U1
          have U1 := Lib.hid U1
          clear hv1 U2
          go_wp2_with fail
          refine (U1.out _ (by omega)).mono ?_
          rintro e w' ⟨rfl, rfl⟩
          go_wp2
          go_round
          case rel => exact ⟨k + 1, 1, by omega, by go_num, rfl, HE2, HB2⟩
          case measure => simp [intOf]; omega
        · rw [hv1] at U1
          have U1 := Lib.hid U1
          cases hv2 : Lib.validD l[k].id.data.toList
          · have HE2 : Hid ((1 : Int) = if (l.take (k + 1)).any badAc then 1 else 0) := by
              unfold Hid; rw [HTS.out, show badAc l[k] = true from by simp [badAc, hv2]]; simp
            rw [hv2] at U2
            have U2 := Lib.hid U2
            clear hv1 hv2
            go_wp2_with fail
            refine (U1.out _ (by omega)).mono ?_
            rintro e w' ⟨rfl, rfl⟩
            go_wp2_with fail
            refine (U2.out _ (by omega)).mono ?_
            rintro e w' ⟨rfl, rfl⟩
            go_wp2
            go_round
            case rel => exact ⟨k + 1, 1, by omega, by go_num, rfl, HE2, HB2⟩
            case measure => simp [intOf]; omega
          · have HE2 : Hid (ev = if (l.take (k + 1)).any badAc then 1 else 0) := by
              unfold Hid; rw [HTS.out, show badAc l[k] = false from by simp [badAc, hv1, hv2], Bool.or_false]; exact HE.out
            rw [hv2] at U2
            have U2 := Lib.hid U2
            clear hv1 hv2
            go_wp2_with fail
            refine (U1.out _ (by omega)).mono ?_
            rintro e w' ⟨rfl, rfl⟩
            go_wp2_with fail
            refine (U2.out _ (by omega)).mono ?_
            rintro e w' ⟨rfl, rfl⟩
            go_wp2
            go_round
            case rel => exact ⟨k + 1, ev, by omega, by go_num, rfl, HE2, HB2⟩
            case measure => simp [intOf]; omega
    · obtain rfl : k = l.length := by omega
      have H1 : Hid (textsN l = ev) := by
        unfold Hid textsN
        have e1 := HE.out
        have e2 := HB.out
        rw [List.take_length] at e1 e2
        rw [e2, e1]; simp
      clear HE HB
      go_wp2
      go_ret
      exact ⟨ret_int H1.out.symm, rfl⟩
end Go.Proofs.YtamolbegmkngdaaGreatDoor
namespace Go.Proofs.YtamolbegmkngdaaGreatDoor
open Go.RowKit
set_option maxHeartbeats 1000000
set_option maxRecDepth 100000

theorem rright_any (n : Nd) (da aa : Option Addr) (dc ac : Nat) (w : World) (hf : Fit n) (hT : Tabs w) (hA : Cells w.heap.size w aa (acCs n.acl)) :
    Calls Tryz.prog 73 #[.agg (ndC n (.slice da n.data.length dc) (.slice aa n.acl.length ac))] w (RightOut (rightN n) w) := by
  have hfp := hf.path
  have hfd := hf.data
  have hfa := hf.acl
  have HT := Lib.hid hf.texts
  have hbox := Box.alloc w (ndC n (.slice da n.data.length dc) (.slice aa n.acl.length ac)) 47
  have hb0 : Below w.heap.size w (w.alloc (.cells (ndC n (.slice da n.data.length dc) (.slice aa n.acl.length ac)) 47)) := (Below.refl _ _).alloc (Nat.le_refl _) _
  unfold ndC at hbox hb0 ⊢
  by_cases h1 : vpath n.path = true
  · have C1 := fun w => rvalid_any n.path w (by omega)
    simp only [h1] at C1
    have C1 := Lib.hid C1
    go_enter Tryz.func73, Tryz.ntmps73
    go_wp2_with fail
    refine (C1.out _).mono ?_
    rintro e w1 ⟨rfl, hb1⟩
    have hx1 := hbox.below hb1 (by simp)
    have hb : Below w.heap.size w w1 := hb0.trans (hb1.mono (by simp))
    clear hbox hb1 hb0
    unfold Box at hx1
    by_cases h2 : 1048575 < (n.data.length : Int)
    · have R : Hid (rightN n = 3) := by unfold Hid rightN; simp [h1]; omega
      clear h1 C1
      go_wp2
      go_ret
      exact ⟨ret_int R.out.symm, hb⟩
    by_cases h3 : 16 < (n.acl.length : Int)
    · have R : Hid (rightN n = 3) := by unfold Hid rightN; simp [h1]; omega
      have h2' : decide (1048575 < (n.data.length : Int)) = false := by simpa using h2
      clear h1 C1
      go_wp2
      go_ret
      exact ⟨ret_int R.out.symm, hb⟩
    have h2' : decide (1048575 < (n.data.length : Int)) = false := by simpa using h2
    have h3' : decide (16 < (n.acl.length : Int)) = false := by simpa using h3
    have hA1 := hA.below hb
    have hr4 : rightN n = if textsN n.acl ≠ 0 then textsN n.acl else if badQ n then 1 else 0 := by
      rw [textsN_eq, if_neg (by simp [h1]), if_neg (by omega)]
    have R4 := Lib.hid hr4
    have C2 := texts_any aa ac n.acl w1 (hA1.mono hb.size) (by omega) HT.out
    clear h1 C1 hr4
    by_cases h5 : ¬ textsN n.acl = 0
    · have R : Hid (rightN n = textsN n.acl) := by unfold Hid; rw [R4.out, if_pos h5]
      have hne : (textsN n.acl != 0) = true := by simpa using h5
      have C2 := Lib.hid C2
      clear h5 R4
      go_wp2_with fail
      refine C2.out.mono ?_
      rintro e w3 ⟨rfl, rfl⟩
      clear C2
      go_wp2
      go_ret
      exact ⟨ret_int R.out.symm, hb⟩
    have h5 : textsN n.acl = 0 := by omega
    have R : Hid (rightN n = if badQ n then 1 else 0) := by unfold Hid; rw [R4.out, h5]; simp
    rw [h5] at C2
    have C2 := Lib.hid C2
    clear R4 h5
    go_wp2_with fail
    refine C2.out.mono ?_
    rintro e w3 ⟨rfl, rfl⟩
    have hsz3 : w.heap.size < w1.heap.size := by
      have := block_lt_of_cell (show w1.cell? ⟨w.heap.size, 0, none⟩ = _ from hx1 0)
      exact this
    have hfin : ∀ o, Below w.heap.size w (w1.alloc o) := fun o => hb.alloc (by omega) o
    have HFIN := Lib.hid hfin
    have hx3 := hx1
    clear C2 hfin hx1
    have HR : ∀ b : Bool, badQ n = b → rightN n = if b then 1 else 0 := fun b hbq => by rw [R.out, hbq]
    have HR := Lib.hid HR
    cases hh : n.has
    · have hq0 : badQ n = (n.count != 0 || n.bytes != 0) := by unfold badQ; rw [hh]; simp
      rw [hh] at hx3
      by_cases hc0 : n.count = 0
      · by_cases hb0 : n.bytes = 0
        · have R0 := Lib.hid (HR.out false (by rw [hq0, hc0, hb0]; rfl))
          have e1 : (n.count != 0) = false := by simp [hc0]
          have e2 : (n.bytes != 0) = false := by simp [hb0]
          clear hc0 hb0 hq0 hh
          go_wp2
          go_ret
          exact ⟨ret_int R0.out.symm, HFIN.out _⟩
        · have R0 := Lib.hid (HR.out true (by rw [hq0]; simp [hb0]))
          have e1 : (n.count != 0) = false := by simp [hc0]
          have e2 : (n.bytes != 0) = true := by simp [hb0]
          clear hc0 hb0 hq0 hh
          go_wp2
          go_ret
          exact ⟨ret_int R0.out.symm, HFIN.out _⟩
      · have R0 := Lib.hid (HR.out true (by rw [hq0]; simp [hc0]))
        have e1 : (n.count != 0) = true := by simp [hc0]
        clear hc0 hq0 hh
        go_wp2
        go_ret
        exact ⟨ret_int R0.out.symm, HFIN.out _⟩
    · have hq0 : badQ n = (decide (n.count < -1) || decide (n.bytes < -1)) := by unfold badQ; rw [hh]; simp
      rw [hh] at hx3
      by_cases hc0 : n.count < -1
      · have R0 := Lib.hid (HR.out true (by rw [hq0]; simp [hc0]))
        clear hq0 hh
        go_wp2
        go_ret
        exact ⟨ret_int R0.out.symm, HFIN.out _⟩
      · by_cases hb0 : n.bytes < -1
        · have R0 := Lib.hid (HR.out true (by rw [hq0]; simp [hb0]))
          have e1 : decide (n.count < -1) = false := by simpa using hc0
          clear hq0 hh
          go_wp2
          go_ret
          exact ⟨ret_int R0.out.symm, HFIN.out _⟩
        · have R0 := Lib.hid (HR.out false (by rw [hq0]; simp [hc0, hb0]))
          have e1 : decide (n.count < -1) = false := by simpa using hc0
          have e2 : decide (n.bytes < -1) = false := by simpa using hb0
          clear hq0 hh
          go_wp2
          go_ret
          exact ⟨ret_int R0.out.symm, HFIN.out _⟩
  · have C1 := fun w => rvalid_any n.path w (by omega)
    have h1' : vpath n.path = false := by simpa using h1
    have R : Hid (rightN n = 30) := by unfold Hid rightN; simp [h1']
    simp only [h1'] at C1
    have C1 := Lib.hid C1
    clear h1 h1'
    go_enter Tryz.func73, Tryz.ntmps73
    go_wp2_with fail
    refine (C1.out _).mono ?_
    rintro e w1 ⟨rfl, hb1⟩
    have hb : Below w.heap.size w w1 := hb0.trans (hb1.mono (by simp))
    clear hbox hb1 hb0
    go_wp2
    go_ret
    exact ⟨ret_int R.out.symm, hb⟩
end Go.Proofs.YtamolbegmkngdaaGreatDoor
namespace Go.Proofs.YtamolbegmkngdaaGreatDoor
open Go.RowKit
set_option maxHeartbeats 1000000
set_option maxRecDepth 100000

/-- What stays when a row of the call's own is written behind. -/
def RowKeep (v v' : Value) (w w' : World) : Prop := w.heap.size ≤ w'.heap.size ∧ ∀ g, g < w.heap.size → v.ownBlock ≠ some g → w'.heap[g]? = w.heap[g]? ∧ v'.ownBlock ≠ some g
theorem RowKeep.refl (v : Value) (w : World) : RowKeep v v w w := ⟨Nat.le_refl _, fun _ _ h => ⟨rfl, h⟩⟩
theorem RowKeep.trans {v1 v2 v3 : Value} {a b c : World} (h : RowKeep v1 v2 a b) (k : RowKeep v2 v3 b c) : RowKeep v1 v3 a c :=
  ⟨Nat.le_trans h.1 k.1, fun g hg hn => let x := h.2 g hg hn; let y := k.2 g (Nat.lt_of_lt_of_le hg h.1) x.2; ⟨y.1.trans x.1, y.2⟩⟩
theorem RowKeep.alloc (v : Value) (w : World) (o : Obj) : RowKeep v v w (w.alloc o) := ⟨by simp, fun g hg hn => ⟨Below.heap_alloc _ _ _ hg, hn⟩⟩

/-- A row of bytes of the call's own. -/
def OwnB (B : Nat) (w : World) (v : Value) (l : List UInt8) : Prop := w.ownsRow B 5 1 v l.length (l.map u8v)
theorem OwnB.lt {B : Nat} {w : World} {v : Value} {l : List UInt8} (h : OwnB B w v l) : ∀ g, v.ownBlock = some g → g < w.heap.size ∧ B ≤ g := by
  intro g hg
  rcases h.2 with ⟨rfl, _⟩ | ⟨g', cap, cur, rfl, k1, k2, k3⟩
  · cases hg
  · simp only [Value.ownBlock, Option.some.injEq] at hg
    subst hg
    exact ⟨(Array.getElem?_eq_some_iff.1 k2).1, k1⟩
theorem OwnB.alloc {B : Nat} {w : World} {v : Value} {l : List UInt8} (h : OwnB B w v l) (o : Obj) : OwnB B (w.alloc o) v l :=
  ownsRow_keep h (fun g hg => Below.heap_alloc _ _ _ (h.lt g hg).1)
theorem OwnB.slice {B : Nat} {w : World} {v : Value} {l : List UInt8} (h : OwnB B w v l) : ∃ a m c, v = .slice a m c := ownsRow_slice h

def PutR (B : Nat) (v : Value) (l : List UInt8) (w : World) (e : Ending) (w' : World) : Prop :=
  ∃ v', e = .returned v' ∧ OwnB B w' v' l ∧ Below B w w' ∧ RowKeep v v' w w'

theorem grown_keep {B : Nat} {w w1 : World} {v v' : Value} {l : List UInt8} (h : OwnB B w v l) (hg : w.grownBy w1 v.ownBlock) (hob : v'.ownBlock = v.ownBlock ∨ v'.ownBlock = some w.heap.size) (hB : B ≤ w.heap.size) : Below B w w1 ∧ RowKeep v v' w w1 := by
  refine ⟨(Below.refl B w).grown hg hB (fun k hk => (h.lt k hk).2), hg.size, fun g hgs hn => ⟨hg.block g hgs (fun e => hn e.symm), ?_⟩⟩
  rcases hob with h | h
  · rw [h]; exact hn
  · rw [h]; simp; omega

theorem rput_any (B : Nat) (v : Value) (l : List UInt8) (x : Int) (k : Nat) (ki : Int) (w : World) (hki : ki = k) (hx0 : 0 ≤ x) (hx1 : x ≤ 18446744073709551615) (hk : k ≤ 8) (hv : OwnB B w v l) (hB : B ≤ w.heap.size) (hlen : l.length + k ≤ 70368744177664) :
    Calls Tryz.prog 197 #[v, .int .u64 x, .int .i64 ki] w (PutR B v (l ++ be x k) w) := by
  subst hki
  obtain ⟨i0, hi, hz0, hz1, hz2⟩ := info_parts infoU8
  go_enter Tryz.func197, Tryz.ntmps197
  go_wp2
  go_loopw [0, 7] (fun vb i wr => ∃ (m : Nat) (l' : List UInt8), i = .int .i64 ((m : Int) - 1) ∧ m ≤ k ∧ Hid (l' ++ be x m = l ++ be x k) ∧ OwnB B wr vb l' ∧ Below B w wr ∧ RowKeep v vb w wr) (fun _ i _ => (intOf i + 1).toNat)
  case atStart => exact ⟨k, l, rfl, Nat.le_refl _, rfl, hv, Below.refl _ _, RowKeep.refl _ _⟩
  case round =>
    obtain ⟨m, l', rfl, hm, HL, hW, hb, hK⟩ := hrel
    by_cases h0 : m = 0
    · subst h0
      have HL' : Hid (l' = l ++ be x k) := by have := HL.out; show l' = l ++ be x k; simpa [be] using this
      clear HL
      go_wp2
      go_ret
      exact ⟨_, rfl, by rw [← HL'.out]; exact hW, hb, hK⟩
    · obtain ⟨i, rfl⟩ : ∃ i, m = i + 1 := ⟨m - 1, by omega⟩
      have hi' : (((i + 1 : Nat) : Int) - 1) = (i : Int) := by omega
      rw [hi']
      have hbv := Lib.hid (byteAt_val x i hx0)
      have hll : l'.length + (i + 1) = l.length + k := by
        have := congrArg List.length HL.out
        simpa [be_length] using this
      have HLL := Lib.hid hll
      clear hll
      have hWa := hW.alloc (.cells #[u8v (byteAt x i)] 5)
      have hsz : wr.heap.size ≤ (wr.alloc (.cells #[u8v (byteAt x i)] 5)).heap.size := by simp
      have hsrc : Src Tryz.prog 1 42 (.slice (some ⟨wr.heap.size, 0, none⟩) 1 1) 1 [u8v (byteAt x i)] (wr.alloc (.cells #[u8v (byteAt x i)] 5)) :=
        (cells_new wr [u8v (byteAt x i)] 5).src Tryz.underlying42 1 1 rfl (one_u8 [byteAt x i])
      rw [hbv.out] at hWa hsrc hsz
      have hbr := hb.size
      go_wp2_with (at_builtin; refine wpList_append_src _ rfl _ _ 42 42 rfl B 5 i0 (.int .u8 0) 1 1 Tryz.underlying42 hi hz0 hz1 hz2 rfl (by decide) u0 l'.length _ rfl hWa _ 1 _ rfl hsrc ?c1 ?c2 ?c3 ?_)
      case c1 => have := HLL.out; simp only [maxLen]; omega
      case c2 => have := HLL.out; omega
      case c3 => simp; omega
      intro v' w1 ho hg _ hob
      have hgk := grown_keep hWa hg (by simpa using hob) (by simp; omega)
      have hbw : Below B w w1 := (hb.alloc (by omega) _).trans hgk.1
      have hkw : RowKeep v v' w w1 := (hK.trans (RowKeep.alloc _ _ _)).trans hgk.2
      have ho' : OwnB B w1 v' (l' ++ [byteAt x i]) := by
        have e : (l' ++ [byteAt x i]).map u8v = l'.map u8v ++ [.int .u8 (x / 2 ^ (8 * i) % 256)] := by rw [List.map_append, ← hbv.out]; rfl
        unfold OwnB
        rw [e]
        simpa using ho
      clear hgk ho hg hob hWa hsrc hb hK hW hbr
      go_wp2
      go_roundw
      case rel => exact ⟨i, l' ++ [byteAt x i], by go_num, by omega, by have := HL.out; unfold Hid; rw [← this]; simp [be], ho', hbw, hkw⟩
      case measure => simp [intOf]

theorem bytes_of_list (s : ByteArray) : byteCells s = s.data.toList.map u8v := rfl

theorem rtext_any (B : Nat) (v : Value) (l : List UInt8) (s : ByteArray) (w : World) (hv : OwnB B w v l) (hB : B ≤ w.heap.size) (hs : s.size < 2147483648) (hlen : l.length + s.size + 4 ≤ 70368744177664) :
    Calls Tryz.prog 195 #[v, .string s] w (PutR B v (l ++ txt s) w) := by
  obtain ⟨i0, hi, hz0, hz1, hz2⟩ := info_parts infoU8
  go_enter Tryz.func195, Tryz.ntmps195
  go_wp2_with fail
  refine (rput_any B v l s.size 4 _ w rfl (by omega) (by omega) (by omega) hv hB (by omega)).mono ?_
  rintro e w1 ⟨v1, rfl, k1, k2, k3⟩
  have hsrc : Src Tryz.prog 1 9 (.string s) s.size (s.data.toList.map u8v) w1 := bytes_of_list s ▸ Src.ofString w1 Tryz.underlying9 s
  have hsz := k2.size
  have HL : Hid ((l ++ be s.size 4).length = l.length + 4) := by simp [Hid, be_length]
  go_wp2_with (at_builtin; refine wpList_append_src _ rfl _ _ 42 9 rfl B 5 i0 (.int .u8 0) 1 1 Tryz.underlying42 hi hz0 hz1 hz2 rfl (by decide) v1 (l ++ be s.size 4).length _ rfl k1 _ s.size _ rfl hsrc ?c1 ?c2 ?c3 ?_)
  case c1 => have := HL.out; simp only [maxLen]; omega
  case c2 => have := HL.out; omega
  case c3 => omega
  intro v' w2 ho hg _ hob
  have hgk := grown_keep k1 hg hob (by omega)
  have ho' : OwnB B w2 v' (l ++ txt s) := by
    unfold OwnB
    have e : (l ++ txt s).map u8v = (l ++ be s.size 4).map u8v ++ s.data.toList.map u8v := by simp [txt]
    rw [e]
    have e2 : (l ++ txt s).length = (l ++ be s.size 4).length + s.size := by simp [txt]; omega
    rw [e2]
    simpa [List.append_assoc] using ho
  have hbw := k2.trans hgk.1
  have hkw := k3.trans hgk.2
  clear hgk ho hg hob hsrc k1 k2 k3
  go_wp2
  go_ret
  exact ⟨v', rfl, ho', hbw, hkw⟩
end Go.Proofs.YtamolbegmkngdaaGreatDoor
namespace Go.Proofs.YtamolbegmkngdaaGreatDoor
open Go.RowKit
set_option maxHeartbeats 2000000
set_option maxRecDepth 100000

theorem racl_any (B : Nat) (v : Value) (l : List UInt8) (a : Option Addr) (c : Nat) (xs : List Ac) (w : World) (hv : OwnB B w v l) (hB : B ≤ w.heap.size) (hc : Cells B w a (acCs xs)) (hn : xs.length ≤ 16) (hx : ∀ x ∈ xs, x.scheme.size ≤ 256 ∧ x.id.size ≤ 256) (hlen : l.length ≤ 70368744000000) :
    Calls Tryz.prog 196 #[v, .slice a xs.length c] w (PutR B v (l ++ be xs.length 4 ++ acBs xs) w) := by
  have HX := Lib.hid hx
  have HLE := Lib.hid (acBs_le xs hx)
  clear hx
  go_enter Tryz.func196, Tryz.ntmps196
  go_wp2_with fail
  refine (rput_any B v l xs.length 4 _ w rfl (by omega) (by omega) (by omega) hv hB (by omega)).mono ?_
  rintro e w1 ⟨v1, rfl, k1, k2, k3⟩
  have hsz1 := k2.size
  go_wp2
  go_loopw [0, 5] (fun vb i wr => ∃ k : Nat, k ≤ xs.length ∧ i = .int .i64 k ∧ OwnB B wr vb (l ++ be xs.length 4 ++ acBs (xs.take k)) ∧ Below B w wr ∧ RowKeep v vb w wr) (fun _ i _ => xs.length - (intOf i).toNat)
  case atStart => exact ⟨0, Nat.zero_le _, rfl, by simpa [acBs] using k1, k2, k3⟩
  case round =>
    obtain ⟨k, hk, rfl, m1, m2, m3⟩ := hrel
    by_cases hlt : k < xs.length
    · obtain ⟨b, off, rfl, hb, c0, c1, c2⟩ := acCells (hc.below m2) k hlt
      have hx2 := HX.out xs[k] (List.getElem_mem hlt)
      have hle := HLE.out k (by omega)
      have htk := Lib.hid (acBs_take xs k hlt)
      have hszr := m2.size
      have keep : ∀ w' o, Below B wr w' → w'.cell? ⟨b, o, none⟩ = wr.cell? ⟨b, o, none⟩ := fun w' o h => h.cell (p := ⟨b, o, none⟩) hb
      have KEEP := Lib.hid keep
      have HLL : Hid ((l ++ be xs.length 4 ++ acBs (xs.take k)).length = l.length + 4 + (acBs (xs.take k)).length) := by simp [Hid, be_length]; omega
      clear keep
      go_wp2_with fail
      refine (rput_any B _ _ (xs[k].perms % 4294967296) 4 _ wr rfl (by omega) (by omega) (by omega) m1 (by omega) (by have := HLL.out; omega)).mono ?_
      rintro e w2 ⟨v2, rfl, p1, p2, p3⟩
      have d1 : w2.cell? ⟨b, off + k * 3 + 1, none⟩ = some (.string xs[k].scheme) := (KEEP.out w2 _ p2).trans c1
      have hsz2 := p2.size
      clear c0
      go_wp2_with fail
      refine (rtext_any B _ _ xs[k].scheme w2 p1 (by omega) (by omega) (by have := HLL.out; simp only [List.length_append, be_length] at *; omega)).mono ?_
      rintro e w3 ⟨v3, rfl, q1, q2, q3⟩
      have d2 : w3.cell? ⟨b, off + k * 3 + 2, none⟩ = some (.string xs[k].id) := (KEEP.out w3 _ (p2.trans q2)).trans c2
      have hsz3 := q2.size
      clear d1 c1
      go_wp2_with fail
      refine (rtext_any B _ _ xs[k].id w3 q1 (by omega) (by omega) (by have := HLL.out; simp only [List.length_append, be_length, txt_length] at *; omega)).mono ?_
      rintro e w4 ⟨v4, rfl, r1, r2, r3⟩
      have hbw := m2.trans (p2.trans (q2.trans r2))
      have hkw := m3.trans (p3.trans (q3.trans r3))
      have r1 : OwnB B w4 v4 (l ++ be xs.length 4 ++ acBs (xs.take (k + 1))) := by rw [htk.out]; simpa [acB, List.append_assoc] using r1
      clear d2 c2 p1 p2 p3 q1 q2 q3 r2 r3 m1 m2 m3 hle htk HLL
      go_wp2
      go_roundw
      case rel => exact ⟨k + 1, by omega, by go_num, r1, hbw, hkw⟩
      case measure => simp [intOf]; omega
    · obtain rfl : k = xs.length := by omega
      rw [List.take_length] at m1
      clear hc
      go_wp2
      go_ret
      exact ⟨_, rfl, by simpa using m1, m2, m3⟩

theorem txt_list (xs : List UInt8) : txt ⟨xs.toArray⟩ = be xs.length 4 ++ xs := by
  simp [txt]
  rfl
end Go.Proofs.YtamolbegmkngdaaGreatDoor
namespace Go.Proofs.YtamolbegmkngdaaGreatDoor
open Go.RowKit
set_option maxHeartbeats 2000000
set_option maxRecDepth 100000

def AwR (v : Value) (w : World) (g : Nat) (cs : Array Value) : Prop := g < w.heap.size ∧ v.ownBlock ≠ some g ∧ Box w g cs
theorem AwR.keep {v v' : Value} {w w' : World} {g : Nat} {cs : Array Value} (h : AwR v w g cs) (hk : RowKeep v v' w w') : AwR v' w' g cs :=
  ⟨Nat.lt_of_lt_of_le h.1 hk.1, (hk.2 g h.1 h.2.1).2, fun j => (World.cell?_of_block (hk.2 g h.1 h.2.1).1).trans (h.2.2 j)⟩
theorem AwR.new {B : Nat} {v : Value} {w : World} {l : List UInt8} (hv : OwnB B w v l) (cs : Array Value) (e : TypeId) : AwR v (w.alloc (.cells cs e)) w.heap.size cs :=
  ⟨by simp, fun h => by have := (hv.lt _ h).1; omega, Box.alloc w cs e⟩

theorem rnput_any (B : Nat) (v : Value) (l : List UInt8) (n : Nd) (da aa : Option Addr) (dc ac : Nat) (w : World) (hv : OwnB B w v l) (hB : B ≤ w.heap.size) (hD : Cells B w da (n.data.map u8v)) (hA : Cells B w aa (acCs n.acl)) (hr : rightN n = 0) (hlen : l.length ≤ 70368700000000) :
    Calls Tryz.prog 177 #[v, .agg (ndC n (.slice da n.data.length dc) (.slice aa n.acl.length ac))] w (PutR B v (l ++ encN n) w) := by
  have hrs := right_sizes n hr
  have hs1 := hrs.1
  have hs2 := hrs.2.1
  have hs3 := hrs.2.2.1
  have HS4 := Lib.hid hrs.2.2.2
  clear hrs hr
  have hbx := AwR.new hv (ndC n (.slice da n.data.length dc) (.slice aa n.acl.length ac)) 47
  have hv1 := hv.alloc (.cells (ndC n (.slice da n.data.length dc) (.slice aa n.acl.length ac)) 47)
  have hb1 : Below B w (w.alloc (.cells (ndC n (.slice da n.data.length dc) (.slice aa n.acl.length ac)) 47)) := (Below.refl _ _).alloc hB _
  have hk1 := RowKeep.alloc v w (.cells (ndC n (.slice da n.data.length dc) (.slice aa n.acl.length ac)) 47)
  unfold ndC at hbx hv1 hb1 hk1 ⊢
  go_enter Tryz.func177, Tryz.ntmps177
  have hq := hbx.2.2
  unfold Box at hq
  go_wp2_with fail
  refine (rtext_any B v l n.path _ hv1 (by simp; omega) (by omega) (by omega)).mono ?_
  rintro e w2 ⟨v2, rfl, k1, k2, k3⟩
  have hx2 := hbx.keep k3
  have hb2 := hb1.trans k2
  have hK2 := hk1.trans k3
  have hz2 := hb2.size
  clear hq hbx hb1 hk1 hv1 k2 k3
  have hq := hx2.2.2
  unfold Box at hq
  have hcv := fun c => conv_string c (hD.below hb2)
  go_wp2_with fail
  refine (rtext_any B v2 _ ⟨n.data.toArray⟩ w2 k1 (by omega) (by show n.data.toArray.size < _; simp; omega) (by show _ + n.data.toArray.size + 4 ≤ _; simp [txt_length]; omega)).mono ?_
  rintro e w3 ⟨v3, rfl, m1, m2, m3⟩
  rw [txt_list n.data] at m1
  have hx3 := hx2.keep m3
  have hb3 := hb2.trans m2
  have hK3 := hK2.trans m3
  have hz3 := hb3.size
  clear hq hcv hx2 hb2 hK2 k1 m2 m3
  have hq := hx3.2.2
  unfold Box at hq
  go_wp2_with fail
  refine (racl_any B v3 _ aa ac n.acl w3 m1 (by omega) (hA.below hb3) hs3 HS4.out (by simp [txt_length, be_length]; omega)).mono ?_
  rintro e w4 ⟨v4, rfl, n1, n2, n3⟩
  have hx4 := hx3.keep n3
  have hb4 := hb3.trans n2
  have hK4 := hK3.trans n3
  have hz4 := hb4.size
  clear hq hx3 hb3 hK3 m1 n2 n3
  have hq := hx4.2.2
  unfold Box at hq
  obtain ⟨l4, hl4, he4, n1⟩ : Exists fun l4 => l4.length ≤ 70368720000000 ∧ Hid (l4 = l ++ (txt n.path ++ (be n.data.length 4 ++ n.data) ++ (be n.acl.length 4 ++ acBs n.acl))) ∧ OwnB B w4 v4 l4 := by
    refine ⟨_, ?_, rfl, by simpa [List.append_assoc] using n1⟩
    have := acBs_le n.acl HS4.out n.acl.length (Nat.le_refl _)
    rw [List.take_length] at this
    simp [txt_length, be_length]; omega
  have hv5 := n1.alloc (.cells (longsN n |>.map (Value.int .i64)).toArray 255)
  have hG1 := AwR.new n1 (longsN n |>.map (Value.int .i64)).toArray 255
  have hkA := RowKeep.alloc v4 w4 (.cells (longsN n |>.map (Value.int .i64)).toArray 255)
  have hx5 := hx4.keep hkA
  have hb5 : Below B w (w4.alloc (.cells (longsN n |>.map (Value.int .i64)).toArray 255)) := hb4.alloc (by omega) _
  have hK5 := hK4.trans hkA
  have hl8 : (longsN n).map (Value.int .i64) = [.int .i64 n.owner, .int .i64 n.czxid, .int .i64 n.mzxid, .int .i64 n.pzxid, .int .i64 n.azxid, .int .i64 n.qzxid, .int .i64 n.ctime, .int .i64 n.mtime] := rfl
  rw [hl8] at hv5 hG1 hx5 hb5 hK5
  clear hkA hx4 hb4 hK4 n1
  have HG : Hid (∀ k, (h : k < 8) → ∃ x : Int, (longsN n)[k]? = some x ∧ ([.int .i64 n.owner, .int .i64 n.czxid, .int .i64 n.mzxid, .int .i64 n.pzxid, .int .i64 n.azxid, .int .i64 n.qzxid, .int .i64 n.ctime, .int .i64 n.mtime] : List Value).toArray[k]? = some (.int .i64 x)) := by
    intro k hk
    rcases (by omega : k = 0 ∨ k = 1 ∨ k = 2 ∨ k = 3 ∨ k = 4 ∨ k = 5 ∨ k = 6 ∨ k = 7) with rfl | rfl | rfl | rfl | rfl | rfl | rfl | rfl <;> exact ⟨_, rfl, rfl⟩
  clear hl8
  go_wp2
  obtain ⟨w5, hw5⟩ : ∃ w5, w5 = w4.alloc (.cells #[.int .i64 n.owner, .int .i64 n.czxid, .int .i64 n.mzxid, .int .i64 n.pzxid, .int .i64 n.azxid, .int .i64 n.qzxid, .int .i64 n.ctime, .int .i64 n.mtime] 255) := ⟨_, rfl⟩
  generalize hw5' : w4.alloc (.cells #[.int .i64 n.owner, .int .i64 n.czxid, .int .i64 n.mzxid, .int .i64 n.pzxid, .int .i64 n.azxid, .int .i64 n.qzxid, .int .i64 n.ctime, .int .i64 n.mtime] 255) = w5 at hv5 hG1 hx5 hb5 hK5 ⊢
  generalize w4.heap.size = g1 at hG1 ⊢
  clear hw5 hw5' hq
  go_loopw [0, 6] (fun vb i wr => ∃ k : Nat, k ≤ 8 ∧ i = .int .i64 k ∧ OwnB B wr vb (l4 ++ longsB ((longsN n).take k)) ∧ Below B w wr ∧ RowKeep v vb w wr ∧ RowKeep v4 vb w5 wr) (fun _ i _ => 8 - (intOf i).toNat)
  case atStart => exact ⟨0, by omega, rfl, by simpa [longsB] using hv5, hb5, hK5, RowKeep.refl _ _⟩
  case round =>
    obtain ⟨k, hk, rfl, q1, q2, q3, q4⟩ := hrel
    have hszr := q2.size
    by_cases hlt : k < 8
    · obtain ⟨x, x1, x2⟩ := HG.out k hlt
      have c1 : wr.cell? ⟨g1, k, none⟩ = some (.int .i64 x) := ((hG1.keep q4).2.2 k).trans x2
      have hwr := wrap_u64 x
      have htk : Hid (longsB ((longsN n).take (k + 1)) = longsB ((longsN n).take k) ++ be (IntKind.u64.wrap x) 8) := by
        have hl : k < (longsN n).length := hlt
        unfold Hid
        rw [longsB_take _ k hl]
        rw [List.getElem?_eq_getElem hl] at x1
        rw [Option.some.inj x1]
      clear x1 x2
      go_wp2_with fail
      refine (rput_any B _ _ (IntKind.u64.wrap x) 8 _ wr rfl hwr.1 hwr.2 (by omega) q1 (by omega) (by simp [longsB_length]; omega)).mono ?_
      rintro e w' ⟨v', rfl, r1, r2, r3⟩
      rw [List.append_assoc, ← htk.out] at r1
      have hB' := q2.trans r2
      have hK' := q3.trans r3
      have hK'' := q4.trans r3
      clear c1 q1 q2 q3 q4 r2 r3 htk hwr
      go_wp2
      go_roundw
      case rel => exact ⟨k + 1, by omega, by go_num, r1, hB', hK', hK''⟩
      case measure => simp [intOf]; omega
    · obtain rfl : k = 8 := by omega
      have q1 : OwnB B wr _ (l4 ++ longsB (longsN n)) := q1
      have hx6 := hx5.keep q4
      have hq := hx6.2.2
      unfold Box at hq
      obtain ⟨wo, rfl⟩ : ∃ wo : World, wo = wr := ⟨_, rfl⟩
      rw [show ((8 : Nat) : Int) = 8 from rfl]
      clear hG1 HG q4 hv5 hb5 hK5 hx5
      obtain ⟨vo, rfl⟩ : ∃ vo : Value, vo = u0 := ⟨_, rfl⟩
      have hv5 := q1.alloc (.cells #[.int .i32 n.version, .int .i32 n.creates, .int .i32 n.aversion] 257)
      have hG1 := AwR.new q1 #[.int .i32 n.version, .int .i32 n.creates, .int .i32 n.aversion] 257
      have hkA := RowKeep.alloc vo wo (.cells #[.int .i32 n.version, .int .i32 n.creates, .int .i32 n.aversion] 257)
      have hx7 := hx6.keep hkA
      have hb7 : Below B w (wo.alloc (.cells #[.int .i32 n.version, .int .i32 n.creates, .int .i32 n.aversion] 257)) := q2.alloc (by omega) _
      have hK7 := q3.trans hkA
      have HG : Hid (∀ k, (h : k < 3) → ∃ x : Int, (intsN n)[k]? = some x ∧ (#[.int .i32 n.version, .int .i32 n.creates, .int .i32 n.aversion] : Array Value)[k]? = some (.int .i32 x)) := by
        intro k hk
        rcases (by omega : k = 0 ∨ k = 1 ∨ k = 2) with rfl | rfl | rfl <;> exact ⟨_, rfl, rfl⟩
      clear hkA hx6 q1 q2 q3
      go_wp2
      generalize wo.alloc (.cells #[.int .i32 n.version, .int .i32 n.creates, .int .i32 n.aversion] 257) = w7 at hv5 hG1 hx7 hb7 hK7 ⊢
      generalize wo.heap.size = g2 at hG1 hszr ⊢
      clear hq
      go_loopw [0, 8] (fun vb i wr => ∃ k : Nat, k ≤ 3 ∧ i = .int .i64 k ∧ OwnB B wr vb (l4 ++ longsB (longsN n) ++ intsB ((intsN n).take k)) ∧ Below B w wr ∧ RowKeep v vb w wr ∧ RowKeep vo vb w7 wr) (fun _ i _ => 3 - (intOf i).toNat)
      case atStart => exact ⟨0, by omega, rfl, by simpa [intsB] using hv5, hb7, hK7, RowKeep.refl _ _⟩
      case round =>
        obtain ⟨k, hk, rfl, q1, q2, q3, q4⟩ := hrel
        have hszr := q2.size
        have hll : (longsB (longsN n)).length = 64 := by rw [longsB_length]; rfl
        by_cases hlt : k < 3
        · obtain ⟨x, x1, x2⟩ := HG.out k hlt
          have c1 : wr.cell? ⟨g2, k, none⟩ = some (.int .i32 x) := ((hG1.keep q4).2.2 k).trans x2
          have htk : Hid (intsB ((intsN n).take (k + 1)) = intsB ((intsN n).take k) ++ be (x % 4294967296) 4) := by
            have hl : k < (intsN n).length := hlt
            unfold Hid
            rw [intsB_take _ k hl]
            rw [List.getElem?_eq_getElem hl] at x1
            rw [Option.some.inj x1]
          have HLL := Lib.hid hll
          clear x1 x2 hll
          go_wp2_with fail
          refine (rput_any B _ _ (x % 4294967296) 4 _ wr rfl (by omega) (by omega) (by omega) q1 (by omega) (by have := HLL.out; simp [intsB_length]; omega)).mono ?_
          rintro e w' ⟨v', rfl, r1, r2, r3⟩
          rw [List.append_assoc, ← htk.out] at r1
          have hB' := q2.trans r2
          have hK' := q3.trans r3
          have hK'' := q4.trans r3
          clear c1 q1 q2 q3 q4 r2 r3 htk
          go_wp2
          go_roundw
          case rel => exact ⟨k + 1, by omega, by go_num, r1, hB', hK', hK''⟩
          case measure => simp [intOf]; omega
        · obtain rfl : k = 3 := by omega
          have q1 : OwnB B wr u0 (l4 ++ longsB (longsN n) ++ intsB (intsN n)) := q1
          have hl2 : (intsB (intsN n)).length = 12 := by rw [intsB_length]; rfl
          have HL1 := Lib.hid hll
          have HL2 := Lib.hid hl2
          have hx8 := hx7.keep q4
          have hq := hx8.2.2
          unfold Box at hq
          clear hG1 HG q4 hv5 hb7 hK7 hx7 hll hl2
          cases hh : n.has
          · skip
            rw [hh] at hq
            have HE : Hid (encN n = txt n.path ++ (be n.data.length 4 ++ n.data) ++ (be n.acl.length 4 ++ acBs n.acl) ++ longsB (longsN n) ++ intsB (intsN n) ++ be 0 1 ++ be (IntKind.u64.wrap n.count) 8 ++ be (IntKind.u64.wrap n.bytes) 8) := by
              unfold Hid encN; rw [hh]; rfl
            have hwc := wrap_u64 n.count
            have hwb := wrap_u64 n.bytes
            have hq14 : ∀ w', RowKeep u0 u0 wr w' → True := fun _ _ => trivial
            clear hh hq14
            go_wp2_with fail
            refine (rput_any B _ _ 0 1 _ wr rfl (by omega) (by omega) (by omega) q1 (by omega) (by have := HL1.out; have := HL2.out; simp; omega)).mono ?_
            rintro e w9 ⟨v9, rfl, r1, r2, r3⟩
            have hx9 := hx8.keep r3
            have hb9 := q2.trans r2
            have hK9 := q3.trans r3
            have hz9 := hb9.size
            clear hq q1 q2 q3 r2 r3
            have hq := hx9.2.2
            unfold Box at hq
            go_wp2_with fail
            refine (rput_any B _ _ (IntKind.u64.wrap n.count) 8 _ w9 rfl hwc.1 hwc.2 (by omega) r1 (by omega) (by have := HL1.out; have := HL2.out; simp [be_length]; omega)).mono ?_
            rintro e w10 ⟨v10, rfl, s1, s2, s3⟩
            have hx10 := hx9.keep s3
            have hb10 := hb9.trans s2
            have hK10 := hK9.trans s3
            have hz10 := hb10.size
            clear hq r1 hb9 hK9 s2 s3
            have hq := hx10.2.2
            unfold Box at hq
            go_wp2_with fail
            refine (rput_any B _ _ (IntKind.u64.wrap n.bytes) 8 _ w10 rfl hwb.1 hwb.2 (by omega) s1 (by omega) (by have := HL1.out; have := HL2.out; simp [be_length]; omega)).mono ?_
            rintro e w11 ⟨v11, rfl, t1, t2, t3⟩
            have hb11 := hb10.trans t2
            have hK11 := hK10.trans t3
            have ho : OwnB B w11 v11 (l ++ encN n) := by rw [HE.out]; rw [he4.out] at t1; simpa [List.append_assoc] using t1
            clear hq s1 hb10 hK10 t1 t2 t3
            go_wp2
            go_ret
            exact ⟨v11, rfl, ho, hb11, hK11⟩
          · skip
            rw [hh] at hq
            have HE : Hid (encN n = txt n.path ++ (be n.data.length 4 ++ n.data) ++ (be n.acl.length 4 ++ acBs n.acl) ++ longsB (longsN n) ++ intsB (intsN n) ++ be 1 1 ++ be (IntKind.u64.wrap n.count) 8 ++ be (IntKind.u64.wrap n.bytes) 8) := by
              unfold Hid encN; rw [hh]; rfl
            have hwc := wrap_u64 n.count
            have hwb := wrap_u64 n.bytes
            have hq14 : ∀ w', RowKeep u0 u0 wr w' → True := fun _ _ => trivial
            clear hh hq14
            go_wp2_with fail
            refine (rput_any B _ _ 1 1 _ wr rfl (by omega) (by omega) (by omega) q1 (by omega) (by have := HL1.out; have := HL2.out; simp; omega)).mono ?_
            rintro e w9 ⟨v9, rfl, r1, r2, r3⟩
            have hx9 := hx8.keep r3
            have hb9 := q2.trans r2
            have hK9 := q3.trans r3
            have hz9 := hb9.size
            clear hq q1 q2 q3 r2 r3
            have hq := hx9.2.2
            unfold Box at hq
            go_wp2_with fail
            refine (rput_any B _ _ (IntKind.u64.wrap n.count) 8 _ w9 rfl hwc.1 hwc.2 (by omega) r1 (by omega) (by have := HL1.out; have := HL2.out; simp [be_length]; omega)).mono ?_
            rintro e w10 ⟨v10, rfl, s1, s2, s3⟩
            have hx10 := hx9.keep s3
            have hb10 := hb9.trans s2
            have hK10 := hK9.trans s3
            have hz10 := hb10.size
            clear hq r1 hb9 hK9 s2 s3
            have hq := hx10.2.2
            unfold Box at hq
            go_wp2_with fail
            refine (rput_any B _ _ (IntKind.u64.wrap n.bytes) 8 _ w10 rfl hwb.1 hwb.2 (by omega) s1 (by omega) (by have := HL1.out; have := HL2.out; simp [be_length]; omega)).mono ?_
            rintro e w11 ⟨v11, rfl, t1, t2, t3⟩
            have hb11 := hb10.trans t2
            have hK11 := hK10.trans t3
            have ho : OwnB B w11 v11 (l ++ encN n) := by rw [HE.out]; rw [he4.out] at t1; simpa [List.append_assoc] using t1
            clear hq s1 hb10 hK10 t1 t2 t3
            go_wp2
            go_ret
            exact ⟨v11, rfl, ho, hb11, hK11⟩
end Go.Proofs.YtamolbegmkngdaaGreatDoor
