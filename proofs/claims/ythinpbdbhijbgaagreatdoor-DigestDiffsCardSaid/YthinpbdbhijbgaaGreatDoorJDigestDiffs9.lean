/- Rows that show nodes: what they hold, their first places and those behind them, rows of the call's own; a slice of a slice. The document's tree in memory; where a path stands in it (arborref07's Find). The walk of a node's copy, as the reference has it. The walk of arborref07's Insert. A text is appended to a row of the call's own: one law for the walk. Rows of partings, and how one is appended. Partings sorted by their paths: the library's sort at this program's closure. A region that draws its order, its operations turning memory and making values: an invariant that knows which of them are done, and what they yielded. The walk of arborref07's Take. -/
import Derived.Test.YthinpbdbhijbgaaGreatDoorJDigestDiffs7
import Derived.Test.YthinpbdbhijbgaaGreatDoorJDigestDiffs8
import Derived.Test.YthinpbdbhijbgaaGreatDoorJDigestDiffs2
import Derived.Test.YthinpbdbhijbgaaGreatDoorJDigestDiffs3
import Derived.Test.YthinpbdbhijbgaaGreatDoorJDigestDiffs6
import Derived.Test.YthinpbdbhijbgaaGreatDoorSortF
import Derived.Shelf.SlSortCmp.WholeK
import Derived.Shelf.SlSortCmp.NoneTotal
import Derived.Shelf.Small.Strs
import Derived.Great.BuildSlice
namespace Go.Proofs.YthinpbdbhijbgaaGreatDoor
open Go.RowKit
set_option maxHeartbeats 2000000
set_option maxRecDepth 100000

/-- Rows that show nodes, all in blocks of a set. -/
structure RowsOf (S : Nat → Prop) (w : World) (a : Option Addr) (vs : List (Array Value)) (L : List Nd) : Prop where
  len : vs.length = L.length
  cells : CellsS S w a (vs.flatMap Array.toList)
  each : ∀ (j : Nat) (cs : Array Value), vs[j]? = some cs → ∃ n, L[j]? = some n ∧ NdS S w (.agg cs) n

/-- A slice's address: none, or a plain one. -/
def PlainA (a : Option Addr) (cap : Nat) : Prop := (a = none ∧ cap = 0) ∨ ∃ b off, a = some ⟨b, off, none⟩

theorem RowsOf.imp {S S' : Nat → Prop} {w w' : World} {a : Option Addr} {vs : List (Array Value)} {L : List Nd} (h : RowsOf S w a vs L) (hS : ∀ b, S b → S' b) (hw : ∀ k, S k → w'.heap[k]? = w.heap[k]?) : RowsOf S' w' a vs L :=
  ⟨h.len, h.cells.imp hS fun b o u hb hu => (World.cell?_of_block (hw b hb)).trans hu, fun j cs hj => by
    obtain ⟨n, hn, hN⟩ := h.each j cs hj
    exact ⟨n, hn, NdS.imp hN hS fun b o u hb hu => (World.cell?_of_block (hw b hb)).trans hu⟩⟩
theorem RowsOf.v17 {S : Nat → Prop} {w : World} {a : Option Addr} {vs : List (Array Value)} {L : List Nd} (h : RowsOf S w a vs L) : ∀ x ∈ vs, x.size = 17 := fun x hx => by
  obtain ⟨i, hi, ei⟩ := List.getElem_of_mem hx
  obtain ⟨n2, _, da2, dc2, aa2, ac2, e2, _⟩ := h.each i x (by rw [List.getElem?_eq_getElem hi, ei])
  simp only [Value.agg.injEq] at e2
  rw [e2]; rfl
/-- The j-th row. -/
theorem RowsOf.row {S : Nat → Prop} {w : World} {a : Option Addr} {vs : List (Array Value)} {L : List Nd} (h : RowsOf S w a vs L) {j : Nat} {n : Nd} (hj : L[j]? = some n) :
    ∃ b off da dc aa ac, a = some ⟨b, off, none⟩ ∧ S b ∧ (∀ r u, (ndC n (.slice da n.data.length dc) (.slice aa n.acl.length ac))[r]? = some u → w.cell? ⟨b, off + j * 17 + r, none⟩ = some u) ∧ CellsS S w da (n.data.map u8v) ∧ CellsS S w aa (acCs n.acl) ∧ vs[j]? = some (ndC n (.slice da n.data.length dc) (.slice aa n.acl.length ac)) := by
  have hjl := (List.getElem?_eq_some_iff.1 hj).1
  have hvk : vs[j]? = some (vs[j]'(by rw [h.len]; exact hjl)) := List.getElem?_eq_getElem _
  obtain ⟨n', hn', da, dc, aa, ac, e, hD, hA⟩ := h.each j _ hvk
  obtain rfl : n' = n := by rw [hj] at hn'; exact (Option.some.inj hn').symm
  simp only [Value.agg.injEq] at e
  rw [e] at hvk
  have hfl := flat17 vs j _ h.v17 hvk
  obtain ⟨b, off, rfl, hb, _⟩ := h.cells (j * 17 + 0) _ (hfl 0 (.string n'.path) rfl)
  refine ⟨b, off, da, dc, aa, ac, rfl, hb, fun r u hr => ?_, hD, hA, hvk⟩
  obtain ⟨b', off', e1, _, c1⟩ := h.cells (j * 17 + r) _ (hfl r u hr)
  simp only [Option.some.injEq, Addr.mk.injEq, and_true] at e1
  obtain ⟨rfl, rfl⟩ := e1
  rw [Nat.add_assoc]; exact c1

theorem infoNd17 : (Tryz.prog.info? 44).map (·.size) = some 17 := by kernel_rfl
theorem run_slice_to (a : Option Addr) (len cap i : Nat) (ha : ∀ p, a = some p → ∃ b off, p = ⟨b, off, none⟩) (hi : i ≤ cap) (W : World) : (Instr.slice 50 (.slice a len cap) none (some (.int .i64 i)) none).run Tryz.prog W = .ok (.slice a i cap) W := by
  have h1 : (0 : Int) ≤ i := by omega
  have h2 : (i : Int) ≤ cap := by omega
  obtain ⟨inf, hinf, hs⟩ := Option.map_eq_some_iff.1 infoNd17
  have hm : (if cap = 0 then a else a.map fun x => x.add 0) = a := by
    split
    · rfl
    · cases a with
      | none => rfl
      | some p =>
        obtain ⟨b, off, rfl⟩ := ha p rfl
        simp [Addr.add]
  simp [Instr.slice, Instr.sliceBounds, Instr.sliceBound, run_underlying Tryz.underlying50, asIntOf, Int.toNat_natCast, h1, h2, hi, sizeOf, typeInfo, hinf, hm, Sem.run, Result.andThen]
theorem run_slice_from (b off len cap i : Nat) (hi : i ≤ len) (hl : len ≤ cap) (W : World) : (Instr.slice 50 (.slice (some ⟨b, off, none⟩) len cap) (some (.int .i64 i)) none none).run Tryz.prog W = .ok (.slice (some (if cap = i then ⟨b, off, none⟩ else ⟨b, off + i * 17, none⟩)) (len - i) (cap - i)) W := by
  have h1 : (0 : Int) ≤ i := by omega
  have h2 : (i : Int) ≤ len := by omega
  obtain ⟨inf, hinf, hs⟩ := Option.map_eq_some_iff.1 infoNd17
  by_cases h0 : i = 0
  · subst h0
    by_cases hc : cap = 0 <;>
    simp [Instr.slice, Instr.sliceBounds, Instr.sliceBound, run_underlying Tryz.underlying50, asIntOf, sizeOf, typeInfo, hinf, hs, hc, Sem.run, Result.andThen, Addr.add]
  have h3 : ¬ i * 17 = 0 := by omega
  by_cases hc : cap = i <;>
  simp [Instr.slice, Instr.sliceBounds, Instr.sliceBound, run_underlying Tryz.underlying50, asIntOf, Int.toNat_natCast, h1, h2, hi, h0, h3, sizeOf, typeInfo, hinf, hs, hc, Sem.run, Result.andThen, Addr.add]
theorem run_slice_nil (W : World) : (Instr.slice 50 (.slice none 0 0) (some (.int .i64 0)) none none).run Tryz.prog W = .ok (.slice none 0 0) W := by
  obtain ⟨inf, hinf, hs⟩ := Option.map_eq_some_iff.1 infoNd17
  simp [Instr.slice, Instr.sliceBounds, Instr.sliceBound, run_underlying Tryz.underlying50, asIntOf, sizeOf, typeInfo, hinf, Sem.run, Result.andThen]

/-- A row of the call's own that shows nodes. -/
theorem RowsOf.of_own {S : Nat → Prop} {w : World} {base n : Nat} {v : Value} {vs : List (Array Value)} {L : List Nd} (h : w.ownsRow base 44 17 v n (vs.flatMap Array.toList)) (hn : n = L.length) (hl : vs.length = L.length) (hS : ∀ k, base ≤ k → k < w.heap.size → S k)
    (he : ∀ (j : Nat) (cs : Array Value), vs[j]? = some cs → ∃ n, L[j]? = some n ∧ NdS S w (.agg cs) n) : ∃ a c, v = .slice a n c ∧ n ≤ c ∧ c ≤ maxLen ∧ RowsOf S w a vs L ∧ PlainA a c := by
  rcases h.2 with ⟨rfl, h0⟩ | ⟨g, cap, cur, rfl, hb, hg, h1, h2, h3, h4⟩
  · have hL : L = [] := List.eq_nil_of_length_eq_zero (by omega)
    have hv : vs = [] := List.eq_nil_of_length_eq_zero (by rw [hl, hL]; rfl)
    subst h0 hL hv
    exact ⟨none, 0, rfl, Nat.le_refl _, Nat.zero_le _, ⟨rfl, fun j u hj => by simp at hj, he⟩, .inl ⟨rfl, rfl⟩⟩
  · refine ⟨some ⟨g, 0, none⟩, cap, rfl, h1, h2, ⟨hl, fun j u hj => ?_, he⟩, .inr ⟨g, 0, rfl⟩⟩
    have hc := h.cells (g := g) rfl j u hj
    rw [addr_add] at hc
    exact ⟨g, 0, rfl, hS g hb (Array.getElem?_eq_some_iff.1 hg).1, hc⟩

theorem flat_take (vs : List (Array Value)) (i : Nat) (h17 : ∀ x ∈ vs, x.size = 17) : (vs.flatMap Array.toList).take (i * 17) = (vs.take i).flatMap Array.toList := by
  induction vs generalizing i with
  | nil => simp
  | cons x vs ih =>
    cases i with
    | zero => simp
    | succ i =>
      have hx : x.toList.length = 17 := by simpa using h17 x (List.mem_cons_self ..)
      rw [List.take_succ_cons, List.flatMap_cons, List.flatMap_cons, ← ih i fun y hy => h17 y (List.mem_cons_of_mem _ hy), List.take_append, List.take_of_length_le (by omega), hx, show (i + 1) * 17 - 17 = i * 17 by omega]
theorem flat_drop (vs : List (Array Value)) (i : Nat) (h17 : ∀ x ∈ vs, x.size = 17) : (vs.flatMap Array.toList).drop (i * 17) = (vs.drop i).flatMap Array.toList := by
  induction vs generalizing i with
  | nil => simp
  | cons x vs ih =>
    cases i with
    | zero => simp
    | succ i =>
      have hx : x.toList.length = 17 := by simpa using h17 x (List.mem_cons_self ..)
      rw [List.drop_succ_cons, List.flatMap_cons, ← ih i fun y hy => h17 y (List.mem_cons_of_mem _ hy), List.drop_append, List.drop_eq_nil_of_le (by omega), hx, show (i + 1) * 17 - 17 = i * 17 by omega, List.nil_append]
theorem flat_len (vs : List (Array Value)) (h17 : ∀ x ∈ vs, x.size = 17) : (vs.flatMap Array.toList).length = vs.length * 17 := by
  induction vs with
  | nil => rfl
  | cons x vs ih =>
    have hx : x.toList.length = 17 := by simpa using h17 x (List.mem_cons_self ..)
    rw [List.flatMap_cons, List.length_append, hx, ih fun y hy => h17 y (List.mem_cons_of_mem _ hy), List.length_cons]; omega
theorem RowsOf.one {S : Nat → Prop} {w : World} {a : Option Addr} {vs : List (Array Value)} {L : List Nd} (h : RowsOf S w a vs L) : ∀ u ∈ vs.flatMap Array.toList, u.oneCell' = true := fun u hu => by
  obtain ⟨x, hx, hux⟩ := List.mem_flatMap.1 hu
  obtain ⟨i, hi, ei⟩ := List.getElem_of_mem hx
  obtain ⟨n2, _, da2, dc2, aa2, ac2, e2, _⟩ := h.each i x (by rw [List.getElem?_eq_getElem hi, ei])
  simp only [Value.agg.injEq] at e2
  have := cells_node n2 da2 aa2 n2.data.length n2.acl.length dc2 ac2
  rw [← e2, ← Array.all_toList] at this
  exact List.all_eq_true.1 this u hux

/-- What a slice's first places show, and what those behind them. -/
theorem RowsOf.src_to {S : Nat → Prop} {w : World} {a : Option Addr} {vs : List (Array Value)} {L : List Nd} (h : RowsOf S w a vs L) {i cap : Nat} (hi : i ≤ L.length) (hS : ∀ k, S k → k < w.heap.size) : Src Tryz.prog 17 50 (.slice a i cap) i ((vs.take i).flatMap Array.toList) w := by
  have h17 : ∀ x ∈ vs.take i, x.size = 17 := fun x hx => h.v17 x (List.mem_of_mem_take hx)
  have hc : Cells w.heap.size w a ((vs.take i).flatMap Array.toList) := fun j u hj => by
    rw [← flat_take vs i h.v17, List.getElem?_take] at hj
    split at hj
    · obtain ⟨b, off, e, hb, hc⟩ := h.cells j u hj
      exact ⟨b, off, e, hS b hb, hc⟩
    · cases hj
  exact hc.src Tryz.underlying50 i cap (by rw [flat_len _ h17, List.length_take, h.len]; congr 1; omega) fun u hu => h.one u (by
    rw [← flat_take vs i h.v17] at hu
    exact List.mem_of_mem_take hu)
theorem RowsOf.src_from {S : Nat → Prop} {w : World} {b off : Nat} {vs : List (Array Value)} {L : List Nd} (h : RowsOf S w (some ⟨b, off, none⟩) vs L) {i cap : Nat} (hi : i ≤ L.length) (hl : L.length ≤ cap) (hS : ∀ k, S k → k < w.heap.size) : Src Tryz.prog 17 50 (.slice (some (if cap = i then ⟨b, off, none⟩ else ⟨b, off + i * 17, none⟩)) (L.length - i) (cap - i)) (L.length - i) ((vs.drop i).flatMap Array.toList) w := by
  have h17 : ∀ x ∈ vs.drop i, x.size = 17 := fun x hx => h.v17 x (List.mem_of_mem_drop hx)
  have hc : Cells w.heap.size w (some (if cap = i then ⟨b, off, none⟩ else ⟨b, off + i * 17, none⟩)) ((vs.drop i).flatMap Array.toList) := fun j u hj => by
    rw [← flat_drop vs i h.v17, List.getElem?_drop] at hj
    obtain ⟨b', off', e, hb, hc⟩ := h.cells (i * 17 + j) u hj
    simp only [Option.some.injEq, Addr.mk.injEq, and_true] at e
    obtain ⟨rfl, rfl⟩ := e
    by_cases hci : cap = i
    · exfalso
      have h1 := (List.getElem?_eq_some_iff.1 hj).1
      rw [flat_len _ h.v17, h.len] at h1
      omega
    · rw [if_neg hci]
      exact ⟨b, off + i * 17, rfl, hS b hb, by rw [Nat.add_assoc]; exact hc⟩
  exact hc.src Tryz.underlying50 _ _ (by rw [flat_len _ h17, List.length_drop, h.len]) fun u hu => h.one u (by
    rw [← flat_drop vs i h.v17] at hu
    exact List.mem_of_mem_drop hu)

theorem wpList_store_one {P : Program} {ops : Array Oper} {rest : List Oper} {o : Oper} {a : Act} {Q : Exit → Act → World → Prop} {w : World} (hgd : o.guard = none) (ty : TypeId) (x y : Operand) (ho : o.op = .store ty x y)
    (g : Nat) (v : Value) (hx : a.eval x = .pointer (some ⟨g, 0, none⟩)) (hy : a.eval y = v) (h1 : v.oneCell' = true) (t : TypeId) (old : Value) (hg : w.heap[g]? = some (.cells #[old] t (0, 0))) (hi : (P.info? ty).map (·.size) = some 1)
    (hK : wpList P ops Q rest (a.put o.dst undef) (w.setRow g #[v])) : wpList P ops Q (o :: rest) a w :=
  wpList_plain hgd fun _ hK' => wp_skipped (run_store_one ty x y ho g v hx hy h1 t old hg hi) (hK' _ _ hK)

def EachN (S : Nat → Prop) (w : World) (vs : List (Array Value)) (L : List Nd) : Prop := vs.length = L.length ∧ ∀ (j : Nat) (cs : Array Value), vs[j]? = some cs → ∃ n, L[j]? = some n ∧ NdS S w (.agg cs) n
theorem EachN.append {S : Nat → Prop} {w : World} {vs vs' : List (Array Value)} {L L' : List Nd} (h : EachN S w vs L) (k : EachN S w vs' L') : EachN S w (vs ++ vs') (L ++ L') := by
  refine ⟨by rw [List.length_append, List.length_append, h.1, k.1], fun j cs hj => ?_⟩
  by_cases hl : j < vs.length
  · rw [List.getElem?_append_left hl] at hj
    rw [List.getElem?_append_left (by rw [← h.1]; exact hl)]
    exact h.2 j cs hj
  · rw [List.getElem?_append_right (by omega)] at hj
    rw [List.getElem?_append_right (by rw [← h.1]; omega), ← h.1]
    exact k.2 _ cs hj
theorem EachN.take {S : Nat → Prop} {w : World} {vs : List (Array Value)} {L : List Nd} (h : EachN S w vs L) (i : Nat) : EachN S w (vs.take i) (L.take i) := by
  refine ⟨by rw [List.length_take, List.length_take, h.1], fun j cs hj => ?_⟩
  rw [List.getElem?_take] at hj ⊢
  split at hj
  · rename_i hlt; rw [if_pos hlt]; exact h.2 j cs hj
  · cases hj
theorem EachN.drop {S : Nat → Prop} {w : World} {vs : List (Array Value)} {L : List Nd} (h : EachN S w vs L) (i : Nat) : EachN S w (vs.drop i) (L.drop i) := by
  refine ⟨by rw [List.length_drop, List.length_drop, h.1], fun j cs hj => ?_⟩
  rw [List.getElem?_drop] at hj ⊢
  exact h.2 _ cs hj
theorem EachN.one {S : Nat → Prop} {w : World} {cs : Array Value} {n : Nd} (h : NdS S w (.agg cs) n) : EachN S w [cs] [n] := by
  refine ⟨rfl, fun j c hj => ?_⟩
  cases j with
  | zero => simp at hj; subst hj; exact ⟨n, rfl, h⟩
  | succ j => simp at hj
theorem grown_of_ext {a b : World} (h : Ext a b) (row : Option Nat) : a.grownBy b row := ⟨h.os, h.tape, h.output, h.size, fun k hk _ => h.block k hk⟩


/-- As an argument's list of nodes. -/
theorem RowsOf.nds {S : Nat → Prop} {w : World} {a : Option Addr} {vs : List (Array Value)} {L : List Nd} (h : RowsOf S w a vs L) {B : Nat} (hS : ∀ k, S k → k < B) : NdsAt B w a L := fun i n hi => by
  obtain ⟨b, off, da, dc, aa, ac, e, hb, hc, hD, hA, _⟩ := h.row hi
  exact ⟨b, off, _, e, hS b hb, ⟨da, dc, aa, ac, rfl, hD.cells hS, hA.cells hS⟩, hc⟩
end Go.Proofs.YthinpbdbhijbgaaGreatDoor
namespace Go.Proofs.YthinpbdbhijbgaaGreatDoor
open Go.RowKit
set_option maxHeartbeats 2000000
set_option maxRecDepth 100000

/-- The document's tree: a list of nodes. -/
def RTree (S : Nat → Prop) (w : World) (b : Nat) (L : List Nd) : Prop :=
  ∃ (a : Option Addr) (cap : Nat) (vs : List (Array Value)), w.heap[b]? = some (.cells #[.slice a L.length cap] 53 (0, 0)) ∧ L.length ≤ cap ∧ cap ≤ maxLen ∧ (∀ k, S k → k < w.heap.size ∧ k ≠ b) ∧ RowsOf S w a vs L ∧ PlainA a cap

theorem RTree.keep {S S' : Nat → Prop} {w w' : World} {b : Nat} {L : List Nd} (h : RTree S w b L) (hS : ∀ k, S k → S' k) (hb : w'.heap[b]? = w.heap[b]?) (hw : ∀ k, S k → w'.heap[k]? = w.heap[k]?) (hS' : ∀ k, S' k → k < w'.heap.size ∧ k ≠ b) : RTree S' w' b L := by
  obtain ⟨a, cap, vs, h1, h2, h3, h4, h5, h6⟩ := h
  exact ⟨a, cap, vs, hb.trans h1, h2, h3, hS', h5.imp hS hw, h6⟩
theorem RTree.lt {S : Nat → Prop} {w : World} {b : Nat} {L : List Nd} (h : RTree S w b L) : b < w.heap.size := by
  obtain ⟨a, cap, vs, h1, _⟩ := h
  exact (Array.getElem?_eq_some_iff.1 h1).1
theorem RTree.bound {S : Nat → Prop} {w : World} {b : Nat} {L : List Nd} (h : RTree S w b L) : ∀ k, S k → k < w.heap.size ∧ k ≠ b := by
  obtain ⟨a, cap, vs, _, _, _, h4, _, _⟩ := h
  exact h4
theorem RTree.ext {S : Nat → Prop} {w w' : World} {b : Nat} {L : List Nd} (h : RTree S w b L) (he : Ext w w') : RTree S w' b L :=
  h.keep (fun _ h => h) (he.block b h.lt) (fun k hk => he.block k (h.bound k hk).1) fun k hk => ⟨Nat.lt_of_lt_of_le (h.bound k hk).1 he.size, (h.bound k hk).2⟩

theorem find_step (L : List Nd) (s : ByteArray) : ∀ (k : Nat) (n : Nd), L[k]? = some n → (∀ (j : Nat) (m : Nd), j < k → L[j]? = some m → ordL m.path.data.toList s.data.toList < 0) →
    (ordL n.path.data.toList s.data.toList = 0 → rfind L s = (k, true)) ∧ (0 < ordL n.path.data.toList s.data.toList → rfind L s = (k, false)) := by
  induction L with
  | nil => intro k n h; simp at h
  | cons x r ih =>
    intro k n hk hlt
    cases k with
    | zero =>
      simp at hk
      subst hk
      refine ⟨fun h0 => by unfold rfind; rw [if_pos h0], fun h0 => by unfold rfind; rw [if_neg (by omega), if_pos h0]⟩
    | succ k =>
      have hx := hlt 0 x (by omega) rfl
      obtain ⟨h1, h2⟩ := ih k n (by simpa using hk) (fun j m hj hm => hlt (j + 1) m (by omega) (by simpa using hm))
      refine ⟨fun h0 => ?_, fun h0 => ?_⟩
      · unfold rfind
        rw [if_neg (by omega), if_neg (by omega), h1 h0]
      · unfold rfind
        rw [if_neg (by omega), if_neg (by omega), h2 h0]
theorem find_end (L : List Nd) (s : ByteArray) (h : ∀ (j : Nat) (m : Nd), L[j]? = some m → ordL m.path.data.toList s.data.toList < 0) : rfind L s = (L.length, false) := by
  induction L with
  | nil => rfl
  | cons x r ih =>
    have hx := h 0 x rfl
    unfold rfind
    rw [if_neg (by omega), if_neg (by omega), ih fun j m hm => h (j + 1) m (by simpa using hm)]
    rfl

theorem rfind_any (S : Nat → Prop) (w : World) (b : Nat) (L : List Nd) (hR : RTree S w b L) (hf : ∀ n ∈ L, Fit n) (s : ByteArray) (hs : s.size ≤ 9223372036854775800) :
    Calls Tryz.prog 143 #[.pointer (some ⟨b, 0, none⟩), .string s] w fun e w' => e = .returned (.tuple #[.int .i64 (rfind L s).1, .bool (rfind L s).2]) ∧ Ext w w' := by
  obtain ⟨a, cap, vs, hb, hl, hcm, hS, hrows, _⟩ := hR
  have hcb : w.cell? ⟨b, 0, none⟩ = some (.slice a L.length cap) := cell_of_row _ _ _ _ _ _ hb
  have hbl := (Array.getElem?_eq_some_iff.1 hb).1
  have hl64 : L.length ≤ 9223372036854775807 := by unfold maxLen at hcm; omega
  have HROWS := Lib.hid hrows
  have HS := Lib.hid hS
  have HF := Lib.hid hf
  clear hb hrows hS hf
  go_enter Tryz.func143, Tryz.ntmps143
  go_wp2
  go_loopw [6] (fun i wr => ∃ k : Nat, k ≤ L.length ∧ i = .int .i64 k ∧ Ext w wr ∧ Hid (∀ (j : Nat) (m : Nd), j < k → L[j]? = some m → ordL m.path.data.toList s.data.toList < 0)) (fun i _ => L.length - (intOf i).toNat)
  case atStart => exact ⟨0, Nat.zero_le _, rfl, Ext.refl _, fun j m hj => by omega⟩
  case round =>
    obtain ⟨k, hk, rfl, hE, HLT⟩ := hrel
    have hcr : wr.cell? ⟨b, 0, none⟩ = some (.slice a L.length cap) := (hE.cell (p := ⟨b, 0, none⟩) hbl).trans hcb
    by_cases hlt : k < L.length
    · obtain ⟨bl, off, da, dc, aa, ac, ea, hSb, hc, _⟩ := HROWS.out.row (List.getElem?_eq_getElem hlt)
      subst ea
      have hfit := HF.out L[k] (List.getElem_mem hlt)
      obtain ⟨h1, h2⟩ := find_step L s k L[k] (List.getElem?_eq_getElem hlt) HLT.out
      have hnext : ordL (L[k]'hlt).path.data.toList s.data.toList < 0 → ∀ (j : Nat) (m : Nd), j < k + 1 → L[j]? = some m → ordL m.path.data.toList s.data.toList < 0 := fun h0 j m hj hm => by
        by_cases e : j = k
        · subst e
          rw [List.getElem?_eq_getElem hlt] at hm
          rw [← Option.some.inj hm]; exact h0
        · exact HLT.out j m (by omega) hm
      generalize L[k] = n at *
      have c0 : wr.cell? ⟨bl, off + k * 17, none⟩ = some (.string n.path) := (hE.cell (p := ⟨bl, off + k * 17, none⟩) (HS.out bl hSb).1).trans (hc 0 _ rfl)
      have CO := Lib.hid (order_any n.path s wr hfit.path hs)
      have hbS : bl ≠ b := (HS.out bl hSb).2
      have HE := Lib.hid hE
      have HN := Lib.hid hnext
      clear hc hE hnext
      generalize hO : ordL n.path.data.toList s.data.toList = o at *
      rcases Int.lt_trichotomy o 0 with ho | ho | ho
      · have HN2 := Lib.hid (HN.out ho)
        have o1 : (o == 0) = false := by simp; omega
        have o2 : ¬ o = 0 := by omega
        have o3 : ¬ 0 < o := by omega
        clear h1 h2 hO HN
        go_wp2_with fail
        refine CO.out.mono ?_
        rintro e w2 ⟨rfl, hE2⟩
        have HE2 := Lib.hid (HE.out.trans hE2)
        clear CO hE2 hcr hcb c0
        go_wp2
        go_roundw
        case rel => exact ⟨k + 1, by omega, by go_num, HE2.out, HN2.out⟩
        case measure => simp [intOf]; omega
      · subst ho
        have HR := Lib.hid (h1 rfl)
        clear h1 h2 hO HN
        go_wp2_with fail
        refine CO.out.mono ?_
        rintro e w2 ⟨rfl, hE2⟩
        have HE2 := Lib.hid (HE.out.trans hE2)
        clear CO hE2 hcr hcb c0
        go_wp2
        go_ret2
        exact ⟨by rw [HR.out]; rfl, HE2.out⟩
      · have HR := Lib.hid (h2 ho)
        have o1 : (o == 0) = false := by simp; omega
        have o2 : ¬ o = 0 := by omega
        clear h1 h2 hO HN
        go_wp2_with fail
        refine CO.out.mono ?_
        rintro e w2 ⟨rfl, hE2⟩
        have HE2 := Lib.hid (HE.out.trans hE2)
        clear CO hE2 hcr hcb c0
        go_wp2
        go_ret2
        exact ⟨by rw [HR.out]; rfl, HE2.out⟩
    · obtain rfl : k = L.length := by omega
      have HR := Lib.hid (find_end L s fun j m hm => HLT.out j m (List.getElem?_eq_some_iff.1 hm).1 hm)
      have HE := Lib.hid hE
      clear hE hcb
      go_wp2
      go_ret2
      exact ⟨by rw [HR.out]; rfl, HE.out⟩
end Go.Proofs.YthinpbdbhijbgaaGreatDoor
namespace Go.Proofs.YthinpbdbhijbgaaGreatDoor
open Go.RowKit
set_option maxHeartbeats 2000000
set_option maxRecDepth 100000

/-- The copy's cells are new. -/
def CloneNew (n : Nd) (w : World) (e : Ending) (w' : World) : Prop := ∃ v, e = .returned v ∧ NdS (fun k => w.heap.size ≤ k ∧ k < w'.heap.size) w' v n ∧ Below w.heap.size w w'

/-- The same, with the rows that the clone's data and list lie in. -/
def CloneOwn (n : Nd) (w : World) (e : Ending) (w' : World) : Prop := ∃ va vc vb vd, e = .returned (.agg (ndC n (.slice va n.data.length vc) (.slice vb n.acl.length vd))) ∧ NdS (fun k => w.heap.size ≤ k ∧ k < w'.heap.size) w' (.agg (ndC n (.slice va n.data.length vc) (.slice vb n.acl.length vd))) n ∧
  w'.ownsRow w.heap.size 5 1 (.slice va n.data.length vc) n.data.length (n.data.map u8v) ∧ w'.ownsRow w.heap.size 129 3 (.slice vb n.acl.length vd) n.acl.length (acCs n.acl) ∧ (∀ g, (Value.slice va n.data.length vc).ownBlock = some g → (Value.slice vb n.acl.length vd).ownBlock ≠ some g) ∧ Below w.heap.size w w'
theorem own_move {w w' : World} {base base' size n : Nat} {e : TypeId} {v : Value} {xs : List Value} (h : w.ownsRow base e size v n xs) (hb : ∀ g, base ≤ g → g < w.heap.size → w'.heap[g]? = w.heap[g]?) (hbb : base' ≤ base) : w'.ownsRow base' e size v n xs := by
  refine ⟨h.1, ?_⟩
  rcases h.2 with h | ⟨g, cap, cur, h1, h2, h3, h4⟩
  · exact .inl h
  · exact .inr ⟨g, cap, cur, h1, Nat.le_trans hbb h2, (hb g h2 (Array.getElem?_eq_some_iff.1 h3).1).trans h3, h4⟩

theorem rclone_own (n : Nd) (da aa : Option Addr) (dc ac : Nat) (w : World) (hf : Fit n) (hD : Cells w.heap.size w da (n.data.map u8v)) (hA : Cells w.heap.size w aa (acCs n.acl)) :
    Calls Tryz.prog 74 #[.agg (ndC n (.slice da n.data.length dc) (.slice aa n.acl.length ac))] w (CloneOwn n w) := by
  obtain ⟨i0, hi, hz0, hz1, hz2⟩ := info_parts infoU8
  obtain ⟨i1, hi', hz0', hz1', hz2'⟩ := info_parts infoAc
  have hfd := hf.data
  have hfa := hf.acl
  obtain ⟨W2, hW2⟩ : ∃ W2, W2 = (w.alloc (.cells (ndC n (.slice da n.data.length dc) (.slice aa n.acl.length ac)) 44)).alloc (.cells #[.string ⟨#[]⟩, .slice none 0 0, .slice none 0 0, .int .i64 0, .int .i64 0, .int .i64 0, .int .i64 0, .int .i64 0, .int .i64 0, .int .i64 0, .int .i64 0, .int .i32 0, .int .i32 0, .int .i32 0, .bool false, .int .i64 0, .int .i64 0] 44) := ⟨_, rfl⟩
  have hs2 : W2.heap.size = w.heap.size + 1 + 1 := by rw [hW2]; simp
  have hb2 : Below w.heap.size w W2 := by rw [hW2]; exact ((Below.refl _ _).alloc (Nat.le_refl _) _).alloc (by simp) _
  have hA2 : W2.heap[w.heap.size]? = some (.cells (ndC n (.slice da n.data.length dc) (.slice aa n.acl.length ac)) 44 (0, 0)) := by rw [hW2]; exact heap_alloc2_old w _ _
  have hR2 : W2.heap[w.heap.size + 1]? = some (.cells #[.string ⟨#[]⟩, .slice none 0 0, .slice none 0 0, .int .i64 0, .int .i64 0, .int .i64 0, .int .i64 0, .int .i64 0, .int .i64 0, .int .i64 0, .int .i64 0, .int .i32 0, .int .i32 0, .int .i32 0, .bool false, .int .i64 0, .int .i64 0] 44 (0, 0)) := by rw [hW2]; exact heap_alloc2_new w _ _
  have hown1 := ownsRow_empty W2 5 1
  rw [hs2] at hown1
  have hsrc1 : Src Tryz.prog 1 41 (.slice da n.data.length dc) n.data.length (n.data.map u8v) (W2.alloc (.cells #[] 5)) := ((hD.below hb2).below ((Below.refl w.heap.size W2).alloc (by omega) _)).src Tryz.underlying41 _ _ (by simp) (one_u8 _)
  have hz3 : (W2.alloc (.cells #[] 5)).heap.size = w.heap.size + 1 + 1 + 1 := by simp [hs2]
  have hZ3 := Lib.hid hz3
  have HW2 := Lib.hid hW2
  rw [hW2] at hown1 hsrc1
  unfold ndC at hown1 hsrc1 hA2 HW2 ⊢
  clear hW2 hz3 hs2
  go_enter Tryz.func74, Tryz.ntmps74
  go_wp2_with (at_builtin; refine wpList_append_src _ rfl (.tmp 3) (.tmp 5) 41 41 rfl (w.heap.size + 1 + 1) 5 i0 (.int .u8 0) 1 1 Tryz.underlying41 hi hz0 hz1 hz2 rfl (by decide) _ 0 _ rfl hown1 _ _ _ rfl hsrc1 ?c1 ?c2 ?c3 ?_)
  case c1 => simp only [maxLen]; omega
  case c2 => omega
  case c3 => simp
  intro v1 w4 ho1 hg1 _ hob1
  have ho1' := ho1
  try simp only [List.nil_append, Nat.zero_add] at ho1'
  have HO1 := Lib.hid ho1'
  clear ho1'
  rw [← HW2.out] at hg1
  have hZ := hZ3.out
  have nb3 : w.heap.size < (W2.alloc (.cells #[] 5)).heap.size := by omega
  have hA4 : w4.heap[w.heap.size]? = some (.cells (ndC n (.slice da n.data.length dc) (.slice aa n.acl.length ac)) 44 (0, 0)) := by
    rw [hg1.block w.heap.size nb3 (by simp only [Value.ownBlock, ne_eq, Option.some.injEq]; omega), Below.heap_alloc W2 _ w.heap.size (by have := (Array.getElem?_eq_some_iff.1 hA2).1; exact this)]; exact hA2
  have hR4 : ∃ old, w4.heap[w.heap.size + 1]? = some (.cells old 44 (0, 0)) ∧ old.size = 17 := by
    have h := (hg1.block (w.heap.size + 1) (by omega) (by simp only [Value.ownBlock, ne_eq, Option.some.injEq]; omega)).trans ((Below.heap_alloc W2 (.cells #[] 5) (w.heap.size + 1) (by have := (Array.getElem?_eq_some_iff.1 hR2).1; exact this)).trans hR2)
    exact ⟨_, h, rfl⟩
  obtain ⟨old, hR4, hold⟩ := hR4
  have hb4 : Below w.heap.size w w4 := (hb2.alloc (by have := hb2.size; omega) _).grown hg1 (by omega) (fun k hk => by simp only [Value.ownBlock, Option.some.injEq] at hk; omega)
  obtain ⟨va, vc, rfl, hD4⟩ := ownsRow_cells ho1
  have hvb : ∀ b off, va = some ⟨b, off, none⟩ → w.heap.size + 1 + 1 ≤ b := by
    intro b off h
    subst h
    rcases ho1.2 with ⟨h, _⟩ | ⟨g, cap, cur, h, k1, _⟩
    · cases h
    · simp only [Value.slice.injEq, Option.some.injEq, Addr.mk.injEq] at h; omega
  have hz4 := hg1.size
  clear ho1 hg1 hob1 hR2 hb2 hD hZ3
  have hcell : w4.cell? ⟨w.heap.size, 1, none⟩ = some (.slice da n.data.length dc) := by rw [cell_of_row w4 w.heap.size 1 _ _ _ hA4]; rfl
  have hfr : w4.frozen? ⟨w.heap.size, 1, none⟩ = false := frozen_of_row w4 w.heap.size 1 _ _ hA4
  obtain ⟨W5, hW5⟩ : ∃ W5, W5 = w4.setCell ⟨w.heap.size, 1, none⟩ (.slice va n.data.length vc) := ⟨_, rfl⟩
  have hs5 : W5.heap.size = w4.heap.size := by rw [hW5]; simp [World.setCell]
  have hA5 : W5.heap[w.heap.size]? = some (.cells (ndC n (.slice va n.data.length vc) (.slice aa n.acl.length ac)) 44 (0, 0)) := by
    rw [hW5, heap_setCell_same w4 w.heap.size 1 _ _ _ hA4]; rfl
  have hR5 : W5.heap[w.heap.size + 1]? = some (.cells old 44 (0, 0)) := by rw [hW5, Below.heap_setCell _ _ _ _ (by simp)]; exact hR4
  have hb5 : Below w.heap.size w W5 := by rw [hW5]; exact hb4.setCell (p := ⟨w.heap.size, 1, none⟩) (Nat.le_refl _) _
  have hD5 : Cells W5.heap.size W5 va (n.data.map u8v) := fun j u hj => by
    obtain ⟨b, off, h1, h2, h3⟩ := hD4 j u hj
    have := hvb b off h1
    refine ⟨b, off, h1, by omega, ?_⟩
    rw [hW5, World.cell?_of_block (w := w4) (Below.heap_setCell _ _ _ _ (by simp; omega))]
    exact h3
  have hown2 := ownsRow_empty W5 129 3
  rw [hs5] at hown2
  have hsrc2 : Src Tryz.prog 3 42 (.slice aa n.acl.length ac) n.acl.length (acCs n.acl) (W5.alloc (.cells #[] 129)) := ((hA.below hb5).below ((Below.refl w.heap.size W5).alloc (by omega) _)).src Tryz.underlying42 _ _ (acCs_length _) (one_ac _)
  have HW5 := Lib.hid hW5
  have hcell2 : (w4.setCell ⟨w.heap.size, 1, none⟩ (.slice va n.data.length vc)).cell? ⟨w.heap.size, 2, none⟩ = some (.slice aa n.acl.length ac) := by rw [← hW5, cell_of_row W5 w.heap.size 2 _ _ _ hA5]; rfl
  rw [hW5] at hown2 hsrc2
  have HS5 := Lib.hid hs5
  have hnb4 : w.heap.size < w4.heap.size := by omega
  have hnb5 : w.heap.size + 1 < w4.heap.size := by omega
  clear hW5 hs5 hA4 hR4 hb4 hD4 hA2 HW2 hA
  go_wp2_with (at_builtin; refine wpList_append_src _ rfl (.tmp 8) (.tmp 10) 42 42 rfl w4.heap.size 129 i1 (.agg #[.int .i32 0, .string ⟨#[]⟩, .string ⟨#[]⟩]) 3 40 Tryz.underlying42 hi' hz0' hz1' hz2' rfl (by decide) _ 0 _ rfl hown2 _ _ _ rfl hsrc2 ?d1 ?d2 ?d3 ?_)
  case d1 => simp only [maxLen]; omega
  case d2 => omega
  case d3 => simp
  intro v2 w6 ho2 hg2 _ hob2
  have ho2' := ho2
  try simp only [List.nil_append, Nat.zero_add] at ho2'
  have HO2 := Lib.hid ho2'
  clear ho2'
  rw [← HW5.out] at hg2
  have hk6 : ∀ b, b < w4.heap.size → w6.heap[b]? = W5.heap[b]? := fun b hb => (hg2.block b (by simp; have := HS5.out; omega) (by simp only [Value.ownBlock, ne_eq, Option.some.injEq]; omega)).trans (Below.heap_alloc W5 _ b (by have := HS5.out; omega))
  have h54 : ∀ b, w.heap.size + 1 + 1 ≤ b → W5.heap[b]? = w4.heap[b]? := fun b hb => by rw [HW5.out]; exact Below.heap_setCell _ _ _ _ (by simp; omega)
  have HK6 := Lib.hid hk6
  have H54 := Lib.hid h54
  clear hk6 h54
  have hs5 := HS5.out
  have hA6 : w6.heap[w.heap.size]? = some (.cells (ndC n (.slice va n.data.length vc) (.slice aa n.acl.length ac)) 44 (0, 0)) :=
    (hg2.block w.heap.size (by simp; omega) (by simp only [Value.ownBlock, ne_eq, Option.some.injEq]; omega)).trans ((Below.heap_alloc W5 _ w.heap.size (by omega)).trans hA5)
  have hR6 : w6.heap[w.heap.size + 1]? = some (.cells old 44 (0, 0)) :=
    (hg2.block (w.heap.size + 1) (by simp; omega) (by simp only [Value.ownBlock, ne_eq, Option.some.injEq]; omega)).trans ((Below.heap_alloc W5 _ (w.heap.size + 1) (by omega)).trans hR5)
  have hb6 : Below w.heap.size w w6 := (hb5.alloc (by omega) _).grown hg2 (by simp; omega) (fun k hk => by simp only [Value.ownBlock, Option.some.injEq] at hk; omega)
  have hz6 := hg2.size
  have hD6 : Cells W5.heap.size w6 va (n.data.map u8v) := fun j u hj => by
    obtain ⟨b, off, h1, h2, h3⟩ := hD5 j u hj
    refine ⟨b, off, h1, h2, (World.cell?_of_block (hg2.block b (by simp; omega) (by simp only [Value.ownBlock, ne_eq, Option.some.injEq]; omega))).trans ?_⟩
    exact (World.cell?_of_block (w := W5) (Below.heap_alloc W5 _ b h2)).trans h3
  obtain ⟨vb, vd, rfl, hE6⟩ := ownsRow_cells ho2
  have hvb2 : ∀ b off, vb = some ⟨b, off, none⟩ → w.heap.size + 1 + 1 ≤ b := by
    intro b off h
    subst h
    rcases ho2.2 with ⟨h, _⟩ | ⟨g, cap, cur, h, k1, _⟩
    · cases h
    · simp only [Value.slice.injEq, Option.some.injEq, Addr.mk.injEq] at h; omega
  clear ho2 hg2 hob2 hA5 hR5 hb5 hD5 hown2 hsrc2 hcell hfr hcell2
  have hcell : w6.cell? ⟨w.heap.size, 2, none⟩ = some (.slice aa n.acl.length ac) := by rw [cell_of_row w6 w.heap.size 2 _ _ _ hA6]; rfl
  have hfr : w6.frozen? ⟨w.heap.size, 2, none⟩ = false := frozen_of_row w6 w.heap.size 2 _ _ hA6
  have hA7 : (w6.setCell ⟨w.heap.size, 2, none⟩ (.slice vb n.acl.length vd)).heap[w.heap.size]? = some (.cells (ndC n (.slice va n.data.length vc) (.slice vb n.acl.length vd)) 44 (0, 0)) := by
    rw [heap_setCell_same w6 w.heap.size 2 _ _ _ hA6]; rfl
  have hR7 : (w6.setCell ⟨w.heap.size, 2, none⟩ (.slice vb n.acl.length vd)).heap[w.heap.size + 1]? = some (.cells old 44 (0, 0)) := by rw [Below.heap_setCell _ _ _ _ (by simp)]; exact hR6
  have HA7 := Lib.hid hA7
  have HR7 := Lib.hid hR7
  clear hA7 hR7 hA6 hR6
  go_wp2_with (first | (refine wpList_load_row rfl 44 (.tmp 1) rfl w.heap.size rfl 44 _ (0, 0) _ HA7.out Tryz.underlying44 rfl sizeNd ?_) | (refine wpList_store_row rfl 44 (.tmp 2) (.tmp 13) rfl (w.heap.size + 1) _ rfl rfl 44 old HR7.out sizeNd hold (cells_node n va vb _ _ vc vd) ?_))
  obtain ⟨W7, hW7⟩ : ∃ W7, W7 = w6.setCell ⟨w.heap.size, 2, none⟩ (.slice vb n.acl.length vd) := ⟨_, rfl⟩
  have hA7 := HA7.out
  have hR7 := HR7.out
  rw [← hW7] at hA7 hR7 ⊢
  have hs7 : W7.heap.size = w6.heap.size := by rw [hW7]; simp [World.setCell]
  have hb7 : Below w.heap.size w W7 := by rw [hW7]; exact hb6.setCell (p := ⟨w.heap.size, 2, none⟩) (Nat.le_refl _) _
  have ho7 : ∀ b, w.heap.size + 1 + 1 ≤ b → W7.heap[b]? = w6.heap[b]? := fun b hb => by rw [hW7]; exact Below.heap_setCell _ _ _ _ (by simp; omega)
  obtain ⟨cs, hcs⟩ : ∃ cs, cs = ndC n (.slice va n.data.length vc) (.slice vb n.acl.length vd) := ⟨_, rfl⟩
  rw [← hcs] at hA7 ⊢
  have hR8 := setRow_heap W7 (w.heap.size + 1) old cs 44 (0, 0) hR7
  have hs8 : (W7.setRow (w.heap.size + 1) cs).heap.size = W7.heap.size := by simp [World.setRow]
  have hb8 : Below w.heap.size w (W7.setRow (w.heap.size + 1) cs) :=
    hb7.trans ⟨rfl, rfl, rfl, by rw [hs8]; exact Nat.le_refl _, fun k hk => setRow_other _ _ _ _ (by omega)⟩
  have ho8 : ∀ b, w.heap.size + 1 + 1 ≤ b → (W7.setRow (w.heap.size + 1) cs).heap[b]? = w6.heap[b]? := fun b hb => (setRow_other _ _ _ _ (by omega)).trans (ho7 b hb)
  have hz := HS5.out
  have hzz : W5.heap.size ≤ w6.heap.size := by have := hz6; simp at this; omega
  have cD : CellsS (fun k => w.heap.size ≤ k ∧ k < (W7.setRow (w.heap.size + 1) cs).heap.size) (W7.setRow (w.heap.size + 1) cs) va (n.data.map u8v) := fun j u hj => by
    obtain ⟨b, off, h1, h2, h3⟩ := hD6 j u hj
    have h4 := hvb b off h1
    exact ⟨b, off, h1, ⟨by omega, by omega⟩, (World.cell?_of_block (ho8 b h4)).trans h3⟩
  have cA : CellsS (fun k => w.heap.size ≤ k ∧ k < (W7.setRow (w.heap.size + 1) cs).heap.size) (W7.setRow (w.heap.size + 1) cs) vb (acCs n.acl) := fun j u hj => by
    obtain ⟨b, off, h1, h2, h3⟩ := hE6 j u hj
    have h4 := hvb2 b off h1
    exact ⟨b, off, h1, ⟨by omega, by omega⟩, (World.cell?_of_block (ho8 b h4)).trans h3⟩
  have hsz17 : (Tryz.prog.info? 44).map (·.size) = some cs.size := by rw [hcs]; exact sizeNd
  have own1 := own_move (base' := w.heap.size) HO1.out (w' := W7.setRow (w.heap.size + 1) cs) (fun g h1 h2 => (ho8 g h1).trans ((HK6.out g h2).trans (H54.out g h1))) (by omega)
  have own2 := own_move (base' := w.heap.size) HO2.out (w' := W7.setRow (w.heap.size + 1) cs) (fun g h1 h2 => ho8 g (by omega)) (by omega)
  have hap : ∀ g, (Value.slice va n.data.length vc).ownBlock = some g → (Value.slice vb n.acl.length vd).ownBlock ≠ some g := fun g h1 h2 => by
    have h3 := (World.ownsRow.lt HO1.out g h1).2
    have h4 := (World.ownsRow.lt HO2.out g h2).1
    omega
  refine bodyPost_ret (v := .agg cs) ?_ rfl ⟨va, vc, vb, vd, by rw [hcs], ⟨va, vc, vb, vd, rfl, cD, cA⟩, own1, own2, hap, hb8⟩
  exact results_cell_row (p := 2) (ty := 44) rfl _ _ (w.heap.size + 1) 44 cs (0, 0) _ rfl hR8 Tryz.underlying44 rfl hsz17

theorem rclone_new (n : Nd) (da aa : Option Addr) (dc ac : Nat) (w : World) (hf : Fit n) (hD : Cells w.heap.size w da (n.data.map u8v)) (hA : Cells w.heap.size w aa (acCs n.acl)) :
    Calls Tryz.prog 74 #[.agg (ndC n (.slice da n.data.length dc) (.slice aa n.acl.length ac))] w (CloneNew n w) :=
  (rclone_own n da aa dc ac w hf hD hA).mono fun _ _ ⟨va, vc, vb, vd, h1, h2, _, _, _, h3⟩ => ⟨_, h1, h2, h3⟩
end Go.Proofs.YthinpbdbhijbgaaGreatDoor
namespace Go.Proofs.YthinpbdbhijbgaaGreatDoor
open Go.RowKit
set_option maxHeartbeats 2000000
set_option maxRecDepth 100000

/-- The document's tree, its rows in whatever blocks but its own. -/
def RT (w : World) (b : Nat) (L : List Nd) : Prop := RTree (fun k => k < w.heap.size ∧ k ≠ b) w b L
theorem RTree.rt {S : Nat → Prop} {w : World} {b : Nat} {L : List Nd} (h : RTree S w b L) : RT w b L := h.keep h.bound rfl (fun _ _ => rfl) fun _ h => h
theorem RT.ext {w w' : World} {b : Nat} {L : List Nd} (h : RT w b L) (he : Ext w w') : RT w' b L := (RTree.ext h he).rt
theorem RT.lt {w : World} {b : Nat} {L : List Nd} (h : RT w b L) : b < w.heap.size := RTree.lt h

set_option maxHeartbeats 4000000 in
theorem rinsert_s (S : Nat → Prop) (w : World) (b : Nat) (L : List Nd) (n : Nd) (da aa : Option Addr) (dc ac : Nat) (hR : RTree S w b L) (hfL : ∀ m ∈ L, Fit m) (hf : Fit n) (hD : Cells w.heap.size w da (n.data.map u8v)) (hA : Cells w.heap.size w aa (acCs n.acl)) (hl : (L.length + 1) * 168 ≤ 140737488355328) :
    Calls Tryz.prog 145 #[.pointer (some ⟨b, 0, none⟩), .agg (ndC n (.slice da n.data.length dc) (.slice aa n.acl.length ac))] w fun e w' => e = .returned (.tuple #[]) ∧ RTree (fun k => S k ∨ (w.heap.size ≤ k ∧ k < w'.heap.size)) w' b (L.take (rfind L n.path).1 ++ n :: L.drop (rfind L n.path).1) ∧ Chg (· = b) w w' := by
  have hS0 := hR.bound
  obtain ⟨W1, hW1⟩ : ∃ W1, W1 = w.alloc (.cells (ndC n (.slice da n.data.length dc) (.slice aa n.acl.length ac)) 44) := ⟨_, rfl⟩
  have hE1 : Ext w W1 := by rw [hW1]; exact Ext.alloc _ _
  have hz1 : W1.heap.size = w.heap.size + 1 := by rw [hW1]; simp
  have hn1 : W1.heap[w.heap.size]? = some (.cells (ndC n (.slice da n.data.length dc) (.slice aa n.acl.length ac)) 44 (0, 0)) := by rw [hW1]; exact heap_alloc_new w _
  have hx : Box W1 w.heap.size (ndC n (.slice da n.data.length dc) (.slice aa n.acl.length ac)) := fun j => cell_of_row _ _ _ _ _ _ hn1
  have hR1 : RTree S W1 b L := hR.ext hE1
  have hbl := hR.lt
  have C1 := Lib.hid (rfind_any S W1 b L hR1 hfL n.path hf.path)
  have hik := rfind_le L n.path
  generalize (rfind L n.path).1 = i at *
  generalize (rfind L n.path).2 = th at *
  have HW1 := Lib.hid hW1
  have HD := Lib.hid hD
  have HA := Lib.hid hA
  have HN1 := Lib.hid hn1
  have HR1 := Lib.hid hR1
  have HE1 := Lib.hid hE1
  rw [hW1] at hx
  unfold Box at hx
  unfold ndC at hx HW1
  clear hW1 hD hA hn1 hR1 hR hE1
  unfold ndC
  go_enter Tryz.func145, Tryz.ntmps145
  go_wp2_with fail
  rw [← HW1.out]
  refine C1.out.mono ?_
  rintro e W2 ⟨rfl, hE2⟩
  clear hx C1
  obtain ⟨a, cap, vs, hb2, hlc, hcm, hS2, hrows, hpl⟩ := RTree.ext HR1.out hE2
  have hz2 := hE2.size
  have hc2 : W2.cell? ⟨b, 0, none⟩ = some (.slice a L.length cap) := cell_of_row _ _ _ _ _ _ hb2
  have hsl1 := fun W => run_slice_to a L.length cap i (fun p hp => by
    rcases hpl with ⟨h, _⟩ | ⟨bl, off, h⟩
    · rw [h] at hp; cases hp
    · exact ⟨bl, off, by rw [h] at hp; exact (Option.some.inj hp).symm⟩) (by omega) W
  obtain ⟨v3, hsl2, hsrcf⟩ : ∃ v3, (∀ W, (Instr.slice 50 (.slice a L.length cap) (some (.int .i64 i)) none none).run Tryz.prog W = .ok v3 W) ∧ ∀ W S, RowsOf S W a vs L → (∀ k, S k → k < W.heap.size) → Src Tryz.prog 17 50 v3 (L.length - i) ((vs.drop i).flatMap Array.toList) W := by
    rcases hpl with ⟨h, h0⟩ | ⟨bl, off, h⟩
    · subst h h0
      have hL0 : L.length = 0 := by omega
      have hi0 : i = 0 := by omega
      subst hi0
      rw [hL0]
      refine ⟨.slice none 0 0, run_slice_nil, fun W S hr hS => ?_⟩
      have hv0 : vs = [] := List.eq_nil_of_length_eq_zero (by rw [hr.len]; exact hL0)
      subst hv0
      exact (Cells.nil W.heap.size W none).src Tryz.underlying50 0 0 rfl (fun u hu => by simp at hu)
    · subst h
      exact ⟨_, run_slice_from bl off L.length cap i hik hlc, fun W S hr hS => hr.src_from hik hlc hS⟩
  -- the first part
  obtain ⟨i0, hi, hz0, hz1', hz2'⟩ := info_parts infoNd
  obtain ⟨W3, hW3⟩ : ∃ W3, W3 = W2.alloc (.cells #[] 44) := ⟨_, rfl⟩
  have hE3 : Ext W2 W3 := by rw [hW3]; exact Ext.alloc _ _
  have hz3 : W3.heap.size = W2.heap.size + 1 := by rw [hW3]; simp
  have hown0 : W3.ownsRow W2.heap.size 44 17 (.slice (some ⟨W2.heap.size, 0, none⟩) 0 0) 0 [] := by rw [hW3]; exact World.ownsRow_made W2 #[] 0 (Nat.le_refl _) (Nat.zero_le _) rfl
  have hrows3 : RowsOf S W3 a vs L := hrows.imp (fun _ h => h) (fun k hk => hE3.block k (hS2 k hk).1)
  have hsrc1 := hrows3.src_to (cap := cap) hik (fun k hk => by have := (hS0 k hk).1; omega)
  have hc3 : W3.cell? ⟨b, 0, none⟩ = some (.slice a L.length cap) := (hE3.cell (p := ⟨b, 0, none⟩) (show b < W2.heap.size by omega)).trans hc2
  have HW3 := Lib.hid hW3
  have HE2 := Lib.hid hE2
  have HE3 := Lib.hid hE3
  have HB2 := Lib.hid hb2
  have HSF := Lib.hid hsrcf
  have HRW3 := Lib.hid hrows3
  rw [hW3] at hown0 hsrc1 hc3
  clear hW3 hE2 hE3 hb2 hsrcf hrows3 hrows hS2 hpl
  go_wp2_with (at_builtin; refine wpList_append_src _ rfl (.tmp 14) (.tmp 20) 50 50 rfl W2.heap.size 44 i0 (.agg zeroNd) 17 168 Tryz.underlying50 hi hz0 hz1' hz2' rfl (by decide) _ 0 _ rfl hown0 _ i _ rfl hsrc1 ?c1 ?c2 ?c3 ?_)
  case c1 => unfold maxLen at *; omega
  case c2 => omega
  case c3 => simp
  intro v1 w4 hown1 hg1 _ _
  rw [← HW3.out] at hg1
  try simp only [List.nil_append, Nat.zero_add] at hown1
  have hz4 := hg1.size
  have hE24 : Ext W2 w4 := ⟨hg1.os.trans HE3.out.os, hg1.tape.trans HE3.out.tape, hg1.output.trans HE3.out.output, by omega, fun k hk => (hg1.block k (by omega) (fun e => by have h : k = W2.heap.size := Option.some.inj e; omega)).trans (HE3.out.block k hk)⟩
  have hEw4 : Ext w w4 := (HE1.out.trans HE2.out).trans hE24
  have hn4 : w4.heap[w.heap.size]? = some (.cells (ndC n (.slice da n.data.length dc) (.slice aa n.acl.length ac)) 44 (0, 0)) := (hE24.block _ (by omega)).trans ((HE2.out.block _ (by omega)).trans HN1.out)
  have C2 := Lib.hid (rclone_new n da aa dc ac w4 hf (HD.out.ext hEw4) (HA.out.ext hEw4))
  have hv1 : ∀ k, v1.ownBlock = some k → W2.heap.size ≤ k ∧ k < w4.heap.size := fun k hk => hown1.lt k hk
  have HN4 := Lib.hid hn4
  have HE24 := Lib.hid hE24
  have HO1 := Lib.hid hown1
  have HV1 := Lib.hid hv1
  unfold ndC at HN4
  clear hE24 hEw4 hn4 hown1 hv1 hg1 hown0 hsrc1 hc2 hc3 HW3
  go_wp2_with (refine wpList_load_row rfl 44 (.tmp 3) rfl w.heap.size rfl 44 _ (0, 0) _ HN4.out Tryz.underlying44 rfl sizeNd ?_)
  refine C2.out.mono ?_
  rintro e w5 ⟨v, rfl, ⟨ea, ec, fa, fc, rfl, hD5, hA5⟩, hE5⟩
  have hE5 : Ext w4 w5 := hE5
  have hz5 := hE5.size
  obtain ⟨cs, hcs⟩ : ∃ cs, cs = ndC n (.slice ea n.data.length ec) (.slice fa n.acl.length fc) := ⟨_, rfl⟩
  have hown5 := (HO1.out.kept (grown_of_ext hE5 none) (by cases h : v1.ownBlock <;> simp)).alloc (.cells cs 44)
  have hs17 : Cells (w5.alloc (.cells cs 44)).heap.size (w5.alloc (.cells cs 44)) (some ⟨w5.heap.size, 0, none⟩) cs.toList := fun j u hj => by
    refine ⟨_, 0, rfl, by simp, ?_⟩
    rw [Nat.zero_add, cell_of_row _ _ _ _ _ _ (heap_alloc_new w5 _)]
    simpa using hj
  have hsrc2 : Src Tryz.prog 17 50 (.slice (some ⟨w5.heap.size, 0, none⟩) 1 1) 1 cs.toList (w5.alloc (.cells cs 44)) :=
    hs17.src Tryz.underlying50 1 1 (by rw [hcs]; rfl) (fun u hu => by
      have := cells_node n ea fa n.data.length n.acl.length ec fc
      rw [← hcs, ← Array.all_toList] at this
      exact List.all_eq_true.1 this u hu)
  have hnew5 : NdS (fun k => w4.heap.size ≤ k ∧ k < w5.heap.size) w5 (.agg cs) n := ⟨ea, ec, fa, fc, by rw [hcs], hD5, hA5⟩
  have HNEW5 := Lib.hid hnew5
  have HE5 := Lib.hid hE5
  have HCS := Lib.hid hcs
  rw [hcs] at hown5 hsrc2
  unfold ndC at hown5 hsrc2 ⊢
  clear C2 hnew5 hE5 hcs hs17 hD5 hA5
  go_wp2_with (at_builtin; refine wpList_append_src _ rfl (.tmp 22) (.tmp 25) 50 50 rfl W2.heap.size 44 i0 (.agg zeroNd) 17 168 Tryz.underlying50 hi hz0 hz1' hz2' rfl (by decide) _ i _ rfl hown5 _ 1 _ rfl hsrc2 ?d1 ?d2 ?d3 ?_)
  case d1 => unfold maxLen at *; omega
  case d2 => omega
  case d3 => simp; omega
  intro v2 w7 hown7 hg2 _ ho2
  have hz7 := hg2.size
  simp only [World.size_alloc] at hz7
  have hW6b : ∀ k, k < w5.heap.size → v1.ownBlock ≠ some k → w7.heap[k]? = w5.heap[k]? := fun k hk hn => (hg2.block k (by simp; omega) (fun e => hn e.symm)).trans (heap_alloc_old w5 _ hk)
  have hE27 : Ext W2 w7 := ⟨hg2.os.trans (HE5.out.os.trans HE24.out.os), hg2.tape.trans (HE5.out.tape.trans HE24.out.tape), hg2.output.trans (HE5.out.output.trans HE24.out.output), by omega, fun k hk =>
    (hW6b k (by omega) (fun e => by have := HV1.out k e; omega)).trans ((HE5.out.block k (by omega)).trans (HE24.out.block k hk))⟩
  have hnew7 : NdS (fun k => w4.heap.size ≤ k ∧ k < w5.heap.size) w7 (.agg cs) n := NdS.imp HNEW5.out (fun _ h => h) fun bl o u hb hu => (World.cell?_of_block (hW6b bl hb.2 (fun e => by have := HV1.out bl e; omega))).trans hu
  have hv2 : ∀ k, v2.ownBlock = some k → W2.heap.size ≤ k ∧ (k < w4.heap.size ∨ w5.heap.size ≤ k) := fun k hk => by
    rcases ho2 with h | h
    · rw [h] at hk; have := HV1.out k hk; exact ⟨this.1, .inl this.2⟩
    · rw [h] at hk; have h9 : (w5.heap.size + 1) = k := by have := Option.some.inj hk; simpa using this
      omega
  have hrows7 : RowsOf S w7 a vs L := HRW3.out.imp (fun _ h => h) (fun k hk => by
    have := (hS0 k hk).1
    rw [hE27.block k (by omega), HE3.out.block k (by omega)])
  have hsrc3 := HSF.out w7 _ hrows7 (fun k hk => by have := (hS0 k hk).1; omega)
  have hc7 : w7.cell? ⟨b, 0, none⟩ = some (.slice a L.length cap) := cell_of_row _ _ _ _ _ _ ((hE27.block b (by omega)).trans HB2.out)
  rw [show [Value.string n.path, .slice ea n.data.length ec, .slice fa n.acl.length fc, .int .i64 n.owner, .int .i64 n.czxid, .int .i64 n.mzxid, .int .i64 n.pzxid, .int .i64 n.azxid, .int .i64 n.qzxid, .int .i64 n.ctime, .int .i64 n.mtime, .int .i32 n.version, .int .i32 n.creates, .int .i32 n.aversion, .bool n.has, .int .i64 n.count, .int .i64 n.bytes] = cs.toList from by rw [HCS.out]; rfl] at hown7
  have HO7 := Lib.hid hown7
  have HE27 := Lib.hid hE27
  have HNEW7 := Lib.hid hnew7
  have HV2 := Lib.hid hv2
  have HR7 := Lib.hid hrows7
  clear hown5 hsrc2 hg2 ho2 hW6b hE27 hnew7 hv2 hrows7 HNEW5 hown7
  have hown8 := HO7.out
  go_wp2_with (at_builtin; refine wpList_append_src _ rfl (.tmp 28) (.tmp 34) 50 50 rfl W2.heap.size 44 i0 (.agg zeroNd) 17 168 Tryz.underlying50 hi hz0 hz1' hz2' rfl (by decide) _ (i + 1) _ rfl hown8 _ (L.length - i) _ rfl hsrc3 ?e1 ?e2 ?e3 ?_)
  case e1 => unfold maxLen at *; omega
  case e2 => omega
  case e3 => omega
  intro v4 w8 hown9 hg3 _ _
  have hz8 := hg3.size
  have hb8 : w8.heap[b]? = some (.cells #[.slice a L.length cap] 53 (0, 0)) := (hg3.block b (by omega) (fun e => by have := HV2.out b e.symm; omega)).trans ((HE27.out.block b (by omega)).trans HB2.out)
  have hk8 : ∀ k, k < W2.heap.size → w8.heap[k]? = W2.heap[k]? := fun k hk => (hg3.block k (by omega) (fun e => by have := HV2.out k e.symm; omega)).trans (HE27.out.block k hk)
  have hnew8 : NdS (fun k => S k ∨ (w.heap.size ≤ k ∧ k < w8.heap.size)) w8 (.agg cs) n := NdS.imp HNEW7.out (fun k hk => .inr ⟨by omega, by omega⟩) fun bl o u hb hu => (World.cell?_of_block (hg3.block bl (by omega) (fun e => by have := HV2.out bl e.symm; omega))).trans hu
  have hold8 : RowsOf (fun k => S k ∨ (w.heap.size ≤ k ∧ k < w8.heap.size)) w8 a vs L := HR7.out.imp (fun k hk => .inl hk) fun k hk => by
    have := (hS0 k hk).1
    rw [hk8 k (by omega), HE27.out.block k (by omega)]
  have heach : EachN (fun k => S k ∨ (w.heap.size ≤ k ∧ k < w8.heap.size)) w8 (vs.take i ++ ([cs] ++ vs.drop i)) (L.take i ++ ([n] ++ L.drop i)) :=
    EachN.append (EachN.take ⟨hold8.len, hold8.each⟩ i) ((EachN.one hnew8).append (EachN.drop ⟨hold8.len, hold8.each⟩ i))
  have hfl : (vs.take i).flatMap Array.toList ++ (cs.toList ++ (vs.drop i).flatMap Array.toList) = (vs.take i ++ ([cs] ++ vs.drop i)).flatMap Array.toList := by
    simp [List.flatMap_append]
  rw [hfl] at hown9
  have hln : i + 1 + (L.length - i) = (L.take i ++ ([n] ++ L.drop i)).length := by simp; omega
  obtain ⟨a9, c9, rfl, hc9, hm9, hr9, hp9⟩ := RowsOf.of_own hown9 hln heach.1 (fun k h1 h2 => .inr ⟨by omega, h2⟩) heach.2
  have HK8 := Lib.hid hk8
  have HB8 := Lib.hid hb8
  have HR9 := Lib.hid hr9
  have HP9 := Lib.hid hp9
  have HG3 := Lib.hid hg3
  clear hk8 hb8 hr9 hp9 hown9 hown8 heach hfl hnew8 hold8 hsrc3 hg3 hsl1 hsl2
  have hfin : RTree (fun k => S k ∨ (w.heap.size ≤ k ∧ k < (w8.setRow b #[.slice a9 (i + 1 + (L.length - i)) c9]).heap.size)) (w8.setRow b #[.slice a9 (i + 1 + (L.length - i)) c9]) b (L.take i ++ n :: L.drop i) ∧ Chg (· = b) w (w8.setRow b #[.slice a9 (i + 1 + (L.length - i)) c9]) := by
    have hb9 := setRow_heap w8 b _ #[.slice a9 (i + 1 + (L.length - i)) c9] _ _ HB8.out
    have hs9 : (w8.setRow b #[Value.slice a9 (i + 1 + (L.length - i)) c9]).heap.size = w8.heap.size := by simp [World.setRow]
    rw [hln] at hb9 hc9
    have hb' : ∀ k, (S k ∨ (w.heap.size ≤ k ∧ k < w8.heap.size)) → k < w8.heap.size ∧ k ≠ b := fun k hk => by
      rcases hk with hk | hk
      · have := hS0 k hk; exact ⟨by omega, this.2⟩
      · exact ⟨hk.2, by omega⟩
    refine ⟨⟨a9, c9, _, by rw [hln]; exact hb9, hc9, hm9, fun k hk => by rw [hs9] at hk ⊢; exact hb' k hk, HR9.out.imp (fun k hk => by rw [hs9]; exact hk) (fun k hk => setRow_other _ _ _ _ (hb' k hk).2), HP9.out⟩, ?_⟩
    have hc8 : Chg (· = b) w w8 := ⟨HG3.out.os.trans (HE27.out.os.trans (HE2.out.os.trans HE1.out.os)), HG3.out.tape.trans (HE27.out.tape.trans (HE2.out.tape.trans HE1.out.tape)), HG3.out.output.trans (HE27.out.output.trans (HE2.out.output.trans HE1.out.output)), by omega, fun k hk _ =>
      (HK8.out k (by omega)).trans ((HE2.out.block k (by omega)).trans (HE1.out.block k hk))⟩
    exact hc8.trans (Chg.set (S := (· = b)) b w8 _ rfl) fun _ _ h => h
  have HFIN := Lib.hid hfin
  clear hfin
  go_wp2_with (refine wpList_store_one rfl 50 (.tmp 37) (.tmp 35) rfl b _ rfl rfl rfl 53 _ HB8.out infoSl ?_)
  exact bodyPost_end (results_none rfl _ _ _) rfl ⟨rfl, by rw [show i + (L.length - i + 1) = i + 1 + (L.length - i) by omega]; exact HFIN.out⟩
theorem rinsert_any (w : World) (b : Nat) (L : List Nd) (n : Nd) (da aa : Option Addr) (dc ac : Nat) (hR : RT w b L) (hfL : ∀ m ∈ L, Fit m) (hf : Fit n) (hD : Cells w.heap.size w da (n.data.map u8v)) (hA : Cells w.heap.size w aa (acCs n.acl)) (hl : (L.length + 1) * 168 ≤ 140737488355328) :
    Calls Tryz.prog 145 #[.pointer (some ⟨b, 0, none⟩), .agg (ndC n (.slice da n.data.length dc) (.slice aa n.acl.length ac))] w fun e w' => e = .returned (.tuple #[]) ∧ RT w' b (L.take (rfind L n.path).1 ++ n :: L.drop (rfind L n.path).1) ∧ Chg (· = b) w w' :=
  (rinsert_s _ w b L n da aa dc ac hR hfL hf hD hA hl).mono fun _ _ h => ⟨h.1, h.2.1.rt, h.2.2⟩
end Go.Proofs.YthinpbdbhijbgaaGreatDoor
namespace Go.Proofs.YthinpbdbhijbgaaGreatDoor
open Go.RowKit Go.Sort
set_option maxHeartbeats 2000000
set_option maxRecDepth 100000

end Go.Proofs.YthinpbdbhijbgaaGreatDoor
namespace Go.Proofs.YthinpbdbhijbgaaGreatDoor
open Go.RowKit Go.Sort
set_option maxHeartbeats 1000000
set_option maxRecDepth 100000

def encK (z : Key × Int) : List Value := [.string ⟨z.1.toArray⟩, .int .i64 z.2]
def rowK (L : List (Key × Int)) : List Value := L.flatMap encK
theorem rowK_append (L L' : List (Key × Int)) : rowK (L ++ L') = rowK L ++ rowK L' := List.flatMap_append ..
theorem rowK_one (z : Key × Int) : rowK [z] = [.string ⟨z.1.toArray⟩, .int .i64 z.2] := rfl
theorem rowK_at : ∀ (L : List (Key × Int)) (i : Nat) (z : Key × Int), L[i]? = some z → (rowK L)[i * 2]? = some (.string ⟨z.1.toArray⟩) ∧ (rowK L)[i * 2 + 1]? = some (.int .i64 z.2)
  | [], i, z, h => by simp at h
  | y :: l, 0, z, h => by
    obtain rfl : y = z := by simpa using h
    exact ⟨rfl, rfl⟩
  | y :: l, i + 1, z, h => by
    have ih := rowK_at l i z (by simpa using h)
    have e : rowK (y :: l) = .string ⟨y.1.toArray⟩ :: .int .i64 y.2 :: rowK l := rfl
    rw [e, show (i + 1) * 2 = i * 2 + 1 + 1 from by omega]
    exact ⟨by simpa using ih.1, by simpa using ih.2⟩
def PrtsAt (w : World) (a : Option Addr) (L : List (Key × Int)) : Prop := ∀ i z, L[i]? = some z → ∃ b off, a = some ⟨b, off, none⟩ ∧ b < w.heap.size ∧ w.cell? ⟨b, off + i * 2, none⟩ = some (.string ⟨z.1.toArray⟩) ∧ w.cell? ⟨b, off + i * 2 + 1, none⟩ = some (.int .i64 z.2)
theorem PrtsAt.ext {w w' : World} {a : Option Addr} {L : List (Key × Int)} (h : PrtsAt w a L) (hE : Ext w w') : PrtsAt w' a L := fun i z hz => by
  obtain ⟨b, off, e, hb, h1, h2⟩ := h i z hz
  exact ⟨b, off, e, Nat.lt_of_lt_of_le hb hE.size, (hE.cell (p := ⟨b, off + i * 2, none⟩) hb).trans h1, (hE.cell (p := ⟨b, off + i * 2 + 1, none⟩) hb).trans h2⟩
theorem prts_of {w : World} {base : Nat} {e : TypeId} {v : Value} {L : List (Key × Int)} (h : w.ownsRow base e 2 v L.length (rowK L)) : ∃ a c, v = .slice a L.length c ∧ PrtsAt w a L := by
  rcases h.2 with ⟨rfl, h0⟩ | ⟨g, cap, cur, rfl, h1, h2, h3⟩
  · obtain rfl : L = [] := List.eq_nil_of_length_eq_zero h0
    exact ⟨none, 0, rfl, fun i s hi => by simp at hi⟩
  · refine ⟨_, cap, rfl, fun i z hi => ⟨g, 0, rfl, (Array.getElem?_eq_some_iff.1 h2).1, ?_, ?_⟩⟩
    · have := h.cells (g := g) rfl _ _ (rowK_at L i z hi).1
      rwa [addr_add] at this
    · have := h.cells (g := g) rfl _ _ (rowK_at L i z hi).2
      rwa [addr_add] at this
theorem wpList_append_k {ops : Array Oper} {rest : List Oper} {o : Oper} {a : Act} {Q : Exit → Act → World → Prop} {W5 : World} (e ts : TypeId) (hu : Tryz.prog.underlying ts = some (.slice e)) (hi0 : (Tryz.prog.info? e).map (fun i => (i.zero, i.size, i.bytes)) = some (some (.agg #[.string ⟨#[]⟩, .int .i64 0]), 2, 24)) (hgd : o.guard = none) (s x : Operand)
    (ho : o.op = .call { callee := .builtin .append, args := #[s, x], argTypes := #[ts, ts] })
    (base : Nat) (L : List (Key × Int)) (ov : Value) (hown : W5.ownsRow base e 2 ov L.length (rowK L)) (hb : base ≤ W5.heap.size) (z : Key × Int) (p : ByteArray) (hp : p.data.toList = z.1) (hl : (L.length + 1) * 24 ≤ 140737488355328)
    (hs : a.eval s = ov) (hx : a.eval x = .slice (some ⟨W5.heap.size, 0, none⟩) 1 1)
    (hK : ∀ v' W6, W6.ownsRow base e 2 v' (L.length + 1) (rowK (L ++ [z])) → (∀ w0, Ext w0 W5 → w0.heap.size ≤ base → Ext w0 W6) → (v'.ownBlock = ov.ownBlock ∨ ∃ g, v'.ownBlock = some g ∧ W5.heap.size ≤ g) → W5.grownBy W6 ov.ownBlock → wpList Tryz.prog ops Q rest (a.put o.dst v') W6) : wpList Tryz.prog ops Q (o :: rest) a (W5.alloc (.cells #[.string p, .int .i64 z.2] e)) := by
  obtain rfl : p = ⟨z.1.toArray⟩ := ByteArray.ext (Array.toList_inj.1 (by rw [hp]))
  have hrow8 := hown.alloc (.cells #[.string ⟨z.1.toArray⟩, .int .i64 z.2] e)
  have hs1 : Cells (W5.alloc (.cells #[.string ⟨z.1.toArray⟩, .int .i64 z.2] e)).heap.size (W5.alloc (.cells #[.string ⟨z.1.toArray⟩, .int .i64 z.2] e)) (some ⟨W5.heap.size, 0, none⟩) (rowK [z]) := fun j u hj => by
    refine ⟨_, 0, rfl, by simp, ?_⟩
    rw [Nat.zero_add, cell_of_row _ _ _ _ _ _ (heap_alloc_new W5 _)]
    rw [rowK_one] at hj
    simpa using hj
  have hsrc : Src Tryz.prog 2 ts (.slice (some ⟨W5.heap.size, 0, none⟩) 1 1) 1 (rowK [z]) (W5.alloc (.cells #[.string ⟨z.1.toArray⟩, .int .i64 z.2] e)) := hs1.src hu 1 1 (by simp [rowK_one]) (fun u hu => by
    rw [rowK_one] at hu
    simp at hu
    rcases hu with rfl | rfl <;> rfl)
  obtain ⟨i0, hi, hz0, hz1', hz2'⟩ := info_parts hi0
  refine wpList_append_src _ hgd s x ts ts ho base e i0 (.agg #[.string ⟨#[]⟩, .int .i64 0]) 2 24 hu hi hz0 hz1' hz2' rfl (by decide) ov L.length (rowK L) hs hrow8 _ 1 _ hx hsrc (by unfold maxLen; omega) hl (by simp; omega) ?_
  intro v' w9 hown9 hg9 _ hor
  have hg : W5.grownBy w9 ov.ownBlock := ⟨hg9.os, hg9.tape, hg9.output, by have := hg9.size; simp at this; omega, fun k hk hn => (hg9.block k (by simp; omega) hn).trans (Below.heap_alloc _ _ _ hk)⟩
  refine hK v' w9 (by rw [rowK_append]; exact hown9) (fun w0 hE0 hb0 => ?_) (hor.imp id fun h => ⟨_, h, by simp⟩) hg
  exact hE0.trans' ⟨hg.os, hg.tape, hg.output, hg.size, fun i hi => hg.block i (Nat.lt_of_lt_of_le hi hE0.size) (fun e => by
    have := (hown.lt i e.symm).1
    omega)⟩
end Go.Proofs.YthinpbdbhijbgaaGreatDoor
namespace Go.Proofs.YthinpbdbhijbgaaGreatDoor
open Go.RowKit Go.Sort Go.Shelf Go.Lib
set_option maxHeartbeats 4000000
set_option maxRecDepth 100000

/-- A parting whose path memory may hold. -/
def Pt : Type := { z : Key × Int // z.1.length ≤ maxLen }
instance : Inhabited Pt := ⟨⟨([], 0), Nat.zero_le _⟩⟩
def encP (x : Pt) : List Value := encK x.1
def cmpP (x y : Pt) : Int := ordL x.1.1 y.1.1
theorem ltP (x y : Pt) : ltOf cmpP x y = bytesBefore x.1.1 y.1.1 := by
  unfold ltOf cmpP
  rw [Bool.eq_iff_iff, decide_eq_true_iff]
  exact ordL_neg _ _
theorem swoP : SWO (ltOf cmpP) where
  irrefl x := by rw [ltP]; exact WideAt.bytes_irrefl _
  trans x y z h1 h2 := by
    rw [ltP] at *
    exact WideShapes.bytes_trans _ _ _ h1 h2
  ntrans x y z h1 h2 := by
    rw [ltP] at *
    cases h : bytesBefore x.1.1 z.1.1 with
    | false => rfl
    | true =>
      by_cases e : x.1.1 = y.1.1
      · rw [← e, h] at h2; cases h2
      · rcases WideAt.bytes_total _ _ e with h3 | h3
        · rw [h3] at h1; cases h1
        · rw [WideShapes.bytes_trans _ _ _ h3 h] at h2; cases h2
theorem compare_ordL : ∀ a b : List UInt8, compareBytes a b = ordL a b
  | [], [] => rfl
  | [], _ :: _ => rfl
  | _ :: _, [] => rfl
  | x :: a, y :: b => by
    unfold compareBytes ordL
    rw [compare_ordL a b]
    simp only [UInt8.lt_iff_toNat_lt]
theorem porder_any (a b : ByteArray) (w : World) : Calls Tryz.prog 119 #[.string a, .string b] w fun e w' => e = .returned (.int .i64 (ordL a.data.toList b.data.toList)) ∧ w' = w := by
  have C := Any.strings_Compare Tryz.cmpS a b w
  change Calls Tryz.prog 164 _ _ _ at C
  rw [compare_ordL] at C
  generalize ordL a.data.toList b.data.toList = z at C ⊢
  go_enter Tryz.func119, Tryz.ntmps119
  go_wp2_with fail
  refine C.mono ?_
  rintro e w' ⟨rfl, rfl⟩
  go_wp2
  go_ret
  exact ⟨rfl, rfl⟩
theorem closP_any (x y : Pt) (W : World) : Calls Tryz.prog 118 #[.agg (encP x).toArray, .agg (encP y).toArray] W fun e w' => e = .returned (.int .i64 (cmpP x y)) ∧ ∃ q os', w' = grow (W.drewN q) os' := by
  have C := fun W => porder_any ⟨x.1.1.toArray⟩ ⟨y.1.1.toArray⟩ W
  have e1 : ordL (⟨x.1.1.toArray⟩ : ByteArray).data.toList (⟨y.1.1.toArray⟩ : ByteArray).data.toList = cmpP x y := rfl
  rw [e1] at C
  unfold encP encK
  generalize cmpP x y = z at *
  generalize (⟨x.1.1.toArray⟩ : ByteArray) = p at *
  generalize (⟨y.1.1.toArray⟩ : ByteArray) = q at *
  have C := Lib.hid C
  clear e1
  go_enter Tryz.func118, Tryz.ntmps118
  go_wp2_with fail
  refine (C.out _).mono ?_
  rintro e w' ⟨rfl, rfl⟩
  go_wp2
  go_ret
  exact ⟨rfl, 0, _, by rw [alloc_eq_grow, alloc_eq_grow, grow_grow]; rfl⟩
theorem cmpLaysP (blk off size : Nat) (w : World) : CmpLays Tryz.prog 118 #[] encP 2 cmpP blk off size w := fun _ _ _ _ x y => closP_any x y _

theorem get_row (D : List (Key × Int)) : ∀ t, t < D.length * 2 → (rowK D)[t]? = some ((encK (D.toArray[t / 2]!))[t % 2]!) := fun t ht => by
  have hi : t / 2 < D.length := by omega
  obtain ⟨h1, h2⟩ := rowK_at D (t / 2) D[t / 2] (List.getElem?_eq_getElem hi)
  have e : D.toArray[t / 2]! = D[t / 2] := by
    rw [getElem!_pos D.toArray (t / 2) (by simpa using hi)]; simp
  rw [e]
  rcases Nat.mod_two_eq_zero_or_one t with h | h
  · rw [h]
    exact (congrArg (fun i => (rowK D)[i]?) (show t = t / 2 * 2 by omega)).trans h1
  · rw [h]
    exact (congrArg (fun i => (rowK D)[i]?) (show t = t / 2 * 2 + 1 by omega)).trans h2
theorem holds_row {w : World} {base : Nat} {e : TypeId} {g c : Nat} {D : List Pt} (h : w.ownsRow base e 2 (.slice (some ⟨g, 0, none⟩) D.length c) D.length (rowK (D.map (·.1)))) : HoldsK encP 2 w g 0 D.toArray ∧ g < w.heap.size := by
  obtain ⟨hl, h2⟩ := h
  rcases h2 with ⟨h, _⟩ | ⟨g', cap, cur, hv, hb, hg, h3, h4, h5, h6⟩
  · cases h
  cases hv
  refine ⟨fun j hj => ?_, (Array.getElem?_eq_some_iff.1 hg).1⟩
  have hj' : j < D.length * 2 := by simpa using hj
  have hr := get_row (D.map (·.1)) j (by simpa using hj')
  have hc : cur[j]? = some ((encK ((D.map (·.1)).toArray[j / 2]!))[j % 2]!) := by
    rw [← h6, List.getElem?_take_of_lt hj'] at hr
    simpa using hr
  have e1 : (flatK encP 2 D.toArray)[j]! = (encK ((D.map (·.1)).toArray[j / 2]!))[j % 2]! := by
    rw [get_flatK _ _ _ _ (by simpa using hj')]
    have hi : j / 2 < D.length := by omega
    rw [getElem!_pos D.toArray (j / 2) (by simpa using hi), getElem!_pos (D.map (·.1)).toArray (j / 2) (by simpa using hi)]
    simp [encP]
  rw [Nat.zero_add]
  refine ⟨?_, by simp [World.frozen?, hg]⟩
  rw [cell_of_row _ _ _ _ _ _ hg, hc]
  show _ = some (id _)
  rw [e1]; rfl
theorem sort_chg (w : World) (g n : Nat) (D : Array Pt) (os : Array Obj) : Chg (· = g) w (sortWorldK encP 2 w g 0 n D os) := by
  have hz : (putRowK encP 2 (Sort.ahead w n) g 0 D).heap.size = w.heap.size := by unfold putRowK; rw [size_putRow]; rfl
  refine ⟨rfl, rfl, rfl, ?_, fun k hk hn => ?_⟩
  · exact size_sortWorldK_c encP 2 w g 0 n D os
  · unfold sortWorldK grow
    show ((putRowK encP 2 (Sort.ahead w n) g 0 D).heap ++ os)[k]? = _
    rw [Array.getElem?_append_left (by rw [hz]; exact hk)]
    show (w.heap.modify g _)[k]? = _
    rw [Array.getElem?_modify, if_neg (fun e => hn e.symm)]
theorem prts_hold {w : World} {g : Nat} {D : Array Pt} (h : HoldsK encP 2 w g 0 D) (hg : g < w.heap.size) : PrtsAt w (some ⟨g, 0, none⟩) (D.toList.map (·.1)) := fun i z hz => by
  rw [List.getElem?_map] at hz
  obtain ⟨x, hx, rfl⟩ := Option.map_eq_some_iff.1 hz
  have hi : i < D.size := by
    have := (List.getElem?_eq_some_iff.1 hx).1
    simpa using this
  have e : D[i]! = x := by
    rw [getElem!_pos D i hi]
    rw [Array.getElem?_toList, Array.getElem?_eq_getElem hi] at hx
    exact Option.some.inj hx
  have hc := HoldsK.cells h (fun x => rfl) hi
  rw [e] at hc
  refine ⟨g, 0, rfl, hg, ?_, ?_⟩
  · have := hc 0 _ rfl
    rwa [addr_add] at this
  · have := hc 1 _ rfl
    rwa [addr_add] at this
/-- The sort, whatever the row. -/
theorem sortP_any {w : World} {base : Nat} {v : Value} {D : List Pt} (h : w.ownsRow base 90 2 v D.length (rowK (D.map (·.1)))) (hl : D.length < 4611686018427387904) :
    Calls Tryz.prog 117 #[v, .func (.func 118) #[] #[]] w fun e w' => e = .returned (.tuple #[]) ∧ ∃ (a : Option Addr) (c : Nat) (D' : List (Key × Int)), v = .slice a D.length c ∧ D'.Perm (D.map (·.1)) ∧ (D'.Pairwise fun x y => bytesBefore y.1 x.1 = false) ∧ PrtsAt w' a D' ∧ Chg (fun k => v.ownBlock = some k) w w' := by
  rcases h.2 with ⟨rfl, h0⟩ | ⟨g, cap, cur, rfl, h1, h2, h3⟩
  · obtain rfl : D = [] := List.eq_nil_of_length_eq_zero h0
    have C := AnyF.slices_SortFunc_none Tryz.sortP none 0 (.func (.func 118) #[] #[]) w
    change Calls Tryz.prog 117 _ _ _ at C
    refine C.mono ?_
    rintro e w' ⟨rfl, rfl⟩
    exact ⟨rfl, none, 0, [], rfl, List.Perm.nil, List.Pairwise.nil, fun i z hz => by simp at hz, Chg.refl _ _⟩
  · obtain ⟨hH, hg⟩ := holds_row h
    have C := AnyQ.slices_SortFunc Tryz.sortP 2 Tryz.isAgg90 Tryz.sizeOf90 encP (fun _ => rfl) (fun x v hv => by simp [encP, encK] at hv; rcases hv with rfl | rfl <;> rfl) cmpP swoP 118 #[] g 0 cap D.toArray w (enters_of Tryz.func118 (by kernel_rfl) rfl) (cmpLaysP g 0 _ w) hH hg (by simpa using hl)
    change Calls Tryz.prog 117 _ _ _ at C
    rw [List.size_toArray] at C
    refine C.mono ?_
    rintro e w' ⟨rfl, d', n, os, hp, hs, rfl⟩
    have hsz : d'.size = D.toArray.size := hp.1
    have hH' := holdsK_sortWorldK_c encP 2 w g 0 D.toArray d' n os hH hg hsz
    have hperm : d'.toList.Perm D := by
      have := hp.2.2
      have e1 : d'.extract 0 D.length = d' := Array.extract_eq_self_of_le (by rw [hsz]; simp)
      have e2 : D.toArray.extract 0 D.length = D.toArray := Array.extract_eq_self_of_le (by simp)
      rw [e1, e2] at this
      simpa using this
    refine ⟨rfl, some ⟨g, 0, none⟩, cap, d'.toList.map (·.1), rfl, hperm.map _, ?_, prts_hold hH' (Nat.lt_of_lt_of_le hg (size_sortWorldK_c encP 2 w g 0 n d' os)), (sort_chg w g n d' os).mono fun k _ hk => by simp [Value.ownBlock, hk]⟩
    rw [List.pairwise_map]
    refine List.pairwise_iff_getElem.2 fun i j hi hj hij => ?_
    have hsz2 : d'.size = D.length := by rw [hsz]; simp
    simp only [Array.length_toList] at hi hj
    have := hs i j (Nat.zero_le _) hij (by simpa [← hsz2] using hj)
    rw [ltP, getElem!_pos d' i hi, getElem!_pos d' j hj] at this
    simpa using this
end Go.Proofs.YthinpbdbhijbgaaGreatDoor
namespace Go.Proofs.YthinpbdbhijbgaaGreatDoor
open Go.RowKit
section
variable {P : Program} {ops : Array Oper} {Q : Exit → Act → World → Prop} {a0 : Act} {w0 : World}

/-- What the operations yielded. -/
def valsOf (ops : Array Oper) (a : Act) (k : Nat) : Value := match ops[k]? with
  | some o => valOf o a
  | none => undef
def updV (vals : Nat → Value) (i : Nat) (v : Value) (k : Nat) : Value := if k = i then v else vals k
theorem updV_same (vals : Nat → Value) (i : Nat) (v : Value) : updV vals i v i = v := by unfold updV; rw [if_pos rfl]
theorem updV_other (vals : Nat → Value) {i k : Nat} (v : Value) (h : k ≠ i) : updV vals i v k = vals k := by unfold updV; rw [if_neg h]
/-- An operation's duty; d: which are done. -/
def DutyG (P : Program) (ops : Array Oper) (Q : Exit → Act → World → Prop) (G : (Nat → Bool) → (Nat → Value) → World → Prop) (a0 : Act) (i : Nat) (o : Oper) : Prop :=
  ∀ (d : Nat → Bool) a w, d i = false → (∀ f k j, reachB ops f k j = true → d k = true → d j = true) → (∀ e ∈ o.after.toList, Region.binds .any e = true → d e.on = true) → G d (valsOf ops a) w → Framed ops a0 a →
    o.wp P a w (fun a' w' => ∃ v, a' = a.put o.dst v ∧ G (fun k => d k || k == i) (updV (valsOf ops a) i (if o.dst.isSome = true then v else undef)) w') Q
def DutiesG (P : Program) (ops : Array Oper) (Q : Exit → Act → World → Prop) (G : (Nat → Bool) → (Nat → Value) → World → Prop) (a0 : Act) : Nat → List Oper → Prop
  | _, [] => True
  | i, o :: l => DutyG P ops Q G a0 i o ∧ DutiesG P ops Q G a0 (i + 1) l
theorem DutiesG.at {G : (Nat → Bool) → (Nat → Value) → World → Prop} : ∀ {l : List Oper} {k : Nat}, DutiesG P ops Q G a0 k l → ∀ i o, l[i]? = some o → DutyG P ops Q G a0 (k + i) o
  | [], _, _, i, o, h => by simp at h
  | q :: l, k, hd, 0, o, h => by simp at h; subst h; exact hd.1
  | q :: l, k, hd, i + 1, o, h => by
    have := DutiesG.at (k := k + 1) hd.2 i o (by simpa using h)
    rwa [show k + 1 + i = k + (i + 1) from by omega] at this

/-- What the operations of a list with values told in advance yielded. -/
def ToldV (cs : List (Option Value)) (d : Nat → Bool) (vals : Nat → Value) : Prop := ∀ j v, cs[j]? = some (some v) → d j = true → vals j = v
theorem ToldV.none (cs : List (Option Value)) (vals : Nat → Value) : ToldV cs (fun _ => false) vals := fun _ _ _ h => by cases h
theorem ToldV.put {cs : List (Option Value)} {d : Nat → Bool} {vals : Nat → Value} (h : ToldV cs d vals) (i : Nat) (v : Value) (hv : ∀ u, cs[i]? = some (some u) → v = u) : ToldV cs (fun k => d k || k == i) (updV vals i v) := fun j u hj hd => by
  by_cases e : j = i
  · subst e; rw [updV_same]; exact hv u hj
  · have : (j == i) = false := by simpa using e
    simp only [this, Bool.or_false] at hd
    rw [updV_other _ _ e]
    exact h j u hj hd
end
end Go.Proofs.YthinpbdbhijbgaaGreatDoor
namespace Go.Proofs.YthinpbdbhijbgaaGreatDoor
open Go.RowKit
set_option maxHeartbeats 4000000
set_option maxRecDepth 100000

section
variable {P : Program} {ops : Array Oper} {Q : Exit → Act → World → Prop} {a0 : Act}
end

/-- What holds while Take goes on; d: which operations are done. -/
def TkH (w : World) (i r : Nat) (x1 x2 : List Value) (Fin : World → Prop) (d : Nat → Bool) (vals : Nat → Value) (W : World) : Prop :=
  if d 19 = true then Fin W else Ext w W ∧ (if d 16 = true then W.ownsRow w.heap.size 44 17 (vals 16) (i + r) (x1 ++ x2) else if d 8 = true then W.ownsRow w.heap.size 44 17 (vals 8) i x1 else if d 1 = true then W.ownsRow w.heap.size 44 17 (vals 1) 0 [] else True)
theorem TkH.ext {w : World} {i r : Nat} {x1 x2 : List Value} {Fin : World → Prop} {d : Nat → Bool} {vals : Nat → Value} {W : World} (h : TkH w i r x1 x2 Fin d vals W) (h19 : d 19 = false) : Ext w W := by
  unfold TkH at h
  simp only [h19, Bool.false_eq_true, if_false] at h
  exact h.1
end Go.Proofs.YthinpbdbhijbgaaGreatDoor
