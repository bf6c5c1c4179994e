/- Rows that show sessions: what they hold, their first places and those behind them, rows of the call's own; how such a row grows by one. A slice of sessions, opened. The look whether a node's path is there already, in a struct whose first field is the map of the nodes: a region that draws its order. A region that draws its order, whose operations' values are either told or have a property that new memory leaves. -/
import Derived.Test.YtclekhjnnljjlaaGreatDoorJFuzzyWhole7
import Derived.Test.YtclekhjnnljjlaaGreatDoorJFuzzyWhole9
import Derived.Test.YtclekhjnnljjlaaGreatDoorJFuzzyWhole6
import Derived.Test.YtclekhjnnljjlaaGreatDoorJFuzzyWhole5
namespace Go.Proofs.YtclekhjnnljjlaaGreatDoor
open Go.RowKit Go.Sort
set_option maxHeartbeats 2000000
set_option maxRecDepth 100000

theorem flat3 : ∀ (vs : List (Array Value)) (i : Nat) (cs : Array Value), (∀ x ∈ vs, x.size = 3) → vs[i]? = some cs → ∀ j u, cs[j]? = some u → (vs.flatMap Array.toList)[i * 3 + j]? = some u
  | [], i, cs, _, h, _, _, _ => by simp at h
  | x :: vs, 0, cs, hs, h, j, u, hj => by
    simp at h
    subst h
    have hx := hs x (by simp)
    have hjl := (Array.getElem?_eq_some_iff.1 hj).1
    rw [List.flatMap_cons, Nat.zero_mul, Nat.zero_add, List.getElem?_append_left (by simpa using hjl)]
    simpa using hj
  | x :: vs, i + 1, cs, hs, h, j, u, hj => by
    have hx := hs x (by simp)
    rw [List.flatMap_cons, List.getElem?_append_right (by simp [hx]; omega)]
    have := flat3 vs i cs (fun y hy => hs y (by simp [hy])) (by simpa using h) j u hj
    rw [show (i + 1) * 3 + j - x.toList.length = i * 3 + j by simp [hx]; omega]
    exact this
def zeroSe : Array Value := #[.int .i64 0, .int .i32 0, .slice none 0 0]
/-- Rows that show nodes, all in blocks of a set. -/
structure RowsSe (S : Nat → Prop) (w : World) (a : Option Addr) (vs : List (Array Value)) (L : List Se) : Prop where
  len : vs.length = L.length
  cells : CellsS S w a (vs.flatMap Array.toList)
  each : ∀ (j : Nat) (cs : Array Value), vs[j]? = some cs → ∃ n, L[j]? = some n ∧ SeS S w (.agg cs) n

theorem RowsSe.imp {S S' : Nat → Prop} {w w' : World} {a : Option Addr} {vs : List (Array Value)} {L : List Se} (h : RowsSe S w a vs L) (hS : ∀ b, S b → S' b) (hw : ∀ k, S k → w'.heap[k]? = w.heap[k]?) : RowsSe S' w' a vs L :=
  ⟨h.len, h.cells.imp hS fun b o u hb hu => (World.cell?_of_block (hw b hb)).trans hu, fun j cs hj => by
    obtain ⟨n, hn, hN⟩ := h.each j cs hj
    exact ⟨n, hn, SeS.imp hN hS fun b o u hb hu => (World.cell?_of_block (hw b hb)).trans hu⟩⟩
theorem RowsSe.v3 {S : Nat → Prop} {w : World} {a : Option Addr} {vs : List (Array Value)} {L : List Se} (h : RowsSe S w a vs L) : ∀ x ∈ vs, x.size = 3 := fun x hx => by
  obtain ⟨i, hi, ei⟩ := List.getElem_of_mem hx
  obtain ⟨n2, _, ia2, ic2, e2, _⟩ := h.each i x (by rw [List.getElem?_eq_getElem hi, ei])
  simp only [Value.agg.injEq] at e2
  rw [e2]; rfl
/-- The j-th row. -/
theorem RowsSe.row {S : Nat → Prop} {w : World} {a : Option Addr} {vs : List (Array Value)} {L : List Se} (h : RowsSe S w a vs L) {j : Nat} {n : Se} (hj : L[j]? = some n) :
    ∃ b off ia ic, a = some ⟨b, off, none⟩ ∧ S b ∧ (∀ r u, (seC n (.slice ia n.ids.length ic))[r]? = some u → w.cell? ⟨b, off + j * 3 + r, none⟩ = some u) ∧ n.ids.length ≤ ic ∧ CellsS S w ia (idCs n.ids) ∧ vs[j]? = some (seC n (.slice ia n.ids.length ic)) := by
  have hjl := (List.getElem?_eq_some_iff.1 hj).1
  have hvk : vs[j]? = some (vs[j]'(by rw [h.len]; exact hjl)) := List.getElem?_eq_getElem _
  obtain ⟨n', hn', ia, ic, e, hC, hA⟩ := h.each j _ hvk
  obtain rfl : n' = n := by rw [hj] at hn'; exact (Option.some.inj hn').symm
  simp only [Value.agg.injEq] at e
  rw [e] at hvk
  have hfl := flat3 vs j _ h.v3 hvk
  obtain ⟨b, off, rfl, hb, _⟩ := h.cells (j * 3 + 0) _ (hfl 0 (.int .i64 n'.id) rfl)
  refine ⟨b, off, ia, ic, rfl, hb, fun r u hr => ?_, hC, hA, hvk⟩
  obtain ⟨b', off', e1, _, c1⟩ := h.cells (j * 3 + r) _ (hfl r u hr)
  simp only [Option.some.injEq, Addr.mk.injEq, and_true] at e1
  obtain ⟨rfl, rfl⟩ := e1
  rw [Nat.add_assoc]; exact c1

theorem infoSe3 : (Tryz.prog.info? 62).map (·.size) = some 3 := sizeSe
theorem run_slice_toS (a : Option Addr) (len cap i : Nat) (ha : ∀ p, a = some p → ∃ b off, p = ⟨b, off, none⟩) (hi : i ≤ cap) (W : World) : (Instr.slice 23 (.slice a len cap) none (some (.int .i64 i)) none).run Tryz.prog W = .ok (.slice a i cap) W := by
  have h1 : (0 : Int) ≤ i := by omega
  have h2 : (i : Int) ≤ cap := by omega
  obtain ⟨inf, hinf, hs⟩ := Option.map_eq_some_iff.1 infoSe3
  have hm : (if cap = 0 then a else a.map fun x => x.add 0) = a := by
    split
    · rfl
    · cases a with
      | none => rfl
      | some p =>
        obtain ⟨b, off, rfl⟩ := ha p rfl
        simp [Addr.add]
  simp [Instr.slice, Instr.sliceBounds, Instr.sliceBound, run_underlying Tryz.underlying23, asIntOf, Int.toNat_natCast, h1, h2, hi, sizeOf, typeInfo, hinf, hm, Sem.run, Result.andThen]
theorem run_slice_fromS (b off len cap i : Nat) (hi : i ≤ len) (hl : len ≤ cap) (W : World) : (Instr.slice 23 (.slice (some ⟨b, off, none⟩) len cap) (some (.int .i64 i)) none none).run Tryz.prog W = .ok (.slice (some (if cap = i then ⟨b, off, none⟩ else ⟨b, off + i * 3, none⟩)) (len - i) (cap - i)) W := by
  have h1 : (0 : Int) ≤ i := by omega
  have h2 : (i : Int) ≤ len := by omega
  obtain ⟨inf, hinf, hs⟩ := Option.map_eq_some_iff.1 infoSe3
  by_cases h0 : i = 0
  · subst h0
    by_cases hc : cap = 0 <;>
    simp [Instr.slice, Instr.sliceBounds, Instr.sliceBound, run_underlying Tryz.underlying23, asIntOf, sizeOf, typeInfo, hinf, hs, hc, Sem.run, Result.andThen, Addr.add]
  have h3 : ¬ i * 3 = 0 := by omega
  by_cases hc : cap = i <;>
  simp [Instr.slice, Instr.sliceBounds, Instr.sliceBound, run_underlying Tryz.underlying23, asIntOf, Int.toNat_natCast, h1, h2, hi, h0, h3, sizeOf, typeInfo, hinf, hs, hc, Sem.run, Result.andThen, Addr.add]
theorem run_slice_nilS (W : World) : (Instr.slice 23 (.slice none 0 0) (some (.int .i64 0)) none none).run Tryz.prog W = .ok (.slice none 0 0) W := by
  obtain ⟨inf, hinf, hs⟩ := Option.map_eq_some_iff.1 infoSe3
  simp [Instr.slice, Instr.sliceBounds, Instr.sliceBound, run_underlying Tryz.underlying23, asIntOf, sizeOf, typeInfo, hinf, Sem.run, Result.andThen]

/-- A row of the call's own that shows nodes. -/
theorem RowsSe.of_own {S : Nat → Prop} {w : World} {base n : Nat} {v : Value} {vs : List (Array Value)} {L : List Se} (h : w.ownsRow base 62 3 v n (vs.flatMap Array.toList)) (hn : n = L.length) (hl : vs.length = L.length) (hS : ∀ k, base ≤ k → k < w.heap.size → S k)
    (he : ∀ (j : Nat) (cs : Array Value), vs[j]? = some cs → ∃ n, L[j]? = some n ∧ SeS S w (.agg cs) n) : ∃ a c, v = .slice a n c ∧ n ≤ c ∧ c ≤ maxLen ∧ RowsSe S w a vs L ∧ PlainA a c := by
  rcases h.2 with ⟨rfl, h0⟩ | ⟨g, cap, cur, rfl, hb, hg, h1, h2, h3, h4⟩
  · have hL : L = [] := List.eq_nil_of_length_eq_zero (by omega)
    have hv : vs = [] := List.eq_nil_of_length_eq_zero (by rw [hl, hL]; rfl)
    subst h0 hL hv
    exact ⟨none, 0, rfl, Nat.le_refl _, Nat.zero_le _, ⟨rfl, fun j u hj => by simp at hj, he⟩, .inl ⟨rfl, rfl⟩⟩
  · refine ⟨some ⟨g, 0, none⟩, cap, rfl, h1, h2, ⟨hl, fun j u hj => ?_, he⟩, .inr ⟨g, 0, rfl⟩⟩
    have hc := h.cells (g := g) rfl j u hj
    rw [addr_add] at hc
    exact ⟨g, 0, rfl, hS g hb (Array.getElem?_eq_some_iff.1 hg).1, hc⟩

theorem flat_take3 (vs : List (Array Value)) (i : Nat) (h3x : ∀ x ∈ vs, x.size = 3) : (vs.flatMap Array.toList).take (i * 3) = (vs.take i).flatMap Array.toList := by
  induction vs generalizing i with
  | nil => simp
  | cons x vs ih =>
    cases i with
    | zero => simp
    | succ i =>
      have hx : x.toList.length = 3 := by simpa using h3x x (List.mem_cons_self ..)
      rw [List.take_succ_cons, List.flatMap_cons, List.flatMap_cons, ← ih i fun y hy => h3x y (List.mem_cons_of_mem _ hy), List.take_append, List.take_of_length_le (by omega), hx, show (i + 1) * 3 - 3 = i * 3 by omega]
theorem flat_drop3 (vs : List (Array Value)) (i : Nat) (h3x : ∀ x ∈ vs, x.size = 3) : (vs.flatMap Array.toList).drop (i * 3) = (vs.drop i).flatMap Array.toList := by
  induction vs generalizing i with
  | nil => simp
  | cons x vs ih =>
    cases i with
    | zero => simp
    | succ i =>
      have hx : x.toList.length = 3 := by simpa using h3x x (List.mem_cons_self ..)
      rw [List.drop_succ_cons, List.flatMap_cons, ← ih i fun y hy => h3x y (List.mem_cons_of_mem _ hy), List.drop_append, List.drop_eq_nil_of_le (by omega), hx, show (i + 1) * 3 - 3 = i * 3 by omega, List.nil_append]
theorem flat_len3 (vs : List (Array Value)) (h3x : ∀ x ∈ vs, x.size = 3) : (vs.flatMap Array.toList).length = vs.length * 3 := by
  induction vs with
  | nil => rfl
  | cons x vs ih =>
    have hx : x.toList.length = 3 := by simpa using h3x x (List.mem_cons_self ..)
    rw [List.flatMap_cons, List.length_append, hx, ih fun y hy => h3x y (List.mem_cons_of_mem _ hy), List.length_cons]; omega
theorem RowsSe.one {S : Nat → Prop} {w : World} {a : Option Addr} {vs : List (Array Value)} {L : List Se} (h : RowsSe S w a vs L) : ∀ u ∈ vs.flatMap Array.toList, u.oneCell' = true := fun u hu => by
  obtain ⟨x, hx, hux⟩ := List.mem_flatMap.1 hu
  obtain ⟨i, hi, ei⟩ := List.getElem_of_mem hx
  obtain ⟨n2, _, ia2, ic2, e2, _⟩ := h.each i x (by rw [List.getElem?_eq_getElem hi, ei])
  simp only [Value.agg.injEq] at e2
  have := cells_se n2 ia2 n2.ids.length ic2
  rw [← e2, ← Array.all_toList] at this
  exact List.all_eq_true.1 this u hux

/-- What a slice's first places show, and what those behind them. -/
theorem RowsSe.src_to {S : Nat → Prop} {w : World} {a : Option Addr} {vs : List (Array Value)} {L : List Se} (h : RowsSe S w a vs L) {i cap : Nat} (hi : i ≤ L.length) (hS : ∀ k, S k → k < w.heap.size) : Src Tryz.prog 3 23 (.slice a i cap) i ((vs.take i).flatMap Array.toList) w := by
  have h3x : ∀ x ∈ vs.take i, x.size = 3 := fun x hx => h.v3 x (List.mem_of_mem_take hx)
  have hc : Cells w.heap.size w a ((vs.take i).flatMap Array.toList) := fun j u hj => by
    rw [← flat_take3 vs i h.v3, List.getElem?_take] at hj
    split at hj
    · obtain ⟨b, off, e, hb, hc⟩ := h.cells j u hj
      exact ⟨b, off, e, hS b hb, hc⟩
    · cases hj
  exact hc.src Tryz.underlying23 i cap (by rw [flat_len3 _ h3x, List.length_take, h.len]; congr 1; omega) fun u hu => h.one u (by
    rw [← flat_take3 vs i h.v3] at hu
    exact List.mem_of_mem_take hu)
theorem RowsSe.src_from {S : Nat → Prop} {w : World} {b off : Nat} {vs : List (Array Value)} {L : List Se} (h : RowsSe S w (some ⟨b, off, none⟩) vs L) {i cap : Nat} (hi : i ≤ L.length) (hl : L.length ≤ cap) (hS : ∀ k, S k → k < w.heap.size) : Src Tryz.prog 3 23 (.slice (some (if cap = i then ⟨b, off, none⟩ else ⟨b, off + i * 3, none⟩)) (L.length - i) (cap - i)) (L.length - i) ((vs.drop i).flatMap Array.toList) w := by
  have h3x : ∀ x ∈ vs.drop i, x.size = 3 := fun x hx => h.v3 x (List.mem_of_mem_drop hx)
  have hc : Cells w.heap.size w (some (if cap = i then ⟨b, off, none⟩ else ⟨b, off + i * 3, none⟩)) ((vs.drop i).flatMap Array.toList) := fun j u hj => by
    rw [← flat_drop3 vs i h.v3, List.getElem?_drop] at hj
    obtain ⟨b', off', e, hb, hc⟩ := h.cells (i * 3 + j) u hj
    simp only [Option.some.injEq, Addr.mk.injEq, and_true] at e
    obtain ⟨rfl, rfl⟩ := e
    by_cases hci : cap = i
    · exfalso
      have h1 := (List.getElem?_eq_some_iff.1 hj).1
      rw [flat_len3 _ h.v3, h.len] at h1
      omega
    · rw [if_neg hci]
      exact ⟨b, off + i * 3, rfl, hS b hb, by rw [Nat.add_assoc]; exact hc⟩
  exact hc.src Tryz.underlying23 _ _ (by rw [flat_len3 _ h3x, List.length_drop, h.len]) fun u hu => h.one u (by
    rw [← flat_drop3 vs i h.v3] at hu
    exact List.mem_of_mem_drop hu)

def EachS (S : Nat → Prop) (w : World) (vs : List (Array Value)) (L : List Se) : Prop := vs.length = L.length ∧ ∀ (j : Nat) (cs : Array Value), vs[j]? = some cs → ∃ n, L[j]? = some n ∧ SeS S w (.agg cs) n
theorem EachS.append {S : Nat → Prop} {w : World} {vs vs' : List (Array Value)} {L L' : List Se} (h : EachS S w vs L) (k : EachS S w vs' L') : EachS S w (vs ++ vs') (L ++ L') := by
  refine ⟨by rw [List.length_append, List.length_append, h.1, k.1], fun j cs hj => ?_⟩
  by_cases hl : j < vs.length
  · rw [List.getElem?_append_left hl] at hj
    rw [List.getElem?_append_left (by rw [← h.1]; exact hl)]
    exact h.2 j cs hj
  · rw [List.getElem?_append_right (by omega)] at hj
    rw [List.getElem?_append_right (by rw [← h.1]; omega), ← h.1]
    exact k.2 _ cs hj
theorem EachS.take {S : Nat → Prop} {w : World} {vs : List (Array Value)} {L : List Se} (h : EachS S w vs L) (i : Nat) : EachS S w (vs.take i) (L.take i) := by
  refine ⟨by rw [List.length_take, List.length_take, h.1], fun j cs hj => ?_⟩
  rw [List.getElem?_take] at hj ⊢
  split at hj
  · rename_i hlt; rw [if_pos hlt]; exact h.2 j cs hj
  · cases hj
theorem EachS.drop {S : Nat → Prop} {w : World} {vs : List (Array Value)} {L : List Se} (h : EachS S w vs L) (i : Nat) : EachS S w (vs.drop i) (L.drop i) := by
  refine ⟨by rw [List.length_drop, List.length_drop, h.1], fun j cs hj => ?_⟩
  rw [List.getElem?_drop] at hj ⊢
  exact h.2 _ cs hj
theorem EachS.one {S : Nat → Prop} {w : World} {cs : Array Value} {n : Se} (h : SeS S w (.agg cs) n) : EachS S w [cs] [n] := by
  refine ⟨rfl, fun j c hj => ?_⟩
  cases j with
  | zero => simp at hj; subst hj; exact ⟨n, rfl, h⟩
  | succ j => simp at hj



/-- A slice of sessions as an argument holds it. -/
def SesAt (B : Nat) (w : World) (a : Option Addr) (T : List Se) : Prop :=
  ∀ i s, T[i]? = some s → ∃ b off v, a = some ⟨b, off, none⟩ ∧ b < B ∧ SeS (fun k => k < B) w v s ∧ ∀ j u, v.cells[j]? = some u → w.cell? ⟨b, off + i * 3 + j, none⟩ = some u
theorem SesAt.ext {w w' : World} {a : Option Addr} {T : List Se} (h : SesAt w.heap.size w a T) (he : Ext w w') : SesAt w'.heap.size w' a T := fun i s hi => by
  obtain ⟨b, off, v, e, hb, hv, hc⟩ := h i s hi
  exact ⟨b, off, v, e, Nat.lt_of_lt_of_le hb he.size, hv.imp (fun k hk => Nat.lt_of_lt_of_le hk he.size) fun b o u hk hu => (he.cell (p := ⟨b, o, none⟩) hk).trans hu, fun j u hj => (he.cell (p := ⟨b, off + i * 3 + j, none⟩) hb).trans (hc j u hj)⟩
theorem SesAt.below {B : Nat} {w w' : World} {a : Option Addr} {T : List Se} (h : SesAt B w a T) (he : Below B w w') : SesAt B w' a T := fun i s hi => by
  obtain ⟨b, off, v, e, hb, hv, hc⟩ := h i s hi
  exact ⟨b, off, v, e, hb, hv.imp (fun k hk => hk) fun b o u hk hu => (he.cell (p := ⟨b, o, none⟩) hk).trans hu, fun j u hj => (he.cell (p := ⟨b, off + i * 3 + j, none⟩) hb).trans (hc j u hj)⟩
theorem SesAt.nil (B : Nat) (w : World) (a : Option Addr) : SesAt B w a [] := fun i s h => by simp at h
/-- As an argument's list of sessions. -/
theorem RowsSe.ses {S : Nat → Prop} {w : World} {a : Option Addr} {vs : List (Array Value)} {L : List Se} (h : RowsSe S w a vs L) {B : Nat} (hS : ∀ k, S k → k < B) : SesAt B w a L := fun i n hi => by
  obtain ⟨b, off, ia, ic, e, hb, hc, hl, hA, _⟩ := h.row hi
  exact ⟨b, off, _, e, hS b hb, ⟨ia, ic, rfl, hl, hA.imp hS fun _ _ _ _ h => h⟩, hc⟩

/-- A row of the call's own that shows sessions made for it. -/
def OwnSe (base : Nat) (L : List Se) (v : Value) (w : World) : Prop :=
  ∃ vs : List (Array Value), w.ownsRow base 62 3 v L.length (vs.flatMap Array.toList) ∧ EachS (NewN base v w) w vs L
theorem EachS.imp {S S' : Nat → Prop} {w w' : World} {vs : List (Array Value)} {L : List Se} (h : EachS S w vs L) (hS : ∀ b, S b → S' b) (hw : ∀ (b o : Nat) u, S b → w.cell? ⟨b, o, none⟩ = some u → w'.cell? ⟨b, o, none⟩ = some u) : EachS S' w' vs L :=
  ⟨h.1, fun j cs hj => by
    obtain ⟨n, hn, hN⟩ := h.2 j cs hj
    exact ⟨n, hn, SeS.imp hN hS fun b o u hb hu => hw b o u hb hu⟩⟩
theorem OwnSe.nil (base : Nat) (w : World) : OwnSe base [] (.slice none 0 0) w :=
  ⟨[], World.ownsRow_nil _ _ _ _, ⟨rfl, fun j cs h => by simp at h⟩⟩
theorem OwnSe.ext {base : Nat} {L : List Se} {v : Value} {w w' : World} (h : OwnSe base L v w) (hE : Ext w w') : OwnSe base L v w' := by
  obtain ⟨vs, h1, h2⟩ := h
  exact ⟨vs, h1.kept (grown_of_ext hE none) (Classical.em _), h2.imp (fun b hb => ⟨hb.1, Nat.lt_of_lt_of_le hb.2.1 hE.size, hb.2.2⟩) fun b o u _ hu => cell_ext hE b o u hu⟩
theorem OwnSe.step {base : Nat} {L : List Se} {v v' : Value} {w w5 : World} {vs : List (Array Value)} {cs : Array Value} {n : Se} {t : TypeId} (hE : EachS (NewN base v w) w vs L) (hN : SeS (NewN base v w) w (.agg cs) n)
    (hown : w5.ownsRow base 62 3 v' (L.length + 1) (vs.flatMap Array.toList ++ cs.toList)) (hg : (w.alloc (.cells cs t)).grownBy w5 v.ownBlock) (ho : v'.ownBlock = v.ownBlock ∨ v'.ownBlock = some (w.heap.size + 1)) :
    OwnSe base (L ++ [n]) v' w5 := by
  have hz := hg.size
  simp only [World.size_alloc] at hz
  have hS : ∀ b, NewN base v w b → NewN base v' w5 b := fun b hb => ⟨hb.1, by have := hb.2.1; omega, fun e => by
    rcases ho with h | h
    · rw [h] at e; exact hb.2.2 e
    · rw [h] at e; cases e; have := hb.2.1; omega⟩
  have hw : ∀ (b o : Nat) u, NewN base v w b → w.cell? ⟨b, o, none⟩ = some u → w5.cell? ⟨b, o, none⟩ = some u := fun b o u hb hu => by
    rw [World.cell?_of_block ((hg.block b (by simp; have := hb.2.1; omega) (fun e => hb.2.2 e.symm)).trans (heap_alloc_old w _ hb.2.1))]
    exact hu
  refine ⟨vs ++ [cs], by simpa using hown, (hE.imp hS hw).append ((EachS.one hN).imp hS hw)⟩
/-- Memory as it was, but the row. -/
theorem OwnSe.keep {base : Nat} {v : Value} {w w5 : World} {cs : Array Value} {n : Nat} {xs : List Value} {t : TypeId} {w0 : World} (hE0 : Ext w0 w) (hb : w0.heap.size ≤ base) (hown : w.ownsRow base 62 3 v n xs) (hg : (w.alloc (.cells cs t)).grownBy w5 v.ownBlock) : Ext w0 w5 := by
  refine hE0.trans' ⟨hg.os, hg.tape, hg.output, by have := hg.size; simp at this; omega, fun k hk => ?_⟩
  have hz := hE0.size
  refine (hg.block k (by simp; omega) (fun e => ?_)).trans (heap_alloc_old w _ (by omega))
  have := ownBlock_ge hown k e.symm
  omega
theorem ownsRow_mono {w : World} {b b' e size n : Nat} {v : Value} {xs : List Value} (h : w.ownsRow b e size v n xs) (hb : b' ≤ b) : w.ownsRow b' e size v n xs := by
  refine ⟨h.1, ?_⟩
  rcases h.2 with h1 | ⟨g, cap, cur, e1, hg, r⟩
  · exact .inl h1
  · exact .inr ⟨g, cap, cur, e1, Nat.le_trans hb hg, r⟩
theorem OwnSe.mono {b b' : Nat} {L : List Se} {v : Value} {w : World} (h : OwnSe b L v w) (hb : b' ≤ b) : OwnSe b' L v w := by
  obtain ⟨vs, h1, h2⟩ := h
  exact ⟨vs, ownsRow_mono h1 hb, h2.imp (fun k hk => ⟨Nat.le_trans hb hk.1, hk.2⟩) fun _ _ _ _ h => h⟩
/-- The row as rows that show sessions. -/
theorem OwnSe.rows {base : Nat} {L : List Se} {v : Value} {w : World} (h : OwnSe base L v w) : ∃ a c vs, v = .slice a L.length c ∧ L.length ≤ c ∧ c ≤ maxLen ∧ RowsSe (fun k => base ≤ k ∧ k < w.heap.size) w a vs L ∧ PlainA a c := by
  obtain ⟨vs, h1, h2⟩ := h
  obtain ⟨a, c, e, h3, h4, h5, h6⟩ := RowsSe.of_own (S := fun k => base ≤ k ∧ k < w.heap.size) h1 rfl h2.1 (fun k h1 h2 => ⟨h1, h2⟩) (h2.imp (fun b hb => ⟨hb.1, hb.2.1⟩) fun _ _ _ _ h => h).2
  exact ⟨a, c, vs, e, h3, h4, h5, h6⟩

/-- A session that was made for it is appended to a row of the call's own. -/
theorem wpList_append_se {ops : Array Oper} {rest : List Oper} {o : Oper} {a : Act} {Q : Exit → Act → World → Prop} {W4 W5 : World} (hgd : o.guard = none) (s x : Operand)
    (ho : o.op = .call { callee := .builtin .append, args := #[s, x], argTypes := #[23, 23] })
    (base : Nat) (L : List Se) (ov : Value) (hO : OwnSe base L ov W4) (hE : Ext W4 W5) (hb : base ≤ W4.heap.size) (n : Se) (cs : Array Value) (hN : SeS (fun k => W4.heap.size ≤ k ∧ k < W5.heap.size) W5 (.agg cs) n) (hl : (L.length + 1) * 40 ≤ 140737488355328)
    (hs : a.eval s = ov) (hx : a.eval x = .slice (some ⟨W5.heap.size, 0, none⟩) 1 1)
    (hK : ∀ v' W6, OwnSe base (L ++ [n]) v' W6 → (∀ w0, Ext w0 W5 → w0.heap.size ≤ base → Ext w0 W6) → wpList Tryz.prog ops Q rest (a.put o.dst v') W6) : wpList Tryz.prog ops Q (o :: rest) a (W5.alloc (.cells cs 62)) := by
  obtain ⟨qa, qc, hcs, hQl, hQ1⟩ := hN
  cases hcs
  obtain ⟨ws, hown4, heach4⟩ := hO
  have hz5 := hE.size
  have hlt4 : ∀ g, ov.ownBlock = some g → base ≤ g ∧ g < W4.heap.size := fun g hg => hown4.lt g hg
  have hown5 := hown4.kept (grown_of_ext hE none) (Classical.em _)
  have heach5 : EachS (NewN base ov W5) W5 ws L := heach4.imp (fun b hb => ⟨hb.1, Nat.lt_of_lt_of_le hb.2.1 hE.size, hb.2.2⟩) fun b o u _ hu => cell_ext hE b o u hu
  have hnew5 : SeS (NewN base ov W5) W5 (.agg (seC n (.slice qa n.ids.length qc))) n := SeS.imp ⟨qa, qc, rfl, hQl, hQ1⟩ (fun k hk => ⟨by omega, hk.2, fun e => by have := (hlt4 k e).2; omega⟩) fun _ _ _ _ h => h
  have hs3 : Cells (W5.alloc (.cells (seC n (.slice qa n.ids.length qc)) 62)).heap.size (W5.alloc (.cells (seC n (.slice qa n.ids.length qc)) 62)) (some ⟨W5.heap.size, 0, none⟩) (seC n (.slice qa n.ids.length qc)).toList := fun j u hj => by
    refine ⟨_, 0, rfl, by simp, ?_⟩
    rw [Nat.zero_add, cell_of_row _ _ _ _ _ _ (heap_alloc_new W5 _)]
    simpa using hj
  have hsrc : Src Tryz.prog 3 23 (.slice (some ⟨W5.heap.size, 0, none⟩) 1 1) 1 (seC n (.slice qa n.ids.length qc)).toList (W5.alloc (.cells (seC n (.slice qa n.ids.length qc)) 62)) :=
    hs3.src Tryz.underlying23 1 1 (by simp [seC]) (fun u hu => by
      have := cells_se n qa n.ids.length qc
      rw [← Array.all_toList] at this
      exact List.all_eq_true.1 this u hu)
  obtain ⟨i0, hi, hz0, hz1', hz2⟩ := info_parts infoSe
  have hownA := hown5.alloc (.cells (seC n (.slice qa n.ids.length qc)) 62)
  refine wpList_append_src _ hgd s x 23 23 ho base 62 i0 (.agg #[.int .i64 0, .int .i32 0, .slice none 0 0]) 3 40 Tryz.underlying23 hi hz0 hz1' hz2 rfl (by decide) ov L.length _ hs hownA _ 1 _ hx hsrc (by unfold maxLen; omega) hl (by simp; omega) ?_
  intro v' w6 hown6 hg6 _ ho6
  exact hK v' w6 (OwnSe.step heach5 hnew5 hown6 hg6 (by simpa using ho6)) fun w0 hE0 hb0 => OwnSe.keep hE0 hb0 hown5 hg6

/-- The document's table: a list of sessions. -/
def RTbl (S : Nat → Prop) (w : World) (b : Nat) (L : List Se) : Prop :=
  ∃ (a : Option Addr) (cap : Nat) (vs : List (Array Value)), w.heap[b]? = some (.cells #[.slice a L.length cap] 59 (0, 0)) ∧ L.length ≤ cap ∧ cap ≤ maxLen ∧ (∀ k, S k → k < w.heap.size ∧ k ≠ b) ∧ RowsSe S w a vs L ∧ PlainA a cap
theorem RTbl.keep {S S' : Nat → Prop} {w w' : World} {b : Nat} {L : List Se} (h : RTbl S w b L) (hS : ∀ k, S k → S' k) (hb : w'.heap[b]? = w.heap[b]?) (hw : ∀ k, S k → w'.heap[k]? = w.heap[k]?) (hS' : ∀ k, S' k → k < w'.heap.size ∧ k ≠ b) : RTbl S' w' b L := by
  obtain ⟨a, cap, vs, h1, h2, h3, h4, h5, h6⟩ := h
  exact ⟨a, cap, vs, hb.trans h1, h2, h3, hS', h5.imp hS hw, h6⟩
theorem RTbl.lt {S : Nat → Prop} {w : World} {b : Nat} {L : List Se} (h : RTbl S w b L) : b < w.heap.size := by
  obtain ⟨a, cap, vs, h1, _⟩ := h
  exact (Array.getElem?_eq_some_iff.1 h1).1
theorem RTbl.bound {S : Nat → Prop} {w : World} {b : Nat} {L : List Se} (h : RTbl S w b L) : ∀ k, S k → k < w.heap.size ∧ k ≠ b := by
  obtain ⟨a, cap, vs, _, _, _, h4, _, _⟩ := h
  exact h4
theorem RTbl.ext {S : Nat → Prop} {w w' : World} {b : Nat} {L : List Se} (h : RTbl S w b L) (he : Ext w w') : RTbl S w' b L :=
  h.keep (fun _ h => h) (he.block b h.lt) (fun k hk => he.block k (h.bound k hk).1) fun k hk => ⟨Nat.lt_of_lt_of_le (h.bound k hk).1 he.size, (h.bound k hk).2⟩
end Go.Proofs.YtclekhjnnljjlaaGreatDoor
namespace Go.Proofs.YtclekhjnnljjlaaGreatDoor
open Go.ChangeShapes Go.WideShapes Go.ChangeAt Go.RowKit Go.Deep
set_option maxHeartbeats 2000000
set_option maxRecDepth 100000

theorem Tryz.cells_sess : Tryz.prog.cellsOf 62 = 3 := by kernel_rfl
theorem Tryz.bytes_sess : Tryz.prog.bytesOf 62 = 40 := by kernel_rfl
theorem Tryz.cells_ids : Tryz.prog.cellsOf 60 = 1 := by kernel_rfl
theorem Tryz.bytes_id : Tryz.prog.bytesOf 139 = 32 := by kernel_rfl

instance : Inhabited Se := ⟨⟨0, 0, []⟩⟩
theorem idCs_at : ∀ (l : List (ByteArray × ByteArray)) (j : Nat) (u : Value), (idCs l)[j]? = some u → ∃ i x, l[i]? = some x ∧ i * 2 ≤ j ∧ (idC x)[j - i * 2]? = some u
  | [], j, u, h => by simp [idCs] at h
  | x :: l, j, u, h => by
    rw [show idCs (x :: l) = idC x ++ idCs l from rfl] at h
    by_cases hj : j < 2
    · rw [List.getElem?_append_left (show j < (idC x).length from hj)] at h
      exact ⟨0, x, rfl, by omega, by simpa using h⟩
    · rw [List.getElem?_append_right (show (idC x).length ≤ j by simp [idC]; omega)] at h
      obtain ⟨i, y, h1, h2, h3⟩ := idCs_at l _ u h
      rw [show (idC x).length = 2 from rfl] at h2 h3
      refine ⟨i + 1, y, by simpa using h1, by omega, ?_⟩
      rw [show j - (i + 1) * 2 = j - 2 - i * 2 by omega]
      exact h3

section
variable {H : Type} {enc : TypeId × Value → H} {w : World} {fuel : Nat}
theorem open_id {n : Nat} {cs : List Value} {y : DataW H × List MemPlace} (h : DataW.trod enc Tryz.prog w 0 (fun _ => true) true n 139 cs = some y) (hz : Light 139 y.1) :
    ∃ x : ByteArray × ByteArray, cs = idC x ∧ x.1.size ≤ 140737488355328 ∧ x.2.size ≤ 140737488355328 := by
  obtain ⟨z0, z1, m, rfl, hl, g0, g1⟩ := trod_struct2 Tryz.underlying139 h
  rw [Tryz.cells_id] at hl
  match cs, hl with
  | [c0, c1], _ =>
    rw [Tryz.cells_str] at g0 g1
    simp only [List.drop_succ_cons, List.drop_zero, List.take_succ_cons, List.take_zero] at g0 g1
    obtain ⟨s0, e1, rfl, _⟩ := DataW.trod_string Tryz.underlying9 g0
    obtain ⟨s1, e2, rfl, _⟩ := DataW.trod_string Tryz.underlying9 g1
    simp only [List.cons.injEq, and_true] at e1 e2
    subst e1; subst e2
    exact ⟨⟨s0, s1⟩, rfl, light_str (light_agg Tryz.underlying139 hz (j := 0) rfl rfl), light_str (light_agg Tryz.underlying139 hz (j := 1) rfl rfl)⟩

/-- A slice of identities, opened. -/
theorem open_ids {v : Value} {x : DataW H × List MemPlace} (h : DataW.trod enc Tryz.prog w 0 (fun _ => true) true fuel 60 [v] = some x) (hz : Light 60 x.1) :
    ∃ (l : List (ByteArray × ByteArray)) (a : Option Addr) (cap : Nat), v = .slice a l.length cap ∧ l.length ≤ cap ∧ l.length * 32 ≤ 140737488355328 ∧ (∀ x ∈ l, x.1.size ≤ 140737488355328 ∧ x.2.size ≤ 140737488355328) ∧ Cells w.heap.size w a (idCs l) := by
  rcases open_slice Tryz.underlying60 h with ⟨hcs, rfl⟩ | ⟨a, len, cap, m, n, D, Pl, hcs, _, hl, hm, hmm, rfl, hx⟩
  · simp only [List.cons.injEq, and_true] at hcs
    subst hcs
    exact ⟨[], none, 0, rfl, by simp, by simp, by simp, Cells.nil _ _ _⟩
  · simp only [List.cons.injEq, and_true] at hcs
    subst hcs
    simp only [if_true] at hmm
    subst hmm
    have hw := light_len Tryz.underlying60 hz
    rw [Tryz.bytes_id] at hw
    simp only [List.length_map, List.length_range] at hw
    obtain ⟨X, hX⟩ := choose_lt (n := len) (p := fun i (x : ByteArray × ByteArray) => (∀ r u, (idC x)[r]? = some u → w.cell? ((a.add (i * 2)).add r) = some u) ∧ x.1.size ≤ 140737488355328 ∧ x.2.size ≤ 140737488355328) fun i hi => by
      obtain ⟨cs', h1, h2⟩ := hx i (by omega)
      obtain ⟨x, rfl, z1, z2⟩ := open_id h2 (light_elem Tryz.underlying60 hz (List.mem_map.2 ⟨i, List.mem_range.2 hi, rfl⟩))
      rw [Tryz.cells_id] at h1
      obtain ⟨_, _, h3⟩ := World.cells?_some h1
      refine ⟨x, fun r u hr => ?_, z1, z2⟩
      rw [h3 r (by have := (List.getElem?_eq_some_iff.1 hr).1; simpa [idC] using this)]
      exact hr
    refine ⟨(List.range len).map X, some a, m, by simp, by simp; omega, by simp; omega, fun x hx' => ?_, fun j u hj => ?_⟩
    · obtain ⟨i, hi, rfl⟩ := List.mem_map.1 hx'
      exact (hX i (List.mem_range.1 hi)).2
    · obtain ⟨i, x, h1, h2, h3⟩ := idCs_at _ _ _ hj
      simp only [List.getElem?_map] at h1
      by_cases hi : i < len
      · rw [List.getElem?_range hi] at h1
        simp only [Option.map_some, Option.some.injEq] at h1
        subst h1
        have hc0 := (hX 0 (by omega)).1 0 _ rfl
        have hsp := World.cell?_spot hc0
        have hlt := World.block_lt_of_cell? _ _ hc0
        obtain ⟨b, off, sp⟩ := a
        obtain rfl : sp = none := by simpa [Addr.add] using hsp
        refine ⟨b, off, rfl, by simpa [Addr.add] using hlt, ?_⟩
        have := (hX i hi).1 _ u h3
        rw [add_plain, add_plain] at this
        rw [← this]
        congr 2
        omega
      · rw [List.getElem?_eq_none (by simp; omega)] at h1
        simp at h1

theorem open_session {n : Nat} {cs : List Value} {y : DataW H × List MemPlace} (h : DataW.trod enc Tryz.prog w 0 (fun _ => true) true n 62 cs = some y) (hz : Light 62 y.1) :
    ∃ (s : Se) (ia : Option Addr) (ic : Nat), cs = (seC s (.slice ia s.ids.length ic)).toList ∧ FitS s ∧ s.ids.length ≤ ic ∧ Cells w.heap.size w ia (idCs s.ids) := by
  obtain ⟨y0, y1, y2, m, rfl, hl, h0, h1, h2⟩ := trod_struct3 Tryz.underlying62 h
  rw [Tryz.cells_sess] at hl
  match cs, hl with
  | [c0, c1, c2], _ =>
    simp only [Tryz.cells_i64, Tryz.cells_i32, Tryz.cells_ids, List.drop_succ_cons, List.drop_zero, List.take_succ_cons, List.take_zero] at h0 h1 h2
    obtain ⟨z0, e0, _, r0⟩ := DataW.trod_int Tryz.underlying2 h0
    obtain ⟨z1, e1, _, r1⟩ := DataW.trod_int Tryz.underlying21 h1
    obtain ⟨l, ia, ic, e2, hic, hi1, hi2, hi3⟩ := open_ids h2 (light_agg Tryz.underlying62 hz (j := 2) rfl rfl)
    simp only [List.cons.injEq, and_true] at e0 e1
    subst e0 e1 e2
    exact ⟨⟨z0, z1, l⟩, ia, ic, rfl, ⟨r0, r1, hi1, fun x hx => ⟨by have := (hi2 x hx).1; omega, by have := (hi2 x hx).2; omega⟩⟩, hic, hi3⟩

/-- A slice of sessions, opened. -/
theorem open_sessions {v : Value} {x : DataW H × List MemPlace} (h : DataW.trod enc Tryz.prog w 0 (fun _ => true) true fuel 23 [v] = some x) (hz : Light 23 x.1) :
    ∃ (l : List Se) (a : Option Addr) (cap : Nat), v = .slice a l.length cap ∧ l.length * 40 ≤ 140737488355328 ∧ (∀ s ∈ l, FitS s) ∧ SesAt w.heap.size w a l := by
  rcases open_slice Tryz.underlying23 h with ⟨hcs, rfl⟩ | ⟨a, len, cap, m, n, D, Pl, hcs, _, hl, hm, hmm, rfl, hx⟩
  · simp only [List.cons.injEq, and_true] at hcs
    subst hcs
    exact ⟨[], none, 0, rfl, by simp, by simp, fun i n h => (by simp at h)⟩
  · simp only [List.cons.injEq, and_true] at hcs
    subst hcs
    simp only [if_true] at hmm
    subst hmm
    have hw := light_len Tryz.underlying23 hz
    rw [Tryz.bytes_sess] at hw
    simp only [List.length_map, List.length_range] at hw
    obtain ⟨X, hX⟩ := choose_lt (n := len) (p := fun i (s : Se) => ∃ v, SeS (fun k => k < w.heap.size) w v s ∧ (∀ r u, v.cells[r]? = some u → w.cell? ((a.add (i * 3)).add r) = some u) ∧ FitS s ∧ v.cells[0]? ≠ none) fun i hi => by
      obtain ⟨cs', h1, h2⟩ := hx i (by omega)
      obtain ⟨s, ia, ic, rfl, hf, hic, hI⟩ := open_session h2 (light_elem Tryz.underlying23 hz (List.mem_map.2 ⟨i, List.mem_range.2 hi, rfl⟩))
      rw [Tryz.cells_sess] at h1
      obtain ⟨_, _, h3⟩ := World.cells?_some h1
      refine ⟨s, _, ⟨ia, ic, rfl, hic, hI⟩, fun r u hr => ?_, hf, fun h => by cases h⟩
      have hr' : (seC s (.slice ia s.ids.length ic))[r]? = some u := hr
      rw [h3 r (by have := (Array.getElem?_eq_some_iff.1 hr').1; simpa [seC] using this)]
      simpa using hr'
    refine ⟨(List.range len).map X, some a, m, by simp, by simp; omega, fun x hx' => ?_, fun j n hj => ?_⟩
    · obtain ⟨i, hi, rfl⟩ := List.mem_map.1 hx'
      obtain ⟨_, _, _, h, _⟩ := hX i (List.mem_range.1 hi)
      exact h
    · simp only [List.getElem?_map] at hj
      by_cases hi : j < len
      · rw [List.getElem?_range hi] at hj
        simp only [Option.map_some, Option.some.injEq] at hj
        subst hj
        obtain ⟨v, hv, hc, _, _⟩ := hX j hi
        obtain ⟨_, _, hc00, _, h0⟩ := hX 0 (by omega)
        obtain ⟨u0, hu0⟩ := Option.ne_none_iff_exists'.1 h0
        have hc0 := hc00 0 _ hu0
        have hsp := World.cell?_spot hc0
        have hlt := World.block_lt_of_cell? _ _ hc0
        obtain ⟨b, off, sp⟩ := a
        obtain rfl : sp = none := by simpa [Addr.add] using hsp
        refine ⟨b, off, v, rfl, by simpa [Addr.add] using hlt, hv, fun r u hr => ?_⟩
        have := hc r u hr
        rw [add_plain, add_plain] at this
        rw [← this]
      · rw [List.getElem?_eq_none (by simp; omega)] at hj
        simp at hj
end
end Go.Proofs.YtclekhjnnljjlaaGreatDoor
namespace Go.Proofs.YtclekhjnnljjlaaGreatDoor
open Go.RowKit
set_option maxHeartbeats 2000000
set_option maxRecDepth 100000

def PhiV (n0 bt bn g : Nat) (s : ByteArray) (x : Value) (bb : Bool) : Nat → Value → World → Prop
  | 0, v, _ => v = .pointer (some ⟨bt, 0, none⟩)
  | 1, v, _ => v = .pointer (some ⟨bt, 0, none⟩)
  | 2, v, _ => v = .pointer (some ⟨bt, 0, none⟩)
  | 3, v, _ => v = .map (some bn)
  | 4, v, _ => v = .pointer (some ⟨g, 0, none⟩)
  | 5, v, _ => v = .string s
  | 6, v, _ => v = .tuple #[x, .bool bb]
  | 7, v, _ => v = .tuple #[x, .bool bb]
  | 8, v, _ => v = x
  | 9, v, _ => v = .bool bb
  | 10, v, w => ∃ (g : Nat) (cs : Array Value), v = .pointer (some ⟨g, 0, none⟩) ∧ n0 ≤ g ∧ w.heap[g]? = some (.cells cs 88 (0, 0)) ∧ cs.size = 17
  | 12, v, _ => v = .bool bb
  | _, _, _ => True
theorem PhiV.stab (B n0 bt bn g : Nat) (s : ByteArray) (x : Value) (bb : Bool) (i : Nat) (v : Value) (w w' : World) (h : PhiV n0 bt bn g s x bb i v w) (he : Shp B w w') : PhiV n0 bt bn g s x bb i v w' := by
  unfold PhiV at h ⊢
  split at h <;> first | exact h | (obtain ⟨g, cs, h1, h2, h3, h4⟩ := h; obtain ⟨c', k1, k2⟩ := he.rows g cs _ h3; exact ⟨g, c', h1, h2, k1, k2.trans h4⟩)

theorem there_regionL {id : Nat} {Q : Exit → Act → World → Prop} {a0 : Act} {w0 : World} (s0 s1 s2 s3 s4 s5 s6 s7 s8 s9 s10 s11 tt bx : Tmp) (pos : String) (m : Nat)
    (hsz : a0.tmps.size = m) (hnd : decide ([s0, s1, s2, s3, s4, s5, s6, s7, s8, s9, s10, s11].Nodup) = true) (hlt : ([s0, s1, s2, s3, s4, s5, s6, s7, s8, s9, s10, s11].all fun s => decide (s < m)) = true)
    (hnt : ([s0, s1, s2, s3, s4, s5, s6, s7, s8, s9, s10, s11].all fun s => s != tt && s != bx) = true)
    {S : Nat → Prop} {bt bn : Nat} {M : List (Key × Nd)} {N : Nat} {bc : Array Value} (hblk : w0.heap[bt]? = some (.cells bc 125 (0, 0))) (hb0 : bc[0]? = some (.map (some bn))) (hNd : NodesAt S w0 bn M N) (g : Nat) (s : ByteArray) (cs : Array Value) (hbox : w0.heap[g]? = some (.cells cs 88 (0, 0))) (hcs : cs[0]? = some (.string s)) (hps : s.size ≤ maxLen)
    (htt : a0.tmps.getD tt undef = .pointer (some ⟨bt, 0, none⟩)) (hbx : a0.tmps.getD bx undef = .pointer (some ⟨g, 0, none⟩))
    (hend : ∀ u0 u1 u2 u3 u4 u5 u6 u7 u8 u9 u10 w, Ext w0 w → Q .normal (((((((((((((a0.put (some s0) u0).put (some s1) u1).put (some s2) u2).put (some s3) u3).put (some s4) u4).put (some s5) u5).put (some s6) u6).put (some s7) u7).put (some s8) u8).put (some s9) u9).put (some s10) u10).put (some s11) (.bool (mget M s.data.toList).isSome))) w) :
    (Code.region id #[{ dst := some s0, op := Op.move (Operand.tmp tt), type := 74, pos := pos, after := #[], guard := none }, { dst := some s1, op := Op.nilCheck (Operand.tmp s0), type := 0, pos := pos, after := #[{ on := 0, ground := Ground.data }], guard := none }, { dst := some s2, op := Op.fieldAddr 125 (Operand.tmp s1) 0, type := 0, pos := pos, after := #[{ on := 1, ground := Ground.data }], guard := none }, { dst := some s3, op := Op.load 92 (Operand.tmp s2), type := 92, pos := pos, after := #[{ on := 2, ground := Ground.data }], guard := none }, { dst := some s4, op := Op.fieldAddr 88 (Operand.tmp bx) 0, type := 0, pos := pos, after := #[], guard := none }, { dst := some s5, op := Op.load 9 (Operand.tmp s4), type := 9, pos := pos, after := #[{ on := 4, ground := Ground.data }], guard := none }, { dst := some s6, op := Op.lookup 92 (Operand.tmp s3) (Operand.tmp s5) true, type := 99, pos := pos, after := #[{ on := 3, ground := Ground.data }, { on := 5, ground := Ground.data }], guard := none }, { dst := some s7, op := Op.move (Operand.tmp s6), type := 99, pos := pos, after := #[{ on := 6, ground := Ground.data }], guard := none }, { dst := some s8, op := Op.extract (Operand.tmp s7) 0, type := 88, pos := pos, after := #[{ on := 7, ground := Ground.data }], guard := none }, { dst := some s9, op := Op.extract (Operand.tmp s7) 1, type := 4, pos := pos, after := #[{ on := 7, ground := Ground.data }, { on := 11, ground := Ground.gcOnly Departure.lateStores }], guard := none }, { dst := some s10, op := Op.alloc 88, type := 0, pos := pos, after := #[], guard := none }, { dst := none, op := Op.store 88 (Operand.tmp s10) (Operand.tmp s8), type := 0, pos := pos, after := #[{ on := 10, ground := Ground.data }, { on := 8, ground := Ground.data }, { on := 0, ground := Ground.phase }, { on := 1, ground := Ground.phase }, { on := 2, ground := Ground.phase }, { on := 3, ground := Ground.phase }, { on := 4, ground := Ground.phase }, { on := 5, ground := Ground.phase }, { on := 6, ground := Ground.phase }, { on := 7, ground := Ground.phase }, { on := 8, ground := Ground.phase }, { on := 9, ground := Ground.textOnly Departure.lateStores }, { on := 10, ground := Ground.phase }], guard := none }, { dst := some s11, op := Op.assign (Operand.tmp s9), type := 4, pos := pos, after := #[{ on := 9, ground := Ground.data }, { on := 11, ground := Ground.chain }, { on := 0, ground := Ground.phase }, { on := 1, ground := Ground.phase }, { on := 2, ground := Ground.phase }, { on := 3, ground := Ground.phase }, { on := 4, ground := Ground.phase }, { on := 5, ground := Ground.phase }, { on := 6, ground := Ground.phase }, { on := 7, ground := Ground.phase }, { on := 8, ground := Ground.phase }, { on := 9, ground := Ground.phase }, { on := 10, ground := Ground.phase }, { on := 11, ground := Ground.phase }], guard := none }] true).wp Tryz.prog Q a0 w0 := by
  obtain ⟨mm, hm, hr⟩ := hNd.ex
  have hx : ∃ (da : Option Addr) (dc : Nat × Nat) (aa : Option Addr) (ac : Nat × Nat) (nn : Nd), (mget mm s.data.toList).getD (.agg zeroNd) = .agg (ndC nn (.slice da dc.1 dc.2) (.slice aa ac.1 ac.2)) := by
    rcases hr.get s.data.toList with ⟨_, h2⟩ | ⟨y, v, _, h2, h3⟩
    · rw [h2]; exact ⟨none, (0, 0), none, (0, 0), ⟨⟨#[]⟩, [], [], 0, 0, 0, 0, 0, 0, 0, 0, 0, 0, 0, false, 0, 0⟩, rfl⟩
    · obtain ⟨da, dc, aa, ac, rfl, _⟩ := h3
      rw [h2]; exact ⟨da, (_, dc), aa, (_, ac), y, rfl⟩
  have hbb : (mget mm s.data.toList).isSome = (mget M s.data.toList).isSome := by
    rcases hr.get s.data.toList with ⟨h1, h2⟩ | ⟨y, v, h1, h2, _⟩
    · rw [h1, h2]; rfl
    · rw [h1, h2]; rfl
  obtain ⟨da, dc, aa, ac, nn, hx⟩ := hx
  have hbtl := (Array.getElem?_eq_some_iff.1 hblk).1
  have hbnl : bn < w0.heap.size := hm.lt
  have hgl : g < w0.heap.size := (Array.getElem?_eq_some_iff.1 hbox).1
  simp only [List.all_cons, List.all_nil, Bool.and_eq_true, bne_iff_ne, ne_eq, Bool.and_true, decide_eq_true_eq] at hnt hlt
  have nt : ∀ (ops : Array Oper) (t : Tmp), ops.toList.map (·.dst) = [some s0, some s1, some s2, some s3, some s4, some s5, some s6, some s7, some s8, some s9, some s10, none, some s11] → (¬ s0 = t ∧ ¬ s1 = t ∧ ¬ s2 = t ∧ ¬ s3 = t ∧ ¬ s4 = t ∧ ¬ s5 = t ∧ ¬ s6 = t ∧ ¬ s7 = t ∧ ¬ s8 = t ∧ ¬ s9 = t ∧ ¬ s10 = t ∧ ¬ s11 = t) → (ops.toList.all fun o => o.dst != some t) = true := fun ops t h hn => by
    have e : (ops.toList.all fun o => o.dst != some t) = (ops.toList.map (·.dst)).all fun d => d != some t := by rw [List.all_map]; rfl
    rw [e, h]
    simp [hn]
  refine wp_region_rel_e m (Shp w0.heap.size) (Shp.refl _) (fun _ _ _ => Shp.trans) (fun w => ⟨(Below.refl _ w).drew, fun _ cs _ h => ⟨cs, h, rfl⟩⟩) (by kernel_rfl) (PhiV w0.heap.size bt bn g s ((mget mm s.data.toList).getD (.agg zeroNd)) (mget M s.data.toList).isSome) (PhiV.stab _ _ _ _ _ _ _ _) ?hund ?hchk hsz ?hd ?hend
  case hund =>
    intro i v w h ho
    by_cases h11 : i = 11
    · subst h11; exact trivial
    · match i, h11, ho with
      | 0, _, ho | 1, _, ho | 2, _, ho | 3, _, ho | 4, _, ho | 5, _, ho | 6, _, ho | 7, _, ho | 8, _, ho | 9, _, ho | 10, _, ho | 12, _, ho => simp at ho
      | i + 13, _, ho => simp at ho
  case hchk =>
    simp only [Bool.and_eq_true]
    refine ⟨⟨hnd, ?_⟩, ?_⟩
    · rfl
    · simp [hlt]
  case hend =>
    intro us w hS hl hP
    obtain ⟨u0, u1, u2, u3, u4, u5, u6, u7, u8, u9, u10, u11, u12, rfl⟩ := us13 us hl
    have e12 : u12 = .bool (mget M s.data.toList).isSome := hP 12 _ rfl
    rw [e12]
    have h := hend u0 u1 u2 u3 u4 u5 u6 u7 u8 u9 u10 w hS.below
    simp only [filled, List.zip_cons_cons, List.zip_nil_right, List.foldl_cons, List.foldl_nil, put_none]
    exact h
  case hd =>
    refine ⟨?_, ?_, ?_, ?_, ?_, ?_, ?_, ?_, ?_, ?_, ?_, ?_, ?_, trivial⟩
    · exact dutyR_free rfl fun a w' hE hF hA => wp_value (w' := w') (ex_move rfl) ⟨_, rfl, hF.slot tt _ (nt _ tt rfl (by simp [hnt])) htt, Shp.refl _ _⟩
    · refine dutyR_free rfl fun a w' hE hF hA => ?_
      have x1 : a.eval (.tmp s0) = _ := hA.slot 0 s0 rfl rfl ⟨⟨0, .data⟩, by simp, rfl, rfl⟩
      exact wp_value (ex_nilCheck rfl _ x1) ⟨_, rfl, rfl, Shp.refl _ _⟩
    · refine dutyR_free rfl fun a w' hE hF hA => ?_
      have x1 : a.eval (.tmp s1) = _ := hA.slot 1 s1 rfl rfl ⟨⟨1, .data⟩, by simp, rfl, rfl⟩
      exact wp_value (v := .pointer (some ⟨bt, 0, none⟩)) (w' := w') (by simp only [execOp, x1]; simp [go_sem]) ⟨_, rfl, rfl, Shp.refl _ _⟩
    · refine dutyR_free rfl fun a w' hE hF hA => ?_
      have x1 : a.eval (.tmp s2) = _ := hA.slot 2 s2 rfl rfl ⟨⟨2, .data⟩, by simp, rfl, rfl⟩
      refine wp_value (ex_cell rfl _ (.map (some bn)) x1 ?_ rfl Tryz.underlying92) ⟨_, rfl, rfl, Shp.refl _ _⟩
      rw [cell_of_row w' bt 0 _ _ _ ((hE.below.block bt hbtl).trans hblk)]
      exact hb0
    · refine dutyR_free rfl fun a w' hE hF hA => ?_
      have x1 : a.eval (.tmp bx) = _ := hF.slot bx _ (nt _ bx rfl (by simp [hnt])) hbx
      exact wp_value (v := .pointer (some ⟨g, 0, none⟩)) (w' := w') (by simp only [execOp, x1]; simp [go_sem]) ⟨_, rfl, rfl, Shp.refl _ _⟩
    · refine dutyR_free rfl fun a w' hE hF hA => ?_
      have x1 : a.eval (.tmp s4) = _ := hA.slot 4 s4 rfl rfl ⟨⟨4, .data⟩, by simp, rfl, rfl⟩
      refine wp_value (ex_cell rfl _ (.string s) x1 ?_ rfl Tryz.underlying9) ⟨_, rfl, rfl, Shp.refl _ _⟩
      rw [cell_of_row w' g 0 _ _ _ ((hE.below.block g hgl).trans hbox)]
      exact hcs
    · refine dutyR_free rfl fun a w' hE hF hA => ?_
      have x1 : a.eval (.tmp s3) = _ := hA.slot 3 s3 rfl rfl ⟨⟨3, .data⟩, by simp, rfl, rfl⟩
      have x2 : a.eval (.tmp s5) = _ := hA.slot 5 s5 rfl rfl ⟨⟨5, .data⟩, by simp, rfl, rfl⟩
      have hq := SMap.look_ok (e := 88) (hm.keep (hE.below.block bn (hbnl))) strT Tryz.underlying92 (z := .agg zeroNd) (by kernel_rfl) hps
      rw [hbb] at hq
      exact wp_value (w' := w') (by simp only [execOp, x1, x2, hq, Sem.run_bind, Result.andThen_ok, Sem.run_pure]) ⟨_, rfl, rfl, Shp.refl _ _⟩
    · refine dutyR_free rfl fun a w' hE hF hA => ?_
      exact wp_value (w' := w') (ex_move rfl) ⟨_, rfl, hA.slot 6 s6 rfl rfl ⟨⟨6, .data⟩, by simp, rfl, rfl⟩, Shp.refl _ _⟩
    · refine dutyR_free rfl fun a w' hE hF hA => ?_
      have x1 : a.eval (.tmp s7) = _ := hA.slot 7 s7 rfl rfl ⟨⟨7, .data⟩, by simp, rfl, rfl⟩
      exact wp_value (v := (mget mm s.data.toList).getD (.agg zeroNd)) (w' := w') (by simp only [execOp, x1]; simp [go_sem]) ⟨_, rfl, rfl, Shp.refl _ _⟩
    · refine dutyR_free rfl fun a w' hE hF hA => ?_
      have x1 : a.eval (.tmp s7) = _ := hA.slot 7 s7 rfl rfl ⟨⟨7, .data⟩, by simp, rfl, rfl⟩
      exact wp_value (v := .bool (mget M s.data.toList).isSome) (w' := w') (by simp only [execOp, x1]; simp [go_sem]) ⟨_, rfl, rfl, Shp.refl _ _⟩
    · refine dutyR_free rfl fun a w' hE hF hA => ?_
      exact wp_value (w' := w'.alloc (.cells zeroNd 88)) (v := .pointer (some ⟨w'.heap.size, 0, none⟩)) (by kernel_rfl) ⟨_, rfl, ⟨_, _, rfl, hE.below.size, heap_alloc_new w' _, rfl⟩, Shp.of_ext (Ext.alloc _ _) hE.below.size⟩
    · refine dutyR_free rfl fun a w' hE hF hA => ?_
      obtain ⟨g', c', x1, hg0, hg', hc'⟩ := hA.slot 10 s10 rfl rfl ⟨⟨10, .data⟩, by simp, rfl, rfl⟩
      have x2 : a.eval (.tmp s8) = _ := hA.slot 8 s8 rfl rfl ⟨⟨8, .data⟩, by simp, rfl, rfl⟩
      rw [hx] at x2
      refine wp_store_row 88 (.tmp s10) (.tmp s8) rfl g' _ x1 x2 88 c' hg' sizeNd hc' (cells_node nn da aa _ _ _ _) ⟨_, rfl, trivial, ⟨⟨rfl, rfl, rfl, by simp, fun k hk => setRow_other _ _ _ _ (by omega)⟩, fun k cs t hk => ?_⟩⟩
      by_cases e : k = g'
      · subst e
        rw [hg'] at hk
        cases hk
        exact ⟨_, setRow_heap _ _ _ _ _ _ hg', hc'.symm⟩
      · exact ⟨cs, (setRow_other _ _ _ _ e).trans hk, rfl⟩
    · refine dutyR_free rfl fun a w' hE hF hA => ?_
      exact wp_value (w' := w') (ex_assign rfl) ⟨_, rfl, hA.slot 9 s9 rfl rfl ⟨⟨9, .data⟩, by simp, rfl, rfl⟩, Shp.refl _ _⟩
end Go.Proofs.YtclekhjnnljjlaaGreatDoor
namespace Go.Proofs.YtclekhjnnljjlaaGreatDoor
open Go.RowKit
inductive Sp where
  | val (v : Value)
  | prop (p : Value → World → Prop)
def Sp.ok : Sp → Value → World → Prop
  | .val x, v, _ => v = x
  | .prop p, v, w => p v w
def spP (l : List Sp) (i : Nat) (v : Value) (w : World) : Prop := match l[i]? with
  | some s => s.ok v w
  | none => False
/-- The properties stay. -/
def stayS : List Sp → Prop
  | [] => True
  | .val _ :: r => stayS r
  | .prop p :: r => (∀ v w w', p v w → Ext w w' → p v w') ∧ stayS r
theorem stayS.at : ∀ {l : List Sp}, stayS l → ∀ (i : Nat) (s : Sp), l[i]? = some s → ∀ v w w', s.ok v w → Ext w w' → s.ok v w'
  | [], _, i, s, h, _, _, _, _, _ => by simp at h
  | .val _ :: r, h, 0, s, hs, v, w, w', hv, _ => by simp at hs; subst hs; exact hv
  | .prop p :: r, h, 0, s, hs, v, w, w', hv, hE => by simp at hs; subst hs; exact h.1 v w w' hv hE
  | .val _ :: r, h, i + 1, s, hs, v, w, w', hv, hE => stayS.at (l := r) h i s (by simpa using hs) v w w' hv hE
  | .prop p :: r, h, i + 1, s, hs, v, w, w', hv, hE => stayS.at (l := r) h.2 i s (by simpa using hs) v w w' hv hE
/-- For all values that are as told. -/
def forS : List Sp → World → (List Value → Prop) → Prop
  | [], _, K => K []
  | .val v :: r, w, K => forS r w fun t => K (v :: t)
  | .prop p :: r, w, K => ∀ u, p u w → forS r w fun t => K (u :: t)
theorem forS_all : ∀ (l : List Sp) (w : World) (K : List Value → Prop), forS l w K → ∀ us : List Value, us.length = l.length → (∀ i u, us[i]? = some u → spP l i u w) → K us
  | [], w, K, h, us, hl, _ => by
    obtain rfl := List.eq_nil_of_length_eq_zero (by simpa using hl)
    exact h
  | .val v :: r, w, K, h, [], hl, _ => by simp at hl
  | .prop v :: r, w, K, h, [], hl, _ => by simp at hl
  | .val v :: r, w, K, h, u :: us, hl, hP => by
    have hu : u = v := hP 0 u rfl
    subst hu
    exact forS_all r w _ h us (by simpa using hl) fun i x hx => hP (i + 1) x (by simpa using hx)
  | .prop p :: r, w, K, h, u :: us, hl, hP => by
    have hu : p u w := hP 0 u rfl
    exact forS_all r w _ (h u hu) us (by simpa using hl) fun i x hx => hP (i + 1) x (by simpa using hx)
section
variable {P : Program} {ops : Array Oper} {Q : Exit → Act → World → Prop} {a0 : Act} {w0 : World}
theorem Ahead.pick {Φ : Nat → Value → World → Prop} {o p : Oper} {a : Act} {w : World} (h : Ahead ops Φ o a w) (j : Nat) (d : Tmp) (v : Value) (hp : ops[j]? = some p) (hd : p.dst = some d) (he : ∃ e ∈ o.after.toList, e.on = j ∧ Region.binds .any e = true) (hv : ∀ u, Φ j u w → u = v) : a.eval (.tmp d) = v :=
  hv _ (h.slot j d hp hd he)
/-- An operation whose guard says no. -/
theorem duty_no {Φ : Nat → Value → World → Prop} {i j : Nat} {b : Bool} {o p : Oper} {d : Tmp} (hg : o.guard = some (j, b)) (hp : ops[j]? = some p) (hd : p.dst = some d) (hin : d < a0.tmps.size) (he : ∃ e ∈ o.after.toList, e.on = j ∧ Region.binds .any e = true)
    (hv : ∀ v w, Φ j v w → v = .bool (!b)) (h : ∀ w, Φ i undef w) : Duty P ops Q Φ a0 w0 i o := by
  intro a w hE hF hA
  obtain ⟨e, hem, rfl, heb⟩ := he
  have hval := hv _ _ (hA e hem heb p hp)
  have : Region.wanted o (yielded ops a.tmps) = false := by
    unfold Region.wanted
    rw [hg]
    have hlt : d < a.tmps.size := by rw [hF.2.1]; exact hin
    unfold valOf at hval
    rw [hd] at hval
    simp only [Array.getD_eq_getD_getElem?, Array.getElem?_eq_getElem hlt, Option.getD_some] at hval
    cases b <;> simp [yielded, hp, hd, Array.getElem?_eq_getElem hlt, hval]
  rw [this]
  simp only [Bool.false_eq_true, if_false]
  exact h w
theorem region_sp (m : Nat) (sp : List Sp) (hst : stayS sp) (hlen : sp.length = ops.toList.length) (hchk : (dstsOk ops && aheadB ops && (ops.toList.all fun o => o.dst.any fun d => decide (d < m))) = true) (hsz : a0.tmps.size = m)
    (hd : Duties P ops Q (spP sp) a0 w0 0 ops.toList)
    (hend : ∀ w, Ext w0 w → forS sp w fun us => Q .normal (filled ops.toList us a0) w) : RegionP P ops Q a0 w0 := by
  have hall := hchk
  simp only [Bool.and_eq_true] at hall
  refine region_rel_e m Ext Ext.refl (fun _ _ _ => Ext.trans) Ext.drew (spP sp) (fun i v w w' h hE => ?_) (fun i v w h ho => ?_) ?_ hsz (duties_rel _ _ hd) fun us w hE hl hP => ?_
  · unfold spP at h ⊢
    cases hs : sp[i]? with
    | none => rw [hs] at h; exact h.elim
    | some s => rw [hs] at h; exact hst.at i s hs v w w' h hE
  · exfalso
    cases hoi : ops[i]? with
    | none => rw [hoi] at ho; cases ho
    | some o =>
      rw [hoi] at ho
      have := List.all_eq_true.1 hall.2 o (List.mem_of_getElem? (i := i) (by simpa using hoi))
      cases hd : o.dst with
      | none => rw [hd] at this; cases this
      | some d => simp [hd] at ho
  · simp only [Bool.and_eq_true]
    refine ⟨hall.1, List.all_eq_true.2 fun o ho => ?_⟩
    have := List.all_eq_true.1 hall.2 o ho
    cases hd : o.dst with
    | none => rfl
    | some d => rw [hd] at this; simpa using this
  · exact forS_all sp w _ (hend w hE) us (by rw [hl, hlen]) hP
end
end Go.Proofs.YtclekhjnnljjlaaGreatDoor
