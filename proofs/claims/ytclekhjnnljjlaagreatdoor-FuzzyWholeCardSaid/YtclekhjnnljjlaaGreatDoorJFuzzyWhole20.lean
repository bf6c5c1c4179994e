/- Nodes sorted by their paths: the library's sort at this program's closure. The walk of a Loose's Nodes: all its nodes, in order. The walks of a Loose's Settle, of replayed and Restore at an empty log. The walk of layer 17's alive. The walk of layer 15's Both: both states of the same nodes and sessions, or neither. -/
import Derived.Test.YtclekhjnnljjlaaGreatDoorSortF
import Derived.Test.YtclekhjnnljjlaaGreatDoorJFuzzyWhole9
import Derived.Shelf.SlSortCmp.WholeK
import Derived.Shelf.SlSortCmp.NoneTotal
import Derived.Shelf.Small.Strs
import Derived.Test.YtclekhjnnljjlaaGreatDoorJFuzzyWhole19
import Derived.Test.YtclekhjnnljjlaaGreatDoorJFuzzyWhole18
import Derived.Test.YtclekhjnnljjlaaGreatDoorJFuzzyWhole17
import Derived.Test.YtclekhjnnljjlaaGreatDoorJFuzzyWhole13
namespace Go.Proofs.YtclekhjnnljjlaaGreatDoor
open Go.RowKit Go.Sort Go.Shelf Go.Lib
set_option maxHeartbeats 4000000
set_option maxRecDepth 100000

theorem ordN_neg (a b : List UInt8) : ordL a b < 0 ↔ bytesBefore a b = true := by
  rw [ordL_eq]
  by_cases e : a = b
  · subst e
    rw [if_pos rfl, WideAt.bytes_irrefl]
    simp
  · rw [if_neg e]
    split
    · rename_i h; simp [h]
    · rename_i h; simp [h]
/-- A node's row. -/
structure NR where
  n : Nd
  da : Option Addr
  dc : Nat
  aa : Option Addr
  ac : Nat
instance : Inhabited NR := ⟨⟨⟨⟨#[]⟩, [], [], 0, 0, 0, 0, 0, 0, 0, 0, 0, 0, 0, false, 0, 0⟩, none, 0, none, 0⟩⟩
def cellsR (x : NR) : Array Value := ndC x.n (.slice x.da x.n.data.length x.dc) (.slice x.aa x.n.acl.length x.ac)
def encR (x : NR) : List Value := (cellsR x).toList
def cmpR (x y : NR) : Int := ordL x.n.path.data.toList y.n.path.data.toList
theorem ltR (x y : NR) : ltOf cmpR x y = bytesBefore (keyN x.n) (keyN y.n) := by
  unfold ltOf cmpR
  rw [Bool.eq_iff_iff, decide_eq_true_iff]
  exact ordN_neg _ _
theorem swoR : SWO (ltOf cmpR) where
  irrefl x := by rw [ltR]; exact WideAt.bytes_irrefl _
  trans x y z h1 h2 := by
    rw [ltR] at *
    exact WideShapes.bytes_trans _ _ _ h1 h2
  ntrans x y z h1 h2 := by
    rw [ltR] at *
    cases h : bytesBefore (keyN x.n) (keyN z.n) with
    | false => rfl
    | true =>
      by_cases e : keyN x.n = keyN y.n
      · rw [← e, h] at h2; cases h2
      · rcases WideAt.bytes_total _ _ e with h3 | h3
        · rw [h3] at h1; cases h1
        · rw [WideShapes.bytes_trans _ _ _ h3 h] at h2; cases h2
theorem compareN_ordL : ∀ a b : List UInt8, compareBytes a b = ordL a b
  | [], [] => rfl
  | [], _ :: _ => rfl
  | _ :: _, [] => rfl
  | x :: a, y :: b => by
    unfold compareBytes ordL
    rw [compareN_ordL a b]
    simp only [UInt8.lt_iff_toNat_lt]
theorem norder_any (a b : ByteArray) (w : World) : Calls Tryz.prog 123 #[.string a, .string b] w fun e w' => e = .returned (.int .i64 (ordL a.data.toList b.data.toList)) ∧ w' = w := by
  have C := Any.strings_Compare Tryz.cmpS a b w
  change Calls Tryz.prog 149 _ _ _ at C
  rw [compareN_ordL] at C
  generalize ordL a.data.toList b.data.toList = z at C ⊢
  go_enter Tryz.func123, Tryz.ntmps123
  go_wp2_with fail
  refine C.mono ?_
  rintro e w' ⟨rfl, rfl⟩
  go_wp2
  go_ret
  exact ⟨rfl, rfl⟩
theorem closR_any (x y : NR) (W : World) : Calls Tryz.prog 122 #[.agg (encR x).toArray, .agg (encR y).toArray] W fun e w' => e = .returned (.int .i64 (cmpR x y)) ∧ ∃ q os', w' = grow (W.drewN q) os' := by
  have C := fun W => norder_any x.n.path y.n.path W
  have e1 : ordL x.n.path.data.toList y.n.path.data.toList = cmpR x y := rfl
  rw [e1] at C
  have ex : (encR x).toArray = cellsR x := by unfold encR; simp
  have ey : (encR y).toArray = cellsR y := by unfold encR; simp
  rw [ex, ey]
  obtain ⟨W1, hW1⟩ : ∃ W1, W1 = (W.alloc (.cells (cellsR x) 88)).alloc (.cells (cellsR y) 88) := ⟨_, rfl⟩
  have hr1 : W1.heap[W.heap.size]? = some (.cells (cellsR x) 88 (0, 0)) := by rw [hW1]; exact heap_alloc2_old W _ _
  have hr2 : W1.heap[W.heap.size + 1]? = some (.cells (cellsR y) 88 (0, 0)) := by rw [hW1]; exact heap_alloc2_new W _ _
  have g1 : W1.cell? ⟨W.heap.size, 0, none⟩ = some (.string x.n.path) := cell_of_row _ _ _ _ _ _ hr1
  have g2 : W1.cell? ⟨W.heap.size + 1, 0, none⟩ = some (.string y.n.path) := cell_of_row _ _ _ _ _ _ hr2
  have HW1 := Lib.hid hW1
  rw [hW1] at g1 g2
  have C := Lib.hid C
  generalize cmpR x y = z at *
  generalize x.n.path = p at *
  generalize y.n.path = q at *
  generalize cellsR x = cx at *
  generalize cellsR y = cy at *
  clear e1 ex ey hW1 hr1 hr2
  go_enter Tryz.func122, Tryz.ntmps122
  go_wp2_with fail
  refine (C.out _).mono ?_
  rintro e w' ⟨rfl, rfl⟩
  go_wp2
  go_ret
  exact ⟨rfl, 0, _, by rw [alloc_eq_grow, alloc_eq_grow, grow_grow]; rfl⟩
theorem cmpLaysR (blk off size : Nat) (w : World) : CmpLays Tryz.prog 122 #[] encR 17 cmpR blk off size w := fun _ _ _ _ x y => closR_any x y _

theorem sizeR (x : NR) : (cellsR x).size = 17 := rfl
theorem encR_at (x : NR) (r : Nat) (hr : r < 17) : (cellsR x)[r]? = some ((encR x)[r]!) := by
  have hs : r < (cellsR x).size := by rw [sizeR]; exact hr
  rw [Array.getElem?_eq_getElem hs]
  unfold encR
  rw [getElem!_pos (cellsR x).toList r (by simpa using hs), Array.getElem_toList]
theorem get_rowN (D : List NR) : ∀ t, t < D.length * 17 → ((D.map cellsR).flatMap Array.toList)[t]? = some ((encR (D.toArray[t / 17]!))[t % 17]!) := fun t ht => by
  have hi : t / 17 < D.length := by omega
  have hm : t % 17 < 17 := Nat.mod_lt _ (by decide)
  have e : D.toArray[t / 17]! = D[t / 17] := by
    rw [getElem!_pos D.toArray (t / 17) (by simpa using hi)]; simp
  rw [e]
  have h := flat17 (D.map cellsR) (t / 17) (cellsR D[t / 17]) (fun x hx => by obtain ⟨y, _, rfl⟩ := List.mem_map.1 hx; exact sizeR y) (by rw [List.getElem?_map, List.getElem?_eq_getElem hi]; rfl) (t % 17) ((encR D[t / 17])[t % 17]!) (encR_at _ _ hm)
  rw [← h]
  congr 1
  omega
theorem holds_rowN {w : World} {base : Nat} {e : TypeId} {g c : Nat} {D : List NR} (h : w.ownsRow base e 17 (.slice (some ⟨g, 0, none⟩) D.length c) D.length ((D.map cellsR).flatMap Array.toList)) : HoldsK encR 17 w g 0 D.toArray ∧ g < w.heap.size := by
  obtain ⟨hl, h2⟩ := h
  rcases h2 with ⟨h, _⟩ | ⟨g', cap, cur, hv, hb, hg, h3, h4, h5, h6⟩
  · cases h
  cases hv
  refine ⟨fun j hj => ?_, (Array.getElem?_eq_some_iff.1 hg).1⟩
  have hj' : j < D.length * 17 := by simpa using hj
  have hr := get_rowN D j hj'
  have hc : cur[j]? = some ((encR (D.toArray[j / 17]!))[j % 17]!) := by
    rw [← h6, List.getElem?_take_of_lt hj'] at hr
    simpa using hr
  have e1 : (flatK encR 17 D.toArray)[j]! = (encR (D.toArray[j / 17]!))[j % 17]! := by
    rw [get_flatK _ _ _ _ (by simpa using hj')]
  rw [Nat.zero_add]
  refine ⟨?_, by simp [World.frozen?, hg]⟩
  rw [cell_of_row _ _ _ _ _ _ hg, hc]
  show _ = some (id _)
  rw [e1]; rfl
theorem sortN_chg (w : World) (g n : Nat) (D : Array NR) (os : Array Obj) : Chg (· = g) w (sortWorldK encR 17 w g 0 n D os) := by
  have hz : (putRowK encR 17 (Sort.ahead w n) g 0 D).heap.size = w.heap.size := by unfold putRowK; rw [size_putRow]; rfl
  refine ⟨rfl, rfl, rfl, ?_, fun k hk hn => ?_⟩
  · exact size_sortWorldK_c encR 17 w g 0 n D os
  · unfold sortWorldK grow
    show ((putRowK encR 17 (Sort.ahead w n) g 0 D).heap ++ os)[k]? = _
    rw [Array.getElem?_append_left (by rw [hz]; exact hk)]
    show (w.heap.modify g _)[k]? = _
    rw [Array.getElem?_modify, if_neg (fun e => hn e.symm)]
theorem lift_nr {S : Nat → Prop} {w : World} : ∀ {vs : List (Array Value)} {L : List Nd}, EachN S w vs L → ∃ D : List NR, D.map cellsR = vs ∧ D.map (·.n) = L ∧ ∀ x ∈ D, CellsS S w x.da (x.n.data.map u8v) ∧ CellsS S w x.aa (acCs x.n.acl)
  | [], L, h => by
    obtain rfl := List.eq_nil_of_length_eq_zero h.1.symm
    exact ⟨[], rfl, rfl, fun x hx => by simp at hx⟩
  | v :: vs, L, h => by
    obtain ⟨hl, he⟩ := h
    cases L with
    | nil => simp at hl
    | cons n L =>
      obtain ⟨D, h1, h2, h3⟩ := lift_nr (vs := vs) (L := L) ⟨by simpa using hl, fun j cs hj => he (j + 1) cs (by simpa using hj)⟩
      obtain ⟨m, hm, da, dc, aa, ac, e, hD, hA⟩ := he 0 v rfl
      obtain rfl : n = m := by simpa using hm
      have ev : v = ndC n (.slice da n.data.length dc) (.slice aa n.acl.length ac) := by cases e; rfl
      refine ⟨⟨n, da, dc, aa, ac⟩ :: D, by rw [List.map_cons, h1, ev]; rfl, by rw [List.map_cons, h2], fun x hx => ?_⟩
      rcases List.mem_cons.1 hx with rfl | hx
      · exact ⟨hD, hA⟩
      · exact h3 x hx
/-- The sort, whatever the row. -/
theorem sortN_any {w : World} {base : Nat} {v : Value} {L : List Nd} (h : OwnN base L v w) (hl : L.length < 4611686018427387904) :
    Calls Tryz.prog 121 #[v, .func (.func 122) #[] #[]] w fun e w' => e = .returned (.tuple #[]) ∧ ∃ (a : Option Addr) (c : Nat) (L' : List Nd), v = .slice a L.length c ∧ L'.Perm L ∧ (L'.Pairwise fun x y => bytesBefore (keyN y) (keyN x) = false) ∧ NdsAt w'.heap.size w' a L' ∧ Chg (fun k => v.ownBlock = some k) w w' := by
  obtain ⟨vs, hown, heach⟩ := h
  rcases hown.2 with ⟨rfl, h0⟩ | ⟨g, cap, cur, rfl, h1, h2, h3⟩
  · obtain rfl : L = [] := List.eq_nil_of_length_eq_zero h0
    have C := AnyF.slices_SortFunc_none Tryz.sortN none 0 (.func (.func 122) #[] #[]) w
    change Calls Tryz.prog 121 _ _ _ at C
    refine C.mono ?_
    rintro e w' ⟨rfl, rfl⟩
    exact ⟨rfl, none, 0, [], rfl, List.Perm.nil, List.Pairwise.nil, fun i n h => by simp at h, Chg.refl _ _⟩
  · obtain ⟨D, hD1, hD2, hD3⟩ := lift_nr heach
    have hlD : D.length = L.length := by rw [← hD2, List.length_map]
    rw [← hD1, ← hlD] at hown
    obtain ⟨hH, hg⟩ := holds_rowN hown
    have C := AnyQ.slices_SortFunc Tryz.sortN 17 Tryz.isAgg88 Tryz.sizeOf88 encR (fun _ => rfl) (fun x v hv => by
      have h := cells_node x.n x.da x.aa x.n.data.length x.n.acl.length x.dc x.ac
      rw [← Array.all_toList] at h
      exact List.all_eq_true.1 h v hv) cmpR swoR 122 #[] g 0 cap D.toArray w (enters_of Tryz.func122 (by kernel_rfl) rfl) (cmpLaysR g 0 _ w) hH hg (by simpa [hlD] using hl)
    change Calls Tryz.prog 121 _ _ _ at C
    rw [List.size_toArray, hlD] at C
    refine C.mono ?_
    rintro e w' ⟨rfl, d', n, os, hp, hs, rfl⟩
    have hsz : d'.size = D.toArray.size := hp.1
    have hH' := holdsK_sortWorldK_c encR 17 w g 0 D.toArray d' n os hH hg hsz
    have hperm : d'.toList.Perm D := by
      have := hp.2.2
      have e1 : d'.extract 0 L.length = d' := Array.extract_eq_self_of_le (by rw [hsz]; simp [hlD])
      have e2 : D.toArray.extract 0 L.length = D.toArray := Array.extract_eq_self_of_le (by simp [hlD])
      rw [e1, e2] at this
      simpa using this
    have hC := sortN_chg w g n d' os
    have hzC := hC.size
    refine ⟨rfl, some ⟨g, 0, none⟩, cap, d'.toList.map (·.n), rfl, by rw [← hD2]; exact hperm.map _, ?_, ?_, hC.mono fun k _ hk => by simp [Value.ownBlock, hk]⟩
    · rw [List.pairwise_map]
      refine List.pairwise_iff_getElem.2 fun i j hi hj hij => ?_
      have hsz2 : d'.size = D.length := by rw [hsz]; simp
      simp only [Array.length_toList] at hi hj
      have := hs i j (Nat.zero_le _) hij (by rw [← hlD]; omega)
      rw [ltR, getElem!_pos d' i hi, getElem!_pos d' j hj] at this
      simpa using this
    · intro i nd hi
      rw [List.getElem?_map] at hi
      obtain ⟨x, hx, rfl⟩ := Option.map_eq_some_iff.1 hi
      have hil : i < d'.size := by
        have := (List.getElem?_eq_some_iff.1 hx).1
        simpa using this
      have e : d'[i]! = x := by
        rw [getElem!_pos d' i hil]
        rw [Array.getElem?_toList, Array.getElem?_eq_getElem hil] at hx
        exact Option.some.inj hx
      have hxD : x ∈ D := hperm.mem_iff.1 (List.mem_of_getElem? hx)
      obtain ⟨hDx, hAx⟩ := hD3 x hxD
      have hc := HoldsK.cells hH' (fun x => rfl) hil
      rw [e] at hc
      have hkeep : ∀ (b o : Nat) u, NewN base (.slice (some ⟨g, 0, none⟩) L.length cap) w b → w.cell? ⟨b, o, none⟩ = some u → (sortWorldK encR 17 w g 0 n d' os).cell? ⟨b, o, none⟩ = some u := fun b o u hb hu => (World.cell?_of_block (hC.same b hb.2.1 (fun e => hb.2.2 (by have : b = g := e; simp [Value.ownBlock, this])))).trans hu
      refine ⟨g, 0, .agg (cellsR x), rfl, Nat.lt_of_lt_of_le hg hzC, ⟨x.da, x.dc, x.aa, x.ac, rfl, CellsS.cells (hDx.imp (fun b hb => hb) hkeep) fun b hb => Nat.lt_of_lt_of_le hb.2.1 hzC, CellsS.cells (hAx.imp (fun b hb => hb) hkeep) fun b hb => Nat.lt_of_lt_of_le hb.2.1 hzC⟩, fun j u hj => ?_⟩
      have := hc j u (by unfold encR; simpa [Value.cells] using hj)
      rwa [addr_add] at this
end Go.Proofs.YtclekhjnnljjlaaGreatDoor
namespace Go.Proofs.YtclekhjnnljjlaaGreatDoor
open Go.RowKit Go.Sort
set_option maxHeartbeats 8000000
set_option maxRecDepth 100000

/-- The nodes that the range has come to. -/
structure Laid2 (M : List (Key × Nd)) (left : Lit → Bool) (L : List Nd) : Prop where
  mem : ∀ n, n ∈ L ↔ (keyN n, n) ∈ M ∧ left (.string (keyN n)) = false
  nodup : L.Pairwise fun x y => keyN x ≠ keyN y
theorem Laid2.step {M : List (Key × Nd)} {left : Lit → Bool} {L : List Nd} (h : Laid2 M left L) {n : Nd} (hm : (keyN n, n) ∈ M) (hs : MSorted M) (hl : left (.string (keyN n)) = true) : Laid2 M (fun z => left z && !z.sameKey (.string (keyN n))) (L ++ [n]) := by
  have hsame : ∀ k : Key, (Lit.string k).sameKey (.string (keyN n)) = (k == keyN n) := fun k => rfl
  refine ⟨fun x => ?_, ?_⟩
  · rw [List.mem_append, List.mem_singleton, h.mem, hsame]
    simp only [Bool.and_eq_false_iff, Bool.not_eq_false', beq_iff_eq]
    constructor
    · rintro (⟨h1, h2⟩ | rfl)
      · exact ⟨h1, .inl h2⟩
      · exact ⟨hm, .inr rfl⟩
    · rintro ⟨h1, h2⟩
      by_cases e : keyN x = keyN n
      · right
        have h3 := mget_of_mem hs h1
        rw [e, mget_of_mem hs hm] at h3
        exact (Option.some.inj h3).symm
      · exact .inl ⟨h1, h2.resolve_right e⟩
  · rw [List.pairwise_append]
    refine ⟨h.nodup, List.pairwise_singleton _ _, fun x hx y hy e => ?_⟩
    rw [List.mem_singleton] at hy
    subst hy
    have := ((h.mem x).1 hx).2
    rw [e, hl] at this; cases this
theorem sorted_nds {M : List (Key × Nd)} (hM : MOk M) {L L' : List Nd} {left : Lit → Bool} (h : Laid2 M left L) (hl : ∀ k, left k = false) (hp : L'.Perm L) (hs : L'.Pairwise fun x y => bytesBefore (keyN y) (keyN x) = false) : L' = nds M := by
  have hmem : ∀ n, n ∈ L' ↔ n ∈ nds M := fun n => by
    rw [hp.mem_iff, h.mem]
    simp only [hl, and_true]
    unfold nds
    rw [List.mem_map]
    constructor
    · intro hx; exact ⟨_, hx, rfl⟩
    · rintro ⟨x, hx, rfl⟩
      rw [← hM.key x hx]; exact hx
  have hn2 : (nds M).Pairwise fun x y => bytesBefore (keyN y) (keyN x) = false ∧ keyN x ≠ keyN y := by
    unfold nds
    rw [List.pairwise_map]
    refine hM.sorted.imp_of_mem fun {a b} ha hb hlt => ?_
    rw [← hM.key a ha, ← hM.key b hb]
    refine ⟨?_, fun e => by rw [e, WideAt.bytes_irrefl] at hlt; cases hlt⟩
    cases hq : bytesBefore b.1 a.1 with
    | false => rfl
    | true => exact (before_asymm hlt hq).elim
  have hnd : L'.Nodup := (hp.symm.pairwise h.nodup (fun h => h.symm)).imp fun h e => h (by rw [e])
  have hnd2 : (nds M).Nodup := hn2.imp fun h e => h.2 (by rw [e])
  have hperm : L'.Perm (nds M) := (List.perm_ext_iff_of_nodup hnd hnd2).2 hmem
  refine hperm.eq_of_pairwise (fun a b ha hb h1 h2 => ?_) hs (hn2.imp fun h => h.1)
  have ha' := (hmem a).1 ha
  unfold nds at ha' hb
  obtain ⟨x, hx, rfl⟩ := List.mem_map.1 ha'
  obtain ⟨y, hy, rfl⟩ := List.mem_map.1 hb
  by_cases e : keyN x.2 = keyN y.2
  · have h3 : mget M (keyN x.2) = some x.2 := by rw [← hM.key x hx]; exact mget_of_mem hM.sorted hx
    have h4 : mget M (keyN y.2) = some y.2 := by rw [← hM.key y hy]; exact mget_of_mem hM.sorted hy
    rw [e, h4] at h3
    exact (Option.some.inj h3).symm
  · rcases WideAt.bytes_total _ _ e with h | h
    · rw [h] at h2; cases h2
    · rw [h] at h1; cases h1
/-- What was below a number stays, though a row grows behind it. -/
theorem trunc_keep {W5 W6 : World} {base : Nat} (hb : base ≤ W5.heap.size) (h : ∀ w0, Ext w0 W5 → w0.heap.size ≤ base → Ext w0 W6) : ∀ k, k < base → W6.heap[k]? = W5.heap[k]? := fun k hk => by
  have hsz : (W5.heap.extract 0 base).size = base := by simp; omega
  have hget : ∀ j, j < base → (W5.heap.extract 0 base)[j]? = W5.heap[j]? := fun j hj => by
    rw [Array.getElem?_extract]; simp; omega
  have h1 : Ext { W5 with heap := W5.heap.extract 0 base } W5 := ⟨rfl, rfl, rfl, by show (W5.heap.extract 0 base).size ≤ _; omega, fun j hj => by
    have hj' : j < base := by have : j < (W5.heap.extract 0 base).size := hj; omega
    exact (hget j hj').symm⟩
  have h2 := h _ h1 (by show (W5.heap.extract 0 base).size ≤ _; omega)
  exact (h2.block k (by show k < (W5.heap.extract 0 base).size; omega)).trans (hget k hk)

def LNodesOut (M : List (Key × Nd)) (w : World) (e : Ending) (w' : World) : Prop := ∃ a c, e = .returned (.slice a M.length c) ∧ NdsAt w'.heap.size w' a (nds M) ∧ Ext w w'
theorem lnodes_any (w : World) (bl bn : Nat) (bx : Nat) (z : Int) (S : Nat → Prop) (M : List (Key × Nd)) (N : Nat) (hblk : w.heap[bl]? = some (.cells (lzC bn bx z) 125 (0, 0))) (hNd : NodesAt S w bn M N) (hS : ∀ k, S k → k < w.heap.size) (hl : M.length * 168 ≤ 140737488355328) :
    Calls Tryz.prog 94 #[.pointer (some ⟨bl, 0, none⟩)] w (LNodesOut M w) := by
  have hok := hNd.ok
  obtain ⟨mm, hm, hr⟩ := hNd.ex
  have hbl : bn < w.heap.size := hm.lt
  have hx : w.cell? ⟨bl, 0, none⟩ = some (.map (some bn)) := cell_of_row _ _ _ _ _ _ hblk
  have hrl := hr.length
  have HS := Lib.hid hS
  have HR := Lib.hid hr
  have HOK := Lib.hid hok
  have HM := hm
  have HRL := Lib.hid hrl
  clear hm hr hNd hS hok hblk hrl
  go_enter Tryz.func94, Tryz.ntmps94
  go_wp2_with (at_range; refine wpList_range_own _ rfl _ 92 rfl 9 88 (Maps.string_keyed strT) Tryz.underlying92 Rv bn _ _ rfl HM ?_; intro w0 hrg0 hg0 hs0)
  go_frame
  have hE0 : Ext w w0 := ⟨hg0.os, hg0.tape, hg0.output, hg0.size, fun k hk => hg0.block k hk (by simp)⟩
  have HRG0 := Lib.hid hrg0
  have HE0 := Lib.hid hE0
  have hz0 : w0.heap.size = w.heap.size + 1 := hs0
  clear HM hrg0 hg0 hs0 hE0 hx
  go_loopw [3] (fun ov wr => ∃ (left : Lit → Bool) (cnt : Nat) (L' : List Nd), wr.ranges Tryz.prog 9 Rv bn w.heap.size mm.length (kvD mm) left cnt ∧ Hid (Laid2 M left L') ∧ Hid (OwnN (w.heap.size + 1) L' ov wr) ∧ L'.length + cnt ≤ mm.length ∧ Ext w wr ∧ w.heap.size < wr.heap.size) (fun _ wr => wr.rangeLeft bn w.heap.size)
  case atStart =>
    refine ⟨_, _, [], HRG0.out, ⟨fun n => ?_, List.Pairwise.nil⟩, OwnN.nil _ _, by simp [kvD, Maps.size], HE0.out, by omega⟩
    constructor
    · intro h; simp at h
    · rintro ⟨h1, h2⟩
      rw [kvD_has] at h2
      rcases HR.out.get (keyN n) with ⟨h3, _⟩ | ⟨y, v, _, h3, _⟩
      · exact absurd rfl (mget_none h3 _ h1)
      · rw [h3] at h2; cases h2
  case round =>
    obtain ⟨left, cnt, L', hrg, HL, HO, hle, hE, hwl⟩ := hrel
    have HEr := Lib.hid hE
    clear hE HRG0 HE0
    go_wp2_with (at_next; refine wpList_next_left _ rfl _ rfl 9 strT bn w.heap.size _ mm left cnt rfl hrg ?_ ?_)
    · intro hl0
      have hLl : L'.length = M.length := by
        have h1 := sorted_nds (L' := L'.mergeSort fun x y => !bytesBefore (keyN y) (keyN x)) HOK.out HL.out hl0 (List.mergeSort_perm _ _) (by
          have := List.pairwise_mergeSort (le := fun x y : Nd => !bytesBefore (keyN y) (keyN x)) (fun a b c h1 h2 => by
            simp only [Bool.not_eq_true'] at h1 h2 ⊢
            cases h : bytesBefore (keyN c) (keyN a) with
            | false => rfl
            | true =>
              exfalso
              by_cases e : keyN a = keyN b
              · rw [← e, h] at h2; cases h2
              · rcases WideAt.bytes_total _ _ e with h3 | h3
                · rw [WideShapes.bytes_trans _ _ _ h h3] at h2; cases h2
                · rw [h3] at h1; cases h1) (fun a b => by
            simp only [Bool.or_eq_true, Bool.not_eq_true']
            cases h : bytesBefore (keyN b) (keyN a) with
            | false => exact .inl rfl
            | true =>
              right
              cases h2 : bytesBefore (keyN a) (keyN b) with
              | false => rfl
              | true => exact (before_asymm h h2).elim) L'
          exact this.imp fun h => by simpa using h)
        have h2 := congrArg List.length h1
        rw [List.length_mergeSort, nds_length] at h2
        exact h2
      have CS := Lib.hid (sortN_any HO.out (by omega))
      have HFIN := Lib.hid (fun (a : Option Addr) (c : Nat) (L2 : List Nd) W (h1 : u3 = .slice a L'.length c) (hp : L2.Perm L') (hs : L2.Pairwise fun x y => bytesBefore (keyN y) (keyN x) = false) (hN : NdsAt W.heap.size W a L2) (hC : Chg (fun k => u3.ownBlock = some k) wr W) => by
        refine (⟨a, c, by rw [h1, hLl], ?_, HEr.out.trans' (hC.below (fun k hk => ?_) HEr.out.size)⟩ : LNodesOut M w (.returned u3) W)
        · rw [← sorted_nds HOK.out HL.out hl0 hp hs]; exact hN
        · obtain ⟨vs, h2, _⟩ := HO.out
          have := (h2.lt k hk).1
          omega)
      clear hrg hl0 HL HO hLl
      go_wp2_with fail
      refine CS.out.mono ?_
      rintro e W2 ⟨rfl, a, c, L2, h1, hp, hs, hN, hC⟩
      have HF := Lib.hid (HFIN.out a c L2 W2 h1 hp hs hN hC)
      clear CS hp hs hN hC HFIN
      subst h1
      go_wp2
      go_ret
      exact HF.out
    · intro s v w6 cnt6 hs hlf hmg hrg6 hlt6 hg6 hsz6 hen
      obtain ⟨n, hn, hv⟩ : ∃ n, mget M s.data.toList = some n ∧ NdS S w v n := by
        rcases HR.out.get s.data.toList with ⟨_, h2⟩ | ⟨y, u, h1, h2, h3⟩
        · rw [h2] at hmg; cases hmg
        · rw [h2] at hmg; cases hmg
          exact ⟨y, h1, h3⟩
      obtain ⟨hkey, hrt⟩ := HOK.out.at hn
      have hmem : (keyN n, n) ∈ M := by rw [← hkey]; exact mget_some_mem hn
      have hfit := (right_fit hrt).1
      rw [hkey] at hlf hrg6
      have HL2 := Lib.hid (HL.out.step hmem HOK.out.sorted hlf)
      obtain ⟨da, dc, aa, ac, rfl, hD, hA⟩ := hv
      have hsz := HEr.out.size
      obtain ⟨W7, hW7⟩ : ∃ W7, W7 = w6.alloc (.cells (ndC n (.slice da n.data.length dc) (.slice aa n.acl.length ac)) 88) := ⟨_, rfl⟩
      have hE7 : Ext w6 W7 := by rw [hW7]; exact Ext.alloc _ _
      have hz7 : W7.heap.size = w6.heap.size + 1 := by rw [hW7]; simp
      have hn7 : W7.heap[w6.heap.size]? = some (.cells (ndC n (.slice da n.data.length dc) (.slice aa n.acl.length ac)) 88 (0, 0)) := by rw [hW7]; exact heap_alloc_new _ _
      have hr6 : ∀ k, k < wr.heap.size → k ≠ w.heap.size → w6.heap[k]? = wr.heap[k]? := fun k hk hne => hg6.block k hk (fun e => hne (Option.some.inj e))
      have hEw6 : Ext w w6 := HEr.out.trans' ⟨hg6.os, hg6.tape, hg6.output, by omega, fun k hk => hr6 k (by omega) (by omega)⟩
      have hEw7 := hEw6.trans hE7
      have hO6 : OwnN (w.heap.size + 1) L' u3 w6 := OwnN.same HO.out (by omega) fun k h1 h2 => hr6 k h2 (by omega)
      have hD7 := (CellsS.cells (B := w.heap.size) hD HS.out).ext hEw7
      have hA7 := (CellsS.cells (B := w.heap.size) hA HS.out).ext hEw7
      have CC := Lib.hid (sclone_nd n da aa dc ac W7 hfit hD7 hA7)
      have HRG7 := Lib.hid (hrg6.kept (grown_ext hE7 none) (by simp) (by simp))
      have HRG := Lib.hid hrg
      have HSET := Lib.hid ((setRow_alloc w6 zeroNd (ndC n (.slice da n.data.length dc) (.slice aa n.acl.length ac)) 88).trans hW7.symm)
      have HNEW := Lib.hid (heap_alloc_new w6 (.cells zeroNd 88))
      have HN7 := Lib.hid hn7
      have HEW7 := Lib.hid hEw7
      have HE7 := Lib.hid hE7
      have HO6 := Lib.hid hO6
      have HLT6 := Lib.hid hlt6
      have h6a : w6.heap.size ≤ wr.heap.size := by omega
      have h6b : wr.heap.size ≤ w6.heap.size := by omega
      have hLl : L'.length + 1 ≤ M.length := by have := HRL.out; omega
      have HLE : Hid ((L' ++ [n]).length + cnt6 ≤ mm.length) := by unfold Hid; rw [List.length_append]; simp; omega
      clear hsz6
      unfold ndC at HSET CC hen
      unfold zeroNd at HSET HNEW
      clear hrg hrg6 hg6 hE7 hEw7 hEw6 hn7 hW7 hr6 hD7 hA7 hO6 hD hA hmg hn hmem HL HO hlt6 hfit
      go_wp2_with (first | (refine wpList_store_row rfl 88 (.tmp 5) (.tmp 16) rfl w6.heap.size _ rfl rfl 88 _ HNEW.out sizeNd rfl (cells_node n da aa _ _ dc ac) ?_; rw [HSET.out]) | (refine wpList_load_row rfl 88 (.tmp 5) rfl w6.heap.size rfl 88 _ (0, 0) _ HN7.out Tryz.underlying88 rfl sizeNd ?_))
      refine CC.out.mono ?_
      rintro e W8 ⟨v, rfl, hN8, hE8⟩
      have hE8 : Ext W7 W8 := hE8
      have hN8' : NdS (fun k => w6.heap.size ≤ k ∧ k < W8.heap.size) W8 v n := hN8.imp (fun k hk => ⟨by omega, hk.2⟩) fun _ _ _ _ h => h
      have HNW := Lib.hid hN8'
      obtain ⟨qa, qc, ra, rc, rfl, _, _⟩ := hN8
      have HE68 := Lib.hid (HE7.out.trans hE8)
      have HEW8 := Lib.hid (HEW7.out.trans hE8)
      have hz8 := hE8.size
      have HRG8 := Lib.hid (HRG7.out.kept (grown_ext hE8 none) (by simp) (by simp))
      unfold ndC at HNW ⊢
      clear CC hE8 hN8'
      go_wp2_with (at_builtin; refine wpList_append_nd rfl (.tmp 17) (.tmp 20) rfl (w.heap.size + 1) L' _ HO6.out HE68.out (by omega) n _ HNW.out (by omega) rfl rfl ?_)
      intro v' W9 hO9 hE9
      have hkeep := trunc_keep (by omega) hE9
      have hEw9 := hE9 w HEW8.out (by omega)
      have hz9 : w.heap.size < W9.heap.size := by
        have h := hkeep w.heap.size (by omega)
        have h2 : W8.heap[w.heap.size]? = some (W8.heap[w.heap.size]'(by omega)) := Array.getElem?_eq_getElem _
        rw [h2] at h
        exact (Array.getElem?_eq_some_iff.1 h).1
      have hrg9 := ranges_blocks HRG8.out (hkeep bn (by omega)) (hkeep w.heap.size (by omega))
      have HREL := Lib.hid (show ∃ (left : Lit → Bool) (cnt : Nat) (L' : List Nd), W9.ranges Tryz.prog 9 Rv bn w.heap.size mm.length (kvD mm) left cnt ∧ Hid (Laid2 M left L') ∧ Hid (OwnN (w.heap.size + 1) L' v' W9) ∧ L'.length + cnt ≤ mm.length ∧ Ext w W9 ∧ w.heap.size < W9.heap.size from ⟨_, _, _, hrg9, HL2.out, hO9, HLE.out, hEw9, hz9⟩)
      have HMS := Lib.hid (show W9.rangeLeft bn w.heap.size < wr.rangeLeft bn w.heap.size by rw [hrg9.left_eq, HRG.out.left_eq]; exact HLT6.out)
      clear hO9 hE9 hkeep hEw9 hrg9 HRG8 HRG7 HRG HSET HNEW HN7
      go_wp2
      go_roundw
      case rel => exact HREL.out
      case measure => exact HMS.out
end Go.Proofs.YtclekhjnnljjlaaGreatDoor
namespace Go.Proofs.YtclekhjnnljjlaaGreatDoor
open Go.RowKit
set_option maxHeartbeats 8000000
set_option maxRecDepth 100000

def PsOut (M : List (Key × Nd)) (T : List Se) (z : Int) (w : World) (e : Ending) (w' : World) : Prop :=
  ∃ b, e = .returned (.tuple #[.pointer (some ⟨b, 0, none⟩), .int .i64 0]) ∧ PState w' b M T z ∧ Ext w w'
theorem afrom_pos (S1 S2 : Nat → Prop) (w : World) (bt bx bm N1 N2 : Nat) (M : List (Key × Nd)) (T : List Se) (z : Int) (hz : 0 ≤ z) (hT : TreeAt S1 w bt M N1) (hX : TblAt S2 w bx bm T N2) (hl : M.length < 4611686018427387904) (hlT : T.length < 4611686018427387904) :
    Calls Tryz.prog 22 #[.pointer (some ⟨bt, 0, none⟩), .pointer (some ⟨bx, 0, none⟩), .int .i64 z] w (PsOut M T z w) :=
  (afrom_any S1 S2 w bt bx bm N1 N2 M T z hT hX hl hlT).mono fun e w' h => by
    unfold AFromOut at h
    rw [if_neg (by omega)] at h
    exact h
theorem stayPs {M : List (Key × Nd)} {T : List Se} {z : Int} (f : Nat → Value) : ∀ v w w', (∃ b, v = f b ∧ PState w b M T z) → Ext w w' → ∃ b, v = f b ∧ PState w' b M T z := by
  rintro v w w' ⟨b, h1, h2⟩ hE
  exact ⟨b, h1, h2.ext hE⟩
/-- The nodes of a tree make the tree. -/
theorem from_nds (w : World) (M : List (Key × Nd)) (a : Option Addr) (c : Nat) (hT : Tabs w) (hA : NdsAt w.heap.size w a (nds M)) (hok : MOk M) (hc : Clo M) (hr : mget M [47] ≠ none) (hl : M.length * 168 ≤ 140737488355328) :
    Calls Tryz.prog 17 #[.slice a M.length c] w fun e w' => ∃ b, e = .returned (.tuple #[.pointer (some ⟨b, 0, none⟩), .int .i64 0, .int .i64 0]) ∧ TreeAt (fun k => w.heap.size ≤ k ∧ k < w'.heap.size) w' b M M.length ∧ Ext w w' := by
  have h := from_any (nds M) a c w hT hA (nds_fit hok) (by rw [nds_length]; omega)
  rw [nds_length] at h
  refine h.mono fun e w' h => ?_
  unfold FromOut at h
  rw [show fromN (nds M) = .ok M from fromN_self hok hc hr, nds_length] at h
  exact h
theorem lsettle_any (w : World) (bl : Nat) (M : List (Key × Nd)) (T : List Se) (z : Int) (h : LooseAt w bl M T z) (hz : 0 ≤ z) (hT : Tabs w) (hc : Clo M) (hr : mget M [47] ≠ none) (hl : M.length * 168 ≤ 140737488355328) (hlT : T.length * 40 ≤ 140737488355328) :
    Calls Tryz.prog 54 #[.pointer (some ⟨bl, 0, none⟩)] w (PsOut M T z w) := by
  obtain ⟨w0, bn, bx, bm, S2, N, hL⟩ := h
  have hb := hL.blk
  have C1 := Lib.hid (lnodes_any w bl bn bx z _ M N hb hL.nodes (fun k hk => hk.2.1) hl)
  have HOK := Lib.hid hL.nodes.ok
  have HX := Lib.hid hL.tbl
  have HB := Lib.hid hb
  have HT := Lib.hid hT
  have HC := Lib.hid hc
  have HR := Lib.hid hr
  clear hL hb hT hc hr
  go_enter Tryz.func54, Tryz.ntmps54
  go_wp2_with fail
  refine C1.out.mono ?_
  rintro e W1 ⟨a, c, rfl, hA, hE1⟩
  have hE1 : Ext w W1 := hE1
  have C2 := Lib.hid (from_nds W1 M a c (HT.out.ext6 hE1) hA HOK.out HC.out HR.out hl)
  have HE1 := Lib.hid hE1
  clear C1 hA hE1
  go_wp2_with fail
  refine C2.out.mono ?_
  rintro e W2 ⟨bt, rfl, hT2, hE2⟩
  have hE2 : Ext W1 W2 := hE2
  have hE02 := HE1.out.trans hE2
  have hb2 := (hE02.block bl (Array.getElem?_eq_some_iff.1 HB.out).1).trans HB.out
  have g1 : W2.cell? ⟨bl, 1, none⟩ = some (.pointer (some ⟨bx, 0, none⟩)) := cell_of_row _ _ _ _ _ _ hb2
  have g2 : W2.cell? ⟨bl, 2, none⟩ = some (.int .i64 z) := cell_of_row _ _ _ _ _ _ hb2
  have HT2 := Lib.hid hT2
  have HE2 := Lib.hid hE02
  clear C2 hT2 hE2 hE02 hb2
  go_wp2
  refine wp_region_P (by kernel_rfl) (region_sp 31 [.val (.pointer (some ⟨bt, 0, none⟩)), .val (.pointer (some ⟨bl, 0, none⟩)), .val (.pointer (some ⟨bl, 0, none⟩)), .val (.pointer (some ⟨bl, 1, none⟩)), .val (.pointer (some ⟨bx, 0, none⟩)), .val (.pointer (some ⟨bl, 0, none⟩)), .val (.pointer (some ⟨bl, 0, none⟩)), .val (.pointer (some ⟨bl, 2, none⟩)), .val (.int .i64 z), .prop (fun u W => ∃ b, u = .tuple #[.pointer (some ⟨b, 0, none⟩), .int .i64 0] ∧ PState W b M T z), .prop (fun u W => ∃ b, u = .pointer (some ⟨b, 0, none⟩) ∧ PState W b M T z), .val (.int .i64 0), .prop (fun u W => ∃ b, u = .pointer (some ⟨b, 0, none⟩) ∧ PState W b M T z), .val (.int .i64 0)] ?stay rfl (by decide) rfl ?duties ?rest)
  case duties =>
    refine ⟨?_, ?_, ?_, ?_, ?_, ?_, ?_, ?_, ?_, ?_, ?_, ?_, ?_, ?_, trivial⟩
    · refine duty_free rfl fun a w' hE hF hA => ?_
      have x1 := hF.slot 4 _ (by decide) rfl
      exact wp_value (w' := w') (ex_move rfl) ⟨_, rfl, x1, Ext.refl _⟩
    · refine duty_free rfl fun a w' hE hF hA => ?_
      have x1 := hF.slot 0 _ (by decide) rfl
      exact wp_value (w' := w') (ex_move rfl) ⟨_, rfl, x1, Ext.refl _⟩
    · refine duty_free rfl fun a w' hE hF hA => ?_
      have x1 := hA.pick 1 20 (.pointer (some ⟨bl, 0, none⟩)) rfl rfl ⟨⟨1, .data⟩, by simp, rfl, rfl⟩ (fun u h => h)
      exact wp_value (w' := w') (v := .pointer (some ⟨bl, 0, none⟩)) (by simp only [execOp, x1]; simp [go_sem]) ⟨_, rfl, rfl, Ext.refl _⟩
    · refine duty_free rfl fun a w' hE hF hA => ?_
      have x1 := hA.pick 2 21 (.pointer (some ⟨bl, 0, none⟩)) rfl rfl ⟨⟨2, .data⟩, by simp, rfl, rfl⟩ (fun u h => h)
      exact wp_value (w' := w') (v := .pointer (some ⟨bl, 1, none⟩)) (by simp only [execOp, x1]; simp [go_sem]) ⟨_, rfl, rfl, Ext.refl _⟩
    · refine duty_free rfl fun a w' hE hF hA => ?_
      have x1 := hA.pick 3 22 (.pointer (some ⟨bl, 1, none⟩)) rfl rfl ⟨⟨3, .data⟩, by simp, rfl, rfl⟩ (fun u h => h)
      exact wp_value (ex_cell rfl _ _ x1 ((hE.cell (World.block_lt_of_cell? _ _ g1)).trans g1) rfl Tryz.underlying55) ⟨_, rfl, rfl, Ext.refl _⟩
    · refine duty_free rfl fun a w' hE hF hA => ?_
      have x1 := hF.slot 0 _ (by decide) rfl
      exact wp_value (w' := w') (ex_move rfl) ⟨_, rfl, x1, Ext.refl _⟩
    · refine duty_free rfl fun a w' hE hF hA => ?_
      have x1 := hA.pick 5 24 (.pointer (some ⟨bl, 0, none⟩)) rfl rfl ⟨⟨5, .data⟩, by simp, rfl, rfl⟩ (fun u h => h)
      exact wp_value (w' := w') (v := .pointer (some ⟨bl, 0, none⟩)) (by simp only [execOp, x1]; simp [go_sem]) ⟨_, rfl, rfl, Ext.refl _⟩
    · refine duty_free rfl fun a w' hE hF hA => ?_
      have x1 := hA.pick 6 25 (.pointer (some ⟨bl, 0, none⟩)) rfl rfl ⟨⟨6, .data⟩, by simp, rfl, rfl⟩ (fun u h => h)
      exact wp_value (w' := w') (v := .pointer (some ⟨bl, 2, none⟩)) (by simp only [execOp, x1]; simp [go_sem]) ⟨_, rfl, rfl, Ext.refl _⟩
    · refine duty_free rfl fun a w' hE hF hA => ?_
      have x1 := hA.pick 7 26 (.pointer (some ⟨bl, 2, none⟩)) rfl rfl ⟨⟨7, .data⟩, by simp, rfl, rfl⟩ (fun u h => h)
      exact wp_value (ex_cell rfl _ _ x1 ((hE.cell (World.block_lt_of_cell? _ _ g2)).trans g2) rfl Tryz.underlying2) ⟨_, rfl, rfl, Ext.refl _⟩
    · refine duty_free rfl fun a w' hE hF hA => ?_
      have x1 := hA.pick 0 19 (.pointer (some ⟨bt, 0, none⟩)) rfl rfl ⟨⟨0, .data⟩, by simp, rfl, rfl⟩ (fun u h => h)
      have x2 := hA.pick 4 23 (.pointer (some ⟨bx, 0, none⟩)) rfl rfl ⟨⟨4, .data⟩, by simp, rfl, rfl⟩ (fun u h => h)
      have x3 := hA.pick 8 27 (.int .i64 z) rfl rfl ⟨⟨8, .data⟩, by simp, rfl, rfl⟩ (fun u h => h)
      refine wp_enter (ex_call rfl (enters_f Tryz.func22 (by kernel_rfl) rfl)) (by simp only [List.map_toArray, List.map_cons, List.map_nil, x1, x2, x3]; exact afrom_pos _ _ w' bt bx bm _ _ M T z hz (HT2.out.ext hE) ((HX.out.ext HE2.out).ext hE) (by omega) (by omega)) ?_
      rintro e w4 ⟨b, rfl, hP, hb⟩
      exact ⟨_, rfl, _, rfl, ⟨b, rfl, hP⟩, hb⟩
    · refine duty_free rfl fun a w' hE hF hA => ?_
      have p1 : (fun u W => ∃ b, u = .tuple #[.pointer (some ⟨b, 0, none⟩), .int .i64 0] ∧ PState W b M T z) (a.eval (.tmp 28)) w' := hA.slot 9 28 rfl rfl ⟨⟨9, .data⟩, by simp, rfl, rfl⟩
      obtain ⟨b, x1, hP⟩ := p1
      exact wp_value (w' := w') (v := .pointer (some ⟨b, 0, none⟩)) (by simp only [execOp, x1]; simp [go_sem]) ⟨_, rfl, ⟨b, rfl, hP⟩, Ext.refl _⟩
    · refine duty_free rfl fun a w' hE hF hA => ?_
      have p1 : (fun u W => ∃ b, u = .tuple #[.pointer (some ⟨b, 0, none⟩), .int .i64 0] ∧ PState W b M T z) (a.eval (.tmp 28)) w' := hA.slot 9 28 rfl rfl ⟨⟨9, .data⟩, by simp, rfl, rfl⟩
      obtain ⟨b, x1, hP⟩ := p1
      exact wp_value (w' := w') (v := .int .i64 0) (by simp only [execOp, x1]; simp [go_sem]) ⟨_, rfl, rfl, Ext.refl _⟩
    · refine duty_free rfl fun a w' hE hF hA => ?_
      have p1 : (fun u W => ∃ b, u = .pointer (some ⟨b, 0, none⟩) ∧ PState W b M T z) (a.eval (.tmp 29)) w' := hA.slot 10 29 rfl rfl ⟨⟨10, .data⟩, by simp, rfl, rfl⟩
      exact wp_value (w' := w') (ex_assign rfl) ⟨_, rfl, p1, Ext.refl _⟩
    · refine duty_free rfl fun a w' hE hF hA => ?_
      have x1 := hA.pick 11 30 (.int .i64 0) rfl rfl ⟨⟨11, .data⟩, by simp, rfl, rfl⟩ (fun u h => h)
      exact wp_value (w' := w') (ex_assign rfl) ⟨_, rfl, x1, Ext.refl _⟩
  case stay => exact ⟨stayPs (fun b => .tuple #[.pointer (some ⟨b, 0, none⟩), .int .i64 0]), stayPs (fun b => .pointer (some ⟨b, 0, none⟩)), stayPs (fun b => .pointer (some ⟨b, 0, none⟩)), trivial⟩
  case rest =>
    intro W9 hE9
    have HE9 := Lib.hid (HE2.out.trans hE9)
    simp only [forS]
    intro u1 h1 u2 h2 u3 h3
    have h := h3.choose_spec
    generalize h3.choose = g at h
    have e3 := h.1
    subst e3
    have HFIN := Lib.hid (show PsOut M T z w (.returned (.tuple #[.pointer (some ⟨g, 0, none⟩), .int .i64 0])) W9 from ⟨g, rfl, h.2, HE9.out⟩)
    clear h h1 h2 h3 hE9 g1 g2
    simp only [filled, List.zip_cons_cons, List.zip_nil_right, List.zip_nil_left, List.foldl_cons, List.foldl_nil, Act.put]
    go_simp
    rename_i hK
    refine hK _ _ ?_
    clear hK
    go_wp2
    go_ret2
    exact HFIN.out

def RestOut (M : List (Key × Nd)) (T : List Se) (z : Int) (w : World) (e : Ending) (w' : World) : Prop :=
  ∃ b, e = .returned (.tuple #[.pointer (some ⟨b, 0, none⟩), .int .i64 0, .int .i64 0]) ∧ PState w' b M T z ∧ Ext w w'
theorem replayed_nil (w : World) (bl : Nat) (M : List (Key × Nd)) (T : List Se) (z : Int) (h : LooseAt w bl M T z) (hz : 0 ≤ z) (hT : Tabs w) (hc : Clo M) (hr : mget M [47] ≠ none) (hl : M.length * 168 ≤ 140737488355328) (hlT : T.length * 40 ≤ 140737488355328) :
    Calls Tryz.prog 28 #[.pointer (some ⟨bl, 0, none⟩), .slice none 0 0, .int .i64 z] w (RestOut M T z w) := by
  have C1 := Lib.hid (lsettle_any w bl M T z h hz hT hc hr hl hlT)
  clear h hT hc hr
  go_enter Tryz.func28, Tryz.ntmps28
  go_wp2
  go_loopw [16] (fun i wr => i = .int .i64 0 ∧ wr = w) (fun _ _ => 0)
  case atStart => exact ⟨rfl, rfl⟩
  case round =>
    obtain ⟨rfl, rfl⟩ := hrel
    go_wp2_with fail
    refine C1.out.mono ?_
    rintro e W2 ⟨b, rfl, hP, hE2⟩
    have HFIN := Lib.hid (show RestOut M T z wr (.returned (.tuple #[.pointer (some ⟨b, 0, none⟩), .int .i64 0, .int .i64 0])) W2 from ⟨b, rfl, hP, hE2⟩)
    clear C1 hP hE2
    go_wp2
    go_ret3
    exact HFIN.out

/-- Restore of an image of a state, at an empty log: the state. -/
theorem restore_any (w : World) (M : List (Key × Nd)) (T : List Se) (z : Int) (a a' : Option Addr) (c c' : Nat) (hz : 0 ≤ z) (hT : Tabs w) (hX : Txt6 w) (hS : SesAt w.heap.size w a T) (hN : NdsAt w.heap.size w a' (nds M)) (hok : MOk M) (hc : Clo M) (hr : mget M [47] ≠ none) (hTs : TSorted T) (hTr : TRight T) (hfT : ∀ s ∈ T, FitS s) (hl : M.length * 168 ≤ 140737488355328) (hlT : T.length * 40 ≤ 140737488355328) :
    Calls Tryz.prog 7 #[.agg (imgC z (.slice a T.length c) (.slice a' M.length c')), .slice none 0 0] w (RestOut M T z w) := by
  have hfL : fromL (nds M) 0 [] = .ok M := fromL_of_fromN (fromN_self hok hc hr)
  have hop : openIx [] T 0 = .ok T := openIx_again T [] 0 hTs hTr
  obtain ⟨W1, hW1⟩ : ∃ W1, W1 = w.alloc (.cells (imgC z (.slice a T.length c) (.slice a' M.length c')) 30) := ⟨_, rfl⟩
  have hE1 : Ext w W1 := by rw [hW1]; exact Ext.alloc _ _
  have hg1 : W1.heap[w.heap.size]? = some (.cells (imgC z (.slice a T.length c) (.slice a' M.length c')) 30 (0, 0)) := by rw [hW1]; exact heap_alloc_new w _
  have g0 : W1.cell? ⟨w.heap.size, 0, none⟩ = some (.int .i64 z) := cell_of_row _ _ _ _ _ _ hg1
  have g1 : W1.cell? ⟨w.heap.size, 1, none⟩ = some (.slice a T.length c) := cell_of_row _ _ _ _ _ _ hg1
  have g2 : W1.cell? ⟨w.heap.size, 2, none⟩ = some (.slice a' M.length c') := cell_of_row _ _ _ _ _ _ hg1
  have C1 := Lib.hid (loosen_any (nds M) a' c' T a c z W1 M T hz hfL hop (hT.ext6 hE1) (hX.ext hE1) (hN.ext hE1) (nds_fit hok) (by rw [nds_length]; exact hl) (hS.ext hE1) hfT hlT)
  rw [nds_length] at C1
  have HT := Lib.hid hT
  have HC := Lib.hid hc
  have HR := Lib.hid hr
  have HE1 := Lib.hid hE1
  have HG0 := Lib.hid g0
  have HW1 := Lib.hid hW1
  rw [hW1] at C1 g0 g1 g2
  unfold imgC at C1 g0 g1 g2 HW1
  unfold imgC
  clear hT hX hS hN hok hc hr hTs hTr hfT hfL hop hE1 hg1 hW1
  go_enter Tryz.func7, Tryz.ntmps7
  go_wp2_with fail
  refine C1.out.mono ?_
  rw [← HW1.out]
  rintro e W2 ⟨bl, rfl, hL2, hE2⟩
  have hE2 : Ext W1 W2 := hE2
  have g3 : W2.cell? ⟨w.heap.size, 0, none⟩ = some (.int .i64 z) := (hE2.cell (World.block_lt_of_cell? _ _ HG0.out)).trans HG0.out
  have hE02 := HE1.out.trans hE2
  have C2 := Lib.hid (replayed_nil W2 bl M T z hL2 hz (HT.out.ext6 hE02) HC.out HR.out hl hlT)
  have HE2 := Lib.hid hE02
  clear C1 hL2 hE2 hE02 g0 g1 g2
  go_wp2_with fail
  refine C2.out.mono ?_
  rintro e W3 ⟨b, rfl, hP, hE3⟩
  have HFIN := Lib.hid (show RestOut M T z w (.returned (.tuple #[.pointer (some ⟨b, 0, none⟩), .int .i64 0, .int .i64 0])) W3 from ⟨b, rfl, hP, HE2.out.trans hE3⟩)
  clear C2 hP hE3
  go_wp2
  go_ret3
  exact HFIN.out
end Go.Proofs.YtclekhjnnljjlaaGreatDoor
namespace Go.Proofs.YtclekhjnnljjlaaGreatDoor
open Go.RowKit
set_option maxHeartbeats 8000000
set_option maxRecDepth 100000

def zeroImg : Array Value := #[.int .i64 0, .slice none 0 0, .slice none 0 0]
theorem root_clo : Clo [(keyN rootN, rootN)] := fun x hx h => by
  rw [List.mem_singleton] at hx
  subst hx
  exact absurd (by decide +kernel) h
theorem root_get : mget [(keyN rootN, rootN)] [47] ≠ none := by
  rw [show keyN rootN = [47] from by decide +kernel]
  unfold mget
  simp
theorem anew_m (w : World) (M : List (Key × Nd)) (T : List Se) (hM : M = [(keyN rootN, rootN)]) (hT : T = []) : Calls Tryz.prog 14 #[] w fun e w' => ∃ b, e = .returned (.pointer (some ⟨b, 0, none⟩)) ∧ PState w' b M T 0 ∧ Ext w w' := by
  subst hM hT
  exact anew_any w
theorem fstep_first (w : World) (b bt bx : Nat) (zz : Int) (S : Nat → Prop) (M : List (Key × Nd)) (N : Nat) (hM : M = [(keyN rootN, rootN)]) (hb : w.heap[b]? = some (.cells #[.pointer (some ⟨bt, 0, none⟩), .pointer (some ⟨bx, 0, none⟩), .int .i64 zz] 79 (0, 0))) (hT : TreeAt S w bt M N)
    (bc : Nat) (z : Int) (sv : Value) (hC : CapAt w bc z sv [] ⟨#[]⟩ false) :
    Calls Tryz.prog 16 #[.pointer (some ⟨bc, 0, none⟩), .pointer (some ⟨b, 0, none⟩)] w fun e w' => e = .returned (.tuple #[.string ⟨#[47]⟩, .bool true, .int .i64 0]) ∧ Below bc w w' := by
  subst hM
  have h := fstep_more w b bt bx zz S _ N hb hT bc z sv 0 (by decide) hC (by decide)
  refine h.mono fun e w' h => ⟨?_, h.2.2⟩
  rw [h.1, show ([(keyN rootN, rootN)] : List (Key × Nd))[0].2.path = ⟨#[47]⟩ from by decide +kernel]

theorem alive17_any (w : World) (hT : Tabs w) (hX : Txt6 w) : Calls Tryz.prog 4 #[] w fun e w' => e = .returned (.bool true) ∧ Ext w w' := by
  obtain ⟨M, hM⟩ : ∃ M : List (Key × Nd), M = [(keyN rootN, rootN)] := ⟨_, rfl⟩
  obtain ⟨T, hT0⟩ : ∃ T : List Se, T = [] := ⟨_, rfl⟩
  have hl1 : M.length = 1 := by rw [hM]; rfl
  have hlT : T.length = 0 := by rw [hT0]; rfl
  have hTs : TSorted T := by rw [hT0]; exact List.Pairwise.nil
  have hTr : TRight T := by rw [hT0]; intro x hx; simp at hx
  have hfT : ∀ s ∈ T, FitS s := by rw [hT0]; intro x hx; simp at hx
  have hcl : Clo M := by rw [hM]; exact root_clo
  have hrt : mget M [47] ≠ none := by rw [hM]; exact root_get
  have C1 := Lib.hid (anew_m w M T hM hT0)
  have HM := Lib.hid hM
  have HTs := Lib.hid hTs
  have HTr := Lib.hid hTr
  have HFT := Lib.hid hfT
  have HCL := Lib.hid hcl
  have HRT := Lib.hid hrt
  have HT := Lib.hid hT
  have HX := Lib.hid hX
  clear hM hT0 hTs hTr hfT hcl hrt hT hX
  go_enter Tryz.func4, Tryz.ntmps4
  go_wp2_with fail
  refine C1.out.mono ?_
  rintro e W1 ⟨b, rfl, hP, hE1⟩
  have hE1 : Ext w W1 := hE1
  have C2 := Lib.hid (ftake_any W1 b M T 0 hP (by omega) (by omega))
  have HP1 := Lib.hid hP
  have HE1 := Lib.hid hE1
  clear C1 hP hE1
  go_wp2_with fail
  refine C2.out.mono ?_
  rintro e W2 ⟨a, c, a', c', rfl, hS, hN, hE2⟩
  have hE2 : Ext W1 W2 := hE2
  rw [hl1, hlT]
  obtain ⟨W3, hW3⟩ : ∃ W3, W3 = W2.alloc (.cells (imgC 0 (.slice a 0 c) (.slice a' 1 c')) 30) := ⟨_, rfl⟩
  have hE3 : Ext W2 W3 := by rw [hW3]; exact Ext.alloc _ _
  have hg3 : W3.heap[W2.heap.size]? = some (.cells (imgC 0 (.slice a 0 c) (.slice a' 1 c')) 30 (0, 0)) := by rw [hW3]; exact heap_alloc_new _ _
  have hE13 := HE1.out.trans (hE2.trans hE3)
  have hP3 := (HP1.out.ext hE2).ext hE3
  obtain ⟨bt, bx, bm, S1, S2, N1, N2, hb, hT2, hX2⟩ := hP3
  have hok := hT2.ok
  have C3 := Lib.hid (restore_any W3 M T 0 a a' c c' (by decide) (HT.out.ext6 hE13) (HX.out.ext hE13) (hS.ext hE3) (hN.ext hE3) hok HCL.out HRT.out HTs.out HTr.out HFT.out (by omega) (by omega))
  rw [hl1, hlT] at C3
  have HNEW := Lib.hid (heap_alloc_new W2 (.cells zeroImg 30))
  have HSET := Lib.hid ((setRow_alloc W2 zeroImg (imgC 0 (.slice a 0 c) (.slice a' 1 c')) 30).trans hW3.symm)
  have HG3 := Lib.hid hg3
  have HE3 := Lib.hid hE13
  have HT2 := Lib.hid hT2
  have HX2 := Lib.hid hX2
  have HB := Lib.hid hb
  unfold imgC zeroImg at HSET
  unfold zeroImg at HNEW
  unfold imgC at HG3 C3
  unfold imgC
  clear C2 hS hN hE2 hE3 hW3 hg3 hE13 hb hT2 hX2 hok
  go_wp2_with (first | (refine wpList_store_row rfl 30 (.tmp 2) (.tmp 18) rfl W2.heap.size _ rfl rfl 30 _ HNEW.out sizeImg rfl (cells_img 0 a a' 0 1 c c') ?_; rw [HSET.out]) | (refine wpList_load_row rfl 30 (.tmp 2) rfl W2.heap.size rfl 30 _ (0, 0) _ HG3.out Tryz.underlying30 rfl sizeImg ?_))
  refine C3.out.mono ?_
  rintro e W4 ⟨b4, rfl, hP4, hE4⟩
  have hE4 : Ext W3 W4 := hE4
  have hg4 := (hE4.block W2.heap.size (Array.getElem?_eq_some_iff.1 HG3.out).1).trans HG3.out
  have hb4 := (hE4.block b (Array.getElem?_eq_some_iff.1 HB.out).1).trans HB.out
  have C4 := Lib.hid (fbegin_any W4 b bt bx bm N2 S2 T 0 hb4 (HX2.out.ext hE4) (by omega))
  have HP4 := Lib.hid hP4
  have HG4 := Lib.hid hg4
  have HB4 := Lib.hid hb4
  have HT4 := Lib.hid (HT2.out.ext hE4)
  have HX4 := Lib.hid (HX2.out.ext hE4)
  have HE4 := Lib.hid (HE3.out.trans hE4)
  clear C3 hE4 hP4 hg4 hb4 HT2 HX2 HB HG3 HP1 HNEW HSET
  go_wp2_with fail
  refine C4.out.mono ?_
  rintro e W5 ⟨bc, sv, rfl, hC5, _, hbc, _, _, hE5⟩
  have hE5 : Ext W4 W5 := hE5
  have hb5 := (hE5.block b (Array.getElem?_eq_some_iff.1 HB4.out).1).trans HB4.out
  have C5 := Lib.hid (fstep_first W5 b bt bx 0 S1 M N1 HM.out hb5 (HT4.out.ext hE5) bc 0 sv hC5)
  have HQ4 := Lib.hid (show PState W4 b M T 0 from ⟨bt, bx, bm, S1, S2, N1, N2, HB4.out, HT4.out, HX4.out⟩)
  have HE45 := Lib.hid hE5
  clear C4 hC5 hE5 hb5 HB4 HT4 HX4
  go_wp2_with fail
  refine C5.out.mono ?_
  rintro e W6 ⟨rfl, hE6⟩
  have hE6 : Below bc W5 W6 := hE6
  have hE46 : Ext W4 W6 := HE45.out.trans' (hE6.mono (by omega))
  have hg6 := (hE46.block W2.heap.size (Array.getElem?_eq_some_iff.1 HG4.out).1).trans HG4.out
  have g6 : W6.cell? ⟨W2.heap.size, 2, none⟩ = some (.slice a' 1 c') := cell_of_row _ _ _ _ _ _ hg6
  have C6 := Lib.hid (asame_self W6 b b4 M T 0 (HQ4.out.ext hE46) (HP4.out.ext hE46))
  have HE6 := Lib.hid (HE4.out.trans hE46)
  clear C5 hE6 hE46 hg6 HP4 HG4 HQ4
  go_wp2_with fail
  refine C6.out.mono ?_
  rintro e W7 ⟨rfl, hE7⟩
  have HE7 := Lib.hid (HE6.out.trans hE7)
  clear C6 hE7
  go_wp2
  go_ret
  exact ⟨rfl, HE7.out⟩
end Go.Proofs.YtclekhjnnljjlaaGreatDoor
namespace Go.Proofs.YtclekhjnnljjlaaGreatDoor
open Go.RowKit
set_option maxHeartbeats 8000000
set_option maxRecDepth 100000

theorem treeQ_ok {L : List Nd} {p : Option Addr} {w : World} (h : TreeQ p (okQ L) (treeQ L) w) : MOk (treeQ L) := by
  unfold TreeQ at h
  split at h
  · obtain ⟨bt, S, N, _, hT⟩ := h
    exact hT.ok
  · rename_i e
    unfold treeQ
    unfold okQ at e
    cases hfr : fromN L with
    | error x => exact MOk.nil
    | ok M => rw [hfr] at e; exact absurd rfl e
theorem afrom_x (pt : Option Addr) (ok oz : Bool) (x : Int) (S2 : Nat → Prop) (w : World) (bx bm N2 : Nat) (M : List (Key × Nd)) (T : List Se) (z : Int) (hoz : oz = okZ ok z) (hx : x = codeZ ok z) (hT : TreeQ pt ok M w) (hX : TblAt S2 w bx bm T N2) (hl : M.length < 4611686018427387904) (hlT : T.length < 4611686018427387904) :
    Calls Tryz.prog 22 #[.pointer pt, .pointer (some ⟨bx, 0, none⟩), .int .i64 z] w fun e w' => ∃ p, e = .returned (.tuple #[.pointer p, .int .i64 x]) ∧ StQ p oz M T z w' ∧ Ext w w' := by
  subst hoz hx
  exact afrom_q pt ok S2 w bx bm N2 M T z hT hX hl hlT
theorem rf15_x (pt : Option Addr) (ok oz : Bool) (x : Int) (S2 : Nat → Prop) (w : World) (bx : Nat) (M : List (Key × Nd)) (T : List Se) (z : Int) (hoz : oz = okZ ok z) (hx : x = codeZ ok z) (hT : RefQ pt ok M w) (hX : RTbl S2 w bx T) (hM : MOk M) (hf : ∀ s ∈ T, FitS s) (hl : M.length * 168 ≤ 140737488355328) (hlT : T.length * 40 ≤ 140737488355328) :
    Calls Tryz.prog 23 #[.pointer pt, .pointer (some ⟨bx, 0, none⟩), .int .i64 z] w fun e w' => ∃ p, e = .returned (.tuple #[.pointer p, .int .i64 x]) ∧ RStQ p oz M T z w' ∧ Ext w w' := by
  subst hoz hx
  exact rf15_q pt ok S2 w bx M T z hT hX hM hf hl hlT
/-- What holds while both tables' Open go on; d: which operations are done. -/
def GT (w : World) (bu bmu bq g : Nat) (T : List Se) (s : Se) (cs : Array Value) (d : Nat → Bool) (W : World) : Prop :=
  TwoT w W bu bmu bq (if d 5 = true then topenL T s else T) (if d 8 = true then topenL T s else T) ∧ W.heap[g]? = some (.cells cs 62 (0, 0)) ∧ SeS (fun k => k ≠ bq ∧ k < W.heap.size) W (.agg cs) s
theorem GT.ext {w : World} {bu bmu bq g : Nat} {T : List Se} {s : Se} {cs : Array Value} {i : Nat} (h5 : i ≠ 5) (h8 : i ≠ 8) : ∀ d d' W W', GT w bu bmu bq g T s cs d W → Ext W W' → (∀ k, k ≠ i → d' k = d k) → GT w bu bmu bq g T s cs d' W' := fun d d' W W' h hE hd => by
  obtain ⟨h1, h2, h3⟩ := h
  unfold GT
  rw [hd 5 (fun e => h5 e.symm), hd 8 (fun e => h8 e.symm)]
  exact ⟨h1.ext hE, (hE.block g (Array.getElem?_eq_some_iff.1 h2).1).trans h2, h3.imp (fun k hk => ⟨hk.1, Nat.lt_of_lt_of_le hk.2 hE.size⟩) fun b o u hb hu => (hE.cell (p := ⟨b, o, none⟩) hb.2).trans hu⟩
theorem GT.sub {w W : World} {bu bmu bq g : Nat} {T : List Se} {s : Se} {cs : Array Value} {d : Nat → Bool} (h : GT w bu bmu bq g T s cs d W) : Ext w W := by
  obtain ⟨⟨_, _, _, _, _, _, hE⟩, _⟩ := h
  exact hE

def BothOut (L : List Nd) (A : List Se) (z : Int) (w : World) (e : Ending) (w' : World) : Prop :=
  ∃ p q, e = .returned (.tuple #[.pointer p, .pointer q, .bool true]) ∧ StQ p (okZ (okQ L) z) (treeQ L) (openEach [] A) z w' ∧ Ext w w'

theorem both_any (L : List Nd) (a : Option Addr) (c : Nat) (A : List Se) (sa : Option Addr) (sc : Nat) (z : Int) (w : World) (hT : Tabs w) (hX : Txt6 w) (hL : NdsAt w.heap.size w a L) (hf : ∀ n ∈ L, Fit n) (hl : L.length * 168 ≤ 140737488355328) (hA : SesAt w.heap.size w sa A) (hfA : ∀ s ∈ A, FitS s) (hlA : A.length * 40 ≤ 140737488355328) :
    Calls Tryz.prog 5 #[.slice a L.length c, .slice sa A.length sc, .int .i64 z] w (BothOut L A z w) := by
  have C1 := Lib.hid (from_q L a c w hT hL hf (by omega))
  have HT := Lib.hid hT
  have HX := Lib.hid hX
  have HL := Lib.hid hL
  have HF := Lib.hid hf
  have HA := Lib.hid hA
  have HFA := Lib.hid hfA
  have hql := treeQ_len L
  clear hT hX hL hf hA hfA
  go_enter Tryz.func5, Tryz.ntmps5
  go_wp2_with fail
  refine C1.out.mono ?_
  rintro e W1 ⟨pt, i1, rfl, hT1, hE1⟩
  have hE1 : Ext w W1 := hE1
  have C2 := Lib.hid (rfrom_q L a c W1 (HT.out.ext6 hE1) (HL.out.ext hE1) HF.out hl)
  have hMok := treeQ_ok hT1
  have HT1 := Lib.hid hT1
  have HE1 := Lib.hid hE1
  have HMok := Lib.hid hMok
  clear C1 hT1 hE1 hMok
  go_wp2_with fail
  refine C2.out.mono ?_
  rintro e W2 ⟨pr, i2, rfl, hT2, hE2⟩
  have hE2 : Ext W1 W2 := hE2
  have C3 := Lib.hid (snew_any W2)
  have HT1 := Lib.hid (HT1.out.ext hE2)
  have HT2 := Lib.hid hT2
  have HE2 := Lib.hid (HE1.out.trans hE2)
  clear C2 hT2 hE2 HE1
  generalize errQ L = er at *
  go_wp2_with fail
  refine C3.out.mono ?_
  rintro e W3 ⟨bu, bmu, rfl, hU, hE3⟩
  have hE3 : Ext W2 W3 := hE3
  obtain ⟨W4, hW4⟩ : ∃ W4, W4 = W3.alloc (.cells #[.slice none 0 0] 59) := ⟨_, rfl⟩
  have hE4 : Ext W3 W4 := by rw [hW4]; exact Ext.alloc _ _
  have hz3 := hE3.size
  have h2T : TwoT W2 W4 bu bmu W3.heap.size [] [] := by
    refine ⟨fun k => W2.heap.size ≤ k ∧ k < W3.heap.size, fun _ => False, hU.ext hE4, ⟨none, 0, [], by rw [hW4]; exact heap_alloc_new _ _, Nat.le_refl _, Nat.zero_le _, fun _ h => h.elim, ⟨rfl, fun j u hj => by simp at hj, fun j cs hj => by simp at hj⟩, .inl ⟨rfl, rfl⟩⟩, fun k hk => ⟨hk.1, by omega⟩, by omega, hE3.trans hE4⟩
  have H2T := Lib.hid h2T
  have HW4 := Lib.hid hW4
  have hx1 : (er != er) = false := by simp
  obtain ⟨bq, hbq⟩ : ∃ bq, bq = W3.heap.size := ⟨_, rfl⟩
  rw [← hbq] at H2T
  have hl64 : A.length ≤ 9223372036854775807 := by omega
  clear C3 hU hE3 hE4 h2T hW4
  go_wp2
  rw [← HW4.out, ← hbq]
  clear HW4 hbq hz3
  go_loopw [17] (fun i wr => ∃ k : Nat, k ≤ A.length ∧ i = .int .i64 k ∧ Hid (TwoT W2 wr bu bmu bq (openEach [] (A.take k)) (openEach [] (A.take k)))) (fun i _ => A.length - (intOf i).toNat)
  case atStart => exact ⟨0, Nat.zero_le _, rfl, H2T.out⟩
  case round =>
    obtain ⟨k, hk, rfl, HTT⟩ := hrel
    by_cases hlt : k < A.length
    · have hEw : Ext W2 wr := by
        obtain ⟨_, _, _, _, _, _, hE⟩ := HTT.out
        exact hE
      have hqr : bq < wr.heap.size := by
        obtain ⟨_, _, _, hR, _⟩ := HTT.out
        exact hR.lt
      have hE0 := HE2.out.trans hEw
      obtain ⟨bl, off, v, rfl, hbl, hv, hc⟩ := HA.out k A[k] (List.getElem?_eq_getElem hlt)
      have hfit := HFA.out A[k] (List.getElem_mem hlt)
      have htk : openEach [] (A.take (k + 1)) = topenL (openEach [] (A.take k)) A[k] := by
        rw [List.take_succ_eq_append_getElem hlt]
        unfold openEach
        rw [List.foldl_append]; rfl
      have hTl : (openEach [] (A.take k)).length ≤ k := by
        have := openEach_length (l := []) (r := A.take k)
        rw [List.length_take] at this
        simp only [List.length_nil] at this
        omega
      have hTok := (openEach_ok (r := A.take k) (l := []) List.Pairwise.nil (fun s h => by simp at h)).1
      generalize A[k] = s at *
      generalize hTT : openEach [] (A.take k) = T at *
      have hidl := hfit.ids
      obtain ⟨ia, ic, rfl, hic, hI⟩ := hv
      have hcw : ∀ j u, (seC s (.slice ia s.ids.length ic))[j]? = some u → wr.cell? ((⟨bl, off + k * 3, none⟩ : Addr).add j) = some u := fun j u hj => by
        rw [addr_add, hE0.cell (p := ⟨bl, off + k * 3 + j, none⟩) hbl]
        exact hc j u hj
      obtain ⟨W5, hW5⟩ : ∃ W5, W5 = wr.alloc (.cells (seC s (.slice ia s.ids.length ic)) 62) := ⟨_, rfl⟩
      have hE5 : Ext wr W5 := by rw [hW5]; exact Ext.alloc _ _
      have hz5 : W5.heap.size = wr.heap.size + 1 := by rw [hW5]; simp
      have hn5 : W5.heap[wr.heap.size]? = some (.cells (seC s (.slice ia s.ids.length ic)) 62 (0, 0)) := by rw [hW5]; exact heap_alloc_new _ _
      obtain ⟨i1', hi1, iz0, iz1, iz2⟩ := info_parts infoId
      obtain ⟨W6, hW6⟩ : ∃ W6, W6 = W5.alloc (.cells #[] 139) := ⟨_, rfl⟩
      have hE6 : Ext W5 W6 := by rw [hW6]; exact Ext.alloc _ _
      have hz6 : W6.heap.size = W5.heap.size + 1 := by rw [hW6]; simp
      have g2 : W6.cell? ⟨wr.heap.size, 2, none⟩ = some (.slice ia s.ids.length ic) := cell_of_row _ _ _ _ _ _ ((hE6.block wr.heap.size (by omega)).trans hn5)
      have hown0 : W6.ownsRow W5.heap.size 139 2 (.slice (some ⟨W5.heap.size, 0, none⟩) 0 0) 0 [] := by rw [hW6]; exact ownsRow_empty W5 139 2
      have hEr6 := hE5.trans hE6
      have hIw : Cells w.heap.size w ia (idCs s.ids) := CellsS.cells (B := w.heap.size) hI fun _ h => h
      have hsrc0 : Src Tryz.prog 2 60 (.slice ia s.ids.length ic) s.ids.length (idCs s.ids) W6 := ((hIw.ext hE0).ext hEr6).src Tryz.underlying60 _ _ (by simp [idCs_length]) (one_id s.ids)
      have HC := Lib.hid hcw
      have HCW := Lib.hid (fun W (hE : Ext w W) j u hj => by
        have := hc j u hj
        rw [addr_add, hE.cell (p := ⟨bl, off + k * 3 + j, none⟩) hbl]
        exact this : ∀ W, Ext w W → ∀ j u, (seC s (.slice ia s.ids.length ic))[j]? = some u → W.cell? ((⟨bl, off + k * 3, none⟩ : Addr).add j) = some u)
      have HTK := Lib.hid htk
      have HE0 := Lib.hid hE0
      have HE5 := Lib.hid hE5
      have HE6 := Lib.hid hE6
      have HW6 := Lib.hid hW6
      have HIW := Lib.hid hIw
      have HSET := Lib.hid ((setRow_alloc wr zeroSe (seC s (.slice ia s.ids.length ic)) 62).trans hW5.symm)
      have HNEW := Lib.hid (heap_alloc_new wr (.cells zeroSe 62))
      have HN5 := Lib.hid hn5
      have HFIT := Lib.hid hfit
      have HTOK := Lib.hid hTok
      rw [hz5] at hown0
      rw [hW6] at hown0 hsrc0 g2
      unfold seC at HC HSET
      unfold zeroSe at HSET HNEW
      clear hcw hc htk hE0 hE5 hE6 hW6 hW5 hn5 hI hEr6 hIw hEw hTT hfit hTok
      go_wp2_with (first | (refine wpList_load_at rfl 62 (.tmp 53) rfl _ rfl _ _ HC.out Tryz.underlying62 rfl sizeSe ?_) | (refine wpList_store_row rfl 62 (.tmp 18) (.tmp 54) rfl wr.heap.size _ rfl rfl 62 _ HNEW.out sizeSe rfl (cells_se s ia _ ic) ?_; rw [HSET.out]) | (at_builtin; refine wpList_append_src _ rfl (.tmp 55) (.tmp 57) 60 60 rfl (wr.heap.size + 1) 139 i1' (.agg #[.string ⟨#[]⟩, .string ⟨#[]⟩]) 2 32 Tryz.underlying60 hi1 iz0 iz1 iz2 rfl (by decide) _ 0 _ rfl hown0 _ s.ids.length _ rfl hsrc0 ?b1 ?b2 ?b3 ?_))
      case b1 => simp only [maxLen]; omega
      case b2 => omega
      case b3 => first | omega | (simp; omega)
      rintro v7 W7 hown7 hg7 - -
      rw [← HW6.out] at hg7
      (try simp only [List.nil_append, Nat.zero_add] at hown7)
      have hz7 := hg7.size
      have hE57 : Ext W5 W7 := ⟨hg7.os.trans HE6.out.os, hg7.tape.trans HE6.out.tape, hg7.output.trans HE6.out.output, by omega, fun j hj => (hg7.block j (by omega) (fun e => by have h : j = wr.heap.size + 1 := Option.some.inj e; omega)).trans (HE6.out.block j hj)⟩
      have hcap7 := own_cap hown7
      obtain ⟨va, vc, rfl, hD7⟩ := ownsRow_from hown7
      have hvc := hcap7 va vc rfl
      have hn7 := (hE57.block wr.heap.size (by omega)).trans HN5.out
      have hcell7 : W7.cell? ⟨wr.heap.size, 2, none⟩ = some (.slice ia s.ids.length ic) := by rw [cell_of_row W7 wr.heap.size 2 _ _ _ hn7]; rfl
      have hfr7 : W7.frozen? ⟨wr.heap.size, 2, none⟩ = false := frozen_of_row W7 wr.heap.size 2 _ _ hn7
      obtain ⟨W8, hW8⟩ : ∃ W8, W8 = W7.setCell ⟨wr.heap.size, 2, none⟩ (.slice va s.ids.length vc) := ⟨_, rfl⟩
      have hn8 : W8.heap[wr.heap.size]? = some (.cells (seC s (.slice va s.ids.length vc)) 62 (0, 0)) := by
        rw [hW8, heap_setCell_same W7 wr.heap.size 2 _ _ _ hn7]; rfl
      have hz8 : W8.heap.size = W7.heap.size := by rw [hW8]; simp [World.setCell]
      have ho8 : ∀ j, j ≠ wr.heap.size → W8.heap[j]? = W7.heap[j]? := fun j hj => by rw [hW8]; exact Below.heap_setCell _ _ _ _ (by simpa using hj)
      have hEr8 : Ext wr W8 := (HE5.out.trans hE57).trans' ⟨by rw [hW8]; rfl, by rw [hW8]; rfl, by rw [hW8]; rfl, by omega, fun j hj => ho8 j (by omega)⟩
      have hS8 : SeS (fun j => j ≠ bq ∧ j < W8.heap.size) W8 (.agg (seC s (.slice va s.ids.length vc))) s := ⟨va, vc, rfl, hvc, fun j u hj => by
        obtain ⟨q, o, e, h1, h2, h3⟩ := hD7 j u hj
        exact ⟨q, o, e, ⟨by omega, by omega⟩, (World.cell?_of_block (ho8 q (by omega))).trans h3⟩⟩
      have HG0 : Hid (GT W2 bu bmu bq wr.heap.size T s (seC s (.slice va s.ids.length vc)) (fun _ => false) W8.drew) := by
        have h0 : GT W2 bu bmu bq wr.heap.size T s (seC s (.slice va s.ids.length vc)) (fun _ => false) W8 := ⟨by simp only [Bool.false_eq_true, if_false]; exact HTT.out.ext hEr8, hn8, hS8⟩
        exact GT.ext (i := 99) (by decide) (by decide) _ _ _ _ h0 (Ext.drew _) fun _ _ => rfl
      have HW8 := Lib.hid hW8
      have HE8 := Lib.hid (HE0.out.trans hEr8)
      clear hg7 hown7 hE57 hD7 hcap7 hn7 hEr8 hn8 hS8 hW8 hown0 hsrc0 ho8 g2 HTT HC
      go_wp2
      rw [← HW8.out]
      have hk1 : (k : Int) < A.length := by omega
      refine wp_region_P (by kernel_rfl) (region_state_vals 94 (GT W2 bu bmu bq wr.heap.size T s (seC s (.slice va s.ids.length vc))) HG0.out [.pointer (some ⟨bu, 0, none⟩), .slice (some ⟨bl, off, none⟩) A.length sc, .int .i64 k, .pointer (some ⟨bl, off + k * 3, none⟩), .agg (seC s (.slice ia s.ids.length ic)), .int .i64 (topenE T s), .pointer (some ⟨bq, 0, none⟩), .agg (seC s (.slice va s.ids.length vc)), .int .i64 (topenE T s), .bool false] rfl (by decide) rfl ?duties ?rest)
      case duties =>
        refine ⟨?_, ?_, ?_, ?_, ?_, ?_, ?_, ?_, ?_, ?_, trivial⟩
        · refine dutyS_ext (GT.ext (by decide) (by decide)) fun d a w' hG hF hA => ?_
          have x1 := hF.slot 15 _ (by decide) rfl
          exact wp_value (w' := w') (v := .pointer (some ⟨bu, 0, none⟩)) (by simp only [execOp, x1]; simp [go_sem]) ⟨_, rfl, rfl, Ext.refl _⟩
        · refine dutyS_ext (GT.ext (by decide) (by decide)) fun d a w' hG hF hA => ?_
          have x1 := hF.slot 1 _ (by decide) rfl
          exact wp_value (w' := w') (v := .slice (some ⟨bl, off, none⟩) A.length sc) (by simp only [execOp, x1]; simp [go_sem]) ⟨_, rfl, rfl, Ext.refl _⟩
        · refine dutyS_ext (GT.ext (by decide) (by decide)) fun d a w' hG hF hA => ?_
          have x1 := hF.slot 17 _ (by decide) rfl
          exact wp_value (w' := w') (v := .int .i64 k) (by simp only [execOp, x1]; simp [go_sem]) ⟨_, rfl, rfl, Ext.refl _⟩
        · refine dutyS_ext (GT.ext (by decide) (by decide)) fun d a w' hG hF hA => ?_
          have x1 := hA.val 1 61 rfl rfl ⟨⟨1, .data⟩, by simp, rfl, rfl⟩ rfl
          have x2 := hA.val 2 62 rfl rfl ⟨⟨2, .data⟩, by simp, rfl, rfl⟩ rfl
          exact wp_value (w' := w') (v := .pointer (some ⟨bl, off + k * 3, none⟩)) (by simp only [execOp, x1, x2]; simp [go_sem, hlt]) ⟨_, rfl, rfl, Ext.refl _⟩
        · refine dutyS_ext (GT.ext (by decide) (by decide)) fun d a w' hG hF hA => ?_
          have x1 := hA.val 3 63 rfl rfl ⟨⟨3, .data⟩, by simp, rfl, rfl⟩ rfl
          exact wp_value (ex_load_at rfl _ x1 (seC s (.slice ia s.ids.length ic)) (HCW.out w' (HE2.out.trans hG.sub)) Tryz.underlying62 rfl sizeSe) ⟨_, rfl, rfl, Ext.refl _⟩
        · intro d a w' hdi _ _ hG hF hA
          have x1 := hA.val 0 60 rfl rfl ⟨⟨0, .data⟩, by simp, rfl, rfl⟩ rfl
          have x2 := hA.val 4 64 rfl rfl ⟨⟨4, .data⟩, by simp, rfl, rfl⟩ rfl
          have hd : d 5 = false := hdi
          have hEw' := HE2.out.trans hG.sub
          obtain ⟨⟨S, R, hU, hQ, hS, hb, hE⟩, hbx, hse⟩ := hG
          simp only [hd, Bool.false_eq_true, if_false] at hU
          refine wp_enter (ex_call rfl (enters_f Tryz.func20 (by kernel_rfl) rfl)) (by simp only [List.map_toArray, List.map_cons, List.map_nil, x1, x2]; exact sopen_any S w' bu bmu T T.length hU s ia ic HFIT.out (HIW.out.ext hEw') (HT.out.ext6 hEw') (HX.out.ext hEw') hic (by omega)) ?_
          rintro e w4 ⟨rfl, hU4, hM4⟩
          refine ⟨_, rfl, _, rfl, rfl, ?_⟩
          have e1 : (d 5 || (5 : Nat) == 5) = true := by simp
          have e2 : (d 8 || (8 : Nat) == 5) = d 8 := by simp
          show GT _ _ _ _ _ _ _ _ (fun k => d k || k == 5) w4
          unfold GT
          simp only [e1, e2, if_true]
          exact ⟨TwoT.open1 ⟨R, hQ⟩ hS hb hE hU4 hM4, hM4.cells hbx, hse.imp (fun k hk => ⟨hk.1, Nat.lt_of_lt_of_le hk.2 hM4.size⟩) fun _ _ _ _ hu => hM4.cell hu⟩
        · refine dutyS_ext (GT.ext (by decide) (by decide)) fun d a w' hG hF hA => ?_
          have x1 := hF.slot 16 _ (by decide) rfl
          exact wp_value (w' := w') (v := .pointer (some ⟨bq, 0, none⟩)) (by simp only [execOp, x1]; simp [go_sem]) ⟨_, rfl, rfl, Ext.refl _⟩
        · refine dutyS_ext (GT.ext (by decide) (by decide)) fun d a w' hG hF hA => ?_
          have x1 := hF.slot 18 _ (by decide) rfl
          exact wp_value (ex_load_row rfl _ x1 62 _ (0, 0) _ hG.2.1 Tryz.underlying62 rfl sizeSe) ⟨_, rfl, rfl, Ext.refl _⟩
        · intro d a w' hdi _ _ hG hF hA
          have x1 := hA.val 6 66 rfl rfl ⟨⟨6, .data⟩, by simp, rfl, rfl⟩ rfl
          have x2 := hA.val 7 67 rfl rfl ⟨⟨7, .data⟩, by simp, rfl, rfl⟩ rfl
          have hd : d 8 = false := hdi
          obtain ⟨⟨S, R, hU, hQ, hS, hb, hE⟩, hbx, hse⟩ := hG
          simp only [hd, Bool.false_eq_true, if_false] at hQ
          have hcl : Cells w'.heap.size w' va (idCs s.ids) := by
            obtain ⟨a', c', e', _, h⟩ := hse
            have e1 : Value.slice va s.ids.length vc = .slice a' s.ids.length c' := by
              have := congrArg (fun v => match v with | Value.agg cs => cs[2]? | _ => none) e'
              simpa [seC] using this
            cases e1
            exact CellsS.cells (B := w'.heap.size) h fun k hk => hk.2
          refine wp_enter (ex_call rfl (enters_f Tryz.func21 (by kernel_rfl) rfl)) (by simp only [List.map_toArray, List.map_cons, List.map_nil, x1, x2]; exact ropen8_any R w' bq T hQ HTOK.out s va vc HFIT.out hcl (by omega)) ?_
          rintro e w4 ⟨rfl, hQ4, hC4⟩
          refine ⟨_, rfl, _, rfl, rfl, ?_⟩
          have e1 : (d 8 || (8 : Nat) == 8) = true := by simp
          have e2 : (d 5 || (5 : Nat) == 8) = d 5 := by simp
          show GT _ _ _ _ _ _ _ _ (fun k => d k || k == 8) w4
          unfold GT
          simp only [e1, e2, if_true]
          exact ⟨TwoT.open2 hU hS hb hE hQ4 hC4, (hC4.same _ (Array.getElem?_eq_some_iff.1 hbx).1 (fun e => by omega)).trans hbx, hse.imp (fun k hk => ⟨hk.1, Nat.lt_of_lt_of_le hk.2 hC4.size⟩) fun b o u hb hu => (World.cell?_of_block (hC4.same b hb.2 hb.1)).trans hu⟩
        · refine dutyS_ext (GT.ext (by decide) (by decide)) fun d a w' hG hF hA => ?_
          have x1 := hA.val 5 65 rfl rfl ⟨⟨5, .data⟩, by simp, rfl, rfl⟩ rfl
          have x2 := hA.val 8 68 rfl rfl ⟨⟨8, .data⟩, by simp, rfl, rfl⟩ rfl
          exact wp_value (w' := w') (v := .bool false) (by simp only [execOp, x1, x2]; simp [go_sem]) ⟨_, rfl, rfl, Ext.refl _⟩
      case rest =>
        intro d W9 hdn hG9
        have hG9' := hG9.1
        simp only [hdn 5 (by decide), hdn 8 (by decide), if_true] at hG9'
        rw [← HTK.out] at hG9'
        have HFIN := Lib.hid hG9'
        clear hG9 hG9' hdn
        simp only [filled, List.zip_cons_cons, List.zip_nil_left, List.zip_nil_right, List.foldl_cons, List.foldl_nil, Act.put]
        go_simp
        rename_i hK
        refine hK _ _ ?_
        clear hK
        go_wp2
        go_roundw
        case rel => exact ⟨k + 1, by omega, by go_num, HFIN.out⟩
        case measure => simp [intOf]; omega
    · obtain rfl : k = A.length := by omega
      rw [List.take_length] at HTT
      have hTl : (openEach [] A).length ≤ A.length := by
        have := openEach_length (l := []) (r := A)
        simpa using this
      obtain ⟨S, R, hU, hQ, hS, hb, hEw⟩ := HTT.out
      have hfT := hU.fit
      obtain ⟨x, hx⟩ : ∃ x, x = codeZ (okQ L) z := ⟨_, rfl⟩
      obtain ⟨oz, hoz⟩ : ∃ oz, oz = okZ (okQ L) z := ⟨_, rfl⟩
      have HBO := Lib.hid (show ∀ p q W, StQ p oz (treeQ L) (openEach [] A) z W → Ext w W → BothOut L A z w (.returned (.tuple #[.pointer p, .pointer q, .bool true])) W from fun p q W h1 h2 => ⟨p, q, rfl, by rw [← hoz]; exact h1, h2⟩)
      have C4 := Lib.hid (afrom_x pt (okQ L) oz x S wr bu bmu _ (treeQ L) (openEach [] A) z hoz hx (HT1.out.ext hEw) hU (by omega) (by omega))
      have HQ := Lib.hid hQ
      have HEW := Lib.hid hEw
      have HFT := Lib.hid hfT
      have HX2 := Lib.hid hx
      have HOZ := Lib.hid hoz
      clear hU hQ hEw hS hb HTT hfT hx hoz
      go_wp2_with fail
      refine C4.out.mono ?_
      rintro e W5 ⟨p, rfl, hP, hE5⟩
      have hE5 : Ext wr W5 := hE5
      have C5 := Lib.hid (rf15_x pr (okQ L) oz x R W5 bq (treeQ L) (openEach [] A) z HOZ.out HX2.out (HT2.out.ext (HEW.out.trans hE5)) (HQ.out.ext hE5) HMok.out HFT.out (by omega) (by omega))
      have HP := Lib.hid hP
      have HE5 := Lib.hid hE5
      clear C4 hP hE5
      go_wp2_with fail
      refine C5.out.mono ?_
      rintro e W6 ⟨q, rfl, hP2, hE6⟩
      have hE6 : Ext W5 W6 := hE6
      have C6 := Lib.hid (alike_q p q oz W6 (treeQ L) (openEach [] A) z (HP.out.ext hE6) hP2 (by omega) (by omega))
      have HP := Lib.hid (HP.out.ext hE6)
      have HE6 := Lib.hid (HE5.out.trans hE6)
      have hx1 : (x == x) = true := by simp
      clear C5 hP2 hE6
      go_wp2_with fail
      refine C6.out.mono ?_
      rintro e W7 ⟨rfl, hE7⟩
      have HFIN := Lib.hid (HBO.out p q W7 (HP.out.ext hE7) (((HE2.out.trans HEW.out).trans HE6.out).trans hE7))
      clear C6 hE7
      go_wp2
      go_ret3
      exact HFIN.out
end Go.Proofs.YtclekhjnnljjlaaGreatDoor
