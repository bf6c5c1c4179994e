/- The walk of a node's copy, as the reference has it. The walk of arborref07's Insert. A text is appended to a row of the call's own: one law for the walk. Rows of partings, and how one is appended. Partings sorted by their paths: the library's sort at this program's closure. A region that draws its order, its operations turning memory and making values: an invariant that knows which of them are done, and what they yielded. The walk of arborref07's Take. The walks of arborref03's last and Parent. The walks of the reference of stat.Right, and of its look at UTF-8. The walk of the reference of stat.Right. The walk of arborref07.From. The walks of arborref03's Name and arborref07's Kids. The walk of Put. Plain laws for TreePlays: where a path is taken out of the document's list; what a call makes of the nodes. The walk of After: a range over the map of nodes, in an order that nobody knows. The walk of stat.Encode, where the node may be. The walk of the sum of bytes; a node's number. The walk of a node's number. The walk of the tree's number: a range over the tree's nodes. A nil tree: what is told of it. The walk of the law's Below: a range over the nodes under a path. The walks of a nil tree's methods. The walks of arborref07's Get and After. The walks of arborref07's Add, Put and Remove. -/
import Derived.Test.YthinpbdbhijbgaaGreatDoorJDigestFinds2
import Derived.Test.YthinpbdbhijbgaaGreatDoorJDigestFinds3
import Derived.Test.YthinpbdbhijbgaaGreatDoorJDigestFinds7
import Derived.Test.YthinpbdbhijbgaaGreatDoorJDigestFinds6
import Derived.Test.YthinpbdbhijbgaaGreatDoorSortF
import Derived.Shelf.SlSortCmp.WholeK
import Derived.Shelf.SlSortCmp.NoneTotal
import Derived.Shelf.Small.Strs
import Derived.Great.BuildSlice
import Derived.Test.YthinpbdbhijbgaaGreatDoorJDigestFinds4
import Derived.Test.YthinpbdbhijbgaaGreatDoorJDigestFinds5
import Derived.Maps.RangeWalk
namespace Go.Proofs.YthinpbdbhijbgaaGreatDoor
open Go.RowKit
set_option maxHeartbeats 2000000
set_option maxRecDepth 100000

/-- The copy's cells are new. -/
def CloneNew (n : Nd) (w : World) (e : Ending) (w' : World) : Prop := ∃ v, e = .returned v ∧ NdS (fun k => w.heap.size ≤ k ∧ k < w'.heap.size) w' v n ∧ Below w.heap.size w w'

/-- The same, with the rows that the clone's data and list lie in. -/
def CloneOwn (n : Nd) (w : World) (e : Ending) (w' : World) : Prop := ∃ va vc vb vd, e = .returned (.agg (ndC n (.slice va n.data.length vc) (.slice vb n.acl.length vd))) ∧ NdS (fun k => w.heap.size ≤ k ∧ k < w'.heap.size) w' (.agg (ndC n (.slice va n.data.length vc) (.slice vb n.acl.length vd))) n ∧
  w'.ownsRow w.heap.size 5 1 (.slice va n.data.length vc) n.data.length (n.data.map u8v) ∧ w'.ownsRow w.heap.size 129 3 (.slice vb n.acl.length vd) n.acl.length (acCs n.acl) ∧ (∀ g, (Value.slice va n.data.length vc).ownBlock = some g → (Value.slice vb n.acl.length vd).ownBlock ≠ some g) ∧ Below w.heap.size w w'
theorem own_move {w w' : World} {base base' size n : Nat} {e : TypeId} {v : Value} {xs : List Value} (h : w.ownsRow base e size v n xs) (hb : ∀ g, base ≤ g → g < w.heap.size → w'.heap[g]? = w.heap[g]?) (hbb : base' ≤ base) : w'.ownsRow base' e size v n xs := by
  refine ⟨h.1, ?_⟩
  rcases h.2 with h | ⟨g, cap, cur, h1, h2, h3, h4⟩
  · exact .inl h
  · exact .inr ⟨g, cap, cur, h1, Nat.le_trans hbb h2, (hb g h2 (Array.getElem?_eq_some_iff.1 h3).1).trans h3, h4⟩

theorem rclone_own (n : Nd) (da aa : Option Addr) (dc ac : Nat) (w : World) (hf : Fit n) (hD : Cells w.heap.size w da (n.data.map u8v)) (hA : Cells w.heap.size w aa (acCs n.acl)) :
    Calls Tryz.prog 74 #[.agg (ndC n (.slice da n.data.length dc) (.slice aa n.acl.length ac))] w (CloneOwn n w) := by
  obtain ⟨i0, hi, hz0, hz1, hz2⟩ := info_parts infoU8
  obtain ⟨i1, hi', hz0', hz1', hz2'⟩ := info_parts infoAc
  have hfd := hf.data
  have hfa := hf.acl
  obtain ⟨W2, hW2⟩ : ∃ W2, W2 = (w.alloc (.cells (ndC n (.slice da n.data.length dc) (.slice aa n.acl.length ac)) 44)).alloc (.cells #[.string ⟨#[]⟩, .slice none 0 0, .slice none 0 0, .int .i64 0, .int .i64 0, .int .i64 0, .int .i64 0, .int .i64 0, .int .i64 0, .int .i64 0, .int .i64 0, .int .i32 0, .int .i32 0, .int .i32 0, .bool false, .int .i64 0, .int .i64 0] 44) := ⟨_, rfl⟩
  have hs2 : W2.heap.size = w.heap.size + 1 + 1 := by rw [hW2]; simp
  have hb2 : Below w.heap.size w W2 := by rw [hW2]; exact ((Below.refl _ _).alloc (Nat.le_refl _) _).alloc (by simp) _
  have hA2 : W2.heap[w.heap.size]? = some (.cells (ndC n (.slice da n.data.length dc) (.slice aa n.acl.length ac)) 44 (0, 0)) := by rw [hW2]; exact heap_alloc2_old w _ _
  have hR2 : W2.heap[w.heap.size + 1]? = some (.cells #[.string ⟨#[]⟩, .slice none 0 0, .slice none 0 0, .int .i64 0, .int .i64 0, .int .i64 0, .int .i64 0, .int .i64 0, .int .i64 0, .int .i64 0, .int .i64 0, .int .i32 0, .int .i32 0, .int .i32 0, .bool false, .int .i64 0, .int .i64 0] 44 (0, 0)) := by rw [hW2]; exact heap_alloc2_new w _ _
  have hown1 := ownsRow_empty W2 5 1
  rw [hs2] at hown1
  have hsrc1 : Src Tryz.prog 1 41 (.slice da n.data.length dc) n.data.length (n.data.map u8v) (W2.alloc (.cells #[] 5)) := ((hD.below hb2).below ((Below.refl w.heap.size W2).alloc (by omega) _)).src Tryz.underlying41 _ _ (by simp) (one_u8 _)
  have hz3 : (W2.alloc (.cells #[] 5)).heap.size = w.heap.size + 1 + 1 + 1 := by simp [hs2]
  have hZ3 := Lib.hid hz3
  have HW2 := Lib.hid hW2
  rw [hW2] at hown1 hsrc1
  unfold ndC at hown1 hsrc1 hA2 HW2 ⊢
  clear hW2 hz3 hs2
  go_enter Tryz.func74, Tryz.ntmps74
  go_wp2_with (at_builtin; refine wpList_append_src _ rfl (.tmp 3) (.tmp 5) 41 41 rfl (w.heap.size + 1 + 1) 5 i0 (.int .u8 0) 1 1 Tryz.underlying41 hi hz0 hz1 hz2 rfl (by decide) _ 0 _ rfl hown1 _ _ _ rfl hsrc1 ?c1 ?c2 ?c3 ?_)
  case c1 => simp only [maxLen]; omega
  case c2 => omega
  case c3 => simp
  intro v1 w4 ho1 hg1 _ hob1
  have ho1' := ho1
  try simp only [List.nil_append, Nat.zero_add] at ho1'
  have HO1 := Lib.hid ho1'
  clear ho1'
  rw [← HW2.out] at hg1
  have hZ := hZ3.out
  have nb3 : w.heap.size < (W2.alloc (.cells #[] 5)).heap.size := by omega
  have hA4 : w4.heap[w.heap.size]? = some (.cells (ndC n (.slice da n.data.length dc) (.slice aa n.acl.length ac)) 44 (0, 0)) := by
    rw [hg1.block w.heap.size nb3 (by simp only [Value.ownBlock, ne_eq, Option.some.injEq]; omega), Below.heap_alloc W2 _ w.heap.size (by have := (Array.getElem?_eq_some_iff.1 hA2).1; exact this)]; exact hA2
  have hR4 : ∃ old, w4.heap[w.heap.size + 1]? = some (.cells old 44 (0, 0)) ∧ old.size = 17 := by
    have h := (hg1.block (w.heap.size + 1) (by omega) (by simp only [Value.ownBlock, ne_eq, Option.some.injEq]; omega)).trans ((Below.heap_alloc W2 (.cells #[] 5) (w.heap.size + 1) (by have := (Array.getElem?_eq_some_iff.1 hR2).1; exact this)).trans hR2)
    exact ⟨_, h, rfl⟩
  obtain ⟨old, hR4, hold⟩ := hR4
  have hb4 : Below w.heap.size w w4 := (hb2.alloc (by have := hb2.size; omega) _).grown hg1 (by omega) (fun k hk => by simp only [Value.ownBlock, Option.some.injEq] at hk; omega)
  obtain ⟨va, vc, rfl, hD4⟩ := ownsRow_cells ho1
  have hvb : ∀ b off, va = some ⟨b, off, none⟩ → w.heap.size + 1 + 1 ≤ b := by
    intro b off h
    subst h
    rcases ho1.2 with ⟨h, _⟩ | ⟨g, cap, cur, h, k1, _⟩
    · cases h
    · simp only [Value.slice.injEq, Option.some.injEq, Addr.mk.injEq] at h; omega
  have hz4 := hg1.size
  clear ho1 hg1 hob1 hR2 hb2 hD hZ3
  have hcell : w4.cell? ⟨w.heap.size, 1, none⟩ = some (.slice da n.data.length dc) := by rw [cell_of_row w4 w.heap.size 1 _ _ _ hA4]; rfl
  have hfr : w4.frozen? ⟨w.heap.size, 1, none⟩ = false := frozen_of_row w4 w.heap.size 1 _ _ hA4
  obtain ⟨W5, hW5⟩ : ∃ W5, W5 = w4.setCell ⟨w.heap.size, 1, none⟩ (.slice va n.data.length vc) := ⟨_, rfl⟩
  have hs5 : W5.heap.size = w4.heap.size := by rw [hW5]; simp [World.setCell]
  have hA5 : W5.heap[w.heap.size]? = some (.cells (ndC n (.slice va n.data.length vc) (.slice aa n.acl.length ac)) 44 (0, 0)) := by
    rw [hW5, heap_setCell_same w4 w.heap.size 1 _ _ _ hA4]; rfl
  have hR5 : W5.heap[w.heap.size + 1]? = some (.cells old 44 (0, 0)) := by rw [hW5, Below.heap_setCell _ _ _ _ (by simp)]; exact hR4
  have hb5 : Below w.heap.size w W5 := by rw [hW5]; exact hb4.setCell (p := ⟨w.heap.size, 1, none⟩) (Nat.le_refl _) _
  have hD5 : Cells W5.heap.size W5 va (n.data.map u8v) := fun j u hj => by
    obtain ⟨b, off, h1, h2, h3⟩ := hD4 j u hj
    have := hvb b off h1
    refine ⟨b, off, h1, by omega, ?_⟩
    rw [hW5, World.cell?_of_block (w := w4) (Below.heap_setCell _ _ _ _ (by simp; omega))]
    exact h3
  have hown2 := ownsRow_empty W5 129 3
  rw [hs5] at hown2
  have hsrc2 : Src Tryz.prog 3 42 (.slice aa n.acl.length ac) n.acl.length (acCs n.acl) (W5.alloc (.cells #[] 129)) := ((hA.below hb5).below ((Below.refl w.heap.size W5).alloc (by omega) _)).src Tryz.underlying42 _ _ (acCs_length _) (one_ac _)
  have HW5 := Lib.hid hW5
  have hcell2 : (w4.setCell ⟨w.heap.size, 1, none⟩ (.slice va n.data.length vc)).cell? ⟨w.heap.size, 2, none⟩ = some (.slice aa n.acl.length ac) := by rw [← hW5, cell_of_row W5 w.heap.size 2 _ _ _ hA5]; rfl
  rw [hW5] at hown2 hsrc2
  have HS5 := Lib.hid hs5
  have hnb4 : w.heap.size < w4.heap.size := by omega
  have hnb5 : w.heap.size + 1 < w4.heap.size := by omega
  clear hW5 hs5 hA4 hR4 hb4 hD4 hA2 HW2 hA
  go_wp2_with (at_builtin; refine wpList_append_src _ rfl (.tmp 8) (.tmp 10) 42 42 rfl w4.heap.size 129 i1 (.agg #[.int .i32 0, .string ⟨#[]⟩, .string ⟨#[]⟩]) 3 40 Tryz.underlying42 hi' hz0' hz1' hz2' rfl (by decide) _ 0 _ rfl hown2 _ _ _ rfl hsrc2 ?d1 ?d2 ?d3 ?_)
  case d1 => simp only [maxLen]; omega
  case d2 => omega
  case d3 => simp
  intro v2 w6 ho2 hg2 _ hob2
  have ho2' := ho2
  try simp only [List.nil_append, Nat.zero_add] at ho2'
  have HO2 := Lib.hid ho2'
  clear ho2'
  rw [← HW5.out] at hg2
  have hk6 : ∀ b, b < w4.heap.size → w6.heap[b]? = W5.heap[b]? := fun b hb => (hg2.block b (by simp; have := HS5.out; omega) (by simp only [Value.ownBlock, ne_eq, Option.some.injEq]; omega)).trans (Below.heap_alloc W5 _ b (by have := HS5.out; omega))
  have h54 : ∀ b, w.heap.size + 1 + 1 ≤ b → W5.heap[b]? = w4.heap[b]? := fun b hb => by rw [HW5.out]; exact Below.heap_setCell _ _ _ _ (by simp; omega)
  have HK6 := Lib.hid hk6
  have H54 := Lib.hid h54
  clear hk6 h54
  have hs5 := HS5.out
  have hA6 : w6.heap[w.heap.size]? = some (.cells (ndC n (.slice va n.data.length vc) (.slice aa n.acl.length ac)) 44 (0, 0)) :=
    (hg2.block w.heap.size (by simp; omega) (by simp only [Value.ownBlock, ne_eq, Option.some.injEq]; omega)).trans ((Below.heap_alloc W5 _ w.heap.size (by omega)).trans hA5)
  have hR6 : w6.heap[w.heap.size + 1]? = some (.cells old 44 (0, 0)) :=
    (hg2.block (w.heap.size + 1) (by simp; omega) (by simp only [Value.ownBlock, ne_eq, Option.some.injEq]; omega)).trans ((Below.heap_alloc W5 _ (w.heap.size + 1) (by omega)).trans hR5)
  have hb6 : Below w.heap.size w w6 := (hb5.alloc (by omega) _).grown hg2 (by simp; omega) (fun k hk => by simp only [Value.ownBlock, Option.some.injEq] at hk; omega)
  have hz6 := hg2.size
  have hD6 : Cells W5.heap.size w6 va (n.data.map u8v) := fun j u hj => by
    obtain ⟨b, off, h1, h2, h3⟩ := hD5 j u hj
    refine ⟨b, off, h1, h2, (World.cell?_of_block (hg2.block b (by simp; omega) (by simp only [Value.ownBlock, ne_eq, Option.some.injEq]; omega))).trans ?_⟩
    exact (World.cell?_of_block (w := W5) (Below.heap_alloc W5 _ b h2)).trans h3
  obtain ⟨vb, vd, rfl, hE6⟩ := ownsRow_cells ho2
  have hvb2 : ∀ b off, vb = some ⟨b, off, none⟩ → w.heap.size + 1 + 1 ≤ b := by
    intro b off h
    subst h
    rcases ho2.2 with ⟨h, _⟩ | ⟨g, cap, cur, h, k1, _⟩
    · cases h
    · simp only [Value.slice.injEq, Option.some.injEq, Addr.mk.injEq] at h; omega
  clear ho2 hg2 hob2 hA5 hR5 hb5 hD5 hown2 hsrc2 hcell hfr hcell2
  have hcell : w6.cell? ⟨w.heap.size, 2, none⟩ = some (.slice aa n.acl.length ac) := by rw [cell_of_row w6 w.heap.size 2 _ _ _ hA6]; rfl
  have hfr : w6.frozen? ⟨w.heap.size, 2, none⟩ = false := frozen_of_row w6 w.heap.size 2 _ _ hA6
  have hA7 : (w6.setCell ⟨w.heap.size, 2, none⟩ (.slice vb n.acl.length vd)).heap[w.heap.size]? = some (.cells (ndC n (.slice va n.data.length vc) (.slice vb n.acl.length vd)) 44 (0, 0)) := by
    rw [heap_setCell_same w6 w.heap.size 2 _ _ _ hA6]; rfl
  have hR7 : (w6.setCell ⟨w.heap.size, 2, none⟩ (.slice vb n.acl.length vd)).heap[w.heap.size + 1]? = some (.cells old 44 (0, 0)) := by rw [Below.heap_setCell _ _ _ _ (by simp)]; exact hR6
  have HA7 := Lib.hid hA7
  have HR7 := Lib.hid hR7
  clear hA7 hR7 hA6 hR6
  go_wp2_with (first | (refine wpList_load_row rfl 44 (.tmp 1) rfl w.heap.size rfl 44 _ (0, 0) _ HA7.out Tryz.underlying44 rfl sizeNd ?_) | (refine wpList_store_row rfl 44 (.tmp 2) (.tmp 13) rfl (w.heap.size + 1) _ rfl rfl 44 old HR7.out sizeNd hold (cells_node n va vb _ _ vc vd) ?_))
  obtain ⟨W7, hW7⟩ : ∃ W7, W7 = w6.setCell ⟨w.heap.size, 2, none⟩ (.slice vb n.acl.length vd) := ⟨_, rfl⟩
  have hA7 := HA7.out
  have hR7 := HR7.out
  rw [← hW7] at hA7 hR7 ⊢
  have hs7 : W7.heap.size = w6.heap.size := by rw [hW7]; simp [World.setCell]
  have hb7 : Below w.heap.size w W7 := by rw [hW7]; exact hb6.setCell (p := ⟨w.heap.size, 2, none⟩) (Nat.le_refl _) _
  have ho7 : ∀ b, w.heap.size + 1 + 1 ≤ b → W7.heap[b]? = w6.heap[b]? := fun b hb => by rw [hW7]; exact Below.heap_setCell _ _ _ _ (by simp; omega)
  obtain ⟨cs, hcs⟩ : ∃ cs, cs = ndC n (.slice va n.data.length vc) (.slice vb n.acl.length vd) := ⟨_, rfl⟩
  rw [← hcs] at hA7 ⊢
  have hR8 := setRow_heap W7 (w.heap.size + 1) old cs 44 (0, 0) hR7
  have hs8 : (W7.setRow (w.heap.size + 1) cs).heap.size = W7.heap.size := by simp [World.setRow]
  have hb8 : Below w.heap.size w (W7.setRow (w.heap.size + 1) cs) :=
    hb7.trans ⟨rfl, rfl, rfl, by rw [hs8]; exact Nat.le_refl _, fun k hk => setRow_other _ _ _ _ (by omega)⟩
  have ho8 : ∀ b, w.heap.size + 1 + 1 ≤ b → (W7.setRow (w.heap.size + 1) cs).heap[b]? = w6.heap[b]? := fun b hb => (setRow_other _ _ _ _ (by omega)).trans (ho7 b hb)
  have hz := HS5.out
  have hzz : W5.heap.size ≤ w6.heap.size := by have := hz6; simp at this; omega
  have cD : CellsS (fun k => w.heap.size ≤ k ∧ k < (W7.setRow (w.heap.size + 1) cs).heap.size) (W7.setRow (w.heap.size + 1) cs) va (n.data.map u8v) := fun j u hj => by
    obtain ⟨b, off, h1, h2, h3⟩ := hD6 j u hj
    have h4 := hvb b off h1
    exact ⟨b, off, h1, ⟨by omega, by omega⟩, (World.cell?_of_block (ho8 b h4)).trans h3⟩
  have cA : CellsS (fun k => w.heap.size ≤ k ∧ k < (W7.setRow (w.heap.size + 1) cs).heap.size) (W7.setRow (w.heap.size + 1) cs) vb (acCs n.acl) := fun j u hj => by
    obtain ⟨b, off, h1, h2, h3⟩ := hE6 j u hj
    have h4 := hvb2 b off h1
    exact ⟨b, off, h1, ⟨by omega, by omega⟩, (World.cell?_of_block (ho8 b h4)).trans h3⟩
  have hsz17 : (Tryz.prog.info? 44).map (·.size) = some cs.size := by rw [hcs]; exact sizeNd
  have own1 := own_move (base' := w.heap.size) HO1.out (w' := W7.setRow (w.heap.size + 1) cs) (fun g h1 h2 => (ho8 g h1).trans ((HK6.out g h2).trans (H54.out g h1))) (by omega)
  have own2 := own_move (base' := w.heap.size) HO2.out (w' := W7.setRow (w.heap.size + 1) cs) (fun g h1 h2 => ho8 g (by omega)) (by omega)
  have hap : ∀ g, (Value.slice va n.data.length vc).ownBlock = some g → (Value.slice vb n.acl.length vd).ownBlock ≠ some g := fun g h1 h2 => by
    have h3 := (World.ownsRow.lt HO1.out g h1).2
    have h4 := (World.ownsRow.lt HO2.out g h2).1
    omega
  refine bodyPost_ret (v := .agg cs) ?_ rfl ⟨va, vc, vb, vd, by rw [hcs], ⟨va, vc, vb, vd, rfl, cD, cA⟩, own1, own2, hap, hb8⟩
  exact results_cell_row (p := 2) (ty := 44) rfl _ _ (w.heap.size + 1) 44 cs (0, 0) _ rfl hR8 Tryz.underlying44 rfl hsz17

theorem rclone_new (n : Nd) (da aa : Option Addr) (dc ac : Nat) (w : World) (hf : Fit n) (hD : Cells w.heap.size w da (n.data.map u8v)) (hA : Cells w.heap.size w aa (acCs n.acl)) :
    Calls Tryz.prog 74 #[.agg (ndC n (.slice da n.data.length dc) (.slice aa n.acl.length ac))] w (CloneNew n w) :=
  (rclone_own n da aa dc ac w hf hD hA).mono fun _ _ ⟨va, vc, vb, vd, h1, h2, _, _, _, h3⟩ => ⟨_, h1, h2, h3⟩
end Go.Proofs.YthinpbdbhijbgaaGreatDoor
namespace Go.Proofs.YthinpbdbhijbgaaGreatDoor
open Go.RowKit
set_option maxHeartbeats 2000000
set_option maxRecDepth 100000

/-- The document's tree, its rows in whatever blocks but its own. -/
def RT (w : World) (b : Nat) (L : List Nd) : Prop := RTree (fun k => k < w.heap.size ∧ k ≠ b) w b L
theorem RTree.rt {S : Nat → Prop} {w : World} {b : Nat} {L : List Nd} (h : RTree S w b L) : RT w b L := h.keep h.bound rfl (fun _ _ => rfl) fun _ h => h
theorem RT.ext {w w' : World} {b : Nat} {L : List Nd} (h : RT w b L) (he : Ext w w') : RT w' b L := (RTree.ext h he).rt
theorem RT.lt {w : World} {b : Nat} {L : List Nd} (h : RT w b L) : b < w.heap.size := RTree.lt h

end Go.Proofs.YthinpbdbhijbgaaGreatDoor
namespace Go.Proofs.YthinpbdbhijbgaaGreatDoor
open Go.RowKit Go.Sort
set_option maxHeartbeats 2000000
set_option maxRecDepth 100000

end Go.Proofs.YthinpbdbhijbgaaGreatDoor
namespace Go.Proofs.YthinpbdbhijbgaaGreatDoor
open Go.RowKit Go.Sort
set_option maxHeartbeats 1000000
set_option maxRecDepth 100000

def encK (z : Key × Int) : List Value := [.string ⟨z.1.toArray⟩, .int .i64 z.2]
def rowK (L : List (Key × Int)) : List Value := L.flatMap encK
theorem rowK_append (L L' : List (Key × Int)) : rowK (L ++ L') = rowK L ++ rowK L' := List.flatMap_append ..
theorem rowK_one (z : Key × Int) : rowK [z] = [.string ⟨z.1.toArray⟩, .int .i64 z.2] := rfl
theorem rowK_at : ∀ (L : List (Key × Int)) (i : Nat) (z : Key × Int), L[i]? = some z → (rowK L)[i * 2]? = some (.string ⟨z.1.toArray⟩) ∧ (rowK L)[i * 2 + 1]? = some (.int .i64 z.2)
  | [], i, z, h => by simp at h
  | y :: l, 0, z, h => by
    obtain rfl : y = z := by simpa using h
    exact ⟨rfl, rfl⟩
  | y :: l, i + 1, z, h => by
    have ih := rowK_at l i z (by simpa using h)
    have e : rowK (y :: l) = .string ⟨y.1.toArray⟩ :: .int .i64 y.2 :: rowK l := rfl
    rw [e, show (i + 1) * 2 = i * 2 + 1 + 1 from by omega]
    exact ⟨by simpa using ih.1, by simpa using ih.2⟩
def PrtsAt (w : World) (a : Option Addr) (L : List (Key × Int)) : Prop := ∀ i z, L[i]? = some z → ∃ b off, a = some ⟨b, off, none⟩ ∧ b < w.heap.size ∧ w.cell? ⟨b, off + i * 2, none⟩ = some (.string ⟨z.1.toArray⟩) ∧ w.cell? ⟨b, off + i * 2 + 1, none⟩ = some (.int .i64 z.2)
theorem PrtsAt.ext {w w' : World} {a : Option Addr} {L : List (Key × Int)} (h : PrtsAt w a L) (hE : Ext w w') : PrtsAt w' a L := fun i z hz => by
  obtain ⟨b, off, e, hb, h1, h2⟩ := h i z hz
  exact ⟨b, off, e, Nat.lt_of_lt_of_le hb hE.size, (hE.cell (p := ⟨b, off + i * 2, none⟩) hb).trans h1, (hE.cell (p := ⟨b, off + i * 2 + 1, none⟩) hb).trans h2⟩
end Go.Proofs.YthinpbdbhijbgaaGreatDoor
namespace Go.Proofs.YthinpbdbhijbgaaGreatDoor
open Go.RowKit Go.Sort Go.Shelf Go.Lib
set_option maxHeartbeats 4000000
set_option maxRecDepth 100000

/-- A parting whose path memory may hold. -/
def Pt : Type := { z : Key × Int // z.1.length ≤ maxLen }
instance : Inhabited Pt := ⟨⟨([], 0), Nat.zero_le _⟩⟩
def encP (x : Pt) : List Value := encK x.1
def cmpP (x y : Pt) : Int := ordL x.1.1 y.1.1
theorem ltP (x y : Pt) : ltOf cmpP x y = bytesBefore x.1.1 y.1.1 := by
  unfold ltOf cmpP
  rw [Bool.eq_iff_iff, decide_eq_true_iff]
  exact ordL_neg _ _
theorem swoP : SWO (ltOf cmpP) where
  irrefl x := by rw [ltP]; exact WideAt.bytes_irrefl _
  trans x y z h1 h2 := by
    rw [ltP] at *
    exact WideShapes.bytes_trans _ _ _ h1 h2
  ntrans x y z h1 h2 := by
    rw [ltP] at *
    cases h : bytesBefore x.1.1 z.1.1 with
    | false => rfl
    | true =>
      by_cases e : x.1.1 = y.1.1
      · rw [← e, h] at h2; cases h2
      · rcases WideAt.bytes_total _ _ e with h3 | h3
        · rw [h3] at h1; cases h1
        · rw [WideShapes.bytes_trans _ _ _ h3 h] at h2; cases h2
theorem compare_ordL : ∀ a b : List UInt8, compareBytes a b = ordL a b
  | [], [] => rfl
  | [], _ :: _ => rfl
  | _ :: _, [] => rfl
  | x :: a, y :: b => by
    unfold compareBytes ordL
    rw [compare_ordL a b]
    simp only [UInt8.lt_iff_toNat_lt]
theorem porder_any (a b : ByteArray) (w : World) : Calls Tryz.prog 119 #[.string a, .string b] w fun e w' => e = .returned (.int .i64 (ordL a.data.toList b.data.toList)) ∧ w' = w := by
  have C := Any.strings_Compare Tryz.cmpS a b w
  change Calls Tryz.prog 164 _ _ _ at C
  rw [compare_ordL] at C
  generalize ordL a.data.toList b.data.toList = z at C ⊢
  go_enter Tryz.func119, Tryz.ntmps119
  go_wp2_with fail
  refine C.mono ?_
  rintro e w' ⟨rfl, rfl⟩
  go_wp2
  go_ret
  exact ⟨rfl, rfl⟩
theorem closP_any (x y : Pt) (W : World) : Calls Tryz.prog 118 #[.agg (encP x).toArray, .agg (encP y).toArray] W fun e w' => e = .returned (.int .i64 (cmpP x y)) ∧ ∃ q os', w' = grow (W.drewN q) os' := by
  have C := fun W => porder_any ⟨x.1.1.toArray⟩ ⟨y.1.1.toArray⟩ W
  have e1 : ordL (⟨x.1.1.toArray⟩ : ByteArray).data.toList (⟨y.1.1.toArray⟩ : ByteArray).data.toList = cmpP x y := rfl
  rw [e1] at C
  unfold encP encK
  generalize cmpP x y = z at *
  generalize (⟨x.1.1.toArray⟩ : ByteArray) = p at *
  generalize (⟨y.1.1.toArray⟩ : ByteArray) = q at *
  have C := Lib.hid C
  clear e1
  go_enter Tryz.func118, Tryz.ntmps118
  go_wp2_with fail
  refine (C.out _).mono ?_
  rintro e w' ⟨rfl, rfl⟩
  go_wp2
  go_ret
  exact ⟨rfl, 0, _, by rw [alloc_eq_grow, alloc_eq_grow, grow_grow]; rfl⟩
theorem cmpLaysP (blk off size : Nat) (w : World) : CmpLays Tryz.prog 118 #[] encP 2 cmpP blk off size w := fun _ _ _ _ x y => closP_any x y _

theorem get_row (D : List (Key × Int)) : ∀ t, t < D.length * 2 → (rowK D)[t]? = some ((encK (D.toArray[t / 2]!))[t % 2]!) := fun t ht => by
  have hi : t / 2 < D.length := by omega
  obtain ⟨h1, h2⟩ := rowK_at D (t / 2) D[t / 2] (List.getElem?_eq_getElem hi)
  have e : D.toArray[t / 2]! = D[t / 2] := by
    rw [getElem!_pos D.toArray (t / 2) (by simpa using hi)]; simp
  rw [e]
  rcases Nat.mod_two_eq_zero_or_one t with h | h
  · rw [h]
    exact (congrArg (fun i => (rowK D)[i]?) (show t = t / 2 * 2 by omega)).trans h1
  · rw [h]
    exact (congrArg (fun i => (rowK D)[i]?) (show t = t / 2 * 2 + 1 by omega)).trans h2
theorem holds_row {w : World} {base : Nat} {e : TypeId} {g c : Nat} {D : List Pt} (h : w.ownsRow base e 2 (.slice (some ⟨g, 0, none⟩) D.length c) D.length (rowK (D.map (·.1)))) : HoldsK encP 2 w g 0 D.toArray ∧ g < w.heap.size := by
  obtain ⟨hl, h2⟩ := h
  rcases h2 with ⟨h, _⟩ | ⟨g', cap, cur, hv, hb, hg, h3, h4, h5, h6⟩
  · cases h
  cases hv
  refine ⟨fun j hj => ?_, (Array.getElem?_eq_some_iff.1 hg).1⟩
  have hj' : j < D.length * 2 := by simpa using hj
  have hr := get_row (D.map (·.1)) j (by simpa using hj')
  have hc : cur[j]? = some ((encK ((D.map (·.1)).toArray[j / 2]!))[j % 2]!) := by
    rw [← h6, List.getElem?_take_of_lt hj'] at hr
    simpa using hr
  have e1 : (flatK encP 2 D.toArray)[j]! = (encK ((D.map (·.1)).toArray[j / 2]!))[j % 2]! := by
    rw [get_flatK _ _ _ _ (by simpa using hj')]
    have hi : j / 2 < D.length := by omega
    rw [getElem!_pos D.toArray (j / 2) (by simpa using hi), getElem!_pos (D.map (·.1)).toArray (j / 2) (by simpa using hi)]
    simp [encP]
  rw [Nat.zero_add]
  refine ⟨?_, by simp [World.frozen?, hg]⟩
  rw [cell_of_row _ _ _ _ _ _ hg, hc]
  show _ = some (id _)
  rw [e1]; rfl
theorem sort_chg (w : World) (g n : Nat) (D : Array Pt) (os : Array Obj) : Chg (· = g) w (sortWorldK encP 2 w g 0 n D os) := by
  have hz : (putRowK encP 2 (Sort.ahead w n) g 0 D).heap.size = w.heap.size := by unfold putRowK; rw [size_putRow]; rfl
  refine ⟨rfl, rfl, rfl, ?_, fun k hk hn => ?_⟩
  · exact size_sortWorldK_c encP 2 w g 0 n D os
  · unfold sortWorldK grow
    show ((putRowK encP 2 (Sort.ahead w n) g 0 D).heap ++ os)[k]? = _
    rw [Array.getElem?_append_left (by rw [hz]; exact hk)]
    show (w.heap.modify g _)[k]? = _
    rw [Array.getElem?_modify, if_neg (fun e => hn e.symm)]
theorem prts_hold {w : World} {g : Nat} {D : Array Pt} (h : HoldsK encP 2 w g 0 D) (hg : g < w.heap.size) : PrtsAt w (some ⟨g, 0, none⟩) (D.toList.map (·.1)) := fun i z hz => by
  rw [List.getElem?_map] at hz
  obtain ⟨x, hx, rfl⟩ := Option.map_eq_some_iff.1 hz
  have hi : i < D.size := by
    have := (List.getElem?_eq_some_iff.1 hx).1
    simpa using this
  have e : D[i]! = x := by
    rw [getElem!_pos D i hi]
    rw [Array.getElem?_toList, Array.getElem?_eq_getElem hi] at hx
    exact Option.some.inj hx
  have hc := HoldsK.cells h (fun x => rfl) hi
  rw [e] at hc
  refine ⟨g, 0, rfl, hg, ?_, ?_⟩
  · have := hc 0 _ rfl
    rwa [addr_add] at this
  · have := hc 1 _ rfl
    rwa [addr_add] at this
/-- The sort, whatever the row. -/
theorem sortP_any {w : World} {base : Nat} {v : Value} {D : List Pt} (h : w.ownsRow base 90 2 v D.length (rowK (D.map (·.1)))) (hl : D.length < 4611686018427387904) :
    Calls Tryz.prog 117 #[v, .func (.func 118) #[] #[]] w fun e w' => e = .returned (.tuple #[]) ∧ ∃ (a : Option Addr) (c : Nat) (D' : List (Key × Int)), v = .slice a D.length c ∧ D'.Perm (D.map (·.1)) ∧ (D'.Pairwise fun x y => bytesBefore y.1 x.1 = false) ∧ PrtsAt w' a D' ∧ Chg (fun k => v.ownBlock = some k) w w' := by
  rcases h.2 with ⟨rfl, h0⟩ | ⟨g, cap, cur, rfl, h1, h2, h3⟩
  · obtain rfl : D = [] := List.eq_nil_of_length_eq_zero h0
    have C := AnyF.slices_SortFunc_none Tryz.sortP none 0 (.func (.func 118) #[] #[]) w
    change Calls Tryz.prog 117 _ _ _ at C
    refine C.mono ?_
    rintro e w' ⟨rfl, rfl⟩
    exact ⟨rfl, none, 0, [], rfl, List.Perm.nil, List.Pairwise.nil, fun i z hz => by simp at hz, Chg.refl _ _⟩
  · obtain ⟨hH, hg⟩ := holds_row h
    have C := AnyQ.slices_SortFunc Tryz.sortP 2 Tryz.isAgg90 Tryz.sizeOf90 encP (fun _ => rfl) (fun x v hv => by simp [encP, encK] at hv; rcases hv with rfl | rfl <;> rfl) cmpP swoP 118 #[] g 0 cap D.toArray w (enters_of Tryz.func118 (by kernel_rfl) rfl) (cmpLaysP g 0 _ w) hH hg (by simpa using hl)
    change Calls Tryz.prog 117 _ _ _ at C
    rw [List.size_toArray] at C
    refine C.mono ?_
    rintro e w' ⟨rfl, d', n, os, hp, hs, rfl⟩
    have hsz : d'.size = D.toArray.size := hp.1
    have hH' := holdsK_sortWorldK_c encP 2 w g 0 D.toArray d' n os hH hg hsz
    have hperm : d'.toList.Perm D := by
      have := hp.2.2
      have e1 : d'.extract 0 D.length = d' := Array.extract_eq_self_of_le (by rw [hsz]; simp)
      have e2 : D.toArray.extract 0 D.length = D.toArray := Array.extract_eq_self_of_le (by simp)
      rw [e1, e2] at this
      simpa using this
    refine ⟨rfl, some ⟨g, 0, none⟩, cap, d'.toList.map (·.1), rfl, hperm.map _, ?_, prts_hold hH' (Nat.lt_of_lt_of_le hg (size_sortWorldK_c encP 2 w g 0 n d' os)), (sort_chg w g n d' os).mono fun k _ hk => by simp [Value.ownBlock, hk]⟩
    rw [List.pairwise_map]
    refine List.pairwise_iff_getElem.2 fun i j hi hj hij => ?_
    have hsz2 : d'.size = D.length := by rw [hsz]; simp
    simp only [Array.length_toList] at hi hj
    have := hs i j (Nat.zero_le _) hij (by simpa [← hsz2] using hj)
    rw [ltP, getElem!_pos d' i hi, getElem!_pos d' j hj] at this
    simpa using this
end Go.Proofs.YthinpbdbhijbgaaGreatDoor
namespace Go.Proofs.YthinpbdbhijbgaaGreatDoor
open Go.RowKit
section
variable {P : Program} {ops : Array Oper} {Q : Exit → Act → World → Prop} {a0 : Act} {w0 : World}

/-- What the operations yielded. -/
def valsOf (ops : Array Oper) (a : Act) (k : Nat) : Value := match ops[k]? with
  | some o => valOf o a
  | none => undef
def updV (vals : Nat → Value) (i : Nat) (v : Value) (k : Nat) : Value := if k = i then v else vals k
theorem updV_same (vals : Nat → Value) (i : Nat) (v : Value) : updV vals i v i = v := by unfold updV; rw [if_pos rfl]
theorem updV_other (vals : Nat → Value) {i k : Nat} (v : Value) (h : k ≠ i) : updV vals i v k = vals k := by unfold updV; rw [if_neg h]
/-- An operation's duty; d: which are done. -/
def DutyG (P : Program) (ops : Array Oper) (Q : Exit → Act → World → Prop) (G : (Nat → Bool) → (Nat → Value) → World → Prop) (a0 : Act) (i : Nat) (o : Oper) : Prop :=
  ∀ (d : Nat → Bool) a w, d i = false → (∀ f k j, reachB ops f k j = true → d k = true → d j = true) → (∀ e ∈ o.after.toList, Region.binds .any e = true → d e.on = true) → G d (valsOf ops a) w → Framed ops a0 a →
    o.wp P a w (fun a' w' => ∃ v, a' = a.put o.dst v ∧ G (fun k => d k || k == i) (updV (valsOf ops a) i (if o.dst.isSome = true then v else undef)) w') Q
def DutiesG (P : Program) (ops : Array Oper) (Q : Exit → Act → World → Prop) (G : (Nat → Bool) → (Nat → Value) → World → Prop) (a0 : Act) : Nat → List Oper → Prop
  | _, [] => True
  | i, o :: l => DutyG P ops Q G a0 i o ∧ DutiesG P ops Q G a0 (i + 1) l
theorem DutiesG.at {G : (Nat → Bool) → (Nat → Value) → World → Prop} : ∀ {l : List Oper} {k : Nat}, DutiesG P ops Q G a0 k l → ∀ i o, l[i]? = some o → DutyG P ops Q G a0 (k + i) o
  | [], _, _, i, o, h => by simp at h
  | q :: l, k, hd, 0, o, h => by simp at h; subst h; exact hd.1
  | q :: l, k, hd, i + 1, o, h => by
    have := DutiesG.at (k := k + 1) hd.2 i o (by simpa using h)
    rwa [show k + 1 + i = k + (i + 1) from by omega] at this

/-- What the operations of a list with values told in advance yielded. -/
def ToldV (cs : List (Option Value)) (d : Nat → Bool) (vals : Nat → Value) : Prop := ∀ j v, cs[j]? = some (some v) → d j = true → vals j = v
theorem ToldV.none (cs : List (Option Value)) (vals : Nat → Value) : ToldV cs (fun _ => false) vals := fun _ _ _ h => by cases h
theorem ToldV.put {cs : List (Option Value)} {d : Nat → Bool} {vals : Nat → Value} (h : ToldV cs d vals) (i : Nat) (v : Value) (hv : ∀ u, cs[i]? = some (some u) → v = u) : ToldV cs (fun k => d k || k == i) (updV vals i v) := fun j u hj hd => by
  by_cases e : j = i
  · subst e; rw [updV_same]; exact hv u hj
  · have : (j == i) = false := by simpa using e
    simp only [this, Bool.or_false] at hd
    rw [updV_other _ _ e]
    exact h j u hj hd
end
end Go.Proofs.YthinpbdbhijbgaaGreatDoor
namespace Go.Proofs.YthinpbdbhijbgaaGreatDoor
open Go.RowKit
set_option maxHeartbeats 4000000
set_option maxRecDepth 100000

section
variable {P : Program} {ops : Array Oper} {Q : Exit → Act → World → Prop} {a0 : Act}
end

/-- What holds while Take goes on; d: which operations are done. -/
def TkH (w : World) (i r : Nat) (x1 x2 : List Value) (Fin : World → Prop) (d : Nat → Bool) (vals : Nat → Value) (W : World) : Prop :=
  if d 19 = true then Fin W else Ext w W ∧ (if d 16 = true then W.ownsRow w.heap.size 44 17 (vals 16) (i + r) (x1 ++ x2) else if d 8 = true then W.ownsRow w.heap.size 44 17 (vals 8) i x1 else if d 1 = true then W.ownsRow w.heap.size 44 17 (vals 1) 0 [] else True)
theorem TkH.ext {w : World} {i r : Nat} {x1 x2 : List Value} {Fin : World → Prop} {d : Nat → Bool} {vals : Nat → Value} {W : World} (h : TkH w i r x1 x2 Fin d vals W) (h19 : d 19 = false) : Ext w W := by
  unfold TkH at h
  simp only [h19, Bool.false_eq_true, if_false] at h
  exact h.1
end Go.Proofs.YthinpbdbhijbgaaGreatDoor
namespace Go.Proofs.YthinpbdbhijbgaaGreatDoor
open Go.RowKit
set_option maxHeartbeats 1000000
set_option maxRecDepth 100000

end Go.Proofs.YthinpbdbhijbgaaGreatDoor
namespace Go.Proofs.YthinpbdbhijbgaaGreatDoor
open Go.RowKit
set_option maxHeartbeats 1000000
set_option maxRecDepth 100000

end Go.Proofs.YthinpbdbhijbgaaGreatDoor
namespace Go.Proofs.YthinpbdbhijbgaaGreatDoor
open Go.RowKit
set_option maxHeartbeats 1000000
set_option maxRecDepth 100000

end Go.Proofs.YthinpbdbhijbgaaGreatDoor
namespace Go.Proofs.YthinpbdbhijbgaaGreatDoor
open Go.RowKit
set_option maxHeartbeats 2000000
set_option maxRecDepth 100000

end Go.Proofs.YthinpbdbhijbgaaGreatDoor
namespace Go.Proofs.YthinpbdbhijbgaaGreatDoor
open Go.RowKit Go.Sort
set_option maxHeartbeats 4000000
set_option maxRecDepth 100000

end Go.Proofs.YthinpbdbhijbgaaGreatDoor
namespace Go.Proofs.YthinpbdbhijbgaaGreatDoor
open Go.RowKit
set_option maxHeartbeats 4000000
set_option maxRecDepth 100000

end Go.Proofs.YthinpbdbhijbgaaGreatDoor
namespace Go.Proofs.YthinpbdbhijbgaaGreatDoor
open Go.RowKit
set_option maxHeartbeats 1000000

/-- A call of a script: its kind, its path, its node. -/
structure Opn where
  k : Int
  p : ByteArray
  n : Nd
instance : Inhabited Opn := ⟨⟨0, ⟨#[]⟩, zeroN⟩⟩
end Go.Proofs.YthinpbdbhijbgaaGreatDoor
namespace Go.Proofs.YthinpbdbhijbgaaGreatDoor
open Go.RowKit
set_option maxHeartbeats 2000000
set_option maxRecDepth 100000

section
variable {P : Program} {ops : Array Oper} {rest : List Oper} {o : Oper} {a : Act} {Q : Exit → Act → World → Prop}

end

/-- The first behind a text. -/
def afterN (M : List (Key × Nd)) (s : ByteArray) : Option (Key × Nd) := M.find? fun x => bytesBefore s.data.toList x.1

/-- What the rounds of the range have found. -/
structure Aft (M : List (Key × Nd)) (s : Key) (left : Lit → Bool) (best : ByteArray) (found : Bool) : Prop where
  there : found = true → (∃ n, (best.data.toList, n) ∈ M) ∧ bytesBefore s best.data.toList = true
  no : found = false → best = ⟨#[]⟩
  le : ∀ x ∈ M, left (.string x.1) = false → bytesBefore s x.1 = true → found = true ∧ bytesBefore x.1 best.data.toList = false

theorem Aft.step {M : List (Key × Nd)} {s : Key} {left : Lit → Bool} {best : ByteArray} {found : Bool} (h : Aft M s left best found) (p : ByteArray) {n : Nd} (hp : (p.data.toList, n) ∈ M) :
    Aft M s (fun z => left z && !z.sameKey (.string p.data.toList)) (if bytesBefore s p.data.toList = true ∧ (found = false ∨ bytesBefore p.data.toList best.data.toList = true) then p else best)
      (if bytesBefore s p.data.toList = true ∧ (found = false ∨ bytesBefore p.data.toList best.data.toList = true) then true else found) := by
  have hsame : ∀ k : Key, (Lit.string k).sameKey (.string p.data.toList) = (k == p.data.toList) := fun k => rfl
  have tr : ∀ a b c : Key, bytesBefore a b = true → bytesBefore b c = true → bytesBefore a c = true := fun a b c => WideShapes.bytes_trans a b c
  split
  · rename_i hc
    refine ⟨fun _ => ⟨⟨n, hp⟩, hc.1⟩, fun e => (by cases e), fun x hx hl hs => ⟨rfl, ?_⟩⟩
    simp only [hsame, Bool.and_eq_false_iff, Bool.not_eq_false'] at hl
    rcases hl with hl | hl
    · obtain ⟨h1, h2⟩ := h.le x hx hl hs
      rcases hc.2 with h3 | h3
      · rw [h1] at h3; cases h3
      · cases h4 : bytesBefore x.1 p.data.toList with
        | false => rfl
        | true => rw [tr _ _ _ h4 h3] at h2; cases h2
    · have : x.1 = p.data.toList := by simpa using hl
      rw [this, WideAt.bytes_irrefl]
  · rename_i hc
    refine ⟨h.there, h.no, fun x hx hl hs => ?_⟩
    simp only [hsame, Bool.and_eq_false_iff, Bool.not_eq_false'] at hl
    rcases hl with hl | hl
    · exact h.le x hx hl hs
    · have e : x.1 = p.data.toList := by simpa using hl
      rw [e] at hs ⊢
      cases hf : found with
      | false => exact absurd ⟨hs, .inl hf⟩ hc
      | true =>
        refine ⟨rfl, ?_⟩
        cases h4 : bytesBefore p.data.toList best.data.toList with
        | false => rfl
        | true => exact absurd ⟨hs, .inr h4⟩ hc

theorem Aft.done {M : List (Key × Nd)} (hM : MOk M) {s : ByteArray} {left : Lit → Bool} {best : ByteArray} {found : Bool} (h : Aft M s.data.toList left best found) (hl : ∀ kl, left kl = false) :
    (afterN M s).isSome = found ∧ (mget M best.data.toList).getD zeroN = ((afterN M s).map (·.2)).getD zeroN := by
  unfold afterN
  cases hf : M.find? fun x => bytesBefore s.data.toList x.1 with
  | none =>
    have hno := List.find?_eq_none.1 hf
    cases found with
    | true =>
      obtain ⟨⟨n, hn⟩, hs⟩ := h.there rfl
      exact absurd hs (hno _ hn)
    | false =>
      refine ⟨rfl, ?_⟩
      rw [h.no rfl]
      rw [mget_none_of fun x hx => ?_]
      · rfl
      · intro e
        have h1 := (vpath_facts (right_vpath (hM.right x hx))).1
        have h2 := hM.key x hx
        rw [e] at h2
        have h3 : x.2.path.data.toList = [] := h2.symm
        have h4 : x.2.path.size = 0 := by rw [← size_list, h3]; rfl
        omega
  | some y =>
    have hy := List.find?_some hf
    have hm := List.mem_of_find?_eq_some hf
    obtain ⟨h1, h2⟩ := h.le y hm (hl _) (by simpa using hy)
    subst h1
    refine ⟨rfl, ?_⟩
    obtain ⟨⟨n, hn⟩, hs⟩ := h.there rfl
    have hb : best.data.toList = y.1 := by
      by_cases e : best.data.toList = y.1
      · exact e
      · exfalso
        rcases WideAt.bytes_total _ _ e with h3 | h3
        · have hp := List.find?_eq_some_iff_append.1 hf
          obtain ⟨_, l1, l2, e1, h4⟩ := hp
          have hso := hM.sorted
          rw [e1] at hn hso
          rcases List.mem_append.1 hn with h5 | h5
          · have := h4 _ h5
            rw [hs] at this; cases this
          · rcases List.mem_cons.1 h5 with h6 | h6
            · exact e (by rw [← h6])
            · have h7 := (List.pairwise_append.1 hso).2.1
              have h8 := (List.pairwise_cons.1 h7).1 _ h6
              have h9 := WideShapes.bytes_trans _ _ _ h3 h8
              rw [WideAt.bytes_irrefl] at h9; cases h9
        · rw [h3] at h2; cases h2
    rw [hb, mget_of_mem hM.sorted (show (y.1, y.2) ∈ M from hm)]
    rfl

end Go.Proofs.YthinpbdbhijbgaaGreatDoor
namespace Go.Proofs.YthinpbdbhijbgaaGreatDoor
open Go.RowKit
set_option maxHeartbeats 4000000
set_option maxRecDepth 100000

theorem encode_yes (n : Nd) (da aa : Option Addr) (dc ac : Nat) (w : World) (hf : Fit n) (hT : Tabs w) (hD : Cells w.heap.size w da (n.data.map u8v)) (hA : Cells w.heap.size w aa (acCs n.acl)) (hr : rightN n = 0) :
    Calls Tryz.prog 172 #[.agg (ndC n (.slice da n.data.length dc) (.slice aa n.acl.length ac))] w (EncOut n w) := by
  have hrs := right_sizes n hr
  have hs1 := hrs.1
  have hs2 := hrs.2.1
  have hs3 := hrs.2.2.1
  have HS4 := Lib.hid hrs.2.2.2
  clear hrs
  have hbox := Box.alloc w (ndC n (.slice da n.data.length dc) (.slice aa n.acl.length ac)) 44
  have hb0 : Below w.heap.size w (w.alloc (.cells (ndC n (.slice da n.data.length dc) (.slice aa n.acl.length ac)) 44)) := (Below.refl _ _).alloc (Nat.le_refl _) _
  have hD0 := hD.below hb0
  have hA0 := hA.below hb0
  have hT0 := hT.below hb0 hT.size
  have CR := right_any n da aa dc ac (w.alloc (.cells (ndC n (.slice da n.data.length dc) (.slice aa n.acl.length ac)) 44)) hf hT0 (hA0.mono (by simp))
  rw [hr] at CR
  have hh := heap_alloc_new w (.cells (ndC n (.slice da n.data.length dc) (.slice aa n.acl.length ac)) 44)
  have HR := Lib.hid hr
  have hne : (rightN n != 0) = false := by simp [hr]
  clear hD hA hT0 hr hne
  unfold ndC at hbox hb0 hD0 hA0 CR hh ⊢
  have HH := Lib.hid hh
  clear hh
  go_enter Tryz.func172, Tryz.ntmps172
  go_wp2_with (refine wpList_load_row rfl 44 (.tmp 1) rfl w.heap.size rfl 44 _ (0, 0) _ HH.out Tryz.underlying44 rfl sizeNd ?_)
  refine CR.mono ?_
  rintro e w1 ⟨rfl, hb1⟩
  have hsz1 : w.heap.size < w1.heap.size := by have := hb1.size; simp at this; omega
  have hx1 := hbox.below hb1 (by simp)
  have hb : Below w.heap.size w w1 := hb0.trans (hb1.mono (by simp))
  have hD1 := (hD0.below (hb1.mono (by simp)))
  have hA1 := (hA0.below (hb1.mono (by simp)))
  clear CR hbox hb0 hb1 hD0 hA0 HH
  have hw2 := Wr.empty w1
  have hb2 : Below w1.heap.size w1 (w1.alloc (.cells #[.slice none 0 0] 272)) := (Below.refl _ _).alloc (Nat.le_refl _) _
  have hx2 := hx1.below hb2 hsz1
  have hD2 := (hD1.mono (Nat.le_of_lt hsz1)).below hb2
  have hA2 := (hA1.mono (Nat.le_of_lt hsz1)).below hb2
  have hbw2 : Below w.heap.size w (w1.alloc (.cells #[.slice none 0 0] 272)) := hb.trans (hb2.mono (Nat.le_of_lt hsz1))
  clear hx1 hD1 hA1 hb hb2
  have hq := hx2
  unfold Box at hq
  go_wp2_with fail
  have HB := Lib.hid hsz1
  generalize w1.alloc (.cells #[.slice none 0 0] 272) = w2 at hw2 hx2 hD2 hA2 hbw2 hq ⊢
  generalize w1.heap.size = B at hw2 hD2 hA2 HB hsz1 ⊢
  refine (text_any B B [] n.path w2 hw2 (by omega) (by simp; omega)).mono ?_
  rintro e w3 ⟨rfl, k1, k2, k3⟩
  clear hq
  have hx3 := hx2.below k2 HB.out
  have hq := hx3
  unfold Box at hq
  go_wp2_with fail
  refine (buffer_any B B _ da _ dc n.data w3 k1 (Cells.away k1 (hD2.below k2)) rfl (by omega) (by simp [be_length]; omega)).mono ?_
  rintro e w4 ⟨rfl, m1, m2, m3⟩
  have hbw4 := k2.trans m2
  clear hq k1 k3 hx3 m3
  have hx4 := hx2.below hbw4 HB.out
  have hq := hx4
  unfold Box at hq
  go_wp2_with fail
  refine (list_any B B _ aa ac n.acl w4 m1 (hA2.below hbw4) hs3 HS4.out (by simp [be_length]; omega)).mono ?_
  rintro e w5 ⟨rfl, n1, n2, n3⟩
  have hbw5 := hbw4.trans n2
  clear hq m1 n3 hx4 k2 m2 hbw4 n2
  obtain ⟨l5, hl5, he5, n1⟩ : Exists fun l5 => l5.length ≤ 2000000 ∧ Hid (l5 = txt n.path ++ (be n.data.length 4 ++ n.data) ++ (be n.acl.length 4 ++ acBs n.acl)) ∧ Wr B w5 B l5 := by
    refine ⟨_, ?_, rfl, by simpa [txt, List.append_assoc] using n1⟩
    have := acBs_le n.acl HS4.out n.acl.length (Nat.le_refl _)
    rw [List.take_length] at this
    simp [txt_length, be_length]; omega
  have hx5 := hx2.below hbw5 HB.out
  have hq := hx5
  unfold Box at hq
  go_wp2_with fail
  refine (steps_any w.heap.size w5).mono ?_
  rintro e w6 ⟨g1, g2, rfl, p1, p2, p3, p4, p5⟩
  have hB5 : B ≤ w5.heap.size := Nat.le_of_lt n1.size
  have hw6 := n1.below (fun g _ hg => p1.block g hg)
  have hG1 := AwayBox.fresh n1 p1 p2 p4
  have hG2 := AwayBox.fresh n1 p1 p3 p5
  have hbw6 := hbw5.trans (p1.mono hB5)
  clear hq hx5 hbw5 n1 p1 p2 p3 p4 p5 hB5
  go_wp2
  go_loopw [37] (fun i wr => ∃ k : Nat, k ≤ 8 ∧ i = .int .i64 k ∧ Wr B wr B (l5 ++ longsB ((longsN n).take k)) ∧ Below B w6 wr ∧ Keeps B w6 wr) (fun i _ => 8 - (intOf i).toNat)
  case atStart => exact ⟨0, by omega, rfl, by simpa [longsB] using hw6, Below.refl _ _, Keeps.refl _ _⟩
  case round =>
    obtain ⟨k, hk, rfl, q1, q2, q3⟩ := hrel
    by_cases hlt : k < 8
    · obtain ⟨x, x1, x2⟩ := longs_get n k hlt
      have c1 : wr.cell? ⟨g1, k, none⟩ = some (.pointer (some ⟨w.heap.size, 3 + k, none⟩)) := ((hG1.keeps q3).2.2 k).trans (ptrs8_get w.heap.size k hlt)
      have c2 : wr.cell? ⟨w.heap.size, 3 + k, none⟩ = some (.int .i64 x) := ((hx2.below (hbw6.trans q2) HB.out) (3 + k)).trans (x2 _ _)
      have htk : Hid (longsB ((longsN n).take (k + 1)) = longsB ((longsN n).take k) ++ be (IntKind.u64.wrap x) 8) := by
        have hl : k < (longsN n).length := hlt
        unfold Hid
        rw [longsB_take _ k hl]
        rw [List.getElem?_eq_getElem hl] at x1
        rw [Option.some.inj x1]
      clear x1 x2
      go_wp2_with fail
      refine (long_any B B _ x wr q1 (by simp [longsB_length]; omega)).mono ?_
      rintro e w' ⟨rfl, r1, r2, r3⟩
      rw [List.append_assoc, ← htk.out] at r1
      have hB' := q2.trans r2
      have hK' := q3.trans r3
      clear c1 c2 q1 q2 q3 r2 r3
      go_wp2
      go_roundw
      case rel => exact ⟨k + 1, by omega, by go_num, r1, hB', hK'⟩
      case measure => simp [intOf]; omega
    · obtain rfl : k = 8 := by omega
      have q1 : Wr B wr B (l5 ++ longsB (longsN n)) := q1
      have hG2' := hG2.keeps q3
      have hbw7 := hbw6.trans q2
      clear q2 q3 hG1 hG2 hw6 hbw6
      obtain ⟨wo, rfl⟩ : ∃ wo : World, wo = wr := ⟨_, rfl⟩
      rw [show ((8 : Nat) : Int) = 8 from rfl]
      go_wp2
      go_loopw [49] (fun i wr => ∃ k : Nat, k ≤ 3 ∧ i = .int .i64 k ∧ Wr B wr B (l5 ++ longsB (longsN n) ++ intsB ((intsN n).take k)) ∧ Below B wo wr ∧ Keeps B wo wr) (fun i _ => 3 - (intOf i).toNat)
      case atStart => exact ⟨0, by omega, rfl, by simpa [intsB] using q1, Below.refl _ _, Keeps.refl _ _⟩
      case round =>
        obtain ⟨k, hk, rfl, s1, s2, s3⟩ := hrel
        by_cases hlt : k < 3
        · obtain ⟨x, x1, x2⟩ := ints_get n k hlt
          have c1 : wr.cell? ⟨g2, k, none⟩ = some (.pointer (some ⟨w.heap.size, 11 + k, none⟩)) := ((hG2'.keeps s3).2.2 k).trans (ptrs3_get w.heap.size k hlt)
          have c2 : wr.cell? ⟨w.heap.size, 11 + k, none⟩ = some (.int .i32 x) := ((hx2.below (hbw7.trans s2) HB.out) (11 + k)).trans (x2 _ _)
          have htk : Hid (intsB ((intsN n).take (k + 1)) = intsB ((intsN n).take k) ++ be (x % 4294967296) 4) := by
            have hl : k < (intsN n).length := hlt
            unfold Hid
            rw [intsB_take _ k hl]
            rw [List.getElem?_eq_getElem hl] at x1
            rw [Option.some.inj x1]
          have hll : (longsB (longsN n)).length = 64 := by rw [longsB_length]; rfl
          clear x1 x2
          go_wp2_with fail
          refine (int_any B B _ x wr s1 (by simp [intsB_length]; omega)).mono ?_
          rintro e w' ⟨rfl, r1, r2, r3⟩
          rw [List.append_assoc, ← htk.out] at r1
          have hB' := s2.trans r2
          have hK' := s3.trans r3
          clear c1 c2 s1 s2 s3 r2 r3
          go_wp2
          go_roundw
          case rel => exact ⟨k + 1, by omega, by go_num, r1, hB', hK'⟩
          case measure => simp [intOf]; omega
        · obtain rfl : k = 3 := by omega
          have s1 : Wr B wr B (l5 ++ longsB (longsN n) ++ intsB (intsN n)) := s1
          have hbw8 := hbw7.trans s2
          have hx8 := hx2.below hbw8 HB.out
          have hq := hx8
          have hl1 : (longsB (longsN n)).length = 64 := by rw [longsB_length]; rfl
          have hl2 : (intsB (intsN n)).length = 12 := by rw [intsB_length]; rfl
          have HL1 := Lib.hid hl1
          have HL2 := Lib.hid hl2
          clear s2 s3 hbw7 hG2' hl1 hl2
          unfold Box at hq
          go_wp2_with fail
          refine (bool_any B B _ n.has wr s1 (by have := HL1.out; have := HL2.out; simp; omega)).mono ?_
          rintro e w9 ⟨rfl, a1, a2, a3⟩
          have hbw9 := hbw8.trans a2
          have hx9 := hx2.below hbw9 HB.out
          clear hq hx8 s1 hbw8 a2 a3
          have hq := hx9
          unfold Box at hq
          go_wp2_with fail
          refine (long_any B B _ n.count w9 a1 (by have := HL1.out; have := HL2.out; simp; omega)).mono ?_
          rintro e w10 ⟨rfl, b1, b2, b3⟩
          have hbw10 := hbw9.trans b2
          have hx10 := hx2.below hbw10 HB.out
          clear hq hx9 a1 hbw9 b2 b3
          have hq := hx10
          unfold Box at hq
          go_wp2_with fail
          refine (long_any B B _ n.bytes w10 b1 (by have := HL1.out; have := HL2.out; simp [be_length]; omega)).mono ?_
          rintro e w11 ⟨rfl, d1, d2, d3⟩
          have hbw11 := hbw10.trans d2
          clear hq hx10 b1 hbw10 d2 d3
          go_wp2_with fail
          refine (bytes_any B B _ w11 d1 (by have := HL1.out; have := HL2.out; simp [be_length]; omega)).mono ?_
          rintro e w12 ⟨a', c', rfl, f1, f2⟩
          have hfin : Below w.heap.size w w12 := hbw2.trans ((hbw11.mono (Nat.le_of_lt HB.out)).trans (f2.mono (by have := hbw11.size; have := hw2.size; have := HB.out; omega)))
          have he : Hid (l5 ++ longsB (longsN n) ++ intsB (intsN n) ++ [if n.has then 1 else 0] ++ be (IntKind.u64.wrap n.count) 8 ++ be (IntKind.u64.wrap n.bytes) 8 = encN n) := by
            unfold Hid encN; rw [he5.out]
          rw [he.out] at f1 d1 ⊢
          clear hbw11 f2 d1
          go_wp2
          go_ret2
          exact ⟨hfin, .inr ⟨HR.out, a', c', rfl, f1⟩⟩

theorem encode_any (n : Nd) (da aa : Option Addr) (dc ac : Nat) (w : World) (hf : Fit n) (hT : Tabs w) (hD : Cells w.heap.size w da (n.data.map u8v)) (hA : Cells w.heap.size w aa (acCs n.acl)) :
    Calls Tryz.prog 172 #[.agg (ndC n (.slice da n.data.length dc) (.slice aa n.acl.length ac))] w (EncOut n w) := by
  by_cases hr : rightN n = 0
  · exact encode_yes n da aa dc ac w hf hT hD hA hr
  · exact encode_no n da aa dc ac w hf hT hA hr
end Go.Proofs.YthinpbdbhijbgaaGreatDoor
namespace Go.Proofs.YthinpbdbhijbgaaGreatDoor
open Go.RowKit
set_option maxHeartbeats 2000000
set_option maxRecDepth 100000

def fnvStep (h : Int) (c : UInt8) : Int := IntKind.u64.wrap (bits .xor .u64 h (IntKind.u64.wrap c.toNat) * 1099511628211)
def fnv0 : Int := 14695981039346656037
def fnv (l : List UInt8) : Int := l.foldl fnvStep fnv0
theorem fnv_take (l : List UInt8) (k : Nat) (h : k < l.length) : fnv (l.take (k + 1)) = fnvStep (fnv (l.take k)) l[k] := by
  unfold fnv; rw [List.take_succ_eq_append_getElem h, List.foldl_append]; rfl

theorem byteCell {B : Nat} {w : World} {a : Option Addr} {l : List UInt8} (h : Cells B w a (l.map u8v)) (k : Nat) (hk : k < l.length) : ∃ b off, a = some ⟨b, off, none⟩ ∧ b < B ∧ w.cell? ⟨b, off + k, none⟩ = some (.int .u8 l[k].toNat) := by
  obtain ⟨b, off, h1, h2, h3⟩ := h k (u8v l[k]) (by simp [List.getElem?_eq_getElem hk])
  exact ⟨b, off, h1, h2, h3⟩

theorem sum_any (a : Option Addr) (c : Nat) (l : List UInt8) (w : World) (hc : Cells w.heap.size w a (l.map u8v)) (hl : l.length ≤ 9223372036854775800) :
    Calls Tryz.prog 113 #[.slice a l.length c] w fun e w' => e = .returned (.int .u64 (fnv l)) ∧ w = w' := by
  go_enter Tryz.func113, Tryz.ntmps113
  go_wp2
  go_loop [3, 8] (fun h i => ∃ k : Nat, k ≤ l.length ∧ i = .int .i64 k ∧ h = .int .u64 (fnv (l.take k))) (fun _ i => l.length - (intOf i).toNat)
  case atStart => exact ⟨0, Nat.zero_le _, rfl, rfl⟩
  case round =>
    obtain ⟨k, hk, rfl, rfl⟩ := hrel
    by_cases hlt : k < l.length
    · obtain ⟨b, off, rfl, hb, c0⟩ := byteCell hc k hlt
      have H := Lib.hid (fnv_take l k hlt)
      generalize fnv (l.take k) = h0 at *
      go_wp2
      go_round
      case rel => exact ⟨k + 1, by omega, by go_num, by rw [H.out]; rfl⟩
      case measure => simp [intOf]; omega
    · obtain rfl : k = l.length := by omega
      rw [List.take_length]
      clear hc
      go_wp2
      go_ret
      exact ⟨rfl, rfl⟩

/-- A node's number. -/
def nodeN (n : Nd) : Int := if rightN n = 0 then fnv (encN n) else 0
def NodeOut (n : Nd) (w : World) (e : Ending) (w' : World) : Prop := e = .returned (.int .u64 (nodeN n)) ∧ Below w.heap.size w w'

theorem encN_length (n : Nd) (hr : rightN n = 0) : (encN n).length ≤ 2000000 := by
  have hrs := right_sizes n hr
  have h1 := acBs_le n.acl hrs.2.2.2 n.acl.length (Nat.le_refl _)
  rw [List.take_length] at h1
  have e1 : (longsN n).length = 8 := rfl
  have e2 : (intsN n).length = 3 := rfl
  simp only [encN, List.length_append, txt_length, be_length, longsB_length, intsB_length, e1, e2, List.length_cons, List.length_nil]
  omega
end Go.Proofs.YthinpbdbhijbgaaGreatDoor
namespace Go.Proofs.YthinpbdbhijbgaaGreatDoor
open Go.RowKit
set_option maxHeartbeats 2000000
set_option maxRecDepth 100000

theorem node_any (n : Nd) (da aa : Option Addr) (dc ac : Nat) (w : World) (hf : Fit n) (hT : Tabs w) (hD : Cells w.heap.size w da (n.data.map u8v)) (hA : Cells w.heap.size w aa (acCs n.acl)) :
    Calls Tryz.prog 126 #[.agg (ndC n (.slice da n.data.length dc) (.slice aa n.acl.length ac))] w (NodeOut n w) := by
  have hb0 : Below w.heap.size w (w.alloc (.cells (ndC n (.slice da n.data.length dc) (.slice aa n.acl.length ac)) 44)) := (Below.refl _ _).alloc (Nat.le_refl _) _
  have CR := encode_any n da aa dc ac (w.alloc (.cells (ndC n (.slice da n.data.length dc) (.slice aa n.acl.length ac)) 44)) hf (hT.below hb0 hT.size) ((hD.below hb0).mono (by simp)) ((hA.below hb0).mono (by simp))
  have hh := heap_alloc_new w (.cells (ndC n (.slice da n.data.length dc) (.slice aa n.acl.length ac)) 44)
  unfold ndC at hb0 CR hh ⊢
  have HH := Lib.hid hh
  have CR := Lib.hid CR
  clear hh hD hA hT
  by_cases hr : rightN n = 0
  · have HL := Lib.hid (encN_length n hr)
    have HN : Hid (nodeN n = fnv (encN n)) := by unfold Hid nodeN; rw [if_pos hr]
    have HR := Lib.hid hr
    clear hr
    go_enter Tryz.func126, Tryz.ntmps126
    go_wp2_with (refine wpList_load_row rfl 44 (.tmp 1) rfl w.heap.size rfl 44 _ (0, 0) _ HH.out Tryz.underlying44 rfl sizeNd ?_)
    refine CR.out.mono ?_
    rintro e w1 ⟨hb1, h⟩
    rcases h with ⟨h, _⟩ | ⟨_, a, c, rfl, hcs⟩
    · exact absurd HR.out h
    have hb : Below w.heap.size w w1 := hb0.trans (hb1.mono (by simp))
    clear CR hb0 hb1 HH
    go_wp2_with fail
    refine (sum_any a c (encN n) w1 hcs (by have := HL.out; omega)).mono ?_
    rintro e w2 ⟨rfl, rfl⟩
    clear hcs
    go_wp2
    go_ret
    exact ⟨by rw [HN.out]; rfl, hb⟩
  · have hne : (rightN n != 0) = true := by simpa using hr
    have HN : Hid (nodeN n = 0) := by unfold Hid nodeN; rw [if_neg hr]
    have HR := Lib.hid hr
    clear hr
    go_enter Tryz.func126, Tryz.ntmps126
    go_wp2_with (refine wpList_load_row rfl 44 (.tmp 1) rfl w.heap.size rfl 44 _ (0, 0) _ HH.out Tryz.underlying44 rfl sizeNd ?_)
    refine CR.out.mono ?_
    rintro e w1 ⟨hb1, h⟩
    have h := h.resolve_right (fun h => HR.out h.1)
    obtain ⟨_, rfl⟩ := h
    have hb : Below w.heap.size w w1 := hb0.trans (hb1.mono (by simp))
    clear CR hb0 hb1 HH
    go_wp2
    go_ret
    exact ⟨by rw [HN.out]; rfl, hb⟩
end Go.Proofs.YthinpbdbhijbgaaGreatDoor
namespace Go.Proofs.YthinpbdbhijbgaaGreatDoor
open Go.RowKit Go.Sort
set_option maxHeartbeats 4000000
set_option maxRecDepth 100000
attribute [local go_sem] Oper.semAt_some

/-- The numbers of nodes, added to and taken off a number, round. -/
def addN (s : Int) (ns : List Nd) : Int := ns.foldl (fun s n => IntKind.u64.wrap (s + nodeN n)) s
theorem addN_snoc (s : Int) (ns : List Nd) (n : Nd) : addN s (ns ++ [n]) = IntKind.u64.wrap (addN s ns + nodeN n) := by unfold addN; rw [List.foldl_append]; rfl
theorem infoU64 : (Tryz.prog.info? 96).map (·.size) = some 1 := by kernel_rfl

structure OfI (w W7 : World) (pre : List (Value × Nd)) (W : World) : Prop where
  box : W.heap[w.heap.size]? = some (.cells #[.int .u64 (addN 0 (pre.map (·.2)))] 96 (0, 0))
  size : W7.heap.size ≤ W.heap.size
  keep : Below w.heap.size w W

theorem MOk.keys_le {M : List (Key × Nd)} (hok : MOk M) : ∀ k ∈ M.map (·.1), k.length ≤ maxLen := fun k hk => by
  obtain ⟨x, hx, rfl⟩ := List.mem_map.1 hk
  rw [hok.key x hx]
  unfold keyN
  rw [size_list]
  have := (vpath_facts (right_vpath (hok.right x hx))).2.1
  unfold maxLen; omega

theorem dof_any (S : Nat → Prop) (w : World) (bt : Nat) (M : List (Key × Nd)) (N : Nat) (hT : TreeAt S w bt M N) (hTb : Tabs w) (hks : M.length * 168 ≤ 140737488355328) :
    Calls Tryz.prog 116 #[.pointer (some ⟨bt, 0, none⟩)] w fun e w' => e = .returned (.int .u64 (addN 0 (M.map (·.2)))) ∧ Ext w w' := by
  obtain ⟨W0, hW0⟩ : ∃ W0, W0 = w.alloc (.cells #[.int .u64 0] 96) := ⟨_, rfl⟩
  have hE0 : Ext w W0 := by rw [hW0]; exact Ext.alloc _ _
  have hz0 : W0.heap.size = w.heap.size + 1 := by rw [hW0]; simp
  have hg0 : W0.heap[w.heap.size]? = some (.cells #[.int .u64 0] 96 (0, 0)) := by rw [hW0]; exact heap_alloc_new w _
  have C1 := Lib.hid (tall_any bt W0)
  have HW0 := Lib.hid hW0
  have HT := Lib.hid hT
  have HE0 := Lib.hid hE0
  have HG0 := Lib.hid hg0
  have HTb := Lib.hid hTb
  have hzT := hTb.size
  clear hT hW0 hE0 hg0 hTb
  refine (callsIn_wide (n := 6)).1 (callsIn_of_wp_marks Tryz.func116 rfl trivial ?_)
  simp only [Tryz.ntmps116, List.size_toArray, List.length_cons, List.length_nil, Nat.reduceAdd, Nat.reduceSub, Array.replicate_succ, Array.replicate_zero, List.push_toArray, List.append_toArray, List.nil_append, List.cons_append]
  gi_wp2_with fail
  rw [← HW0.out]
  refine ⟨trivial, (callsIn_wide.2 C1.out).mono ?_⟩
  rintro e W1 ⟨bw, btb, rfl, hcw, hct, hE1⟩
  have hz1 := hE1.size
  have hE01 := HE0.out.trans hE1
  have hT1 := HT.out.ext hE01
  have hbd := HT.out.bound
  have hok := HT.out.ok
  have hs1 : ∀ k, S k → k ≠ w.heap.size := fun k hk => by have := hbd k hk; omega
  have hg1 := (hE1.block _ (Array.getElem?_eq_some_iff.1 HG0.out).1).trans HG0.out
  have TT := told_tells (fun _ k => k ≠ w.heap.size) S W1 bt M N hT1 hs1 bw btb 152 #[.pointer (some ⟨bt, 0, none⟩)] #[] hcw hct (enters_of Tryz.func152 (by kernel_rfl) rfl) (M.map (·.1))
    (fun W hW => by simpa using tsorted_any S W bt M N (hT1.ext hW) (by omega)) (by simpa using hks) hok.keys_le
  rw [nodesOf_vals hok.sorted] at TT
  have hI0 : OfI w W1 [] W1 := ⟨hg1, Nat.le_refl _, hE01⟩
  have hnn := told_not_nil #[.pointer (some ⟨bw, 0, none⟩), .pointer (some ⟨btb, 0, none⟩)] W1
  have TT := Lib.hid TT
  have HI0 := Lib.hid hI0
  have HTB1 := Lib.hid (HTb.out.below hE01 hzT)
  have HOK := Lib.hid hok
  clear hcw hct hE1 hE01 hT1 hs1 hg1 hI0 C1 hok
  gi_wp2
  refine wpIn_tells_nd (Safe := fun _ k => k ≠ w.heap.size) (by omega) (gf := 195) (lb := #[.pointer (some ⟨bw, 0, none⟩), .pointer (some ⟨btb, 0, none⟩)]) rfl (enters_of Tryz.func195 (by kernel_rfl) rfl) TT.out (show 7 < 13 by decide) (show 4 < 13 by decide) (by decide)
    (OfI w W1) (fun _ _ _ => False) (fun _ _ _ _ h => h) ?hI ?hIx HI0.out ?body ?done ?stop
  case hI =>
    rintro pre X Y ⟨h1, h2, h3⟩ hTn
    exact ⟨⟨hTn.cells h1, Nat.le_trans h2 hTn.size, h3.trans (hTn.below (by omega) h3.size)⟩, fun k hk => by omega⟩
  case hIx => exact fun _ _ _ _ h _ => h
  case stop => exact fun _ _ _ _ _ _ h => h.elim
  case body =>
    rintro l pre n da dc aa ac bl W hl0 hrec ⟨rest, hSp⟩ ⟨hbx, hsz, hEw⟩ hG hbl
    simp only [List.setIfInBounds_toArray, List.set_cons_succ, List.set_cons_zero]
    have hs : W.cell? ⟨w.heap.size, 0, none⟩ = some (.int .u64 (addN 0 (pre.map (·.2)))) := cell_of_row _ _ _ _ _ _ hbx
    obtain ⟨hDW, hAW⟩ := nds_parts hG
    have hDW := hDW.cells fun b hb => hb.2
    have hAW := hAW.cells fun b hb => hb.2
    have hTW : Tabs W := HTb.out.below hEw hzT
    have hmem : n ∈ M.map (·.2) := by
      have : n ∈ (pre ++ [(Value.agg (ndC n (.slice da n.data.length dc) (.slice aa n.acl.length ac)), n)]).map (·.2) ++ rest := by simp
      rw [hSp] at this; exact this
    obtain ⟨x, hx, hxe⟩ := List.mem_map.1 hmem
    have hfit : Fit n := by rw [← hxe]; exact (right_fit (HOK.out.right x hx)).1
    have HS := Lib.hid (addN_snoc 0 (pre.map (·.2)) n)
    have HBX := Lib.hid hbx
    have HEW := Lib.hid hEw
    clear hbx hEw hmem hx hSp
    generalize addN 0 (pre.map (·.2)) = s at *
    refine wpIn_block ?_
    refine wpIn_region_P l (by kernel_rfl) (by rfl) (region_store_vals 13 [.int .u64 s, .agg (ndC n (.slice da n.data.length dc) (.slice aa n.acl.length ac)), .int .u64 (nodeN n), .int .u64 (IntKind.u64.wrap (s + nodeN n))] 4 _ rfl rfl rfl rfl rfl (by decide) rfl ?duties ?last)
    case duties =>
      refine ⟨?_, ?_, ?_, ?_, trivial⟩
      · refine duty_free rfl fun a w' hE hF hA => ?_
        have x1 := hF.slot 3 _ (by decide) rfl
        exact wp_value (ex_cell rfl _ _ x1 ((hE.cell (World.block_lt_of_cell? _ _ hs)).trans hs) rfl Tryz.underlying96) ⟨_, rfl, rfl, Ext.refl _⟩
      · refine duty_free rfl fun a w' hE hF hA => ?_
        have x1 := hF.slot 4 _ (by decide) rfl
        exact wp_value (ex_load_row rfl _ x1 44 _ (0, 0) _ ((hE.block _ (Array.getElem?_eq_some_iff.1 hbl).1).trans hbl) Tryz.underlying44 rfl sizeNd) ⟨_, rfl, rfl, Ext.refl _⟩
      · refine duty_free rfl fun a w' hE hF hA => ?_
        have x1 := hA.val 1 9 rfl rfl ⟨⟨1, .data⟩, by simp, rfl, rfl⟩ rfl
        refine wp_enter (ex_call rfl (enters_f Tryz.func126 (by kernel_rfl) rfl)) (by simp only [List.map_toArray, List.map_cons, List.map_nil, x1]; exact node_any n da aa dc ac w' hfit (hTW.below hE hTW.size) (hDW.ext hE) (hAW.ext hE)) ?_
        rintro e w4 ⟨rfl, hb⟩
        exact ⟨_, rfl, _, rfl, rfl, hb⟩
      · refine duty_free rfl fun a w' hE hF hA => ?_
        have x1 := hA.val 0 8 rfl rfl ⟨⟨0, .data⟩, by simp, rfl, rfl⟩ rfl
        have x2 := hA.val 2 10 rfl rfl ⟨⟨2, .data⟩, by simp, rfl, rfl⟩ rfl
        exact wp_value (w' := w') (v := .int .u64 (IntKind.u64.wrap (s + nodeN n))) (by simp only [execOp, x1, x2]; simp [go_sem]) ⟨_, rfl, rfl, Ext.refl _⟩
    case last =>
      intro W8 hE8
      have hbx8 := (hE8.block _ (Array.getElem?_eq_some_iff.1 HBX.out).1).trans HBX.out
      simp only [filled, List.take_succ_cons, List.take_zero, List.zip_cons_cons, List.zip_nil_left, List.foldl_cons, List.foldl_nil, Act.put, List.setIfInBounds_toArray, List.set_cons_succ, List.set_cons_zero]
      refine wp_skipped (w' := W8.setRow w.heap.size #[.int .u64 (IntKind.u64.wrap (s + nodeN n))]) (by refine run_store_one 96 (.tmp 3) (.tmp 11) ?_ w.heap.size (.int .u64 (IntKind.u64.wrap (s + nodeN n))) ?_ ?_ ?_ 96 (.int .u64 s) hbx8 infoU64 <;> rfl) ?_
      have hKp := (Kp.ext (B := W1.heap.size) (ga := w.heap.size) hE8).trans (Kp.set W8 #[.int .u64 (IntKind.u64.wrap (s + nodeN n))] (by omega))
      have hB8 : Below w.heap.size w (W8.setRow w.heap.size #[.int .u64 (IntKind.u64.wrap (s + nodeN n))]) := (HEW.out.trans (hE8.mono HEW.out.size)).trans ⟨rfl, rfl, rfl, by simp, fun k hk => setRow_other _ _ _ _ (by omega)⟩
      have hz8 := hE8.size
      simp only [Exit.inBlock, Act.put, tellPost]
      refine ⟨hKp.recs, hKp.cells, ?_, by simp; omega, hB8⟩
      simp only [List.map_append, List.map_cons, List.map_nil]
      rw [HS.out]
      exact setRow_heap _ _ _ _ _ _ hbx8
  case done =>
    rintro D xs W hD hS ⟨hbx, hsz, hEw⟩ hK
    have hfin : Ext w (W.putObj D (.deferred none)) := hEw.trans ((Turn.putObj (B := W1.heap.size) (.deferred none) hD hK rfl).below (by omega) hEw.size)
    have hv : W.cell? ⟨w.heap.size, 0, none⟩ = some (.int .u64 (addN 0 (xs.map (·.2)))) := cell_of_row _ _ _ _ _ _ hbx
    rw [hS] at hv
    have HFIN := Lib.hid hfin
    have HK := Lib.hid hK
    clear hfin hK hS TT HI0 hbx
    gi_wp2
    refine ⟨by simp, .inl ⟨_, _, rfl, run_takeDeferred HK.out, ?_⟩⟩
    refine ⟨_, results_tmp rfl _ _ _, ?_⟩
    exact ⟨rfl, HFIN.out⟩
end Go.Proofs.YthinpbdbhijbgaaGreatDoor
namespace Go.Proofs.YthinpbdbhijbgaaGreatDoor
open Go.RowKit Go.Sort
set_option maxHeartbeats 4000000
set_option maxRecDepth 100000
attribute [local go_sem] Oper.semAt_some

theorem sorted_nil (w : World) : Calls Tryz.prog 152 #[.pointer none] w fun e w' => e = .returned (.slice none 0 0) ∧ w = w' := by
  go_enter Tryz.func152, Tryz.ntmps152
  go_wp2
  go_ret
  exact ⟨rfl, rfl⟩

def SeqNil (w : World) (e : Ending) (w' : World) : Prop :=
  ∃ bw btb, e = .returned (.func (.func 195) #[] #[.pointer (some ⟨bw, 0, none⟩), .pointer (some ⟨btb, 0, none⟩)]) ∧
    w'.cell? ⟨bw, 0, none⟩ = some (.func (.func 152) #[.pointer none] #[]) ∧ Ext w w'

theorem told_nil (w : World) : Calls Tryz.prog 151 #[.pointer none, .func (.func 152) #[.pointer none] #[]] w (SeqNil w) := by
  have h2 : ∀ t u, ((w.alloc (.cells #[Value.pointer none] t)).alloc (.cells #[Value.func (.func 152) #[.pointer none] #[]] u)).cell? ⟨w.heap.size + 1, 0, none⟩ = some (.func (.func 152) #[.pointer none] #[]) := fun t u =>
    cell_of_row _ _ _ _ _ _ (by have := heap_alloc_new (w.alloc (.cells #[Value.pointer none] t)) (.cells #[Value.func (.func 152) #[.pointer none] #[]] u); rwa [World.size_alloc] at this)
  have H2 := Lib.hid h2
  clear h2
  go_enter Tryz.func151, Tryz.ntmps151
  go_wp2
  go_ret
  exact ⟨_, _, rfl, H2.out _ _, (Ext.alloc w _).trans (Ext.alloc _ _)⟩

theorem tall_nil (w : World) : Calls Tryz.prog 89 #[.pointer none] w (SeqNil w) := by
  have C1 := told_nil w
  go_enter Tryz.func89, Tryz.ntmps89
  go_wp2_with fail
  refine C1.mono ?_
  rintro e w1 ⟨bw, btb, rfl, h1, hE⟩
  have hfin : SeqNil w (.returned (.func (.func 195) #[] #[.pointer (some ⟨bw, 0, none⟩), .pointer (some ⟨btb, 0, none⟩)])) w1 := ⟨_, _, rfl, h1, hE⟩
  have HFIN := Lib.hid hfin
  clear hfin h1 hE C1
  go_wp2
  go_ret
  exact HFIN.out

/-- Nothing is told of a nil tree. -/
theorem told_tells_nil (Safe : World → Nat → Prop) (w : World) (bw btb fw : Nat) (bnd cap : Array Value)
    (hcw : w.cell? ⟨bw, 0, none⟩ = some (.func (.func fw) bnd cap)) (hen : ∀ args w, (callFunc fw args).run Tryz.prog w = .ok (.enter fw args) w) (hw : ∀ W, Ext w W → Calls Tryz.prog fw (bnd ++ cap) W fun e w' => e = .returned (.slice none 0 0) ∧ Ext W w') :
    Tells Fence.wide 5 Tryz.prog 195 #[.pointer (some ⟨bw, 0, none⟩), .pointer (some ⟨btb, 0, none⟩)] (fun x : Value × Nd => #[x.1]) (GS Safe) (KeepS Safe) Safe (fun xs => xs.map (·.2) = []) (fun pre => ∃ rest, pre.map (·.2) ++ rest = []) w := by
  intro l J Jx W hW hSW hJ hY h0
  refine callsIn_wide.2 ?_
  have hcwW : W.cell? ⟨bw, 0, none⟩ = some (.func (.func fw) bnd cap) := (hW.cell (p := ⟨bw, 0, none⟩) (World.block_lt_of_cell? _ _ hcw)).trans hcw
  have CW := hw W hW
  have HJ := Lib.hid hJ
  have CW := Lib.hid CW
  clear hcw hw hY hJ hSW
  go_enter Tryz.func195, Tryz.ntmps195
  go_wp2_with fail
  refine CW.out.mono ?_
  rintro e W1 ⟨rfl, hE1⟩
  have hJ1 := (HJ.out [] W W1 h0 hE1).1
  have HJ1 := Lib.hid hJ1
  clear CW hcwW hJ1 h0 hE1
  go_wp2
  go_loopw [4, 12] (fun lv i wr => lv = .slice none 0 0 ∧ i = .int .i64 0 ∧ wr = W1) (fun _ _ _ => 0)
  case atStart => exact ⟨rfl, rfl, rfl⟩
  case round =>
    obtain ⟨rfl, rfl, rfl⟩ := hrel
    go_wp2
    go_loopw [28] (fun i wt => i = .int .i64 0 ∧ wt = wr) (fun _ _ => 0)
    case atStart => exact ⟨rfl, rfl⟩
    case round =>
      obtain ⟨rfl, rfl⟩ := hrel
      go_wp2
      exact ⟨rfl, _, results_none rfl _ _ _, ⟨_, rfl⟩, .inl ⟨[], rfl, HJ1.out⟩⟩

end Go.Proofs.YthinpbdbhijbgaaGreatDoor
namespace Go.Proofs.YthinpbdbhijbgaaGreatDoor
open Go.RowKit Go.Sort
set_option maxHeartbeats 2000000
set_option maxRecDepth 100000
attribute [local go_sem] Oper.semAt_some

end Go.Proofs.YthinpbdbhijbgaaGreatDoor
namespace Go.Proofs.YthinpbdbhijbgaaGreatDoor
open Go.RowKit Go.Sort
set_option maxHeartbeats 2000000
set_option maxRecDepth 100000

theorem zeroNd_one : zeroNd.all (·.oneCell') = true := by simp [zeroNd, Value.oneCell']
theorem setRow_self (w : World) (z : Array Value) (t : TypeId) : (w.alloc (.cells z t)).setRow w.heap.size z = w.alloc (.cells z t) := setRow_alloc w z z t

theorem tget_nil (s : ByteArray) (w : World) : Calls Tryz.prog 54 #[.pointer none, .string s] w fun e w' => e = .returned (.tuple #[.agg zeroNd, .bool false]) ∧ Ext w w' := by
  have HS := Lib.hid (setRow_self w zeroNd 44)
  have HNew := Lib.hid (heap_alloc_new w (.cells zeroNd 44))
  have HNew2 := Lib.hid (heap_alloc_new w (.cells zeroNd 44))
  unfold zeroNd at HS HNew
  go_enter Tryz.func54, Tryz.ntmps54
  go_wp2_with (refine wpList_store_row rfl 44 (.tmp 4) (.tmp 10) rfl w.heap.size _ rfl rfl 44 _ HNew.out sizeNd rfl zeroNd_one ?_; rw [HS.out])
  refine bodyPost_ret (v := .tuple #[.agg zeroNd, .bool false]) ?_ rfl ⟨rfl, Ext.alloc _ _⟩
  exact results_cell_row2 (p := 4) (q := 5) (ty := 44) rfl _ _ w.heap.size 44 _ (0, 0) _ _ rfl rfl HNew2.out Tryz.underlying44 rfl sizeNd

end Go.Proofs.YthinpbdbhijbgaaGreatDoor
namespace Go.Proofs.YthinpbdbhijbgaaGreatDoor
open Go.RowKit Go.Sort
set_option maxHeartbeats 4000000
set_option maxRecDepth 100000

end Go.Proofs.YthinpbdbhijbgaaGreatDoor
namespace Go.Proofs.YthinpbdbhijbgaaGreatDoor
open Go.RowKit
set_option maxHeartbeats 4000000
set_option maxRecDepth 100000

/-- The document's tree behind a call: its rows in old blocks or new ones. -/
def RTo (S : Nat → Prop) (w : World) (b : Nat) (M : List (Key × Nd)) (v : Value) (e : Ending) (w' : World) : Prop :=
  e = .returned v ∧ RTree (fun k => S k ∨ (w.heap.size ≤ k ∧ k < w'.heap.size)) w' b (nds M) ∧ Chg (· = b) w w'
theorem RTree.more {S : Nat → Prop} {w w' : World} {b : Nat} {L : List Nd} (h : RTree S w b L) (hE : Ext w w') : RTree (fun k => S k ∨ (w.heap.size ≤ k ∧ k < w'.heap.size)) w' b L :=
  h.keep (fun _ h => .inl h) (hE.block b h.lt) (fun k hk => hE.block k (h.bound k hk).1) fun k hk => by
    have hb := h.lt
    rcases hk with hk | hk
    · have := h.bound k hk; exact ⟨Nat.lt_of_lt_of_le this.1 hE.size, this.2⟩
    · exact ⟨hk.2, by omega⟩
theorem RTo.same {S : Nat → Prop} {w w' : World} {b : Nat} {M : List (Key × Nd)} (h : RTree S w b (nds M)) (hE : Ext w w') (v : Value) : RTo S w b M v (.returned v) w' := ⟨rfl, h.more hE, Chg.of_ext hE⟩
theorem RTree.tail {S : Nat → Prop} {w X w' : World} {b : Nat} {L : List Nd} (hE : Ext w X) (h : RTree (fun k => S k ∨ (X.heap.size ≤ k ∧ k < w'.heap.size)) w' b L) (hb : b < w.heap.size) : RTree (fun k => S k ∨ (w.heap.size ≤ k ∧ k < w'.heap.size)) w' b L :=
  h.keep (fun k hk => hk.imp id fun h => ⟨Nat.le_trans hE.size h.1, h.2⟩) rfl (fun _ _ => rfl) fun k hk => by
    rcases hk with hk | hk
    · exact h.bound k (.inl hk)
    · exact ⟨hk.2, by omega⟩
end Go.Proofs.YthinpbdbhijbgaaGreatDoor
