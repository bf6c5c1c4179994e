/- The walks of stat.Clone and stat.New. -/
import Derived.Test.YtfgjbcejpjcpeaaDoorBClone
import Derived.Test.YtfgjbcejpjcpeaaDoorNdV
namespace Go.Proofs.YtfgjbcejpjcpeaaDoor
open Go.RowKit
set_option maxHeartbeats 2000000
set_option maxRecDepth 100000

theorem ownsRow_from {w : World} {base e size n : Nat} {v : Value} {xs : List Value} (h : w.ownsRow base e size v n xs) : ∃ a c, v = .slice a n c ∧ ∀ j u, xs[j]? = some u → ∃ b off, a = some ⟨b, off, none⟩ ∧ base ≤ b ∧ b < w.heap.size ∧ w.cell? ⟨b, off + j, none⟩ = some u := by
  obtain ⟨a, c, rfl, hc⟩ := ownsRow_cells h
  refine ⟨a, c, rfl, fun j u hj => ?_⟩
  obtain ⟨b, off, rfl, h1, h2⟩ := hc j u hj
  refine ⟨b, off, rfl, ?_, h1, h2⟩
  rcases h.2 with ⟨h, _⟩ | ⟨g, cap, cur, h, k1, _⟩
  · cases h
  · simp only [Value.slice.injEq, Option.some.injEq, Addr.mk.injEq] at h; omega

/-- A node's value, the two slices' cells in blocks of a set. -/
def CellsS (S : Nat → Prop) (w : World) (a : Option Addr) (xs : List Value) : Prop :=
  ∀ j u, xs[j]? = some u → ∃ b off, a = some ⟨b, off, none⟩ ∧ S b ∧ w.cell? ⟨b, off + j, none⟩ = some u
def NdS (S : Nat → Prop) (w : World) (v : Value) (n : Nd) : Prop :=
  ∃ da dc aa ac, v = .agg (ndC n (.slice da n.data.length dc) (.slice aa n.acl.length ac)) ∧ CellsS S w da (n.data.map u8v) ∧ CellsS S w aa (acCs n.acl)

theorem CellsS.imp {S S' : Nat → Prop} {w w' : World} {a : Option Addr} {xs : List Value} (h : CellsS S w a xs) (hS : ∀ b, S b → S' b) (hw : ∀ (b o : Nat) u, S b → w.cell? ⟨b, o, none⟩ = some u → w'.cell? ⟨b, o, none⟩ = some u) : CellsS S' w' a xs := fun j u hj => by
  obtain ⟨b, off, h1, h2, h3⟩ := h j u hj
  exact ⟨b, off, h1, hS b h2, hw b _ u h2 h3⟩
theorem CellsS.cells {S : Nat → Prop} {w : World} {a : Option Addr} {xs : List Value} (h : CellsS S w a xs) {B : Nat} (hS : ∀ b, S b → b < B) : Cells B w a xs := fun j u hj => by
  obtain ⟨b, off, h1, h2, h3⟩ := h j u hj
  exact ⟨b, off, h1, hS b h2, h3⟩
theorem NdS.imp {S S' : Nat → Prop} {w w' : World} {v : Value} {n : Nd} (h : NdS S w v n) (hS : ∀ b, S b → S' b) (hw : ∀ (b o : Nat) u, S b → w.cell? ⟨b, o, none⟩ = some u → w'.cell? ⟨b, o, none⟩ = some u) : NdS S' w' v n := by
  obtain ⟨da, dc, aa, ac, rfl, h1, h2⟩ := h
  exact ⟨da, dc, aa, ac, rfl, h1.imp hS hw, h2.imp hS hw⟩
theorem NdS.ndv {S : Nat → Prop} {w : World} {v : Value} {n : Nd} (h : NdS S w v n) {B : Nat} (hS : ∀ b, S b → b < B) : NdV B w v n := by
  obtain ⟨da, dc, aa, ac, rfl, h1, h2⟩ := h
  exact ⟨da, dc, aa, ac, rfl, h1.cells hS, h2.cells hS⟩
theorem NdV.nds {B : Nat} {w : World} {v : Value} {n : Nd} (h : NdV B w v n) : NdS (· < B) w v n := h

/-- A copy of a node, wholly in new memory. -/
def CloneS (n : Nd) (w : World) (e : Ending) (w' : World) : Prop := ∃ v, e = .returned v ∧ NdS (fun b => w.heap.size ≤ b ∧ b < w'.heap.size) w' v n ∧ Below w.heap.size w w'

theorem sclone_nd (n : Nd) (da aa : Option Addr) (dc ac : Nat) (w : World) (hf : Fit n) (hD : Cells w.heap.size w da (n.data.map u8v)) (hA : Cells w.heap.size w aa (acCs n.acl)) :
    Calls Tryd.prog 49 #[.agg (ndC n (.slice da n.data.length dc) (.slice aa n.acl.length ac))] w (CloneS n w) := by
  have hfd := hf.data
  have hfa := hf.acl
  obtain ⟨W2, hW2⟩ : ∃ W2, W2 = (w.alloc (.cells (ndC n (.slice da n.data.length dc) (.slice aa n.acl.length ac)) 37)).alloc (.cells #[.string ⟨#[]⟩, .slice none 0 0, .slice none 0 0, .int .i64 0, .int .i64 0, .int .i64 0, .int .i64 0, .int .i64 0, .int .i64 0, .int .i64 0, .int .i64 0, .int .i32 0, .int .i32 0, .int .i32 0, .bool false, .int .i64 0, .int .i64 0] 37) := ⟨_, rfl⟩
  have hs2 : W2.heap.size = w.heap.size + 1 + 1 := by rw [hW2]; simp
  have hb2 : Below w.heap.size w W2 := by rw [hW2]; exact ((Below.refl _ _).alloc (Nat.le_refl _) _).alloc (by simp) _
  have hA2 : W2.heap[w.heap.size]? = some (.cells (ndC n (.slice da n.data.length dc) (.slice aa n.acl.length ac)) 37 (0, 0)) := by rw [hW2]; exact heap_alloc2_old w _ _
  have hR2 : W2.heap[w.heap.size + 1]? = some (.cells #[.string ⟨#[]⟩, .slice none 0 0, .slice none 0 0, .int .i64 0, .int .i64 0, .int .i64 0, .int .i64 0, .int .i64 0, .int .i64 0, .int .i64 0, .int .i64 0, .int .i32 0, .int .i32 0, .int .i32 0, .bool false, .int .i64 0, .int .i64 0] 37 (0, 0)) := by rw [hW2]; exact heap_alloc2_new w _ _
  have C1 := bclone_any da n.data.length dc n.data W2 ((hD.below hb2).mono (by omega)) rfl (by omega)
  rw [hW2] at C1
  have C1 := Lib.hid C1
  have HW2 := Lib.hid hW2
  unfold ndC at hA2 C1 HW2 ⊢
  clear hW2
  go_enter Tryd.func49, Tryd.ntmps49
  go_wp2_with fail
  refine C1.out.mono ?_
  rintro e w4 ⟨v1, rfl, ho1, hb4, _⟩
  rw [← HW2.out] at hb4 ho1
  obtain ⟨va, vc, rfl, hD4⟩ := ownsRow_from ho1
  have hA4 := (hb4.block w.heap.size (by omega)).trans hA2
  have hR4 := (hb4.block (w.heap.size + 1) (by omega)).trans hR2
  have hbw4 := hb2.trans (hb4.mono (by omega))
  have hz4 := hb4.size
  have hcell : w4.cell? ⟨w.heap.size, 1, none⟩ = some (.slice da n.data.length dc) := by rw [cell_of_row w4 w.heap.size 1 _ _ _ hA4]; rfl
  have hfr : w4.frozen? ⟨w.heap.size, 1, none⟩ = false := frozen_of_row w4 w.heap.size 1 _ _ hA4
  obtain ⟨W5, hW5⟩ : ∃ W5, W5 = w4.setCell ⟨w.heap.size, 1, none⟩ (.slice va n.data.length vc) := ⟨_, rfl⟩
  have hs5 : W5.heap.size = w4.heap.size := by rw [hW5]; simp [World.setCell]
  have hA5 : W5.heap[w.heap.size]? = some (.cells (ndC n (.slice va n.data.length vc) (.slice aa n.acl.length ac)) 37 (0, 0)) := by
    rw [hW5, heap_setCell_same w4 w.heap.size 1 _ _ _ hA4]; rfl
  have hR5 := (show W5.heap[w.heap.size + 1]? = w4.heap[w.heap.size + 1]? by rw [hW5]; exact Below.heap_setCell _ _ _ _ (by simp)).trans hR4
  have hb5 : Below w.heap.size w W5 := by rw [hW5]; exact hbw4.setCell (p := ⟨w.heap.size, 1, none⟩) (Nat.le_refl _) _
  have hD5 : ∀ j u, (n.data.map u8v)[j]? = some u → ∃ b off, va = some ⟨b, off, none⟩ ∧ W2.heap.size ≤ b ∧ b < W5.heap.size ∧ W5.cell? ⟨b, off + j, none⟩ = some u := fun j u hj => by
    obtain ⟨b, off, h1, h2, h3, h4⟩ := hD4 j u hj
    refine ⟨b, off, h1, h2, by omega, ?_⟩
    rw [hW5, World.cell?_of_block (w := w4) (Below.heap_setCell _ _ _ _ (by simp; omega))]
    exact h4
  have C2 := aclone_any aa n.acl.length ac n.acl W5 ((hA.below hb5).mono (by omega)) rfl (by omega)
  have HW5 := Lib.hid hW5
  have hcell2 : (w4.setCell ⟨w.heap.size, 1, none⟩ (.slice va n.data.length vc)).cell? ⟨w.heap.size, 2, none⟩ = some (.slice aa n.acl.length ac) := by rw [← hW5, cell_of_row W5 w.heap.size 2 _ _ _ hA5]; rfl
  rw [hW5] at C2
  have C2 := Lib.hid C2
  have HS5 := Lib.hid hs5
  have hnb4 : w.heap.size < w4.heap.size := by omega
  have hnb5 : w.heap.size + 1 < w4.heap.size := by omega
  clear hW5 hs5 hA4 hR4 hb4 hD4 hA2 hR2 HW2 hA hD C1 hbw4 ho1
  go_wp2_with fail
  refine C2.out.mono ?_
  rintro e w6 ⟨v2, rfl, ho2, hb6', _⟩
  rw [← HW5.out] at hb6' ho2
  have hs5 := HS5.out
  obtain ⟨vb, vd, rfl, hE6⟩ := ownsRow_from ho2
  have hA6 := (hb6'.block w.heap.size (by omega)).trans hA5
  have hR6 := (hb6'.block (w.heap.size + 1) (by omega)).trans hR5
  have hb6 := hb5.trans (hb6'.mono (by omega))
  have hz6 := hb6'.size
  have hD6 : ∀ j u, (n.data.map u8v)[j]? = some u → ∃ b off, va = some ⟨b, off, none⟩ ∧ W2.heap.size ≤ b ∧ b < W5.heap.size ∧ w6.cell? ⟨b, off + j, none⟩ = some u := fun j u hj => by
    obtain ⟨b, off, h1, h2, h3, h4⟩ := hD5 j u hj
    exact ⟨b, off, h1, h2, h3, (World.cell?_of_block (hb6'.block b h3)).trans h4⟩
  clear ho2 hb6' hA5 hR5 hb5 hD5 hcell hfr hcell2 C2
  have hcell : w6.cell? ⟨w.heap.size, 2, none⟩ = some (.slice aa n.acl.length ac) := by rw [cell_of_row w6 w.heap.size 2 _ _ _ hA6]; rfl
  have hfr : w6.frozen? ⟨w.heap.size, 2, none⟩ = false := frozen_of_row w6 w.heap.size 2 _ _ hA6
  have hA7 : (w6.setCell ⟨w.heap.size, 2, none⟩ (.slice vb n.acl.length vd)).heap[w.heap.size]? = some (.cells (ndC n (.slice va n.data.length vc) (.slice vb n.acl.length vd)) 37 (0, 0)) := by
    rw [heap_setCell_same w6 w.heap.size 2 _ _ _ hA6]; rfl
  have hR7 := (show (w6.setCell ⟨w.heap.size, 2, none⟩ (.slice vb n.acl.length vd)).heap[w.heap.size + 1]? = w6.heap[w.heap.size + 1]? from Below.heap_setCell _ _ _ _ (by simp)).trans hR6
  have HA7 := Lib.hid hA7
  have HR7 := Lib.hid hR7
  clear hA7 hR7 hA6 hR6
  go_wp2_with (first | (refine wpList_load_row rfl 37 (.tmp 1) rfl w.heap.size rfl 37 _ (0, 0) _ HA7.out Tryd.underlying37 rfl sizeNd ?_) | (refine wpList_store_row rfl 37 (.tmp 2) (.tmp 11) rfl (w.heap.size + 1) _ rfl rfl 37 _ HR7.out sizeNd rfl (cells_node n va vb _ _ vc vd) ?_))
  obtain ⟨W7, hW7⟩ : ∃ W7, W7 = w6.setCell ⟨w.heap.size, 2, none⟩ (.slice vb n.acl.length vd) := ⟨_, rfl⟩
  have hA7 := HA7.out
  have hR7 := HR7.out
  rw [← hW7] at hA7 hR7 ⊢
  have hs7 : W7.heap.size = w6.heap.size := by rw [hW7]; simp [World.setCell]
  have hb7 : Below w.heap.size w W7 := by rw [hW7]; exact hb6.setCell (p := ⟨w.heap.size, 2, none⟩) (Nat.le_refl _) _
  have ho7 : ∀ b, w.heap.size + 1 + 1 ≤ b → W7.heap[b]? = w6.heap[b]? := fun b hb => by rw [hW7]; exact Below.heap_setCell _ _ _ _ (by simp; omega)
  obtain ⟨cs, hcs⟩ : ∃ cs, cs = ndC n (.slice va n.data.length vc) (.slice vb n.acl.length vd) := ⟨_, rfl⟩
  rw [← hcs] at hA7 ⊢
  have hR8 := setRow_heap W7 (w.heap.size + 1) _ cs 37 (0, 0) hR7
  have hs8 : (W7.setRow (w.heap.size + 1) cs).heap.size = W7.heap.size := by simp [World.setRow]
  have hb8 : Below w.heap.size w (W7.setRow (w.heap.size + 1) cs) :=
    hb7.trans ⟨rfl, rfl, rfl, by rw [hs8]; exact Nat.le_refl _, fun k hk => setRow_other _ _ _ _ (by omega)⟩
  have ho8 : ∀ b, w.heap.size + 1 + 1 ≤ b → (W7.setRow (w.heap.size + 1) cs).heap[b]? = w6.heap[b]? := fun b hb => (setRow_other _ _ _ _ (by omega)).trans (ho7 b hb)
  have hz := HS5.out
  have cD : CellsS (fun b => w.heap.size ≤ b ∧ b < (W7.setRow (w.heap.size + 1) cs).heap.size) (W7.setRow (w.heap.size + 1) cs) va (n.data.map u8v) := fun j u hj => by
    obtain ⟨b, off, h1, h2, h3, h4⟩ := hD6 j u hj
    exact ⟨b, off, h1, ⟨by omega, by omega⟩, (World.cell?_of_block (ho8 b (by omega))).trans h4⟩
  have cA : CellsS (fun b => w.heap.size ≤ b ∧ b < (W7.setRow (w.heap.size + 1) cs).heap.size) (W7.setRow (w.heap.size + 1) cs) vb (acCs n.acl) := fun j u hj => by
    obtain ⟨b, off, h1, h2, h3, h4⟩ := hE6 j u hj
    exact ⟨b, off, h1, ⟨by omega, by omega⟩, (World.cell?_of_block (ho8 b (by omega))).trans h4⟩
  have hsz17 : (Tryd.prog.info? 37).map (·.size) = some cs.size := by rw [hcs]; exact sizeNd
  refine bodyPost_ret (v := .agg cs) ?_ rfl ⟨_, rfl, ⟨va, vc, vb, vd, by rw [hcs], cD, cA⟩, hb8⟩
  exact results_cell_row (p := 2) (ty := 37) rfl _ _ (w.heap.size + 1) 37 cs (0, 0) _ rfl hR8 Tryd.underlying37 rfl hsz17
def newN (path : ByteArray) (data : List UInt8) (acl : List Ac) (owner zxid time : Int) : Nd := ⟨path, data, acl, owner, zxid, zxid, zxid, 0, 0, time, time, 0, 0, 0, false, 0, 0⟩

theorem snew_nd (path : ByteArray) (data : List UInt8) (acl : List Ac) (owner zxid time : Int) (da aa : Option Addr) (dc ac : Nat) (w : World) (hf : Fit (newN path data acl owner zxid time)) (hD : Cells w.heap.size w da (data.map u8v)) (hA : Cells w.heap.size w aa (acCs acl)) :
    Calls Tryd.prog 51 #[.string path, .slice da data.length dc, .slice aa acl.length ac, .int .i64 owner, .int .i64 zxid, .int .i64 time] w (CloneS (newN path data acl owner zxid time) w) := by
  obtain ⟨W1, hW1⟩ : ∃ W1, W1 = w.alloc (.cells #[.string ⟨#[]⟩, .slice none 0 0, .slice none 0 0, .int .i64 0, .int .i64 0, .int .i64 0, .int .i64 0, .int .i64 0, .int .i64 0, .int .i64 0, .int .i64 0, .int .i32 0, .int .i32 0, .int .i32 0, .bool false, .int .i64 0, .int .i64 0] 37) := ⟨_, rfl⟩
  have hb1 : Below w.heap.size w W1 := by rw [hW1]; exact (Below.refl _ _).alloc (Nat.le_refl _) _
  have hs1 : W1.heap.size = w.heap.size + 1 := by rw [hW1]; simp
  have hR1 : W1.heap[w.heap.size]? = some (.cells #[.string ⟨#[]⟩, .slice none 0 0, .slice none 0 0, .int .i64 0, .int .i64 0, .int .i64 0, .int .i64 0, .int .i64 0, .int .i64 0, .int .i64 0, .int .i64 0, .int .i32 0, .int .i32 0, .int .i32 0, .bool false, .int .i64 0, .int .i64 0] 37 (0, 0)) := by rw [hW1]; exact heap_alloc_new w _
  have C := sclone_nd (newN path data acl owner zxid time) da aa dc ac W1 hf ((hD.below hb1).mono (by omega)) ((hA.below hb1).mono (by omega))
  rw [hW1] at C
  have HW1 := Lib.hid hW1
  have HR1 := Lib.hid hR1
  unfold ndC newN at C
  have C := Lib.hid C
  clear hW1 hR1
  go_enter Tryd.func51, Tryd.ntmps51
  go_wp2_with fail
  refine C.out.mono ?_
  rintro e w2 ⟨v, rfl, hN, hb2⟩
  rw [← HW1.out] at hb2 hN
  obtain ⟨va, vc, vb, vd, rfl, h1, h2⟩ := hN
  have hR2 := (hb2.block w.heap.size (by omega)).trans HR1.out
  have HR2 := Lib.hid hR2
  have hb := hb1.trans (hb2.mono (by omega))
  clear C HW1 HR1 hR2
  go_wp2_with (refine wpList_store_row rfl 37 (.tmp 12) (.tmp 23) rfl w.heap.size _ rfl rfl 37 _ HR2.out sizeNd rfl (cells_node _ va vb _ _ vc vd) ?_)
  obtain ⟨cs, hcs⟩ : ∃ cs, cs = ndC (newN path data acl owner zxid time) (.slice va data.length vc) (.slice vb acl.length vd) := ⟨_, rfl⟩
  have hR3 := setRow_heap w2 w.heap.size _ cs 37 (0, 0) HR2.out
  have hs3 : (w2.setRow w.heap.size cs).heap.size = w2.heap.size := by simp [World.setRow]
  have hz := hb2.size
  have hb3 : Below w.heap.size w (w2.setRow w.heap.size cs) :=
    hb.trans ⟨rfl, rfl, rfl, by rw [hs3]; exact Nat.le_refl _, fun k hk => setRow_other _ _ _ _ (by omega)⟩
  have hsz17 : (Tryd.prog.info? 37).map (·.size) = some cs.size := by rw [hcs]; exact sizeNd
  have hk : ∀ (b o : Nat) u, (W1.heap.size ≤ b ∧ b < w2.heap.size) → w2.cell? ⟨b, o, none⟩ = some u → (w2.setRow w.heap.size cs).cell? ⟨b, o, none⟩ = some u := fun b o u hb hu =>
    (World.cell?_of_block (setRow_other _ _ _ _ (show b ≠ w.heap.size by have := hb.1; omega))).trans hu
  have c1 := h1.imp (S' := fun b => w.heap.size ≤ b ∧ b < (w2.setRow w.heap.size cs).heap.size) (fun b hb => ⟨by omega, by omega⟩) hk
  have c2 := h2.imp (S' := fun b => w.heap.size ≤ b ∧ b < (w2.setRow w.heap.size cs).heap.size) (fun b hb => ⟨by omega, by omega⟩) hk
  refine bodyPost_ret (v := .agg cs) ?_ rfl ⟨_, rfl, ⟨va, vc, vb, vd, by rw [hcs]; rfl, ?_, ?_⟩, ?_⟩
  · refine results_cell_row (p := 12) (ty := 37) rfl _ _ w.heap.size 37 cs (0, 0) _ rfl ?_ Tryd.underlying37 rfl hsz17
    rw [hcs] at hR3 ⊢; exact hR3
  · rw [hcs] at c1; exact c1
  · rw [hcs] at c2; exact c2
  · rw [hcs] at hb3; exact hb3
end Go.Proofs.YtfgjbcejpjcpeaaDoor
