/- The walks of the writer, more: numbers, texts, lists. -/
import Derived.Test.YtfgjbcejpjcpeaaDoorWr
namespace Go.Proofs.YtfgjbcejpjcpeaaDoor
open Go.RowKit
set_option maxHeartbeats 400000
set_option maxRecDepth 100000

theorem wrap_u32 (n : Int) : 0 ≤ IntKind.u32.wrap n ∧ IntKind.u32.wrap n ≤ 18446744073709551615 := by
  simp only [IntKind.wrap_u32]; omega
theorem wrap_u64 (n : Int) : 0 ≤ IntKind.u64.wrap n ∧ IntKind.u64.wrap n ≤ 18446744073709551615 := by
  simp only [IntKind.wrap_u64]; omega

theorem number_at (B bb : Nat) (l : List UInt8) (x : Int) (k : Nat) (ki : Int) (w : World) (hki : ki = k) (hx0 : 0 ≤ x) (hx1 : x ≤ 18446744073709551615) (hk : k ≤ 8) (hw : Wr B w bb l) (hlen : l.length + k ≤ 70368744177664) :
    Calls Tryd.prog 101 #[.pointer (some ⟨bb, 0, none⟩), .int .u64 x, .int .i64 ki] w (PutOut B bb (l ++ be x k) w) := by
  subst hki; exact number_any B bb l x k w hx0 hx1 hk hw hlen

theorem PutOut.end' {B bb : Nat} {l : List UInt8} {w w1 w2 : World} (h : PutOut B bb l w1 (.returned (.tuple #[])) w2) (hb : Below B w w1) (hk : Keeps bb w w1) : PutOut B bb l w (.returned (.tuple #[])) w2 := ⟨rfl, h.2.1, hb.trans h.2.2.1, hk.trans h.2.2.2⟩

theorem int_any (B bb : Nat) (l : List UInt8) (n : Int) (w : World) (hw : Wr B w bb l) (hlen : l.length + 4 ≤ 70368744177664) :
    Calls Tryd.prog 87 #[.pointer (some ⟨bb, 0, none⟩), .int .i32 n] w (PutOut B bb (l ++ be (n % 4294967296) 4) w) := by
  go_enter Tryd.func87, Tryd.ntmps87
  go_wp2_with fail
  refine (number_at B bb l _ 4 4 w rfl (by omega) (by omega) (by omega) hw (by omega)).mono ?_
  rintro e w' ⟨rfl, h1, h2, k2⟩
  go_wp2
  exact bodyPost_end (v := .tuple #[]) (by simp [results, Tryd.results87, go_sem]) rfl ⟨rfl, h1, h2, k2⟩

theorem long_any (B bb : Nat) (l : List UInt8) (n : Int) (w : World) (hw : Wr B w bb l) (hlen : l.length + 8 ≤ 70368744177664) :
    Calls Tryd.prog 89 #[.pointer (some ⟨bb, 0, none⟩), .int .i64 n] w (PutOut B bb (l ++ be (IntKind.u64.wrap n) 8) w) := by
  go_enter Tryd.func89, Tryd.ntmps89
  have hwr := wrap_u64 n
  go_wp2_with fail
  refine (number_at B bb l _ 8 8 w rfl hwr.1 hwr.2 (by omega) hw (by omega)).mono ?_
  rintro e w' ⟨rfl, h1, h2, k2⟩
  go_wp2
  exact bodyPost_end (v := .tuple #[]) (by simp [results, Tryd.results89, go_sem]) rfl ⟨rfl, h1, h2, k2⟩

theorem bool_any (B bb : Nat) (l : List UInt8) (b : Bool) (w : World) (hw : Wr B w bb l) (hlen : l.length + 1 ≤ 70368744177664) :
    Calls Tryd.prog 90 #[.pointer (some ⟨bb, 0, none⟩), .bool b] w (PutOut B bb (l ++ [if b then 1 else 0]) w) := by
  have hB := hw.1
  have hsz := hw.size
  cases b
  · go_enter Tryd.func90, Tryd.ntmps90
    go_wp2_with fail
    refine (put_any B bb l (some ⟨w.heap.size, 0, none⟩) 1 1 (w.heap.size + 1) [0] _ (hw.alloc _) (cells_new w [u8v 0] 5) rfl (by simp; omega)).mono ?_
    rintro e w' ⟨rfl, h1, h2, k2⟩
    go_wp2
    exact bodyPost_end (v := .tuple #[]) (by simp [results, Tryd.results90, go_sem]) rfl ⟨rfl, h1, ((Below.refl B w).alloc (by omega) _).trans h2, (Keeps.alloc w hsz _).trans k2⟩
  · go_enter Tryd.func90, Tryd.ntmps90
    go_wp2_with fail
    refine (put_any B bb l (some ⟨w.heap.size, 0, none⟩) 1 1 (w.heap.size + 1) [1] _ (hw.alloc _) (cells_new w [u8v 1] 5) rfl (by simp; omega)).mono ?_
    rintro e w' ⟨rfl, h1, h2, k2⟩
    go_wp2
    exact bodyPost_end (v := .tuple #[]) (by simp [results, Tryd.results90, go_sem]) rfl ⟨rfl, h1, ((Below.refl B w).alloc (by omega) _).trans h2, (Keeps.alloc w hsz _).trans k2⟩

theorem count_any (B bb : Nat) (l : List UInt8) (n : Nat) (w : World) (hw : Wr B w bb l) (hn : n < 2147483648) (hlen : l.length + 4 ≤ 70368744177664) :
    Calls Tryd.prog 99 #[.pointer (some ⟨bb, 0, none⟩), .int .i64 n] w (PutOut B bb (l ++ be n 4) w) := by
  go_enter Tryd.func99, Tryd.ntmps99
  go_wp2_with fail
  refine (int_any B bb l _ w hw (by omega)).mono ?_
  rintro e w' ⟨rfl, h1, h2, k2⟩
  go_wp2
  exact bodyPost_end (v := .tuple #[]) (by simp [results, Tryd.results99, go_sem]) rfl ⟨rfl, by rw [show (n : Int) % 4294967296 = n from by omega] at h1; exact h1, h2, k2⟩

/-- A slice's cells, in blocks that the writer leaves alone. -/
def Away (bb : Nat) (w : World) (a : Option Addr) (xs : List Value) : Prop :=
  ∀ j u, xs[j]? = some u → ∃ b off, a = some ⟨b, off, none⟩ ∧ b < w.heap.size ∧ Apart w bb b ∧ w.cell? ⟨b, off + j, none⟩ = some u
theorem Away.cells {bb : Nat} {w : World} {a : Option Addr} {xs : List Value} (h : Away bb w a xs) : Cells w.heap.size w a xs := fun j u hj =>
  let ⟨b, off, h1, h2, _, h4⟩ := h j u hj; ⟨b, off, h1, h2, h4⟩
theorem Away.keeps {bb : Nat} {w w' : World} {a : Option Addr} {xs : List Value} (h : Away bb w a xs) (hk : Keeps bb w w') : Away bb w' a xs := fun j u hj =>
  let ⟨b, off, h1, h2, h3, h4⟩ := h j u hj
  ⟨b, off, h1, Nat.lt_of_lt_of_le h2 hk.1, (hk.2 b h2 h3).2, (World.cell?_of_block (hk.2 b h2 h3).1).trans h4⟩
theorem Apart.low {B bb g : Nat} {w : World} {l : List UInt8} (hw : Wr B w bb l) (h : g < B) : Apart w bb g := by
  obtain ⟨hB, v, h1, h2⟩ := hw
  refine ⟨by omega, fun u hu e => ?_⟩
  rw [h1] at hu
  simp only [Option.some.injEq, Obj.cells.injEq, Array.mk.injEq, List.cons.injEq, and_true] at hu
  subst hu
  rcases h2.2 with ⟨rfl, _⟩ | ⟨g', cap, cur, rfl, k1, k2, k3⟩
  · cases e
  · simp only [Value.ownBlock, Option.some.injEq] at e; omega
theorem Apart.high {B bb : Nat} {w : World} {l : List UInt8} (hw : Wr B w bb l) : ∀ g, w.heap.size ≤ g → Apart w bb g := by
  intro g hg
  have hsz := hw.size
  obtain ⟨hB, v, h1, h2⟩ := hw
  refine ⟨by omega, fun u hu e => ?_⟩
  rw [h1] at hu
  simp only [Option.some.injEq, Obj.cells.injEq, Array.mk.injEq, List.cons.injEq, and_true] at hu
  subst hu
  rcases h2.2 with ⟨rfl, _⟩ | ⟨g', cap, cur, rfl, k1, k2, k3⟩
  · cases e
  · simp only [Value.ownBlock, Option.some.injEq] at e
    have := (Array.getElem?_eq_some_iff.1 k2).1
    omega
theorem Cells.away {B bb : Nat} {w : World} {a : Option Addr} {xs : List Value} {l : List UInt8} (hw : Wr B w bb l) (h : Cells B w a xs) : Away bb w a xs := fun j u hj =>
  let ⟨b, off, h1, h2, h4⟩ := h j u hj
  ⟨b, off, h1, by have := hw.size; have := hw.1; omega, Apart.low hw h2, h4⟩

theorem buffer_any (B bb : Nat) (l : List UInt8) (a : Option Addr) (n c : Nat) (xs : List UInt8) (w : World) (hw : Wr B w bb l) (hc : Away bb w a (xs.map u8v)) (hn : n = xs.length) (hx : xs.length < 2147483648) (hlen : l.length + xs.length + 4 ≤ 70368744177664) :
    Calls Tryd.prog 84 #[.pointer (some ⟨bb, 0, none⟩), .slice a n c] w (PutOut B bb (l ++ be n 4 ++ xs) w) := by
  subst hn
  go_enter Tryd.func84, Tryd.ntmps84
  go_wp2_with fail
  refine (count_any B bb l _ w hw hx (by omega)).mono ?_
  rintro e w1 ⟨rfl, h1, h2, k2⟩
  go_wp2_with fail
  refine (put_any B bb _ a _ c _ xs w1 h1 (hc.keeps k2).cells rfl (by simp [be_length]; omega)).mono ?_
  rintro e w2 ⟨rfl, h3, h4, k4⟩
  go_wp2
  exact bodyPost_end (v := .tuple #[]) (by simp [results, Tryd.results84, go_sem]) rfl ⟨rfl, h3, h2.trans h4, k2.trans k4⟩

/-- A text as bytes: a block of its own. -/
theorem conv_bytes (w : World) (s : ByteArray) : ∃ c w1, (convert 9 32 (.string s)).run Tryd.prog w = .ok (.slice (some ⟨w.heap.size, 0, none⟩) s.size c) w1 ∧
    Cells (w.heap.size + 1) w1 (some ⟨w.heap.size, 0, none⟩) (s.data.toList.map u8v) ∧ Below w.heap.size w w1 ∧ w1.heap.size = w.heap.size + 1 := by
  refine ⟨_, _, run_bytes_of_string w _ _ _ s Tryd.underlying9 Tryd.underlying32 Tryd.underlying5, fun j u hj => ⟨w.heap.size, 0, rfl, by omega, ?_⟩, ((Below.refl _ w).drew).alloc (Nat.le_refl _) _, by simp⟩
  have hh : ∀ o, (w.drew.alloc o).heap[w.heap.size]? = some o := fun o => heap_alloc_new w.drew o
  have hlt := (List.getElem?_eq_some_iff.1 hj).1
  simp at hlt
  simp only [World.cell?, hh, bytesRow]
  simp [hlt] at hj ⊢
  simpa [u8v, Array.getElem?_append, hlt] using hj

theorem text_any (B bb : Nat) (l : List UInt8) (s : ByteArray) (w : World) (hw : Wr B w bb l) (hx : s.size < 2147483648) (hlen : l.length + s.size + 4 ≤ 70368744177664) :
    Calls Tryd.prog 83 #[.pointer (some ⟨bb, 0, none⟩), .string s] w (PutOut B bb (l ++ be s.size 4 ++ s.data.toList) w) := by
  have hB := hw.1
  have hsz := hw.size
  obtain ⟨c, w1, hcv, hc, hb1, hs1⟩ := conv_bytes w s
  have hw1 : Wr B w1 bb l := hw.below (fun g _ hg => hb1.block g hg)
  have hk1 : Keeps bb w w1 := ⟨by omega, fun g hg ha => ⟨hb1.block g hg, ha.1, fun v hv => ha.2 v (by rw [← hb1.block bb hsz]; exact hv)⟩⟩
  have hAway : Away bb w1 (some ⟨w.heap.size, 0, none⟩) (s.data.toList.map u8v) := fun j u hj => by
    obtain ⟨b, off, h1, h2, h3⟩ := hc j u hj
    simp only [Option.some.injEq, Addr.mk.injEq] at h1
    obtain ⟨rfl, rfl, _⟩ := h1
    refine ⟨w.heap.size, 0, rfl, by omega, ⟨by omega, fun v hv => (Apart.high hw w.heap.size (Nat.le_refl _)).2 v (by rw [← hb1.block bb hsz]; exact hv)⟩, h3⟩
  have hB1 : Below B w w1 := hb1.mono (by omega)
  clear hc hb1
  go_enter Tryd.func83, Tryd.ntmps83
  go_wp2_with fail
  refine (buffer_any B bb l _ _ c s.data.toList w1 hw1 hAway (by simp) (by simpa using hx) (by simp; omega)).mono ?_
  rintro e w2 ⟨rfl, h3, h4, k4⟩
  go_wp2
  exact bodyPost_end (v := .tuple #[]) (by simp [results, Tryd.results83, go_sem]) rfl ⟨rfl, by simpa using h3, hB1.trans h4, hk1.trans k4⟩
end Go.Proofs.YtfgjbcejpjcpeaaDoor
