/- The walks of the writer: bytes behind bytes. -/
import Derived.Test.YtfgjbcejpjcpeaaDoorLaw
import Derived.Test.YtfgjbcejpjcpeaaDoorRun
namespace Go.Proofs.YtfgjbcejpjcpeaaDoor
open Go.RowKit
set_option maxHeartbeats 400000
set_option maxRecDepth 100000

theorem infoU8 : (Tryd.prog.info? 5).map (fun i => (i.zero, i.size, i.bytes)) = some (some (.int .u8 0), 1, 1) := by kernel_rfl

theorem ownsRow_keep {w w' : World} {base e size n : Nat} {v : Value} {xs : List Value} (h : w.ownsRow base e size v n xs) (hk : ∀ g, v.ownBlock = some g → w'.heap[g]? = w.heap[g]?) : w'.ownsRow base e size v n xs := by
  refine ⟨h.1, ?_⟩
  rcases h.2 with h | ⟨g, cap, cur, rfl, h1, h2, h3⟩
  · exact .inl h
  · exact .inr ⟨g, cap, cur, rfl, h1, (hk g rfl).trans h2, h3⟩

theorem ownsRow_slice {w : World} {base e size n : Nat} {v : Value} {xs : List Value} (h : w.ownsRow base e size v n xs) : ∃ a m c, v = .slice a m c := by
  rcases h.2 with ⟨h, _⟩ | ⟨g, cap, cur, h, _⟩ <;> exact ⟨_, _, _, h⟩

/-- A writer: a block of one cell, which holds a row of the call's own. -/
def Wr (B : Nat) (w : World) (bb : Nat) (l : List UInt8) : Prop :=
  B ≤ bb ∧ ∃ v, w.heap[bb]? = some (.cells #[v] 144 (0, 0)) ∧ w.ownsRow B 5 1 v l.length (l.map u8v)

theorem one_u8 (xs : List UInt8) : ∀ u ∈ xs.map u8v, u.oneCell' = true := fun u hu => by
  obtain ⟨_, _, rfl⟩ := List.mem_map.1 hu; rfl

/-- A block that is neither the writer's own nor its row's. -/
def Apart (w : World) (bb g : Nat) : Prop := g ≠ bb ∧ ∀ v, w.heap[bb]? = some (.cells #[v] 144 (0, 0)) → v.ownBlock ≠ some g
/-- What the writer leaves as it is. -/
def Keeps (bb : Nat) (w w' : World) : Prop := w.heap.size ≤ w'.heap.size ∧ ∀ g, g < w.heap.size → Apart w bb g → w'.heap[g]? = w.heap[g]? ∧ Apart w' bb g
theorem Keeps.refl (bb : Nat) (w : World) : Keeps bb w w := ⟨Nat.le_refl _, fun _ _ h => ⟨rfl, h⟩⟩
theorem Keeps.trans {bb : Nat} {a b c : World} (h : Keeps bb a b) (k : Keeps bb b c) : Keeps bb a c :=
  ⟨Nat.le_trans h.1 k.1, fun g hg ha => let x := h.2 g hg ha; let y := k.2 g (Nat.lt_of_lt_of_le hg h.1) x.2; ⟨y.1.trans x.1, y.2⟩⟩
theorem Keeps.alloc {bb : Nat} (w : World) (hb : bb < w.heap.size) (o : Obj) : Keeps bb w (w.alloc o) :=
  ⟨by simp, fun g hg ha => ⟨Below.heap_alloc _ _ _ hg, ha.1, fun v hv => ha.2 v (by rw [← Below.heap_alloc w o bb hb]; exact hv)⟩⟩

def PutOut (B bb : Nat) (l : List UInt8) (w : World) (e : Ending) (w' : World) : Prop := e = .returned (.tuple #[]) ∧ Wr B w' bb l ∧ Below B w w' ∧ Keeps bb w w'

theorem put_any (B bb : Nat) (l : List UInt8) (a : Option Addr) (n c : Nat) (B' : Nat) (xs : List UInt8) (w : World) (hw : Wr B w bb l) (hc : Cells B' w a (xs.map u8v)) (hn : n = xs.length) (hlen : l.length + xs.length ≤ 70368744177664) :
    Calls Tryd.prog 100 #[.pointer (some ⟨bb, 0, none⟩), .slice a n c] w (PutOut B bb (l ++ xs) w) := by
  subst hn
  obtain ⟨hB, v, hb, hown⟩ := hw
  have hcell : w.cell? ⟨bb, 0, none⟩ = some v := by simp [World.cell?, hb]
  have hsz : bb < w.heap.size := (Array.getElem?_eq_some_iff.1 hb).1
  have hne : v.ownBlock ≠ some bb := fun e => by
    rcases hown.2 with ⟨rfl, _⟩ | ⟨g, cap, cur, rfl, h1, h2, h3⟩
    · cases e
    · simp only [Value.ownBlock, Option.some.injEq] at e
      subst e
      rw [hb] at h2
      simp at h2
  obtain ⟨i0, hi, hz0, hz1, hz2⟩ := info_parts infoU8
  have hsrc : Src Tryd.prog 1 32 (.slice a xs.length c) xs.length (xs.map u8v) w := hc.src Tryd.underlying32 _ _ (by simp) (one_u8 xs)
  have fin : ∀ v' w1, w1.ownsRow B 5 1 v' (l.length + xs.length) (l.map u8v ++ xs.map u8v) → w.grownBy w1 v.ownBlock → (v'.ownBlock = v.ownBlock ∨ v'.ownBlock = some w.heap.size) → PutOut B bb (l ++ xs) w (.returned (.tuple #[])) (w1.setCell ⟨bb, 0, none⟩ v') := by
    intro v' w1 ho hg hob
    have hbb : w1.heap[bb]? = some (.cells #[v] 144 (0, 0)) := (hg.block bb hsz (fun e => hne e.symm)).trans hb
    have hne' : v'.ownBlock ≠ some bb := fun e => by
      rcases ho.2 with ⟨rfl, _⟩ | ⟨g, cap, cur, rfl, h1, h2, h3⟩
      · cases e
      · simp only [Value.ownBlock, Option.some.injEq] at e
        subst e
        rw [hbb] at h2
        simp at h2
    refine ⟨rfl, ⟨hB, v', ?_, ?_⟩, ?_, ?_⟩
    · simp [World.setCell, Array.getElem?_modify, hbb]
    · have := ownsRow_keep (w' := w1.setCell ⟨bb, 0, none⟩ v') ho (fun g hgg => Below.heap_setCell _ _ _ _ (fun e => hne' (by rw [hgg, e])))
      simpa using this
    · refine (Below.refl B w).grown hg (by omega) (fun k hk => ?_) |>.setCell (p := ⟨bb, 0, none⟩) hB _
      rcases hown.2 with ⟨rfl, _⟩ | ⟨g, cap, cur, rfl, h1, h2, h3⟩
      · cases hk
      · simp only [Value.ownBlock, Option.some.injEq] at hk; omega
    · refine ⟨by simpa [World.setCell] using hg.size, fun g hgs ha => ⟨?_, ha.1, fun u hu => ?_⟩⟩
      · rw [Below.heap_setCell _ _ _ _ ha.1]
        exact hg.block g hgs (fun e => ha.2 v hb e.symm)
      · have hu' : u = v' := by
          simp [World.setCell, Array.getElem?_modify, hbb] at hu
          exact hu.symm
        subst hu'
        rcases hob with h | h
        · rw [h]; exact ha.2 v hb
        · rw [h]; simp; omega
  have FIN := Lib.hid fin
  clear fin hc
  go_enter Tryd.func100, Tryd.ntmps100
  go_wp2_with (at_builtin; refine wpList_append_src _ rfl _ _ 32 32 rfl B 5 i0 (.int .u8 0) 1 1 Tryd.underlying32 hi hz0 hz1 hz2 rfl (by decide) v l.length _ rfl hown _ _ _ rfl hsrc ?c1 ?c2 ?c3 ?_)
  case c1 => simp only [maxLen]; omega
  case c2 => omega
  case c3 => omega
  intro v' w1 ho hg _ hob
  obtain ⟨va, vm, vc, rfl⟩ := ownsRow_slice ho
  have hF := FIN.out _ w1 ho hg hob
  have hcell1 : w1.cell? ⟨bb, 0, none⟩ = some v := by simp [World.cell?, (hg.block bb hsz (fun e => hne e.symm)).trans hb]
  have hfr1 : w1.frozen? ⟨bb, 0, none⟩ = false := by simp [World.frozen?, (hg.block bb hsz (fun e => hne e.symm)).trans hb]
  have HF := Lib.hid hF
  clear hF ho hg hown hsrc hcell
  go_wp2
  exact bodyPost_end (v := .tuple #[]) (by simp [results, Tryd.results100, go_sem]) rfl HF.out
/-- One byte of a number. -/
def byteAt (x : Int) (i : Nat) : UInt8 := UInt8.ofNat (x.toNat / 2 ^ (8 * i) % 256)
/-- So many bytes of a number, the highest first. -/
def be (x : Int) : Nat → List UInt8
  | 0 => []
  | i + 1 => byteAt x i :: be x i
theorem be_length (x : Int) : ∀ k, (be x k).length = k
  | 0 => rfl
  | k + 1 => by simp [be, be_length x k]

theorem Wr.size {B bb : Nat} {w : World} {l : List UInt8} (h : Wr B w bb l) : bb < w.heap.size := by
  obtain ⟨_, v, hb, _⟩ := h; exact (Array.getElem?_eq_some_iff.1 hb).1

theorem byteAt_val (x : Int) (i : Nat) (hx : 0 ≤ x) : u8v (byteAt x i) = .int .u8 (x / 2 ^ (8 * i) % 256) := by
  obtain ⟨n, rfl⟩ := Int.eq_ofNat_of_zero_le hx
  have e : (byteAt (n : Int) i).toNat = n / 2 ^ (8 * i) % 256 := by
    simp only [byteAt, Int.toNat_natCast, UInt8.toNat_ofNat', show (2 : Nat) ^ 8 = 256 from rfl]
    omega
  simp only [u8v, e]
  congr 1

theorem Wr.below {B bb : Nat} {w w' : World} {l : List UInt8} (h : Wr B w bb l) (hb : ∀ g, B ≤ g → g < w.heap.size → w'.heap[g]? = w.heap[g]?) : Wr B w' bb l := by
  have hsz := h.size
  obtain ⟨hB, v, h1, h2⟩ := h
  refine ⟨hB, v, (hb bb hB hsz).trans h1, ownsRow_keep h2 (fun g hg => ?_)⟩
  rcases h2.2 with ⟨rfl, _⟩ | ⟨g', cap, cur, rfl, k1, k2, k3⟩
  · cases hg
  · simp only [Value.ownBlock, Option.some.injEq] at hg
    subst hg
    exact hb g' k1 (Array.getElem?_eq_some_iff.1 k2).1
theorem Wr.alloc {B bb : Nat} {w : World} {l : List UInt8} (h : Wr B w bb l) (o : Obj) : Wr B (w.alloc o) bb l :=
  h.below (fun g _ hg => Below.heap_alloc _ _ _ hg)

theorem cells_new (w : World) (xs : List Value) (e : TypeId) : Cells (w.heap.size + 1) (w.alloc (.cells xs.toArray e)) (some ⟨w.heap.size, 0, none⟩) xs := fun j u hj =>
  ⟨w.heap.size, 0, rfl, by omega, by rw [World.cell?_alloc_at _ _ _ _ rfl]; simpa using hj⟩

theorem number_any (B bb : Nat) (l : List UInt8) (x : Int) (k : Nat) (w : World) (hx0 : 0 ≤ x) (hx1 : x ≤ 18446744073709551615) (hk : k ≤ 8) (hw : Wr B w bb l) (hlen : l.length + k ≤ 70368744177664) :
    Calls Tryd.prog 101 #[.pointer (some ⟨bb, 0, none⟩), .int .u64 x, .int .i64 k] w (PutOut B bb (l ++ be x k) w) := by
  have hBB := hw.1
  go_enter Tryd.func101, Tryd.ntmps101
  go_wp2
  go_loopw [6] (fun i wr => ∃ (m : Nat) (l' : List UInt8), i = .int .i64 ((m : Int) - 1) ∧ m ≤ k ∧ Hid (l' ++ be x m = l ++ be x k) ∧ Wr B wr bb l' ∧ Below B w wr ∧ Keeps bb w wr) (fun i _ => (intOf i + 1).toNat)
  case atStart => exact ⟨k, l, rfl, Nat.le_refl _, rfl, hw, Below.refl _ _, Keeps.refl _ _⟩
  case round =>
    obtain ⟨m, l', rfl, hm, HL, hW, hB, hK⟩ := hrel
    by_cases h0 : m = 0
    · subst h0
      have HL' : Hid (l' = l ++ be x k) := by have := HL.out; show l' = l ++ be x k; simpa [be] using this
      clear HL
      go_wp2
      exact bodyPost_end (v := .tuple #[]) (by simp [results, Tryd.results101, go_sem]) rfl ⟨rfl, by rw [← HL'.out]; exact hW, hB, hK⟩
    · obtain ⟨i, rfl⟩ : ∃ i, m = i + 1 := ⟨m - 1, by omega⟩
      have hi : (((i + 1 : Nat) : Int) - 1) = (i : Int) := by omega
      rw [hi]
      have hsz := hW.size
      have hv := Lib.hid (byteAt_val x i hx0)
      have hll : l'.length + (i + 1) = l.length + k := by
        have := congrArg List.length HL.out
        simpa [be_length] using this
      have HLL := Lib.hid hll
      clear hll
      go_wp2_with fail
      refine (put_any B bb l' (some ⟨wr.heap.size, 0, none⟩) 1 1 (wr.heap.size + 1) [byteAt x i] _ (hW.alloc _) ?_ rfl (by have := HLL.out; simp; omega)).mono ?_
      · have := cells_new wr [u8v (byteAt x i)] 5
        rw [hv.out] at this
        simpa [hv.out] using this
      rintro e w' ⟨rfl, hW', hB', hK'⟩
      have hKw : Keeps bb w w' := (hK.trans (Keeps.alloc wr hsz _)).trans hK'
      have hBw : Below B w w' := (hB.alloc (by omega) _).trans hB'
      clear hB hB' hW hK hK'
      go_wp2
      go_roundw
      case rel => exact ⟨i, l' ++ [byteAt x i], by go_num, by omega, by have := HL.out; unfold Hid; rw [← this]; simp [be], hW', hBw, hKw⟩
      case measure => simp [intOf]
end Go.Proofs.YtfgjbcejpjcpeaaDoor
