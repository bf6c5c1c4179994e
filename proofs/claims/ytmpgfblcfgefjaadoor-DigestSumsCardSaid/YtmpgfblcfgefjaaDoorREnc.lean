/- The walks of the reference's record of a node: numbers, texts, lists of permissions. -/
import Derived.Test.YtmpgfblcfgefjaaDoorEnc3
import Derived.Test.YtmpgfblcfgefjaaDoorRRight2
namespace Go.Proofs.YtmpgfblcfgefjaaDoor
open Go.RowKit
set_option maxHeartbeats 1000000
set_option maxRecDepth 100000

/-- What stays when a row of the call's own is written behind. -/
def RowKeep (v v' : Value) (w w' : World) : Prop := w.heap.size ≤ w'.heap.size ∧ ∀ g, g < w.heap.size → v.ownBlock ≠ some g → w'.heap[g]? = w.heap[g]? ∧ v'.ownBlock ≠ some g
theorem RowKeep.refl (v : Value) (w : World) : RowKeep v v w w := ⟨Nat.le_refl _, fun _ _ h => ⟨rfl, h⟩⟩
theorem RowKeep.trans {v1 v2 v3 : Value} {a b c : World} (h : RowKeep v1 v2 a b) (k : RowKeep v2 v3 b c) : RowKeep v1 v3 a c :=
  ⟨Nat.le_trans h.1 k.1, fun g hg hn => let x := h.2 g hg hn; let y := k.2 g (Nat.lt_of_lt_of_le hg h.1) x.2; ⟨y.1.trans x.1, y.2⟩⟩
theorem RowKeep.alloc (v : Value) (w : World) (o : Obj) : RowKeep v v w (w.alloc o) := ⟨by simp, fun g hg hn => ⟨Below.heap_alloc _ _ _ hg, hn⟩⟩

/-- A row of bytes of the call's own. -/
def OwnB (B : Nat) (w : World) (v : Value) (l : List UInt8) : Prop := w.ownsRow B 5 1 v l.length (l.map u8v)
theorem OwnB.lt {B : Nat} {w : World} {v : Value} {l : List UInt8} (h : OwnB B w v l) : ∀ g, v.ownBlock = some g → g < w.heap.size ∧ B ≤ g := by
  intro g hg
  rcases h.2 with ⟨rfl, _⟩ | ⟨g', cap, cur, rfl, k1, k2, k3⟩
  · cases hg
  · simp only [Value.ownBlock, Option.some.injEq] at hg
    subst hg
    exact ⟨(Array.getElem?_eq_some_iff.1 k2).1, k1⟩
theorem OwnB.alloc {B : Nat} {w : World} {v : Value} {l : List UInt8} (h : OwnB B w v l) (o : Obj) : OwnB B (w.alloc o) v l :=
  ownsRow_keep h (fun g hg => Below.heap_alloc _ _ _ (h.lt g hg).1)
theorem OwnB.slice {B : Nat} {w : World} {v : Value} {l : List UInt8} (h : OwnB B w v l) : ∃ a m c, v = .slice a m c := ownsRow_slice h

def PutR (B : Nat) (v : Value) (l : List UInt8) (w : World) (e : Ending) (w' : World) : Prop :=
  ∃ v', e = .returned v' ∧ OwnB B w' v' l ∧ Below B w w' ∧ RowKeep v v' w w'

theorem grown_keep {B : Nat} {w w1 : World} {v v' : Value} {l : List UInt8} (h : OwnB B w v l) (hg : w.grownBy w1 v.ownBlock) (hob : v'.ownBlock = v.ownBlock ∨ v'.ownBlock = some w.heap.size) (hB : B ≤ w.heap.size) : Below B w w1 ∧ RowKeep v v' w w1 := by
  refine ⟨(Below.refl B w).grown hg hB (fun k hk => (h.lt k hk).2), hg.size, fun g hgs hn => ⟨hg.block g hgs (fun e => hn e.symm), ?_⟩⟩
  rcases hob with h | h
  · rw [h]; exact hn
  · rw [h]; simp; omega

theorem rput_any (B : Nat) (v : Value) (l : List UInt8) (x : Int) (k : Nat) (ki : Int) (w : World) (hki : ki = k) (hx0 : 0 ≤ x) (hx1 : x ≤ 18446744073709551615) (hk : k ≤ 8) (hv : OwnB B w v l) (hB : B ≤ w.heap.size) (hlen : l.length + k ≤ 70368744177664) :
    Calls Tryd.prog 38 #[v, .int .u64 x, .int .i64 ki] w (PutR B v (l ++ be x k) w) := by
  subst hki
  obtain ⟨i0, hi, hz0, hz1, hz2⟩ := info_parts infoU8
  go_enter Tryd.func38, Tryd.ntmps38
  go_wp2
  go_loopw [0, 7] (fun vb i wr => ∃ (m : Nat) (l' : List UInt8), i = .int .i64 ((m : Int) - 1) ∧ m ≤ k ∧ Hid (l' ++ be x m = l ++ be x k) ∧ OwnB B wr vb l' ∧ Below B w wr ∧ RowKeep v vb w wr) (fun _ i _ => (intOf i + 1).toNat)
  case atStart => exact ⟨k, l, rfl, Nat.le_refl _, rfl, hv, Below.refl _ _, RowKeep.refl _ _⟩
  case round =>
    obtain ⟨m, l', rfl, hm, HL, hW, hb, hK⟩ := hrel
    by_cases h0 : m = 0
    · subst h0
      have HL' : Hid (l' = l ++ be x k) := by have := HL.out; show l' = l ++ be x k; simpa [be] using this
      clear HL
      go_wp2
      go_ret
      exact ⟨_, rfl, by rw [← HL'.out]; exact hW, hb, hK⟩
    · obtain ⟨i, rfl⟩ : ∃ i, m = i + 1 := ⟨m - 1, by omega⟩
      have hi' : (((i + 1 : Nat) : Int) - 1) = (i : Int) := by omega
      rw [hi']
      have hbv := Lib.hid (byteAt_val x i hx0)
      have hll : l'.length + (i + 1) = l.length + k := by
        have := congrArg List.length HL.out
        simpa [be_length] using this
      have HLL := Lib.hid hll
      clear hll
      have hWa := hW.alloc (.cells #[u8v (byteAt x i)] 5)
      have hsz : wr.heap.size ≤ (wr.alloc (.cells #[u8v (byteAt x i)] 5)).heap.size := by simp
      have hsrc : Src Tryd.prog 1 22 (.slice (some ⟨wr.heap.size, 0, none⟩) 1 1) 1 [u8v (byteAt x i)] (wr.alloc (.cells #[u8v (byteAt x i)] 5)) :=
        (cells_new wr [u8v (byteAt x i)] 5).src Tryd.underlying22 1 1 rfl (one_u8 [byteAt x i])
      rw [hbv.out] at hWa hsrc hsz
      have hbr := hb.size
      go_wp2_with (at_builtin; refine wpList_append_src _ rfl _ _ 22 22 rfl B 5 i0 (.int .u8 0) 1 1 Tryd.underlying22 hi hz0 hz1 hz2 rfl (by decide) u0 l'.length _ rfl hWa _ 1 _ rfl hsrc ?c1 ?c2 ?c3 ?_)
      case c1 => have := HLL.out; simp only [maxLen]; omega
      case c2 => have := HLL.out; omega
      case c3 => simp; omega
      intro v' w1 ho hg _ hob
      have hgk := grown_keep hWa hg (by simpa using hob) (by simp; omega)
      have hbw : Below B w w1 := (hb.alloc (by omega) _).trans hgk.1
      have hkw : RowKeep v v' w w1 := (hK.trans (RowKeep.alloc _ _ _)).trans hgk.2
      have ho' : OwnB B w1 v' (l' ++ [byteAt x i]) := by
        have e : (l' ++ [byteAt x i]).map u8v = l'.map u8v ++ [.int .u8 (x / 2 ^ (8 * i) % 256)] := by rw [List.map_append, ← hbv.out]; rfl
        unfold OwnB
        rw [e]
        simpa using ho
      clear hgk ho hg hob hWa hsrc hb hK hW hbr
      go_wp2
      go_roundw
      case rel => exact ⟨i, l' ++ [byteAt x i], by go_num, by omega, by have := HL.out; unfold Hid; rw [← this]; simp [be], ho', hbw, hkw⟩
      case measure => simp [intOf]

theorem bytes_of_list (s : ByteArray) : byteCells s = s.data.toList.map u8v := rfl

theorem rtext_any (B : Nat) (v : Value) (l : List UInt8) (s : ByteArray) (w : World) (hv : OwnB B w v l) (hB : B ≤ w.heap.size) (hs : s.size < 2147483648) (hlen : l.length + s.size + 4 ≤ 70368744177664) :
    Calls Tryd.prog 36 #[v, .string s] w (PutR B v (l ++ txt s) w) := by
  obtain ⟨i0, hi, hz0, hz1, hz2⟩ := info_parts infoU8
  go_enter Tryd.func36, Tryd.ntmps36
  go_wp2_with fail
  refine (rput_any B v l s.size 4 _ w rfl (by omega) (by omega) (by omega) hv hB (by omega)).mono ?_
  rintro e w1 ⟨v1, rfl, k1, k2, k3⟩
  have hsrc : Src Tryd.prog 1 9 (.string s) s.size (s.data.toList.map u8v) w1 := bytes_of_list s ▸ Src.ofString w1 Tryd.underlying9 s
  have hsz := k2.size
  have HL : Hid ((l ++ be s.size 4).length = l.length + 4) := by simp [Hid, be_length]
  go_wp2_with (at_builtin; refine wpList_append_src _ rfl _ _ 22 9 rfl B 5 i0 (.int .u8 0) 1 1 Tryd.underlying22 hi hz0 hz1 hz2 rfl (by decide) v1 (l ++ be s.size 4).length _ rfl k1 _ s.size _ rfl hsrc ?c1 ?c2 ?c3 ?_)
  case c1 => have := HL.out; simp only [maxLen]; omega
  case c2 => have := HL.out; omega
  case c3 => omega
  intro v' w2 ho hg _ hob
  have hgk := grown_keep k1 hg hob (by omega)
  have ho' : OwnB B w2 v' (l ++ txt s) := by
    unfold OwnB
    have e : (l ++ txt s).map u8v = (l ++ be s.size 4).map u8v ++ s.data.toList.map u8v := by simp [txt]
    rw [e]
    have e2 : (l ++ txt s).length = (l ++ be s.size 4).length + s.size := by simp [txt]; omega
    rw [e2]
    simpa [List.append_assoc] using ho
  have hbw := k2.trans hgk.1
  have hkw := k3.trans hgk.2
  clear hgk ho hg hob hsrc k1 k2 k3
  go_wp2
  go_ret
  exact ⟨v', rfl, ho', hbw, hkw⟩
end Go.Proofs.YtmpgfblcfgefjaaDoor
