/- The walks of stat.Encode's entry, and of a list of entries. -/
import Derived.Test.YtfgjbcejpjcpeaaDoorEnc
namespace Go.Proofs.YtfgjbcejpjcpeaaDoor
open Go.RowKit
set_option maxHeartbeats 1000000
set_option maxRecDepth 100000

/-- A text's record. -/
def txt (s : ByteArray) : List UInt8 := be s.size 4 ++ s.data.toList
/-- An entry's record. -/
def acB (x : Ac) : List UInt8 := be (x.perms % 4294967296) 4 ++ txt x.scheme ++ txt x.id
def acBs (l : List Ac) : List UInt8 := l.flatMap acB

theorem txt_length (s : ByteArray) : (txt s).length = 4 + s.size := by simp [txt, be_length]
theorem acB_length (x : Ac) : (acB x).length = 12 + x.scheme.size + x.id.size := by simp [acB, be_length, txt_length]; omega

/-- A block that the writer leaves alone, and its cells. -/
def AwayBox (bb : Nat) (w : World) (g : Nat) (cs : Array Value) : Prop := g < w.heap.size ∧ Apart w bb g ∧ Box w g cs
theorem AwayBox.keeps {bb g : Nat} {w w' : World} {cs : Array Value} (h : AwayBox bb w g cs) (hk : Keeps bb w w') : AwayBox bb w' g cs :=
  ⟨Nat.lt_of_lt_of_le h.1 hk.1, (hk.2 g h.1 h.2.1).2, fun j => (World.cell?_of_block (hk.2 g h.1 h.2.1).1).trans (h.2.2 j)⟩
theorem AwayBox.new {B bb : Nat} {w : World} {l : List UInt8} (hw : Wr B w bb l) (cs : Array Value) (e : TypeId) : AwayBox bb (w.alloc (.cells cs e)) w.heap.size cs :=
  ⟨by simp, ⟨by have := hw.size; omega, fun v hv => (Apart.high hw w.heap.size (Nat.le_refl _)).2 v (by rw [← Below.heap_alloc w (.cells cs e) bb hw.size]; exact hv)⟩, Box.alloc w cs e⟩

theorem entry_any (B bb : Nat) (l : List UInt8) (x : Ac) (w : World) (hw : Wr B w bb l) (h1 : x.scheme.size < 2147483648) (h2 : x.id.size < 2147483648) (hlen : l.length + 12 + x.scheme.size + x.id.size ≤ 70368744177664) :
    Calls Tryd.prog 86 #[.pointer (some ⟨bb, 0, none⟩), .agg #[.int .i32 x.perms, .string x.scheme, .string x.id]] w (PutOut B bb (l ++ acB x) w) := by
  have hB := hw.1
  have hsz := hw.size
  have hw0 := hw.alloc (.cells #[.int .i32 x.perms, .string x.scheme, .string x.id] 101)
  have hk0 := Keeps.alloc w hsz (.cells #[.int .i32 x.perms, .string x.scheme, .string x.id] 101)
  have hb0 : Below B w (w.alloc (.cells #[.int .i32 x.perms, .string x.scheme, .string x.id] 101)) := (Below.refl B w).alloc (by omega) _
  have hx0 := AwayBox.new hw #[.int .i32 x.perms, .string x.scheme, .string x.id] 101
  go_enter Tryd.func86, Tryd.ntmps86
  go_wp2_with fail
  refine (int_any B bb l _ _ hw0 (by omega)).mono ?_
  rintro e w1 ⟨rfl, k1, k2, k3⟩
  have hx1 := hx0.keeps k3
  have hq1 := hx1.2.2
  unfold Box at hq1
  go_wp2_with fail
  refine (text_any B bb _ x.scheme w1 k1 h1 (by simp [be_length]; omega)).mono ?_
  rintro e w2 ⟨rfl, m1, m2, m3⟩
  have hx2 := hx1.keeps m3
  have hq2 := hx2.2.2
  unfold Box at hq2
  clear hq1
  go_wp2_with fail
  refine (text_any B bb _ x.id w2 m1 h2 (by simp [be_length]; omega)).mono ?_
  rintro e w3 ⟨rfl, n1, n2, n3⟩
  clear hq2
  go_wp2
  exact bodyPost_end (v := .tuple #[]) (by simp [results, Tryd.results86, go_sem]) rfl ⟨rfl, by simpa [acB, txt, List.append_assoc] using n1, hb0.trans (k2.trans (m2.trans n2)), hk0.trans (k3.trans (m3.trans n3))⟩

theorem acBs_take (l : List Ac) (k : Nat) (h : k < l.length) : acBs (l.take (k + 1)) = acBs (l.take k) ++ acB l[k] := by
  unfold acBs
  rw [List.take_succ_eq_append_getElem h, List.flatMap_append, List.flatMap_cons, List.flatMap_nil, List.append_nil]
theorem acBs_le (l : List Ac) (h : ∀ x ∈ l, x.scheme.size ≤ 256 ∧ x.id.size ≤ 256) : ∀ k, k ≤ l.length → (acBs (l.take k)).length ≤ k * 524
  | 0, _ => by simp [acBs]
  | k + 1, hk => by
    have ih := acBs_le l h k (by omega)
    rw [acBs_take l k (by omega), List.length_append, acB_length]
    have := h l[k] (List.getElem_mem (by omega))
    omega

theorem func_nil (w : World) : (binOp .eql 149 (.func (.func 86) #[] #[]) .nilFunc).run Tryd.prog w = .ok (.bool false) w := by kernel_rfl

theorem list_any (B bb : Nat) (l : List UInt8) (a : Option Addr) (c : Nat) (xs : List Ac) (w : World) (hw : Wr B w bb l) (hc : Cells B w a (acCs xs)) (hn : xs.length ≤ 16) (hx : ∀ x ∈ xs, x.scheme.size ≤ 256 ∧ x.id.size ≤ 256) (hlen : l.length ≤ 70368744000000) :
    Calls Tryd.prog 85 #[.pointer (some ⟨bb, 0, none⟩), .slice a xs.length c, .func (.func 86) #[] #[]] w (PutOut B bb (l ++ be xs.length 4 ++ acBs xs) w) := by
  have HX := Lib.hid hx
  have HLE := Lib.hid (acBs_le xs hx)
  clear hx
  go_enter Tryd.func85, Tryd.ntmps85
  go_wp2_with fail
  refine (count_any B bb l _ w hw (by omega) (by omega)).mono ?_
  rintro e w1 ⟨rfl, k1, k2, k3⟩
  have hfn := func_nil
  have hen := enters_f Tryd.func86 (by kernel_rfl) rfl
  have hc1 := hc.below k2
  clear hc hw
  go_wp2
  go_loopw [16] (fun i wr => ∃ k : Nat, k ≤ xs.length ∧ i = .int .i64 k ∧ Wr B wr bb (l ++ be xs.length 4 ++ acBs (xs.take k)) ∧ Below B w wr ∧ Keeps bb w wr) (fun i _ => xs.length - (intOf i).toNat)
  case atStart => exact ⟨0, Nat.zero_le _, rfl, by simpa [acBs] using k1, k2, k3⟩
  case round =>
    obtain ⟨k, hk, rfl, m1, m2, m3⟩ := hrel
    by_cases hlt : k < xs.length
    · have hB := m1.1
      have hsz := m1.size
      have hcw : Cells B wr a (acCs xs) := fun j u hj => by
        obtain ⟨b, off, h1, h2, h3⟩ := hc1 j u hj
        exact ⟨b, off, h1, h2, ((m2.cell (p := ⟨b, off + j, none⟩) h2).trans (k2.cell (p := ⟨b, off + j, none⟩) h2).symm).trans h3⟩
      obtain ⟨b, off, rfl, hb, c0, c1, c2⟩ := acCells hcw k hlt
      have hx2 := HX.out xs[k] (List.getElem_mem hlt)
      have hle := HLE.out k (by omega)
      have htk := Lib.hid (acBs_take xs k hlt)
      have hw' := m1.alloc (.cells #[.int .i32 xs[k].perms, .string xs[k].scheme, .string xs[k].id] 101)
      have hk' := Keeps.alloc wr hsz (.cells #[.int .i32 xs[k].perms, .string xs[k].scheme, .string xs[k].id] 101)
      have hb' : Below B wr (wr.alloc (.cells #[.int .i32 xs[k].perms, .string xs[k].scheme, .string xs[k].id] 101)) := (Below.refl B wr).alloc (by omega) _
      clear hcw hc1
      go_wp2_with fail
      refine (entry_any B bb _ xs[k] _ hw' (by omega) (by omega) (by simp [be_length]; omega)).mono ?_
      rintro e w' ⟨rfl, p1, p2, p3⟩
      have hBw : Below B w w' := (m2.trans hb').trans p2
      have hKw : Keeps bb w w' := (m3.trans hk').trans p3
      rw [List.append_assoc, ← htk.out] at p1
      clear hb' hk' hw' p2 p3 m1 m2 m3 htk hle hx2 c0 c1 c2
      go_wp2
      go_roundw
      case rel => exact ⟨k + 1, by omega, by go_num, p1, hBw, hKw⟩
      case measure => simp [intOf]; omega
    · obtain rfl : k = xs.length := by omega
      rw [List.take_length] at m1
      clear hc1
      go_wp2
      exact bodyPost_end (v := .tuple #[]) (by simp [results, Tryd.results85, go_sem]) rfl ⟨rfl, by simpa using m1, m2, m3⟩

/-- A node's eight longs and three ints. -/
def longsN (n : Nd) : List Int := [n.owner, n.czxid, n.mzxid, n.pzxid, n.azxid, n.qzxid, n.ctime, n.mtime]
def intsN (n : Nd) : List Int := [n.version, n.creates, n.aversion]
def longsB (l : List Int) : List UInt8 := l.flatMap fun x => be (IntKind.u64.wrap x) 8
def intsB (l : List Int) : List UInt8 := l.flatMap fun x => be (x % 4294967296) 4
/-- A node's record. -/
def encN (n : Nd) : List UInt8 :=
  txt n.path ++ (be n.data.length 4 ++ n.data) ++ (be n.acl.length 4 ++ acBs n.acl) ++ longsB (longsN n) ++ intsB (intsN n) ++ [if n.has then 1 else 0] ++ be (IntKind.u64.wrap n.count) 8 ++ be (IntKind.u64.wrap n.bytes) 8
theorem longsB_length (l : List Int) : (longsB l).length = l.length * 8 := by
  induction l with
  | nil => rfl
  | cons x l ih => simp only [longsB, List.flatMap_cons, List.length_append, be_length, List.length_cons] at *; rw [ih]; omega
theorem intsB_length (l : List Int) : (intsB l).length = l.length * 4 := by
  induction l with
  | nil => rfl
  | cons x l ih => simp only [intsB, List.flatMap_cons, List.length_append, be_length, List.length_cons] at *; rw [ih]; omega
theorem longsB_take (l : List Int) (k : Nat) (h : k < l.length) : longsB (l.take (k + 1)) = longsB (l.take k) ++ be (IntKind.u64.wrap l[k]) 8 := by
  unfold longsB
  rw [List.take_succ_eq_append_getElem h, List.flatMap_append, List.flatMap_cons, List.flatMap_nil, List.append_nil]
theorem intsB_take (l : List Int) (k : Nat) (h : k < l.length) : intsB (l.take (k + 1)) = intsB (l.take k) ++ be (l[k] % 4294967296) 4 := by
  unfold intsB
  rw [List.take_succ_eq_append_getElem h, List.flatMap_append, List.flatMap_cons, List.flatMap_nil, List.append_nil]
end Go.Proofs.YtfgjbcejpjcpeaaDoor
