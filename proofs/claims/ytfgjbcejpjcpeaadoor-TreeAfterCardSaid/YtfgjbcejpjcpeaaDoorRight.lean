/- The walks of stat.Right and of its reference: may a node be. -/
import Derived.Test.YtfgjbcejpjcpeaaDoorClone
import Derived.Test.YtfgjbcejpjcpeaaDoorPath
import Derived.Test.YtfgjbcejpjcpeaaDoorUt
namespace Go.Proofs.YtfgjbcejpjcpeaaDoor
open Go.RowKit
set_option maxHeartbeats 400000
set_option maxRecDepth 100000

theorem acCs_get (l : List Ac) (k : Nat) (h : k < l.length) : (acCs l)[k * 3]? = some (.int .i32 l[k].perms) ∧ (acCs l)[k * 3 + 1]? = some (.string l[k].scheme) ∧ (acCs l)[k * 3 + 2]? = some (.string l[k].id) := by
  induction l generalizing k with
  | nil => simp at h
  | cons x l ih =>
    cases k with
    | zero => simp [acCs, acC]
    | succ k =>
      have e : ∀ j, (acCs (x :: l))[(k + 1) * 3 + j]? = (acCs l)[k * 3 + j]? := fun j => by
        rw [show (k + 1) * 3 + j = k * 3 + j + 3 from by omega]
        simp only [acCs, List.flatMap_cons]
        rw [List.getElem?_append_right (by simp [acC])]
        simp [acC]
      have i := ih k (by simpa using h)
      exact ⟨by have := e 0; simp only [Nat.add_zero] at this; rw [this]; exact i.1, by rw [e 1]; exact i.2.1, by rw [e 2]; exact i.2.2⟩

/-- The k-th entry's three cells. -/
theorem acCells {B : Nat} {w : World} {a : Option Addr} {l : List Ac} (h : Cells B w a (acCs l)) (k : Nat) (hk : k < l.length) :
    ∃ b off, a = some ⟨b, off, none⟩ ∧ b < B ∧ w.cell? ⟨b, off + k * 3, none⟩ = some (.int .i32 l[k].perms) ∧ w.cell? ⟨b, off + k * 3 + 1, none⟩ = some (.string l[k].scheme) ∧ w.cell? ⟨b, off + k * 3 + 2, none⟩ = some (.string l[k].id) := by
  obtain ⟨g0, g1, g2⟩ := acCs_get l k hk
  obtain ⟨b, off, rfl, hb, c0⟩ := h _ _ g0
  obtain ⟨b1, off1, e1, _, c1⟩ := h _ _ g1
  obtain ⟨b2, off2, e2, _, c2⟩ := h _ _ g2
  simp only [Option.some.injEq, Addr.mk.injEq] at e1 e2
  obtain ⟨rfl, rfl, _⟩ := e1
  obtain ⟨rfl, rfl, _⟩ := e2
  exact ⟨b, off, rfl, hb, c0, by rw [Nat.add_assoc]; exact c1, by rw [Nat.add_assoc]; exact c2⟩

/-- The first of a list that is so; -1: none. -/
def fst (p : Ac → Bool) : List Ac → Int
  | [] => -1
  | x :: l => if p x then 0 else if fst p l < 0 then -1 else fst p l + 1

def IdxOut (p : Ac → Bool) (l : List Ac) (w : World) (e : Ending) (w' : World) : Prop := ∃ i : Int, e = .returned (.int .i64 i) ∧ (decide (0 ≤ i) = l.any p) ∧ Below w.heap.size w w'

theorem index_any (g : FuncId) (p : Ac → Bool) (a : Option Addr) (n c : Nat) (l : List Ac) (w : World) (hc : Cells w.heap.size w a (acCs l)) (hn : n = l.length) (hm : l.length ≤ 9223372036854775807)
    (hen : ∀ args w, (callFunc g args).run Tryd.prog w = .ok (.enter g args) w) (hg : Hid (∀ x ∈ l, ∀ w', Below w.heap.size w w' → Calls Tryd.prog g #[.agg #[.int .i32 x.perms, .string x.scheme, .string x.id]] w' fun e w'' => e = .returned (.bool (p x)) ∧ Below w'.heap.size w' w'')) :
    Calls Tryd.prog 79 #[.slice a n c, .func (.func g) #[] #[]] w (IdxOut p l w) := by
  subst hn
  go_enter Tryd.func79, Tryd.ntmps79
  go_wp2
  go_loopw [8] (fun i wr => ∃ k : Nat, k ≤ l.length ∧ i = .int .i64 k ∧ Hid (∀ j (h : j < l.length), j < k → p l[j] = false) ∧ Below w.heap.size w wr) (fun i _ => l.length - (intOf i).toNat)
  case atStart => exact ⟨0, Nat.zero_le _, rfl, fun j _ h => by omega, Below.refl _ _⟩
  case round =>
    obtain ⟨k, hk, rfl, HP, hB⟩ := hrel
    by_cases hlt : k < l.length
    · obtain ⟨b, off, rfl, hb, c0, c1, c2⟩ := acCells (hc.below hB) k hlt
      have hx : l[k] ∈ l := List.getElem_mem hlt
      have hcall := hg.out l[k] hx wr hB
      by_cases hp : p l[k] = true
      · have H : Hid (decide ((0 : Int) ≤ (k : Int)) = l.any p) := by
          show _ = _
          rw [show decide ((0 : Int) ≤ (k : Int)) = true from by simp]
          exact (List.any_eq_true.2 ⟨l[k], hx, hp⟩).symm
        rw [hp] at hcall
        go_wp2_with fail
        refine hcall.mono ?_
        rintro e w' ⟨rfl, hB'⟩
        have hBw : Below w.heap.size w w' := hB.trans (hB'.mono hB.size)
        clear hcall hB hB' c0 c1 c2 hp
        go_wp2
        go_ret
        exact ⟨k, rfl, H, hBw⟩
      · have hpf : p l[k] = false := by simpa using hp
        have HN : Hid (∀ j (h : j < l.length), j < k + 1 → p l[j] = false) := fun j h hj => by
          by_cases e : j = k
          · subst e; exact hpf
          · exact HP.out j h (by omega)
        rw [hpf] at hcall
        go_wp2_with fail
        refine hcall.mono ?_
        rintro e w' ⟨rfl, hB'⟩
        have hBw : Below w.heap.size w w' := hB.trans (hB'.mono hB.size)
        clear hcall hB hB' c0 c1 c2 hp hpf
        go_wp2
        go_roundw
        case rel => exact ⟨k + 1, by omega, by go_num, HN, hBw⟩
        case measure => simp [intOf]; omega
    · have H : Hid (decide ((0 : Int) ≤ -1) = l.any p) := by
        show _ = _
        rw [show decide ((0 : Int) ≤ -1) = false from by decide]
        refine (List.any_eq_false.2 fun x hx => ?_).symm
        obtain ⟨j, hj, rfl⟩ := List.mem_iff_getElem.1 hx
        rw [HP.out j hj (by omega)]; simp
      go_wp2
      go_ret
      exact ⟨-1, rfl, H, hB⟩

theorem contains_any (g : FuncId) (p : Ac → Bool) (a : Option Addr) (n c : Nat) (l : List Ac) (w : World) (hc : Cells w.heap.size w a (acCs l)) (hn : n = l.length) (hm : l.length ≤ 9223372036854775807)
    (hen : ∀ args w, (callFunc g args).run Tryd.prog w = .ok (.enter g args) w) (hg : Hid (∀ x ∈ l, ∀ w', Below w.heap.size w w' → Calls Tryd.prog g #[.agg #[.int .i32 x.perms, .string x.scheme, .string x.id]] w' fun e w'' => e = .returned (.bool (p x)) ∧ Below w'.heap.size w' w'')) :
    Calls Tryd.prog 61 #[.slice a n c, .func (.func g) #[] #[]] w fun e w' => e = .returned (.bool (l.any p)) ∧ Below w.heap.size w w' := by
  subst hn
  have HI := index_any g p a _ c l w hc rfl hm hen hg
  clear hen hg hc
  go_enter Tryd.func61, Tryd.ntmps61
  go_wp2_with fail
  refine HI.mono ?_
  rintro e w' ⟨i, rfl, hi, hB⟩
  have Hi := Lib.hid hi
  clear HI hi
  go_wp2
  go_ret
  exact ⟨by rw [← Hi.out]; rfl, hB⟩

/-- The two tables of the library's that its own look at texts reads. -/
def Tabs (w : World) : Prop := Lib.Utf8Tabs (Tryd.lays196_ren.g 3) (Tryd.lays196_ren.g 4) w

theorem validS_any (s : ByteArray) (w : World) (hs : s.size ≤ 9223372036854775807) (hT : Tabs w) :
    Calls Tryd.prog 64 #[.string s] w fun e w' => e = .returned (.bool (Lib.validD s.data.toList)) ∧ Below w.heap.size w w' := Any.utf8_ValidString Tryd.lays196 s w hs hT

def bigAc (x : Ac) : Bool := decide (256 < x.scheme.size) || decide (256 < x.id.size)
def badAc (x : Ac) : Bool := !Lib.validD x.scheme.data.toList || !Lib.validD x.id.data.toList

theorem big_any (x : Ac) (w : World) (h1 : x.scheme.size ≤ 9223372036854775807) (h2 : x.id.size ≤ 9223372036854775807) :
    Calls Tryd.prog 62 #[.agg #[.int .i32 x.perms, .string x.scheme, .string x.id]] w fun e w' => e = .returned (.bool (bigAc x)) ∧ Below w.heap.size w w' := by
  go_enter Tryd.func62, Tryd.ntmps62
  by_cases h : 256 < (x.scheme.size : Int)
  · have H : Hid (bigAc x = true) := by unfold Hid bigAc; simp; omega
    go_wp2
    go_ret
    exact ⟨by rw [H.out]; rfl, (Below.refl _ _).alloc (Nat.le_refl _) _⟩
  · have H : Hid (bigAc x = decide (256 < (x.id.size : Int))) := by
      unfold Hid bigAc
      have : ¬ 256 < x.scheme.size := by omega
      simp [this]; omega
    have h' : decide (256 < (x.scheme.size : Int)) = false := by simpa using h
    go_wp2
    go_ret
    exact ⟨by rw [H.out]; rfl, (Below.refl _ _).alloc (Nat.le_refl _) _⟩

theorem Tabs.size {w : World} (h : Tabs w) : 2 ≤ w.heap.size := by
  have := block_lt_of_cell (h.2 0 (by omega)).1
  exact this
theorem Tabs.below {B : Nat} {w w' : World} (h : Tabs w) (hb : Below B w w') (hB : 2 ≤ B) : Tabs w' :=
  ⟨fun c hc => (hb.cell (p := ⟨0, c, none⟩) (by show 0 < B; omega)).trans (h.1 c hc),
   fun i hi => ⟨(hb.cell (p := ⟨1, 2 * i, none⟩) (by show 1 < B; omega)).trans (h.2 i hi).1, (hb.cell (p := ⟨1, 2 * i + 1, none⟩) (by show 1 < B; omega)).trans (h.2 i hi).2⟩⟩

theorem bad_any (x : Ac) (w : World) (h1 : x.scheme.size ≤ 9223372036854775807) (h2 : x.id.size ≤ 9223372036854775807) (hT : Tabs w) :
    Calls Tryd.prog 63 #[.agg #[.int .i32 x.perms, .string x.scheme, .string x.id]] w fun e w' => e = .returned (.bool (badAc x)) ∧ Below w.heap.size w w' := by
  have hsz := hT.size
  have hTb : Hid (∀ w', Below w.heap.size w w' → Tabs w') := fun w' hb => hT.below hb hsz
  have hb0 : Below w.heap.size w (w.alloc (.cells #[.int .i32 x.perms, .string x.scheme, .string x.id] 101)) := (Below.refl _ _).alloc (Nat.le_refl _) _
  have hc2 : (w.alloc (.cells #[.int .i32 x.perms, .string x.scheme, .string x.id] 101)).cell? ⟨w.heap.size, 2, none⟩ = some (.string x.id) := by
    rw [World.cell?_alloc_at _ _ _ _ rfl]; rfl
  by_cases h : Lib.validD x.scheme.data.toList = true
  · have H : Hid (badAc x = !Lib.validD x.id.data.toList) := by unfold Hid badAc; simp [h]
    have C1 := fun w hT => validS_any x.scheme w h1 hT
    simp only [h] at C1
    have C1 := Lib.hid C1
    clear h
    go_enter Tryd.func63, Tryd.ntmps63
    go_wp2_with fail
    refine (C1.out _ (hTb.out _ hb0)).mono ?_
    rintro e w1 ⟨rfl, hb1⟩
    have hb2 : Below w.heap.size w w1 := hb0.trans (hb1.mono (by simp))
    have hcc : w1.cell? ⟨w.heap.size, 2, none⟩ = some (.string x.id) := (hb1.cell (p := ⟨w.heap.size, 2, none⟩) (by simp)).trans hc2
    have hT1 := hTb.out _ hb2
    clear hb0 hb1 hc2 hTb
    go_wp2_with fail
    refine (validS_any x.id _ h2 hT1).mono ?_
    rintro e w2 ⟨rfl, hb3⟩
    have hb4 : Below w.heap.size w w2 := hb2.trans (hb3.mono hb2.size)
    clear hb2 hb3 hcc hT1
    go_wp2
    go_ret
    exact ⟨by rw [H.out]; rfl, hb4⟩
  · have H : Hid (badAc x = true) := by unfold Hid badAc; simp [h]
    have h' : Lib.validD x.scheme.data.toList = false := by simpa using h
    have C1 := fun w hT => validS_any x.scheme w h1 hT
    simp only [h'] at C1
    have C1 := Lib.hid C1
    clear h h'
    go_enter Tryd.func63, Tryd.ntmps63
    go_wp2_with fail
    refine (C1.out _ (hTb.out _ hb0)).mono ?_
    rintro e w1 ⟨rfl, hb1⟩
    have hb2 : Below w.heap.size w w1 := hb0.trans (hb1.mono (by simp))
    clear hb0 hb1 hc2 hTb
    go_wp2
    go_ret
    exact ⟨by rw [H.out]; rfl, hb2⟩

/-- A node. -/
structure Nd where
  path : ByteArray
  data : List UInt8
  acl : List Ac
  owner : Int
  czxid : Int
  mzxid : Int
  pzxid : Int
  azxid : Int
  qzxid : Int
  ctime : Int
  mtime : Int
  version : Int
  creates : Int
  aversion : Int
  has : Bool
  count : Int
  bytes : Int

/-- A node's seventeen cells: the two slices apart. -/
def ndC (n : Nd) (d a : Value) : Array Value :=
  #[.string n.path, d, a, .int .i64 n.owner, .int .i64 n.czxid, .int .i64 n.mzxid, .int .i64 n.pzxid, .int .i64 n.azxid, .int .i64 n.qzxid, .int .i64 n.ctime, .int .i64 n.mtime, .int .i32 n.version, .int .i32 n.creates, .int .i32 n.aversion, .bool n.has, .int .i64 n.count, .int .i64 n.bytes]

def badQ (n : Nd) : Bool := (!n.has && (n.count != 0 || n.bytes != 0)) || (n.has && (decide (n.count < -1) || decide (n.bytes < -1)))

/-- May a node be: 0, or the number of what is wrong. -/
def rightN (n : Nd) : Int :=
  if !vpath n.path then 30 else if 1048575 < n.data.length ∨ 16 < n.acl.length ∨ n.acl.any bigAc = true then 3 else if n.acl.any badAc then 1 else if badQ n then 1 else 0

/-- What is known of any node's sizes. -/
structure Fit (n : Nd) : Prop where
  path : n.path.size ≤ 9223372036854775800
  data : n.data.length ≤ 140737488355328
  acl : n.acl.length * 40 ≤ 140737488355328
  texts : ∀ x ∈ n.acl, x.scheme.size ≤ 9223372036854775800 ∧ x.id.size ≤ 9223372036854775800

end Go.Proofs.YtfgjbcejpjcpeaaDoor
