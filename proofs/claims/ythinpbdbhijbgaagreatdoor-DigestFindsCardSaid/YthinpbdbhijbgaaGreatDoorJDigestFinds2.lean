/- The walks of stat.Right and of its reference: may a node be. The walk of stat.Right. The walk of stat.Encode: a node's record. The walks of stat.Encode's entry, and of a list of entries. The walk of stat.Encode. A node's value in memory. What a law's arguments are, opened: bytes, lists of rights, nodes. What the rows list, read; the program's own facts for the cards. Maps keyed by strings, as lists of keys and values in order: what each operation on a map makes of the list. -/
import Derived.Test.YthinpbdbhijbgaaGreatDoorJDigestFinds1
import Derived.ProofKit
import Derived.SizedLaws
import Derived.Deep.Slices
import Derived.Deep.Strs
import Derived.Test.YthinpbdbhijbgaaGreatDoorRows
import Derived.LaidMore
import Derived.OpenShut
import Derived.Stop.Joined
import Derived.Lib.LaidU8
import GoSem.PinnedTables
import Derived.Lay
import Derived.SevenTiedAt
import Derived.Maps.Range
namespace Go.Proofs.YthinpbdbhijbgaaGreatDoor
open Go.RowKit
set_option maxHeartbeats 400000
set_option maxRecDepth 100000

theorem acCs_get (l : List Ac) (k : Nat) (h : k < l.length) : (acCs l)[k * 3]? = some (.int .i32 l[k].perms) ∧ (acCs l)[k * 3 + 1]? = some (.string l[k].scheme) ∧ (acCs l)[k * 3 + 2]? = some (.string l[k].id) := by
  induction l generalizing k with
  | nil => simp at h
  | cons x l ih =>
    cases k with
    | zero => simp [acCs, acC]
    | succ k =>
      have e : ∀ j, (acCs (x :: l))[(k + 1) * 3 + j]? = (acCs l)[k * 3 + j]? := fun j => by
        rw [show (k + 1) * 3 + j = k * 3 + j + 3 from by omega]
        simp only [acCs, List.flatMap_cons]
        rw [List.getElem?_append_right (by simp [acC])]
        simp [acC]
      have i := ih k (by simpa using h)
      exact ⟨by have := e 0; simp only [Nat.add_zero] at this; rw [this]; exact i.1, by rw [e 1]; exact i.2.1, by rw [e 2]; exact i.2.2⟩

/-- The k-th entry's three cells. -/
theorem acCells {B : Nat} {w : World} {a : Option Addr} {l : List Ac} (h : Cells B w a (acCs l)) (k : Nat) (hk : k < l.length) :
    ∃ b off, a = some ⟨b, off, none⟩ ∧ b < B ∧ w.cell? ⟨b, off + k * 3, none⟩ = some (.int .i32 l[k].perms) ∧ w.cell? ⟨b, off + k * 3 + 1, none⟩ = some (.string l[k].scheme) ∧ w.cell? ⟨b, off + k * 3 + 2, none⟩ = some (.string l[k].id) := by
  obtain ⟨g0, g1, g2⟩ := acCs_get l k hk
  obtain ⟨b, off, rfl, hb, c0⟩ := h _ _ g0
  obtain ⟨b1, off1, e1, _, c1⟩ := h _ _ g1
  obtain ⟨b2, off2, e2, _, c2⟩ := h _ _ g2
  simp only [Option.some.injEq, Addr.mk.injEq] at e1 e2
  obtain ⟨rfl, rfl, _⟩ := e1
  obtain ⟨rfl, rfl, _⟩ := e2
  exact ⟨b, off, rfl, hb, c0, by rw [Nat.add_assoc]; exact c1, by rw [Nat.add_assoc]; exact c2⟩

def IdxOut (p : Ac → Bool) (l : List Ac) (w : World) (e : Ending) (w' : World) : Prop := ∃ i : Int, e = .returned (.int .i64 i) ∧ (decide (0 ≤ i) = l.any p) ∧ Below w.heap.size w w'

theorem index_any (g : FuncId) (p : Ac → Bool) (a : Option Addr) (n c : Nat) (l : List Ac) (w : World) (hc : Cells w.heap.size w a (acCs l)) (hn : n = l.length) (hm : l.length ≤ 9223372036854775807)
    (hen : ∀ args w, (callFunc g args).run Tryz.prog w = .ok (.enter g args) w) (hg : Hid (∀ x ∈ l, ∀ w', Below w.heap.size w w' → Calls Tryz.prog g #[.agg #[.int .i32 x.perms, .string x.scheme, .string x.id]] w' fun e w'' => e = .returned (.bool (p x)) ∧ Below w'.heap.size w' w'')) :
    Calls Tryz.prog 210 #[.slice a n c, .func (.func g) #[] #[]] w (IdxOut p l w) := by
  subst hn
  go_enter Tryz.func210, Tryz.ntmps210
  go_wp2
  go_loopw [8] (fun i wr => ∃ k : Nat, k ≤ l.length ∧ i = .int .i64 k ∧ Hid (∀ j (h : j < l.length), j < k → p l[j] = false) ∧ Below w.heap.size w wr) (fun i _ => l.length - (intOf i).toNat)
  case atStart => exact ⟨0, Nat.zero_le _, rfl, fun j _ h => by omega, Below.refl _ _⟩
  case round =>
    obtain ⟨k, hk, rfl, HP, hB⟩ := hrel
    by_cases hlt : k < l.length
    · obtain ⟨b, off, rfl, hb, c0, c1, c2⟩ := acCells (hc.below hB) k hlt
      have hx : l[k] ∈ l := List.getElem_mem hlt
      have hcall := hg.out l[k] hx wr hB
      by_cases hp : p l[k] = true
      · have H : Hid (decide ((0 : Int) ≤ (k : Int)) = l.any p) := by
          show _ = _
          rw [show decide ((0 : Int) ≤ (k : Int)) = true from by simp]
          exact (List.any_eq_true.2 ⟨l[k], hx, hp⟩).symm
        rw [hp] at hcall
        go_wp2_with fail
        refine hcall.mono ?_
        rintro e w' ⟨rfl, hB'⟩
        have hBw : Below w.heap.size w w' := hB.trans (hB'.mono hB.size)
        clear hcall hB hB' c0 c1 c2 hp
        go_wp2
        go_ret
        exact ⟨k, rfl, H, hBw⟩
      · have hpf : p l[k] = false := by simpa using hp
        have HN : Hid (∀ j (h : j < l.length), j < k + 1 → p l[j] = false) := fun j h hj => by
          by_cases e : j = k
          · subst e; exact hpf
          · exact HP.out j h (by omega)
        rw [hpf] at hcall
        go_wp2_with fail
        refine hcall.mono ?_
        rintro e w' ⟨rfl, hB'⟩
        have hBw : Below w.heap.size w w' := hB.trans (hB'.mono hB.size)
        clear hcall hB hB' c0 c1 c2 hp hpf
        go_wp2
        go_roundw
        case rel => exact ⟨k + 1, by omega, by go_num, HN, hBw⟩
        case measure => simp [intOf]; omega
    · have H : Hid (decide ((0 : Int) ≤ -1) = l.any p) := by
        show _ = _
        rw [show decide ((0 : Int) ≤ -1) = false from by decide]
        refine (List.any_eq_false.2 fun x hx => ?_).symm
        obtain ⟨j, hj, rfl⟩ := List.mem_iff_getElem.1 hx
        rw [HP.out j hj (by omega)]; simp
      go_wp2
      go_ret
      exact ⟨-1, rfl, H, hB⟩

theorem contains_any (g : FuncId) (p : Ac → Bool) (a : Option Addr) (n c : Nat) (l : List Ac) (w : World) (hc : Cells w.heap.size w a (acCs l)) (hn : n = l.length) (hm : l.length ≤ 9223372036854775807)
    (hen : ∀ args w, (callFunc g args).run Tryz.prog w = .ok (.enter g args) w) (hg : Hid (∀ x ∈ l, ∀ w', Below w.heap.size w w' → Calls Tryz.prog g #[.agg #[.int .i32 x.perms, .string x.scheme, .string x.id]] w' fun e w'' => e = .returned (.bool (p x)) ∧ Below w'.heap.size w' w'')) :
    Calls Tryz.prog 166 #[.slice a n c, .func (.func g) #[] #[]] w fun e w' => e = .returned (.bool (l.any p)) ∧ Below w.heap.size w w' := by
  subst hn
  have HI := index_any g p a _ c l w hc rfl hm hen hg
  clear hen hg hc
  go_enter Tryz.func166, Tryz.ntmps166
  go_wp2_with fail
  refine HI.mono ?_
  rintro e w' ⟨i, rfl, hi, hB⟩
  have Hi := Lib.hid hi
  clear HI hi
  go_wp2
  go_ret
  exact ⟨by rw [← Hi.out]; rfl, hB⟩

/-- The two tables of the library's that its own look at texts reads. -/
def Tabs (w : World) : Prop := Lib.Utf8Tabs (Tryz.lays196_ren.g 3) (Tryz.lays196_ren.g 4) w

theorem validS_any (s : ByteArray) (w : World) (hs : s.size ≤ 9223372036854775807) (hT : Tabs w) :
    Calls Tryz.prog 169 #[.string s] w fun e w' => e = .returned (.bool (Lib.validD s.data.toList)) ∧ Below w.heap.size w w' := Any.utf8_ValidString Tryz.lays196 s w hs hT

def bigAc (x : Ac) : Bool := decide (256 < x.scheme.size) || decide (256 < x.id.size)
def badAc (x : Ac) : Bool := !Lib.validD x.scheme.data.toList || !Lib.validD x.id.data.toList

theorem big_any (x : Ac) (w : World) (h1 : x.scheme.size ≤ 9223372036854775807) (h2 : x.id.size ≤ 9223372036854775807) :
    Calls Tryz.prog 167 #[.agg #[.int .i32 x.perms, .string x.scheme, .string x.id]] w fun e w' => e = .returned (.bool (bigAc x)) ∧ Below w.heap.size w w' := by
  go_enter Tryz.func167, Tryz.ntmps167
  by_cases h : 256 < (x.scheme.size : Int)
  · have H : Hid (bigAc x = true) := by unfold Hid bigAc; simp; omega
    go_wp2
    go_ret
    exact ⟨by rw [H.out]; rfl, (Below.refl _ _).alloc (Nat.le_refl _) _⟩
  · have H : Hid (bigAc x = decide (256 < (x.id.size : Int))) := by
      unfold Hid bigAc
      have : ¬ 256 < x.scheme.size := by omega
      simp [this]; omega
    have h' : decide (256 < (x.scheme.size : Int)) = false := by simpa using h
    go_wp2
    go_ret
    exact ⟨by rw [H.out]; rfl, (Below.refl _ _).alloc (Nat.le_refl _) _⟩

theorem Tabs.size {w : World} (h : Tabs w) : 2 ≤ w.heap.size := by
  have := block_lt_of_cell (h.2 0 (by omega)).1
  exact this
theorem Tabs.below {B : Nat} {w w' : World} (h : Tabs w) (hb : Below B w w') (hB : 2 ≤ B) : Tabs w' :=
  ⟨fun c hc => (hb.cell (p := ⟨0, c, none⟩) (by show 0 < B; omega)).trans (h.1 c hc),
   fun i hi => ⟨(hb.cell (p := ⟨1, 2 * i, none⟩) (by show 1 < B; omega)).trans (h.2 i hi).1, (hb.cell (p := ⟨1, 2 * i + 1, none⟩) (by show 1 < B; omega)).trans (h.2 i hi).2⟩⟩

theorem bad_any (x : Ac) (w : World) (h1 : x.scheme.size ≤ 9223372036854775807) (h2 : x.id.size ≤ 9223372036854775807) (hT : Tabs w) :
    Calls Tryz.prog 168 #[.agg #[.int .i32 x.perms, .string x.scheme, .string x.id]] w fun e w' => e = .returned (.bool (badAc x)) ∧ Below w.heap.size w w' := by
  have hsz := hT.size
  have hTb : Hid (∀ w', Below w.heap.size w w' → Tabs w') := fun w' hb => hT.below hb hsz
  have hb0 : Below w.heap.size w (w.alloc (.cells #[.int .i32 x.perms, .string x.scheme, .string x.id] 129)) := (Below.refl _ _).alloc (Nat.le_refl _) _
  have hc2 : (w.alloc (.cells #[.int .i32 x.perms, .string x.scheme, .string x.id] 129)).cell? ⟨w.heap.size, 2, none⟩ = some (.string x.id) := by
    rw [World.cell?_alloc_at _ _ _ _ rfl]; rfl
  by_cases h : Lib.validD x.scheme.data.toList = true
  · have H : Hid (badAc x = !Lib.validD x.id.data.toList) := by unfold Hid badAc; simp [h]
    have C1 := fun w hT => validS_any x.scheme w h1 hT
    simp only [h] at C1
    have C1 := Lib.hid C1
    clear h
    go_enter Tryz.func168, Tryz.ntmps168
    go_wp2_with fail
    refine (C1.out _ (hTb.out _ hb0)).mono ?_
    rintro e w1 ⟨rfl, hb1⟩
    have hb2 : Below w.heap.size w w1 := hb0.trans (hb1.mono (by simp))
    have hcc : w1.cell? ⟨w.heap.size, 2, none⟩ = some (.string x.id) := (hb1.cell (p := ⟨w.heap.size, 2, none⟩) (by simp)).trans hc2
    have hT1 := hTb.out _ hb2
    clear hb0 hb1 hc2 hTb
    go_wp2_with fail
    refine (validS_any x.id _ h2 hT1).mono ?_
    rintro e w2 ⟨rfl, hb3⟩
    have hb4 : Below w.heap.size w w2 := hb2.trans (hb3.mono hb2.size)
    clear hb2 hb3 hcc hT1
    go_wp2
    go_ret
    exact ⟨by rw [H.out]; rfl, hb4⟩
  · have H : Hid (badAc x = true) := by unfold Hid badAc; simp [h]
    have h' : Lib.validD x.scheme.data.toList = false := by simpa using h
    have C1 := fun w hT => validS_any x.scheme w h1 hT
    simp only [h'] at C1
    have C1 := Lib.hid C1
    clear h h'
    go_enter Tryz.func168, Tryz.ntmps168
    go_wp2_with fail
    refine (C1.out _ (hTb.out _ hb0)).mono ?_
    rintro e w1 ⟨rfl, hb1⟩
    have hb2 : Below w.heap.size w w1 := hb0.trans (hb1.mono (by simp))
    clear hb0 hb1 hc2 hTb
    go_wp2
    go_ret
    exact ⟨by rw [H.out]; rfl, hb2⟩

/-- A node. -/
structure Nd where
  path : ByteArray
  data : List UInt8
  acl : List Ac
  owner : Int
  czxid : Int
  mzxid : Int
  pzxid : Int
  azxid : Int
  qzxid : Int
  ctime : Int
  mtime : Int
  version : Int
  creates : Int
  aversion : Int
  has : Bool
  count : Int
  bytes : Int

/-- A node's seventeen cells: the two slices apart. -/
def ndC (n : Nd) (d a : Value) : Array Value :=
  #[.string n.path, d, a, .int .i64 n.owner, .int .i64 n.czxid, .int .i64 n.mzxid, .int .i64 n.pzxid, .int .i64 n.azxid, .int .i64 n.qzxid, .int .i64 n.ctime, .int .i64 n.mtime, .int .i32 n.version, .int .i32 n.creates, .int .i32 n.aversion, .bool n.has, .int .i64 n.count, .int .i64 n.bytes]

def badQ (n : Nd) : Bool := (!n.has && (n.count != 0 || n.bytes != 0)) || (n.has && (decide (n.count < -1) || decide (n.bytes < -1)))

/-- May a node be: 0, or the number of what is wrong. -/
def rightN (n : Nd) : Int :=
  if !vpath n.path then 30 else if 1048575 < n.data.length ∨ 16 < n.acl.length ∨ n.acl.any bigAc = true then 3 else if n.acl.any badAc then 1 else if badQ n then 1 else 0

/-- What is known of any node's sizes. -/
structure Fit (n : Nd) : Prop where
  path : n.path.size ≤ 9223372036854775800
  data : n.data.length ≤ 140737488355328
  acl : n.acl.length * 40 ≤ 140737488355328
  texts : ∀ x ∈ n.acl, x.scheme.size ≤ 9223372036854775800 ∧ x.id.size ≤ 9223372036854775800

end Go.Proofs.YthinpbdbhijbgaaGreatDoor
namespace Go.Proofs.YthinpbdbhijbgaaGreatDoor
open Go.RowKit
set_option maxHeartbeats 1000000
set_option maxRecDepth 100000

/-- A block of a node's cells. -/
def Box (w : World) (b : Nat) (cs : Array Value) : Prop := ∀ j, w.cell? ⟨b, j, none⟩ = cs[j]?
theorem Box.alloc (w : World) (cs : Array Value) (e : TypeId) : Box (w.alloc (.cells cs e)) w.heap.size cs := fun j => by rw [World.cell?_alloc_at _ _ _ _ rfl]
theorem Box.below {B b : Nat} {w w' : World} {cs : Array Value} (h : Box w b cs) (hb : Below B w w') (hB : b < B) : Box w' b cs := fun j => (hb.cell (p := ⟨b, j, none⟩) hB).trans (h j)

theorem enters_f {f : FuncId} {fn : Func} {c : Code} (hf : Tryz.prog.funcs[f]? = some fn) (hname : (fn.name == "runtime.NumGoroutine") = false) (hb : fn.body = some c) : ∀ args w, (callFunc f args).run Tryz.prog w = .ok (.enter f args) w := by
  intro args w
  have h1 : fn.name ≠ "runtime.NumGoroutine" := by simpa using hname
  simp [callFunc, hf, h1, hb, mark]

theorem bigs_any (a : Option Addr) (c : Nat) (l : List Ac) (w : World) (hc : Cells w.heap.size w a (acCs l)) (hm : l.length ≤ 9223372036854775807) (ht : ∀ x ∈ l, x.scheme.size ≤ 9223372036854775800 ∧ x.id.size ≤ 9223372036854775800) :
    Calls Tryz.prog 166 #[.slice a l.length c, .func (.func 167) #[] #[]] w fun e w' => e = .returned (.bool (l.any bigAc)) ∧ Below w.heap.size w w' :=
  contains_any 167 bigAc a _ c l w hc rfl hm (enters_f Tryz.func167 (by kernel_rfl) rfl) (fun x hx w' _ => big_any x w' (by have := ht x hx; omega) (by have := ht x hx; omega))

theorem bads_any (a : Option Addr) (c : Nat) (l : List Ac) (w : World) (hc : Cells w.heap.size w a (acCs l)) (hm : l.length ≤ 9223372036854775807) (ht : ∀ x ∈ l, x.scheme.size ≤ 9223372036854775800 ∧ x.id.size ≤ 9223372036854775800) (hT : Tabs w) :
    Calls Tryz.prog 166 #[.slice a l.length c, .func (.func 168) #[] #[]] w fun e w' => e = .returned (.bool (l.any badAc)) ∧ Below w.heap.size w w' :=
  contains_any 168 badAc a _ c l w hc rfl hm (enters_f Tryz.func168 (by kernel_rfl) rfl) (fun x hx w' hb => bad_any x w' (by have := ht x hx; omega) (by have := ht x hx; omega) (hT.below hb hT.size))

def RightOut (r : Int) (w : World) (e : Ending) (w' : World) : Prop := e = .returned (.int .i64 r) ∧ Below w.heap.size w w'

theorem right_any (n : Nd) (da aa : Option Addr) (dc ac : Nat) (w : World) (hf : Fit n) (hT : Tabs w) (hA : Cells w.heap.size w aa (acCs n.acl)) :
    Calls Tryz.prog 123 #[.agg (ndC n (.slice da n.data.length dc) (.slice aa n.acl.length ac))] w (RightOut (rightN n) w) := by
  have hfp := hf.path
  have hfd := hf.data
  have hfa := hf.acl
  have HT := Lib.hid hf.texts
  have hbox := Box.alloc w (ndC n (.slice da n.data.length dc) (.slice aa n.acl.length ac)) 44
  have hb0 : Below w.heap.size w (w.alloc (.cells (ndC n (.slice da n.data.length dc) (.slice aa n.acl.length ac)) 44)) := (Below.refl _ _).alloc (Nat.le_refl _) _
  unfold ndC at hbox hb0 ⊢
  by_cases h1 : vpath n.path = true
  · have C1 := fun w => valid_any n.path w (by omega)
    simp only [h1] at C1
    have C1 := Lib.hid C1
    go_enter Tryz.func123, Tryz.ntmps123
    go_wp2_with fail
    refine (C1.out _).mono ?_
    rintro e w1 ⟨rfl, hb1⟩
    have hx1 := hbox.below hb1 (by simp)
    have hb : Below w.heap.size w w1 := hb0.trans (hb1.mono (by simp))
    clear hbox hb1 hb0
    unfold Box at hx1
    by_cases h2 : 1048575 < (n.data.length : Int)
    · have R : Hid (rightN n = 3) := by unfold Hid rightN; simp [h1]; omega
      clear h1 C1
      go_wp2
      go_ret
      exact ⟨ret_int R.out.symm, hb⟩
    by_cases h3 : 16 < (n.acl.length : Int)
    · have R : Hid (rightN n = 3) := by unfold Hid rightN; simp [h1]; omega
      have h2' : decide (1048575 < (n.data.length : Int)) = false := by simpa using h2
      clear h1 C1
      go_wp2
      go_ret
      exact ⟨ret_int R.out.symm, hb⟩
    have h2' : decide (1048575 < (n.data.length : Int)) = false := by simpa using h2
    have h3' : decide (16 < (n.acl.length : Int)) = false := by simpa using h3
    have hA1 := hA.below hb
    have C2 := bigs_any aa ac n.acl w1 (hA1.mono hb.size) (by omega) HT.out
    by_cases h4 : n.acl.any bigAc = true
    · have R : Hid (rightN n = 3) := by unfold Hid rightN; simp only [h1, h4]; simp
      rw [h4] at C2
      have C2 := Lib.hid C2
      clear h1 h4 C1
      go_wp2_with fail
      refine C2.out.mono ?_
      rintro e w2 ⟨rfl, hb2⟩
      have hbb := hb.trans (hb2.mono hb.size)
      clear C2 hb hb2 hx1
      go_wp2
      go_ret
      exact ⟨ret_int R.out.symm, hbb⟩
    have h4' : n.acl.any bigAc = false := by simpa using h4
    have hT1 := hT.below hb hT.size
    rw [h4'] at C2
    have C2 := Lib.hid C2
    have hr4 : rightN n = if n.acl.any badAc then 1 else if badQ n then 1 else 0 := by
      unfold rightN
      rw [if_neg (by simp [h1]), if_neg (by rw [h4']; simp; omega)]
    have R4 := Lib.hid hr4
    clear h1 h4 h4' C1 hr4
    go_wp2_with fail
    refine C2.out.mono ?_
    rintro e w2 ⟨rfl, hb2⟩
    have hbb := hb.trans (hb2.mono hb.size)
    have hsz1 : w.heap.size < w1.heap.size := by
      have := block_lt_of_cell (show w1.cell? ⟨w.heap.size, 0, none⟩ = _ from hx1 0)
      exact this
    have hx2 := Box.below (b := w.heap.size) hx1 hb2 hsz1
    have hA2 := hA1.below (hb2.mono hb.size)
    have hT2 := hT1.below hb2 hT1.size
    have C3 := bads_any aa ac n.acl w2 (hA2.mono hbb.size) (by omega) HT.out hT2
    have hsz2 : w.heap.size < w2.heap.size := by have := hb2.size; omega
    clear C2 hb hb2 hx1 hA1 hA2 hT1
    unfold Box at hx2
    by_cases h5 : n.acl.any badAc = true
    · rw [h5] at C3
      have C3 := Lib.hid C3
      have R : Hid (rightN n = 1) := by unfold Hid; rw [R4.out, h5]; rfl
      clear h5 R4
      go_wp2_with fail
      refine C3.out.mono ?_
      rintro e w3 ⟨rfl, hb3⟩
      have hb4 := hbb.trans (hb3.mono hbb.size)
      clear C3 hbb hb3 hx2
      go_wp2
      go_ret
      exact ⟨ret_int R.out.symm, hb4⟩
    have h5' : n.acl.any badAc = false := by simpa using h5
    rw [h5'] at C3
    have C3 := Lib.hid C3
    have R : Hid (rightN n = if badQ n then 1 else 0) := by unfold Hid; rw [R4.out, h5']; rfl
    clear h5 h5' R4
    go_wp2_with fail
    refine C3.out.mono ?_
    rintro e w3 ⟨rfl, hb3⟩
    have hb4 := hbb.trans (hb3.mono hbb.size)
    have hx3 := Box.below (b := w.heap.size) hx2 hb3 hsz2
    have hsz3 : w.heap.size < w3.heap.size := by have := hb3.size; omega
    have hfin : ∀ o, Below w.heap.size w (w3.alloc o) := fun o => hb4.alloc (by omega) o
    have HFIN := Lib.hid hfin
    clear C3 hbb hb3 hx2 hfin
    unfold Box at hx3
    have HR : ∀ b : Bool, badQ n = b → rightN n = if b then 1 else 0 := fun b hbq => by rw [R.out, hbq]
    have HR := Lib.hid HR
    cases hh : n.has
    · have hq0 : badQ n = (n.count != 0 || n.bytes != 0) := by unfold badQ; rw [hh]; simp
      rw [hh] at hx3
      by_cases hc0 : n.count = 0
      · by_cases hb0 : n.bytes = 0
        · have R0 := Lib.hid (HR.out false (by rw [hq0, hc0, hb0]; rfl))
          have e1 : (n.count != 0) = false := by simp [hc0]
          have e2 : (n.bytes != 0) = false := by simp [hb0]
          clear hc0 hb0 hq0 hh
          go_wp2
          go_ret
          exact ⟨ret_int R0.out.symm, HFIN.out _⟩
        · have R0 := Lib.hid (HR.out true (by rw [hq0]; simp [hb0]))
          have e1 : (n.count != 0) = false := by simp [hc0]
          have e2 : (n.bytes != 0) = true := by simp [hb0]
          clear hc0 hb0 hq0 hh
          go_wp2
          go_ret
          exact ⟨ret_int R0.out.symm, HFIN.out _⟩
      · have R0 := Lib.hid (HR.out true (by rw [hq0]; simp [hc0]))
        have e1 : (n.count != 0) = true := by simp [hc0]
        clear hc0 hq0 hh
        go_wp2
        go_ret
        exact ⟨ret_int R0.out.symm, HFIN.out _⟩
    · have hq0 : badQ n = (decide (n.count < -1) || decide (n.bytes < -1)) := by unfold badQ; rw [hh]; simp
      rw [hh] at hx3
      by_cases hc0 : n.count < -1
      · have R0 := Lib.hid (HR.out true (by rw [hq0]; simp [hc0]))
        clear hq0 hh
        go_wp2
        go_ret
        exact ⟨ret_int R0.out.symm, HFIN.out _⟩
      · by_cases hb0 : n.bytes < -1
        · have R0 := Lib.hid (HR.out true (by rw [hq0]; simp [hb0]))
          have e1 : decide (n.count < -1) = false := by simpa using hc0
          clear hq0 hh
          go_wp2
          go_ret
          exact ⟨ret_int R0.out.symm, HFIN.out _⟩
        · have R0 := Lib.hid (HR.out false (by rw [hq0]; simp [hc0, hb0]))
          have e1 : decide (n.count < -1) = false := by simpa using hc0
          have e2 : decide (n.bytes < -1) = false := by simpa using hb0
          clear hq0 hh
          go_wp2
          go_ret
          exact ⟨ret_int R0.out.symm, HFIN.out _⟩
  · have C1 := fun w => valid_any n.path w (by omega)
    have h1' : vpath n.path = false := by simpa using h1
    have R : Hid (rightN n = 30) := by unfold Hid rightN; simp [h1']
    simp only [h1'] at C1
    have C1 := Lib.hid C1
    clear h1 h1'
    go_enter Tryz.func123, Tryz.ntmps123
    go_wp2_with fail
    refine (C1.out _).mono ?_
    rintro e w1 ⟨rfl, hb1⟩
    have hb : Below w.heap.size w w1 := hb0.trans (hb1.mono (by simp))
    clear hbox hb1 hb0
    go_wp2
    go_ret
    exact ⟨ret_int R.out.symm, hb⟩
end Go.Proofs.YthinpbdbhijbgaaGreatDoor
namespace Go.Proofs.YthinpbdbhijbgaaGreatDoor
open Go.RowKit
set_option maxHeartbeats 1000000
set_option maxRecDepth 100000

theorem steps_any (b : Nat) (w : World) : Calls Tryz.prog 217 #[.pointer (some ⟨b, 0, none⟩)] w fun e w' =>
    ∃ g1 g2 : Nat, e = .returned (.tuple #[.slice (some ⟨g1, 0, none⟩) 8 8, .slice (some ⟨g2, 0, none⟩) 3 3]) ∧ Below w.heap.size w w' ∧ w.heap.size ≤ g1 ∧ w.heap.size ≤ g2 ∧
      w'.heap[g1]? = some (.cells #[.pointer (some ⟨b, 3, none⟩), .pointer (some ⟨b, 4, none⟩), .pointer (some ⟨b, 5, none⟩), .pointer (some ⟨b, 6, none⟩), .pointer (some ⟨b, 7, none⟩), .pointer (some ⟨b, 8, none⟩), .pointer (some ⟨b, 9, none⟩), .pointer (some ⟨b, 10, none⟩)] 283 (0, 0)) ∧
      w'.heap[g2]? = some (.cells #[.pointer (some ⟨b, 11, none⟩), .pointer (some ⟨b, 12, none⟩), .pointer (some ⟨b, 13, none⟩)] 285 (0, 0)) := by
  go_enter Tryz.func217, Tryz.ntmps217
  go_wp2
  go_region
  all_goals go_wp2
  all_goals go_ret2
  all_goals first | refine ⟨w.heap.size, w.heap.size + 1, rfl, ?_, Nat.le_refl _, by omega, ?_, ?_⟩ | refine ⟨w.heap.size + 1, w.heap.size, rfl, ?_, by omega, Nat.le_refl _, ?_, ?_⟩
  all_goals first | exact (((Below.refl _ _).alloc (Nat.le_refl _) _).alloc (by simp) _).drew | exact heap_alloc2_old w _ _ | exact heap_alloc2_new w _ _
end Go.Proofs.YthinpbdbhijbgaaGreatDoor
namespace Go.Proofs.YthinpbdbhijbgaaGreatDoor
open Go.RowKit
set_option maxHeartbeats 1000000
set_option maxRecDepth 100000

/-- A text's record. -/
def txt (s : ByteArray) : List UInt8 := be s.size 4 ++ s.data.toList
/-- An entry's record. -/
def acB (x : Ac) : List UInt8 := be (x.perms % 4294967296) 4 ++ txt x.scheme ++ txt x.id
def acBs (l : List Ac) : List UInt8 := l.flatMap acB

theorem txt_length (s : ByteArray) : (txt s).length = 4 + s.size := by simp [txt, be_length]
theorem acB_length (x : Ac) : (acB x).length = 12 + x.scheme.size + x.id.size := by simp [acB, be_length, txt_length]; omega

/-- A block that the writer leaves alone, and its cells. -/
def AwayBox (bb : Nat) (w : World) (g : Nat) (cs : Array Value) : Prop := g < w.heap.size ∧ Apart w bb g ∧ Box w g cs
theorem AwayBox.keeps {bb g : Nat} {w w' : World} {cs : Array Value} (h : AwayBox bb w g cs) (hk : Keeps bb w w') : AwayBox bb w' g cs :=
  ⟨Nat.lt_of_lt_of_le h.1 hk.1, (hk.2 g h.1 h.2.1).2, fun j => (World.cell?_of_block (hk.2 g h.1 h.2.1).1).trans (h.2.2 j)⟩
theorem AwayBox.new {B bb : Nat} {w : World} {l : List UInt8} (hw : Wr B w bb l) (cs : Array Value) (e : TypeId) : AwayBox bb (w.alloc (.cells cs e)) w.heap.size cs :=
  ⟨by simp, ⟨by have := hw.size; omega, fun v hv => (Apart.high hw w.heap.size (Nat.le_refl _)).2 v (by rw [← Below.heap_alloc w (.cells cs e) bb hw.size]; exact hv)⟩, Box.alloc w cs e⟩

theorem entry_any (B bb : Nat) (l : List UInt8) (x : Ac) (w : World) (hw : Wr B w bb l) (h1 : x.scheme.size < 2147483648) (h2 : x.id.size < 2147483648) (hlen : l.length + 12 + x.scheme.size + x.id.size ≤ 70368744177664) :
    Calls Tryz.prog 215 #[.pointer (some ⟨bb, 0, none⟩), .agg #[.int .i32 x.perms, .string x.scheme, .string x.id]] w (PutOut B bb (l ++ acB x) w) := by
  have hB := hw.1
  have hsz := hw.size
  have hw0 := hw.alloc (.cells #[.int .i32 x.perms, .string x.scheme, .string x.id] 129)
  have hk0 := Keeps.alloc w hsz (.cells #[.int .i32 x.perms, .string x.scheme, .string x.id] 129)
  have hb0 : Below B w (w.alloc (.cells #[.int .i32 x.perms, .string x.scheme, .string x.id] 129)) := (Below.refl B w).alloc (by omega) _
  have hx0 := AwayBox.new hw #[.int .i32 x.perms, .string x.scheme, .string x.id] 129
  go_enter Tryz.func215, Tryz.ntmps215
  go_wp2_with fail
  refine (int_any B bb l _ _ hw0 (by omega)).mono ?_
  rintro e w1 ⟨rfl, k1, k2, k3⟩
  have hx1 := hx0.keeps k3
  have hq1 := hx1.2.2
  unfold Box at hq1
  go_wp2_with fail
  refine (text_any B bb _ x.scheme w1 k1 h1 (by simp [be_length]; omega)).mono ?_
  rintro e w2 ⟨rfl, m1, m2, m3⟩
  have hx2 := hx1.keeps m3
  have hq2 := hx2.2.2
  unfold Box at hq2
  clear hq1
  go_wp2_with fail
  refine (text_any B bb _ x.id w2 m1 h2 (by simp [be_length]; omega)).mono ?_
  rintro e w3 ⟨rfl, n1, n2, n3⟩
  clear hq2
  go_wp2
  exact bodyPost_end (v := .tuple #[]) (by simp [results, Tryz.results215, go_sem]) rfl ⟨rfl, by simpa [acB, txt, List.append_assoc] using n1, hb0.trans (k2.trans (m2.trans n2)), hk0.trans (k3.trans (m3.trans n3))⟩

theorem acBs_take (l : List Ac) (k : Nat) (h : k < l.length) : acBs (l.take (k + 1)) = acBs (l.take k) ++ acB l[k] := by
  unfold acBs
  rw [List.take_succ_eq_append_getElem h, List.flatMap_append, List.flatMap_cons, List.flatMap_nil, List.append_nil]
theorem acBs_le (l : List Ac) (h : ∀ x ∈ l, x.scheme.size ≤ 256 ∧ x.id.size ≤ 256) : ∀ k, k ≤ l.length → (acBs (l.take k)).length ≤ k * 524
  | 0, _ => by simp [acBs]
  | k + 1, hk => by
    have ih := acBs_le l h k (by omega)
    rw [acBs_take l k (by omega), List.length_append, acB_length]
    have := h l[k] (List.getElem_mem (by omega))
    omega

theorem func_nil (w : World) : (binOp .eql 277 (.func (.func 215) #[] #[]) .nilFunc).run Tryz.prog w = .ok (.bool false) w := by kernel_rfl

theorem list_any (B bb : Nat) (l : List UInt8) (a : Option Addr) (c : Nat) (xs : List Ac) (w : World) (hw : Wr B w bb l) (hc : Cells B w a (acCs xs)) (hn : xs.length ≤ 16) (hx : ∀ x ∈ xs, x.scheme.size ≤ 256 ∧ x.id.size ≤ 256) (hlen : l.length ≤ 70368744000000) :
    Calls Tryz.prog 214 #[.pointer (some ⟨bb, 0, none⟩), .slice a xs.length c, .func (.func 215) #[] #[]] w (PutOut B bb (l ++ be xs.length 4 ++ acBs xs) w) := by
  have HX := Lib.hid hx
  have HLE := Lib.hid (acBs_le xs hx)
  clear hx
  go_enter Tryz.func214, Tryz.ntmps214
  go_wp2_with fail
  refine (count_any B bb l _ w hw (by omega) (by omega)).mono ?_
  rintro e w1 ⟨rfl, k1, k2, k3⟩
  have hfn := func_nil
  have hen := enters_f Tryz.func215 (by kernel_rfl) rfl
  have hc1 := hc.below k2
  clear hc hw
  go_wp2
  go_loopw [16] (fun i wr => ∃ k : Nat, k ≤ xs.length ∧ i = .int .i64 k ∧ Wr B wr bb (l ++ be xs.length 4 ++ acBs (xs.take k)) ∧ Below B w wr ∧ Keeps bb w wr) (fun i _ => xs.length - (intOf i).toNat)
  case atStart => exact ⟨0, Nat.zero_le _, rfl, by simpa [acBs] using k1, k2, k3⟩
  case round =>
    obtain ⟨k, hk, rfl, m1, m2, m3⟩ := hrel
    by_cases hlt : k < xs.length
    · have hB := m1.1
      have hsz := m1.size
      have hcw : Cells B wr a (acCs xs) := fun j u hj => by
        obtain ⟨b, off, h1, h2, h3⟩ := hc1 j u hj
        exact ⟨b, off, h1, h2, ((m2.cell (p := ⟨b, off + j, none⟩) h2).trans (k2.cell (p := ⟨b, off + j, none⟩) h2).symm).trans h3⟩
      obtain ⟨b, off, rfl, hb, c0, c1, c2⟩ := acCells hcw k hlt
      have hx2 := HX.out xs[k] (List.getElem_mem hlt)
      have hle := HLE.out k (by omega)
      have htk := Lib.hid (acBs_take xs k hlt)
      have hw' := m1.alloc (.cells #[.int .i32 xs[k].perms, .string xs[k].scheme, .string xs[k].id] 129)
      have hk' := Keeps.alloc wr hsz (.cells #[.int .i32 xs[k].perms, .string xs[k].scheme, .string xs[k].id] 129)
      have hb' : Below B wr (wr.alloc (.cells #[.int .i32 xs[k].perms, .string xs[k].scheme, .string xs[k].id] 129)) := (Below.refl B wr).alloc (by omega) _
      clear hcw hc1
      go_wp2_with fail
      refine (entry_any B bb _ xs[k] _ hw' (by omega) (by omega) (by simp [be_length]; omega)).mono ?_
      rintro e w' ⟨rfl, p1, p2, p3⟩
      have hBw : Below B w w' := (m2.trans hb').trans p2
      have hKw : Keeps bb w w' := (m3.trans hk').trans p3
      rw [List.append_assoc, ← htk.out] at p1
      clear hb' hk' hw' p2 p3 m1 m2 m3 htk hle hx2 c0 c1 c2
      go_wp2
      go_roundw
      case rel => exact ⟨k + 1, by omega, by go_num, p1, hBw, hKw⟩
      case measure => simp [intOf]; omega
    · obtain rfl : k = xs.length := by omega
      rw [List.take_length] at m1
      clear hc1
      go_wp2
      exact bodyPost_end (v := .tuple #[]) (by simp [results, Tryz.results214, go_sem]) rfl ⟨rfl, by simpa using m1, m2, m3⟩

/-- A node's eight longs and three ints. -/
def longsN (n : Nd) : List Int := [n.owner, n.czxid, n.mzxid, n.pzxid, n.azxid, n.qzxid, n.ctime, n.mtime]
def intsN (n : Nd) : List Int := [n.version, n.creates, n.aversion]
def longsB (l : List Int) : List UInt8 := l.flatMap fun x => be (IntKind.u64.wrap x) 8
def intsB (l : List Int) : List UInt8 := l.flatMap fun x => be (x % 4294967296) 4
/-- A node's record. -/
def encN (n : Nd) : List UInt8 :=
  txt n.path ++ (be n.data.length 4 ++ n.data) ++ (be n.acl.length 4 ++ acBs n.acl) ++ longsB (longsN n) ++ intsB (intsN n) ++ [if n.has then 1 else 0] ++ be (IntKind.u64.wrap n.count) 8 ++ be (IntKind.u64.wrap n.bytes) 8
theorem longsB_length (l : List Int) : (longsB l).length = l.length * 8 := by
  induction l with
  | nil => rfl
  | cons x l ih => simp only [longsB, List.flatMap_cons, List.length_append, be_length, List.length_cons] at *; rw [ih]; omega
theorem intsB_length (l : List Int) : (intsB l).length = l.length * 4 := by
  induction l with
  | nil => rfl
  | cons x l ih => simp only [intsB, List.flatMap_cons, List.length_append, be_length, List.length_cons] at *; rw [ih]; omega
theorem longsB_take (l : List Int) (k : Nat) (h : k < l.length) : longsB (l.take (k + 1)) = longsB (l.take k) ++ be (IntKind.u64.wrap l[k]) 8 := by
  unfold longsB
  rw [List.take_succ_eq_append_getElem h, List.flatMap_append, List.flatMap_cons, List.flatMap_nil, List.append_nil]
theorem intsB_take (l : List Int) (k : Nat) (h : k < l.length) : intsB (l.take (k + 1)) = intsB (l.take k) ++ be (l[k] % 4294967296) 4 := by
  unfold intsB
  rw [List.take_succ_eq_append_getElem h, List.flatMap_append, List.flatMap_cons, List.flatMap_nil, List.append_nil]
end Go.Proofs.YthinpbdbhijbgaaGreatDoor
namespace Go.Proofs.YthinpbdbhijbgaaGreatDoor
open Go.RowKit
set_option maxHeartbeats 2000000
set_option maxRecDepth 100000

/-- What a node's record answers. -/
def EncOut (n : Nd) (w : World) (e : Ending) (w' : World) : Prop :=
  Below w.heap.size w w' ∧ ((rightN n ≠ 0 ∧ e = .returned (.tuple #[.slice none 0 0, .int .i64 (rightN n)])) ∨
    (rightN n = 0 ∧ ∃ a c, e = .returned (.tuple #[.slice a (encN n).length c, .int .i64 0]) ∧ Cells w'.heap.size w' a ((encN n).map u8v)))

theorem right_sizes (n : Nd) (h : rightN n = 0) : n.path.size ≤ 4096 ∧ n.data.length ≤ 1048575 ∧ n.acl.length ≤ 16 ∧ ∀ x ∈ n.acl, x.scheme.size ≤ 256 ∧ x.id.size ≤ 256 := by
  unfold rightN at h
  by_cases h1 : vpath n.path = true
  · rw [if_neg (by simp [h1])] at h
    by_cases h2 : 1048575 < n.data.length ∨ 16 < n.acl.length ∨ n.acl.any bigAc = true
    · rw [if_pos h2] at h; omega
    · have hb : n.acl.any bigAc = false := by
        cases hh : n.acl.any bigAc
        · rfl
        · exact absurd (.inr (.inr hh)) h2
      refine ⟨?_, ?_, ?_, fun x hx => ?_⟩
      · simp [vpath] at h1; omega
      · exact Nat.le_of_not_lt fun h => h2 (.inl h)
      · exact Nat.le_of_not_lt fun h => h2 (.inr (.inl h))
      · have := List.any_eq_false.1 hb x hx
        simp [bigAc] at this; omega
  · rw [if_pos (by simp [h1])] at h; omega

theorem Wr.empty (w : World) : Wr w.heap.size (w.alloc (.cells #[.slice none 0 0] 272)) w.heap.size [] :=
  ⟨Nat.le_refl _, _, heap_alloc_new w _, World.ownsRow_nil _ _ _ _⟩
theorem Keeps.grow {B bb : Nat} {w w' : World} {l : List UInt8} (hw : Wr B w bb l) (hb : Below w.heap.size w w') : Keeps bb w w' :=
  ⟨hb.size, fun g hg ha => ⟨hb.block g hg, ha.1, fun v hv => ha.2 v (by rw [← hb.block bb hw.size]; exact hv)⟩⟩
theorem AwayBox.fresh {B bb g : Nat} {w w' : World} {l : List UInt8} {cs : Array Value} {e : TypeId} (hw : Wr B w bb l) (hb : Below w.heap.size w w') (hg : w.heap.size ≤ g) (hh : w'.heap[g]? = some (.cells cs e (0, 0))) : AwayBox bb w' g cs :=
  ⟨(Array.getElem?_eq_some_iff.1 hh).1, ⟨by have := hw.size; omega, fun v hv => (Apart.high hw g hg).2 v (by rw [← hb.block bb hw.size]; exact hv)⟩, fun j => cell_of_row w' g j cs e (0, 0) hh⟩

theorem longs_get (n : Nd) (k : Nat) (hk : k < 8) : ∃ x : Int, (longsN n)[k]? = some x ∧ ∀ d a, (ndC n d a)[3 + k]? = some (.int .i64 x) := by
  rcases (by omega : k = 0 ∨ k = 1 ∨ k = 2 ∨ k = 3 ∨ k = 4 ∨ k = 5 ∨ k = 6 ∨ k = 7) with rfl | rfl | rfl | rfl | rfl | rfl | rfl | rfl <;> exact ⟨_, rfl, fun _ _ => rfl⟩
theorem ints_get (n : Nd) (k : Nat) (hk : k < 3) : ∃ x : Int, (intsN n)[k]? = some x ∧ ∀ d a, (ndC n d a)[11 + k]? = some (.int .i32 x) := by
  rcases (by omega : k = 0 ∨ k = 1 ∨ k = 2) with rfl | rfl | rfl <;> exact ⟨_, rfl, fun _ _ => rfl⟩
def ptrs8 (b : Nat) : Array Value := #[.pointer (some ⟨b, 3, none⟩), .pointer (some ⟨b, 4, none⟩), .pointer (some ⟨b, 5, none⟩), .pointer (some ⟨b, 6, none⟩), .pointer (some ⟨b, 7, none⟩), .pointer (some ⟨b, 8, none⟩), .pointer (some ⟨b, 9, none⟩), .pointer (some ⟨b, 10, none⟩)]
def ptrs3 (b : Nat) : Array Value := #[.pointer (some ⟨b, 11, none⟩), .pointer (some ⟨b, 12, none⟩), .pointer (some ⟨b, 13, none⟩)]
theorem ptrs8_get (b k : Nat) (hk : k < 8) : (ptrs8 b)[k]? = some (.pointer (some ⟨b, 3 + k, none⟩)) := by
  rcases (by omega : k = 0 ∨ k = 1 ∨ k = 2 ∨ k = 3 ∨ k = 4 ∨ k = 5 ∨ k = 6 ∨ k = 7) with rfl | rfl | rfl | rfl | rfl | rfl | rfl | rfl <;> rfl
theorem ptrs3_get (b k : Nat) (hk : k < 3) : (ptrs3 b)[k]? = some (.pointer (some ⟨b, 11 + k, none⟩)) := by
  rcases (by omega : k = 0 ∨ k = 1 ∨ k = 2) with rfl | rfl | rfl <;> rfl

theorem sizeNd : (Tryz.prog.info? 44).map (·.size) = some 17 := by kernel_rfl

theorem encode_no (n : Nd) (da aa : Option Addr) (dc ac : Nat) (w : World) (hf : Fit n) (hT : Tabs w) (hA : Cells w.heap.size w aa (acCs n.acl)) (hr : rightN n ≠ 0) :
    Calls Tryz.prog 172 #[.agg (ndC n (.slice da n.data.length dc) (.slice aa n.acl.length ac))] w (EncOut n w) := by
  have hb0 : Below w.heap.size w (w.alloc (.cells (ndC n (.slice da n.data.length dc) (.slice aa n.acl.length ac)) 44)) := (Below.refl _ _).alloc (Nat.le_refl _) _
  have hA0 := hA.below hb0
  have hT0 := hT.below hb0 hT.size
  have CR := right_any n da aa dc ac (w.alloc (.cells (ndC n (.slice da n.data.length dc) (.slice aa n.acl.length ac)) 44)) hf hT0 (hA0.mono (by simp))
  unfold ndC at hb0 CR ⊢
  have hne : (rightN n != 0) = true := by simpa using hr
  have HR := Lib.hid hr
  have hh := heap_alloc_new w (.cells (ndC n (.slice da n.data.length dc) (.slice aa n.acl.length ac)) 44)
  unfold ndC at hh
  have HH := Lib.hid hh
  clear hA hA0 hT0 hr hh
  go_enter Tryz.func172, Tryz.ntmps172
  go_wp2_with (refine wpList_load_row rfl 44 (.tmp 1) rfl w.heap.size rfl 44 _ (0, 0) _ HH.out Tryz.underlying44 rfl sizeNd ?_)
  refine CR.mono ?_
  rintro e w1 ⟨rfl, hb1⟩
  have hb : Below w.heap.size w w1 := hb0.trans (hb1.mono (by simp))
  clear CR hb0 hb1
  go_wp2
  go_ret2
  exact ⟨hb, .inl ⟨HR.out, rfl⟩⟩

end Go.Proofs.YthinpbdbhijbgaaGreatDoor
namespace Go.Proofs.YthinpbdbhijbgaaGreatDoor
open Go.RowKit

/-- A node's value: its cells, the two slices' cells below a block number. -/
def NdV (B : Nat) (w : World) (v : Value) (n : Nd) : Prop :=
  ∃ da dc aa ac, v = .agg (ndC n (.slice da n.data.length dc) (.slice aa n.acl.length ac)) ∧ Cells B w da (n.data.map u8v) ∧ Cells B w aa (acCs n.acl)
theorem cells_node (n : Nd) (d a : Option Addr) (k k' c c' : Nat) : (ndC n (.slice d k c) (.slice a k' c')).all (·.oneCell') = true := by
  simp [ndC, Value.oneCell']
/-- Bytes as a text. -/
theorem conv_string {B : Nat} {w : World} {a : Option Addr} {xs : List UInt8} (c : Nat) (h : Cells B w a (xs.map u8v)) : (convert 41 9 (.slice a xs.length c)).run Tryz.prog w = .ok (.string ⟨xs.toArray⟩) w := by
  cases a with
  | none =>
    have hx : xs = [] := by
      have := h.none
      simpa using this
    subst hx
    exact run_convert_bytes_nil w 41 5 Tryz.underlying41 Tryz.underlying5 0 c _ Tryz.underlying9
  | some p =>
    refine run_convert_bytes_back w _ _ 5 p c xs Tryz.underlying41 Tryz.underlying5 Tryz.underlying9 (fun j hj => ?_)
    obtain ⟨b, off, ha, _, hc⟩ := h j (u8v xs[j]) (by simp [List.getElem?_eq_getElem hj])
    obtain rfl : p = ⟨b, off, none⟩ := Option.some.inj ha
    rw [show (⟨b, off, none⟩ : Addr).add j = ⟨b, off + j, none⟩ from by unfold Addr.add; split <;> simp_all]
    exact hc
end Go.Proofs.YthinpbdbhijbgaaGreatDoor
namespace Go.Proofs.YthinpbdbhijbgaaGreatDoor
open Go.ChangeShapes Go.WideShapes Go.ChangeAt Go.RowKit Go.Deep
set_option maxHeartbeats 2000000
set_option maxRecDepth 100000

theorem Tryz.cells_u8 : Tryz.prog.cellsOf 5 = 1 := by kernel_rfl
theorem Tryz.bytes_u8 : Tryz.prog.bytesOf 5 = 1 := by kernel_rfl
theorem Tryz.cells_acl : Tryz.prog.cellsOf 129 = 3 := by kernel_rfl
theorem Tryz.bytes_acl : Tryz.prog.bytesOf 129 = 40 := by kernel_rfl
theorem Tryz.cells_id : Tryz.prog.cellsOf 127 = 2 := by kernel_rfl
theorem Tryz.cells_str : Tryz.prog.cellsOf 9 = 1 := by kernel_rfl
theorem Tryz.cells_node : Tryz.prog.cellsOf 44 = 17 := by kernel_rfl
theorem Tryz.cells_quota : Tryz.prog.cellsOf 23 = 3 := by kernel_rfl
theorem Tryz.cells_i64 : Tryz.prog.cellsOf 2 = 1 := by kernel_rfl
theorem Tryz.cells_i32 : Tryz.prog.cellsOf 21 = 1 := by kernel_rfl
theorem Tryz.cells_bool : Tryz.prog.cellsOf 4 = 1 := by kernel_rfl
theorem Tryz.cells_u8s : Tryz.prog.cellsOf 41 = 1 := by kernel_rfl
theorem Tryz.cells_acls : Tryz.prog.cellsOf 42 = 1 := by kernel_rfl

/-- Every weight of a datum is within reach. -/
def Light {H : Type} (t : TypeId) (d : DataW H) : Prop := ∀ n ∈ d.weights Tryz.prog t, n ≤ 140737488355328

theorem light_each {H : Type} {ts : List TypeId} {ds : List (DataW H)} (h : (DataW.weightsEach Tryz.prog ts ds).all (· ≤ reachBytes) = true) {j : Nat} {t : TypeId} {d : DataW H} (ht : ts[j]? = some t) (hd : ds[j]? = some d) : Light t d := fun n hn => by
  have := List.all_eq_true.1 h _ (DataW.weights_mem_each ht hd n hn)
  have h2 := reachBytes_lt
  have h3 : n ≤ reachBytes := by simpa using this
  omega

theorem light_agg {H : Type} {t : TypeId} {fs : Array Field} {ds : List (DataW H)} (ht : Tryz.prog.underlying t = some (.struct fs)) (h : Light t (.agg ds)) {j : Nat} {u : TypeId} {d : DataW H} (hj : (fs.toList.map (·.type))[j]? = some u) (hd : ds[j]? = some d) : Light u d := fun n hn => by
  refine h n ?_
  simp only [DataW.weights, ht]
  exact DataW.weights_mem_each hj hd n hn

theorem weightsAll_mem {H : Type} {P : Program} {e : TypeId} : ∀ {ds : List (DataW H)} {d : DataW H}, d ∈ ds → ∀ n ∈ d.weights P e, n ∈ DataW.weightsAll P e ds
  | d0 :: ds, d, hd, n, hn => by
    simp only [DataW.weightsAll, List.mem_append]
    rcases List.mem_cons.1 hd with rfl | h
    · exact Or.inl hn
    · exact Or.inr (weightsAll_mem h n hn)

theorem light_elem {H : Type} {t e : TypeId} {ds sp : List (DataW H)} (ht : Tryz.prog.underlying t = some (.slice e)) (h : Light t (.slice ds sp)) {d : DataW H} (hd : d ∈ ds) : Light e d := fun n hn => by
  refine h n ?_
  simp only [DataW.weights, ht, List.mem_cons, List.mem_append]
  exact Or.inr (Or.inl (weightsAll_mem hd n hn))

theorem light_len {H : Type} {t e : TypeId} {ds sp : List (DataW H)} (ht : Tryz.prog.underlying t = some (.slice e)) (h : Light t (.slice ds sp)) : (ds.length + sp.length) * Tryz.prog.bytesOf e ≤ 140737488355328 := by
  refine h _ ?_
  simp only [DataW.weights, ht]
  exact List.mem_cons_self

theorem light_str {H : Type} {t : TypeId} {s : ByteArray} (h : Light (H := H) t (.lit (.string s.data.toList))) : s.size ≤ 140737488355328 := by
  have := h s.data.toList.length (by simp [DataW.weights])
  rwa [← Lib.size_eq] at this

section
variable {H : Type} {enc : TypeId × Value → H} {w : World} {fuel : Nat}

/-- A slice of bytes, opened. -/
theorem open_u8s {v : Value} {x : DataW H × List MemPlace} (h : DataW.trod enc Tryz.prog w 0 (fun _ => true) true fuel 41 [v] = some x) (hz : Light 41 x.1) :
    ∃ (l : List UInt8) (a : Option Addr) (cap : Nat), v = .slice a l.length cap ∧ l.length ≤ 140737488355328 ∧ Cells w.heap.size w a (l.map u8v) := by
  rcases open_ints Tryz.underlying41 Tryz.underlying5 Tryz.cells_u8 h with ⟨hcs, rfl⟩ | ⟨a, len, cap, zs, hcs, _, hl, hm, hlen, rfl, hcell, hwf⟩
  · simp only [List.cons.injEq, and_true] at hcs
    subst hcs
    exact ⟨[], none, 0, rfl, by simp, Cells.nil _ _ _⟩
  · simp only [List.cons.injEq, and_true] at hcs
    subst hcs
    simp only [if_true] at hlen
    have hw := light_len Tryz.underlying41 hz
    rw [Tryz.bytes_u8] at hw
    simp only [lits, List.length_map, List.length_take, List.length_drop] at hw
    refine ⟨(zs.take len).map fun z => UInt8.ofNat z.toNat, some a, cap, ?_, ?_, ?_⟩
    · simp only [List.length_map, List.length_take]
      rw [Nat.min_eq_left (by omega)]
    · simp only [List.length_map, List.length_take]; omega
    · intro j u hj
      simp only [List.map_map, List.getElem?_map, List.getElem?_take] at hj
      split at hj
      · rename_i hjl
        have hjz : j < zs.length := by omega
        rw [List.getElem?_eq_getElem hjz] at hj
        simp only [Option.map_some, Option.some.injEq, Function.comp] at hj
        have hc := hcell j hjz
        have hwz := hwf zs[j] (List.getElem_mem _)
        have hc0 := hcell 0 (by omega)
        have hsp := World.cell?_spot hc0
        have hlt := World.block_lt_of_cell? _ _ hc0
        obtain ⟨b, off, sp⟩ := a
        obtain rfl : sp = none := by simpa [Addr.add] using hsp
        refine ⟨b, off, rfl, by simpa [Addr.add] using hlt, ?_⟩
        rw [← add_plain, hc, ← hj]
        rw [List.getD_eq_getElem?_getD, List.getElem?_eq_getElem hjz]
        have h0 : 0 ≤ zs[j] ∧ zs[j] ≤ 255 := by
          have e1 : IntKind.u8.min = 0 := rfl
          have e2 : IntKind.u8.max = 255 := rfl
          simpa [Lit.wf, e1, e2] using hwz
        have e3 : (((UInt8.ofNat zs[j].toNat).toNat : Nat) : Int) = zs[j] := by
          simp only [UInt8.toNat_ofNat']
          omega
        simp only [Option.getD_some, u8v, e3]
      · simp at hj

/-- One right, opened. -/
theorem open_ac {n : Nat} {cs : List Value} {y : DataW H × List MemPlace} (h : DataW.trod enc Tryz.prog w 0 (fun _ => true) true n 129 cs = some y) (hz : Light 129 y.1) :
    ∃ x : Ac, cs = acC x ∧ x.scheme.size ≤ 140737488355328 ∧ x.id.size ≤ 140737488355328 := by
  obtain ⟨y0, y1, m, rfl, hl, h0, h1⟩ := trod_struct2 Tryz.underlying129 h
  rw [Tryz.cells_acl] at hl
  match cs, hl with
  | [c0, c1, c2], _ =>
    rw [Tryz.cells_i32] at h0
    rw [Tryz.cells_id] at h1
    simp only [List.drop_succ_cons, List.drop_zero, List.take_succ_cons, List.take_zero] at h0 h1
    obtain ⟨z0, z1, m1, rfl, _, g0, g1⟩ := trod_struct2 Tryz.underlying127 h1
    rw [Tryz.cells_str] at g0 g1
    simp only [List.drop_succ_cons, List.drop_zero, List.take_succ_cons, List.take_zero] at g0 g1
    obtain ⟨p, e0, rfl, wp⟩ := DataW.trod_int Tryz.underlying21 h0
    obtain ⟨s0, e1, rfl, _⟩ := DataW.trod_string Tryz.underlying9 g0
    obtain ⟨s1, e2, rfl, _⟩ := DataW.trod_string Tryz.underlying9 g1
    simp only [List.cons.injEq, and_true] at e0 e1 e2
    subst e0; subst e1; subst e2
    have q1 : Light 127 (.agg [DataW.lit (.string s0.data.toList), .lit (.string s1.data.toList)] : DataW H) := light_agg Tryz.underlying129 hz (j := 1) rfl rfl
    exact ⟨⟨p, s0, s1⟩, rfl, light_str (light_agg Tryz.underlying127 q1 (j := 0) rfl rfl), light_str (light_agg Tryz.underlying127 q1 (j := 1) rfl rfl)⟩

instance : Inhabited Ac := ⟨⟨0, ⟨#[]⟩, ⟨#[]⟩⟩⟩

theorem acCs_at : ∀ (l : List Ac) (j : Nat) (u : Value), (acCs l)[j]? = some u → ∃ i x, l[i]? = some x ∧ i * 3 ≤ j ∧ (acC x)[j - i * 3]? = some u
  | [], j, u, h => by simp [acCs] at h
  | x :: l, j, u, h => by
    rw [show acCs (x :: l) = acC x ++ acCs l from rfl] at h
    by_cases hj : j < 3
    · rw [List.getElem?_append_left (show j < (acC x).length from hj)] at h
      exact ⟨0, x, rfl, by omega, by simpa using h⟩
    · rw [List.getElem?_append_right (show (acC x).length ≤ j by simp [acC]; omega)] at h
      obtain ⟨i, y, h1, h2, h3⟩ := acCs_at l _ u h
      rw [show (acC x).length = 3 from rfl] at h2 h3
      refine ⟨i + 1, y, by simpa using h1, by omega, ?_⟩
      rw [show j - (i + 1) * 3 = j - 3 - i * 3 by omega]
      exact h3

/-- A slice of rights, opened. -/
theorem open_acls {v : Value} {x : DataW H × List MemPlace} (h : DataW.trod enc Tryz.prog w 0 (fun _ => true) true fuel 42 [v] = some x) (hz : Light 42 x.1) :
    ∃ (l : List Ac) (a : Option Addr) (cap : Nat), v = .slice a l.length cap ∧ l.length * 40 ≤ 140737488355328 ∧ (∀ x ∈ l, x.scheme.size ≤ 140737488355328 ∧ x.id.size ≤ 140737488355328) ∧ Cells w.heap.size w a (acCs l) := by
  rcases open_slice Tryz.underlying42 h with ⟨hcs, rfl⟩ | ⟨a, len, cap, m, n, D, Pl, hcs, _, hl, hm, hmm, rfl, hx⟩
  · simp only [List.cons.injEq, and_true] at hcs
    subst hcs
    exact ⟨[], none, 0, rfl, by simp, by simp, Cells.nil _ _ _⟩
  · simp only [List.cons.injEq, and_true] at hcs
    subst hcs
    simp only [if_true] at hmm
    subst hmm
    have hw := light_len Tryz.underlying42 hz
    rw [Tryz.bytes_acl] at hw
    simp only [List.length_map, List.length_range] at hw
    obtain ⟨X, hX⟩ := choose_lt (n := len) (p := fun i (x : Ac) => (∀ r u, (acC x)[r]? = some u → w.cell? ((a.add (i * 3)).add r) = some u) ∧ x.scheme.size ≤ 140737488355328 ∧ x.id.size ≤ 140737488355328) fun i hi => by
      obtain ⟨cs', h1, h2⟩ := hx i (by omega)
      obtain ⟨x, rfl, z1, z2⟩ := open_ac h2 (light_elem Tryz.underlying42 hz (List.mem_map.2 ⟨i, List.mem_range.2 hi, rfl⟩))
      rw [Tryz.cells_acl] at h1
      obtain ⟨_, _, h3⟩ := World.cells?_some h1
      refine ⟨x, fun r u hr => ?_, z1, z2⟩
      rw [h3 r (by have := (List.getElem?_eq_some_iff.1 hr).1; simpa [acC] using this)]
      exact hr
    refine ⟨(List.range len).map X, some a, m, by simp, by simp; omega, fun x hx' => ?_, fun j u hj => ?_⟩
    · obtain ⟨i, hi, rfl⟩ := List.mem_map.1 hx'
      exact (hX i (List.mem_range.1 hi)).2
    · obtain ⟨i, x, h1, h2, h3⟩ := acCs_at _ _ _ hj
      simp only [List.getElem?_map] at h1
      by_cases hi : i < len
      · rw [List.getElem?_range hi] at h1
        simp only [Option.map_some, Option.some.injEq] at h1
        subst h1
        have hc0 := (hX 0 (by omega)).1 0 _ rfl
        have hsp := World.cell?_spot hc0
        have hlt := World.block_lt_of_cell? _ _ hc0
        obtain ⟨b, off, sp⟩ := a
        obtain rfl : sp = none := by simpa [Addr.add] using hsp
        refine ⟨b, off, rfl, by simpa [Addr.add] using hlt, ?_⟩
        have := (hX i hi).1 _ u h3
        rw [add_plain, add_plain] at this
        rw [← this]
        congr 2
        omega
      · rw [List.getElem?_eq_none (by simp; omega)] at h1
        simp at h1

/-- A node, opened. -/
theorem open_node {cs : List Value} {x : DataW H × List MemPlace} (h : DataW.trod enc Tryz.prog w 0 (fun _ => true) true fuel 44 cs = some x) (hz : Light 44 x.1) :
    ∃ (n : Nd) (da aa : Option Addr) (dc ac : Nat), cs = (ndC n (.slice da n.data.length dc) (.slice aa n.acl.length ac)).toList ∧ Fit n ∧ Cells w.heap.size w da (n.data.map u8v) ∧ Cells w.heap.size w aa (acCs n.acl) := by
  obtain ⟨xs, m, _, rfl, hl, hn, hf⟩ := DataW.trod_struct Tryz.underlying44 h
  rw [Tryz.cells_node] at hl
  match cs, hl with
  | [c0, c1, c2, c3, c4, c5, c6, c7, c8, c9, c10, c11, c12, c13, c14, c15, c16], _ =>
  match xs, hn with
  | [x0, x1, x2, x3, x4, x5, x6, x7, x8, x9, x10, x11, x12, x13, x14], _ =>
    have f0 := hf 0 _ rfl
    have f1 := hf 1 _ rfl
    have f2 := hf 2 _ rfl
    have f3 := hf 3 _ rfl
    have f4 := hf 4 _ rfl
    have f5 := hf 5 _ rfl
    have f6 := hf 6 _ rfl
    have f7 := hf 7 _ rfl
    have f8 := hf 8 _ rfl
    have f9 := hf 9 _ rfl
    have f10 := hf 10 _ rfl
    have f11 := hf 11 _ rfl
    have f12 := hf 12 _ rfl
    have f13 := hf 13 _ rfl
    have f14 := hf 14 _ rfl
    clear hf h
    simp [Tryz.cells_str, Tryz.cells_u8s, Tryz.cells_acls, Tryz.cells_i64, Tryz.cells_i32, Tryz.cells_quota] at f0 f1 f2 f3 f4 f5 f6 f7 f8 f9 f10 f11 f12 f13 f14
    obtain ⟨s, e0, rfl, _⟩ := DataW.trod_string Tryz.underlying9 f0
    obtain ⟨d, da, dc, rfl, hd1, hd2⟩ := open_u8s f1 (light_agg Tryz.underlying44 hz (j := 1) rfl rfl)
    obtain ⟨l, aa, ac, rfl, ha1, ha2, ha3⟩ := open_acls f2 (light_agg Tryz.underlying44 hz (j := 2) rfl rfl)
    obtain ⟨z3, e3, _⟩ := DataW.trod_int Tryz.underlying2 f3
    obtain ⟨z4, e4, _⟩ := DataW.trod_int Tryz.underlying2 f4
    obtain ⟨z5, e5, _⟩ := DataW.trod_int Tryz.underlying2 f5
    obtain ⟨z6, e6, _⟩ := DataW.trod_int Tryz.underlying2 f6
    obtain ⟨z7, e7, _⟩ := DataW.trod_int Tryz.underlying2 f7
    obtain ⟨z8, e8, _⟩ := DataW.trod_int Tryz.underlying2 f8
    obtain ⟨z9, e9, _⟩ := DataW.trod_int Tryz.underlying2 f9
    obtain ⟨z10, e10, _⟩ := DataW.trod_int Tryz.underlying2 f10
    obtain ⟨z11, e11, _⟩ := DataW.trod_int Tryz.underlying21 f11
    obtain ⟨z12, e12, _⟩ := DataW.trod_int Tryz.underlying21 f12
    obtain ⟨z13, e13, _⟩ := DataW.trod_int Tryz.underlying21 f13
    obtain ⟨q0, q1, q2, m2, _, _, g0, g1, g2⟩ := trod_struct3 Tryz.underlying23 f14
    simp only [Tryz.cells_bool, Tryz.cells_i64, List.drop_succ_cons, List.drop_zero, List.take_succ_cons, List.take_zero] at g0 g1 g2
    obtain ⟨z14, e14, _⟩ := DataW.trod_bool Tryz.underlying4 g0
    obtain ⟨z15, e15, _⟩ := DataW.trod_int Tryz.underlying2 g1
    obtain ⟨z16, e16, _⟩ := DataW.trod_int Tryz.underlying2 g2
    simp only [List.cons.injEq, and_true] at e0 e3 e4 e5 e6 e7 e8 e9 e10 e11 e12 e13 e14 e15 e16
    have hs := light_str (light_agg Tryz.underlying44 hz (j := 0) rfl rfl)
    subst e0 e3 e4 e5 e6 e7 e8 e9 e10 e11 e12 e13 e14 e15 e16
    exact ⟨⟨s, d, l, z3, z4, z5, z6, z7, z8, z9, z10, z11, z12, z13, z14, z15, z16⟩, da, aa, dc, ac, rfl,
      ⟨by simp only; omega, hd1, ha1, fun x hx => ⟨by have := (ha2 x hx).1; omega, by have := (ha2 x hx).2; omega⟩⟩, hd2, ha3⟩

end
end Go.Proofs.YthinpbdbhijbgaaGreatDoor
namespace Go.Proofs.YthinpbdbhijbgaaGreatDoor
open Go.ChangeShapes Go.WideShapes Go.ChangeAt Go.RowKit Go.Lib
set_option maxHeartbeats 2000000
set_option maxRecDepth 100000

theorem Tryz.own : ownKnob Tryz.prog.godebug = none := by kernel_rfl
theorem Tryz.laidOut : laidOutB Tryz.prog = true := by kernel_rfl

theorem utf8First_eq : Pinned.utf8First = firstData := by kernel_rfl

/-- What the rows list, as their own constants. -/
def laidU : List (String × DataW Unit) := [("unicode/utf8.acceptRanges", Rows.laid_unicode_utf8_acceptRanges), ("unicode/utf8.first", Rows.laid_unicode_utf8_first)]

/-- The two tables of the decoder, off what the row lists (by the laws of Derived/Lib/LaidU8.lean, at this program's numbers). -/
theorem tabs_of_reads {w : World} (h3 : VarReads Tryz.prog w "unicode/utf8.first" firstData) (h4 : VarReads Tryz.prog w "unicode/utf8.acceptRanges" acceptData) : Tabs w := by
  have X : U8Extra Tryz.prog Tryz.lays196_ren := ⟨by kernel_rfl, by kernel_rfl, by kernel_rfl, by kernel_rfl, by kernel_rfl, by kernel_rfl, by kernel_rfl⟩
  have L := Tryz.lays196
  unfold Tabs
  constructor
  · intro c hc
    obtain ⟨g, t, cs, fuel, p, hg, hty, hvar, hd⟩ := h3
    obtain rfl := Option.some.inj (X.n3.symm.trans hg)
    obtain rfl := Option.some.inj (X.y3.symm.trans hty)
    rw [World.var?_cell hg hvar c, ← Array.getElem?_toList, cells_of_tab L.t119 L.t5 X.c5 X.c119 hd]
    simp [firstTab, hc]
  · intro i hi
    obtain ⟨g, t, cs, fuel, p, hg, hty, hvar, hd⟩ := h4
    obtain rfl := Option.some.inj (X.n4.symm.trans hg)
    obtain rfl := Option.some.inj (X.y4.symm.trans hty)
    obtain ⟨_, d, q, hdi, he⟩ := array_elem L.t139 hd i hi
    simp only [List.getElem?_map, List.getElem?_range hi, Option.map_some, Option.some.injEq] at hdi
    subst hdi
    rw [X.c138] at he
    have hcs := ints_of_struct L.t138 (fun j f hj => by
      rcases j with _ | _ | j
      · simp at hj; subst hj; exact ⟨L.t5, rfl, X.c5⟩
      · simp at hj; subst hj; exact ⟨L.t5, rfl, X.c5⟩
      · simp at hj) (by rw [X.c138]; rfl) he
    have e0 := congrArg (·[0]?) hcs
    have e1 := congrArg (·[1]?) hcs
    simp only [List.getElem?_take, List.getElem?_drop] at e0 e1
    rw [World.var?_cell hg hvar (2 * i), World.var?_cell hg hvar (2 * i + 1), ← Array.getElem?_toList, ← Array.getElem?_toList]
    exact ⟨by simpa [Nat.mul_comm] using e0, by simpa [Nat.mul_comm] using e1⟩

theorem tabs_of_laid {W : World} (h : laidMetH Tryz.prog laidU W) : Tabs W := by
  rw [MakeChecks.laidMetH_plain _ _ _ (by kernel_rfl)] at h
  exact tabs_of_reads (utf8First_eq ▸ Lib.laidMet.reads h (.tail _ (.head _))) (Lib.laidMet.reads h (.head _))

end Go.Proofs.YthinpbdbhijbgaaGreatDoor
namespace Go.Proofs.YthinpbdbhijbgaaGreatDoor
open Go.RowKit Go.Maps
open Go.ChangeMaps (notKey putKey delKey)
open Go.WideElems (Fit rd rg pl rd_key rd_val rg_of)

section lists
variable {α β : Type}
abbrev Key := List UInt8

def mget (m : List (Key × α)) (k : Key) : Option α := (m.find? fun x => x.1 == k).map (·.2)
def mins (x : Key × α) : List (Key × α) → List (Key × α)
  | [] => [x]
  | y :: r => if bytesBefore x.1 y.1 then x :: y :: r else y :: mins x r
def mdel (m : List (Key × α)) (k : Key) : List (Key × α) := m.filter fun x => !(x.1 == k)
def mput (m : List (Key × α)) (k : Key) (v : α) : List (Key × α) := mins (k, v) (mdel m k)
def MSorted (m : List (Key × α)) : Prop := m.Pairwise fun x y => bytesBefore x.1 y.1 = true

theorem mem_mins {x y : Key × α} : ∀ {m : List (Key × α)}, y ∈ mins x m ↔ y = x ∨ y ∈ m
  | [] => by simp [mins]
  | z :: r => by
    unfold mins
    split
    · simp
    · simp only [List.mem_cons, mem_mins (m := r)]
      constructor
      · rintro (h | h | h) <;> simp [h]
      · rintro (h | h | h) <;> simp [h]
theorem mem_mdel {m : List (Key × α)} {k : Key} {x : Key × α} : x ∈ mdel m k ↔ x ∈ m ∧ x.1 ≠ k := by simp [mdel]
theorem mem_mput {m : List (Key × α)} {k : Key} {v : α} {x : Key × α} : x ∈ mput m k v ↔ x = (k, v) ∨ (x ∈ m ∧ x.1 ≠ k) := by
  rw [mput, mem_mins, mem_mdel]
theorem mins_length (x : Key × α) : ∀ m : List (Key × α), (mins x m).length = m.length + 1
  | [] => rfl
  | y :: r => by unfold mins; split <;> simp [mins_length x r]

theorem mins_sorted {x : Key × α} : ∀ {m : List (Key × α)}, MSorted m → (∀ y ∈ m, y.1 ≠ x.1) → MSorted (mins x m)
  | [], _, _ => by simp [mins, MSorted]
  | y :: r, h, hne => by
    obtain ⟨h1, h2⟩ := List.pairwise_cons.1 h
    unfold mins
    split
    · rename_i hb
      refine List.pairwise_cons.2 ⟨fun z hz => ?_, h⟩
      rcases List.mem_cons.1 hz with rfl | hz
      · exact hb
      · exact WideShapes.bytes_trans _ _ _ hb (h1 z hz)
    · rename_i hb
      have hyx : bytesBefore y.1 x.1 = true := by
        rcases WideAt.bytes_total _ _ (hne y (by simp)).symm with h' | h'
        · exact absurd h' hb
        · exact h'
      refine List.pairwise_cons.2 ⟨fun z hz => ?_, mins_sorted h2 fun z hz => hne z (by simp [hz])⟩
      rcases mem_mins.1 hz with rfl | hz
      · exact hyx
      · exact h1 z hz
theorem mdel_sorted {m : List (Key × α)} (h : MSorted m) (k : Key) : MSorted (mdel m k) := h.filter _
theorem mput_sorted {m : List (Key × α)} (h : MSorted m) (k : Key) (v : α) : MSorted (mput m k v) := mins_sorted (mdel_sorted h k) fun _ hy => (mem_mdel.1 hy).2
theorem MSorted.keys_ne {m : List (Key × α)} (h : MSorted m) : m.Pairwise fun x y => x.1 ≠ y.1 :=
  h.imp fun {a b} hb e => by rw [e, WideAt.bytes_irrefl] at hb; cases hb

theorem mget_some_mem {m : List (Key × α)} {k : Key} {v : α} (h : mget m k = some v) : (k, v) ∈ m := by
  unfold mget at h
  obtain ⟨x, hx, rfl⟩ := Option.map_eq_some_iff.1 h
  have h1 := List.find?_some hx
  have h2 := List.mem_of_find?_eq_some hx
  have : x.1 = k := by simpa using h1
  rw [← this]; exact h2
theorem mget_none {m : List (Key × α)} {k : Key} (h : mget m k = none) : ∀ x ∈ m, x.1 ≠ k := by
  unfold mget at h
  intro x hx e
  have := List.find?_eq_none.1 (Option.map_eq_none_iff.1 h) x hx
  simp [e] at this
theorem mget_of_mem {m : List (Key × α)} (h : MSorted m) {k : Key} {v : α} (hm : (k, v) ∈ m) : mget m k = some v := by
  cases hg : mget m k with
  | none => exact absurd rfl (mget_none hg _ hm)
  | some u =>
    have hu := mget_some_mem hg
    obtain ⟨i, hi, ei⟩ := List.getElem_of_mem hm
    obtain ⟨j, hj, ej⟩ := List.getElem_of_mem hu
    have hp := List.pairwise_iff_getElem.1 h.keys_ne
    have : i = j := by
      rcases Nat.lt_trichotomy i j with hlt | he | hlt
      · exact absurd (by rw [ei, ej]) (hp i j hi hj hlt)
      · exact he
      · exact absurd (by rw [ei, ej]) (hp j i hj hi hlt)
    subst this
    rw [ei] at ej
    cases ej; rfl
theorem mget_none_of {m : List (Key × α)} {k : Key} (h : ∀ x ∈ m, x.1 ≠ k) : mget m k = none := by
  unfold mget
  rw [List.find?_eq_none.2 (fun x hx => by simpa using h x hx)]; rfl

theorem mins_map (f : α → β) (x : Key × α) : ∀ m : List (Key × α), (mins x m).map (fun y => (y.1, f y.2)) = mins (x.1, f x.2) (m.map fun y => (y.1, f y.2))
  | [] => rfl
  | y :: r => by
    unfold mins
    simp only [List.map_cons]
    split <;> simp_all [mins_map f x r]
theorem mdel_map (f : α → β) (m : List (Key × α)) (k : Key) : (mdel m k).map (fun y => (y.1, f y.2)) = mdel (m.map fun y => (y.1, f y.2)) k := by
  unfold mdel; rw [List.filter_map]; rfl
theorem mput_map (f : α → β) (m : List (Key × α)) (k : Key) (v : α) : (mput m k v).map (fun y => (y.1, f y.2)) = mput (m.map fun y => (y.1, f y.2)) k (f v) := by
  unfold mput; rw [mins_map, mdel_map]
theorem mget_map (f : α → β) (m : List (Key × α)) (k : Key) : mget (m.map fun y => (y.1, f y.2)) k = (mget m k).map f := by
  unfold mget; rw [List.find?_map]; simp only [Option.map_map]; rfl
end lists

/-- What a map reads as: its keys in order, each with its value. -/
def kvD (m : List (Key × Value)) : DataW Value := .map (m.map fun x => (.string x.1, .held x.2))
def Rv (v : Value) : Option (DataW Value × List MemPlace) := some (.held v, [])

theorem insert_kv (x : Key × Value) : ∀ m : List (Key × Value), DataW.insert (Lit.string x.1, DataW.held x.2) (m.map fun x => (Lit.string x.1, DataW.held x.2)) = (mins x m).map fun x => (Lit.string x.1, DataW.held x.2)
  | [] => rfl
  | y :: r => by
    by_cases h : bytesBefore x.1 y.1 = true <;> simp [DataW.insert, mins, Lit.before, h, insert_kv x r]
theorem filter_kv (k : Key) (m : List (Key × Value)) : (m.map fun x => (Lit.string x.1, DataW.held x.2)).filter (fun p => !p.1.sameKey (.string k)) = (mdel m k).map fun x => (Lit.string x.1, DataW.held x.2) := by
  unfold mdel; rw [List.filter_map]; rfl
theorem kvD_put (m : List (Key × Value)) (k : Key) (v : Value) : (kvD m).put (.string k) (.held v) = kvD (mput m k v) := by
  simp only [kvD, DataW.put, filter_kv, mput]
  rw [insert_kv (k, v)]
theorem kvD_del (m : List (Key × Value)) (k : Key) : (kvD m).del (.string k) = kvD (mdel m k) := by
  simp only [kvD, DataW.del, filter_kv]
theorem find_kv (m : List (Key × Value)) (k : Key) : (m.map fun x => (Lit.string x.1, DataW.held x.2)).find? (fun p => p.1.sameKey (.string k)) = (m.find? fun x => x.1 == k).map fun x => (Lit.string x.1, DataW.held x.2) := by
  rw [List.find?_map]; rfl
theorem kvD_at (m : List (Key × Value)) (k : Key) (z : Value) : (kvD m).atKey (.string k) (.held z) = .held ((mget m k).getD z) := by
  simp only [kvD, DataW.atKey, find_kv, mget]
  cases m.find? fun x => x.1 == k <;> rfl
theorem kvD_has (m : List (Key × Value)) (k : Key) : Maps.has (kvD m) (.string k) = (mget m k).isSome := by
  simp only [kvD, Maps.has, mget, List.any_map, Option.isSome_map]
  induction m with
  | nil => rfl
  | cons x r ih =>
    have e : (Lit.string x.1).sameKey (.string k) = (x.1 == k) := rfl
    simp only [List.any_cons, Function.comp, List.find?_cons, e] at ih ⊢
    cases x.1 == k
    · simpa using ih
    · rfl
section
variable {P : Program} {kt : TypeId} {w : World} {b : Nat} {m : List (Key × Value)}

/-- Block b is a map that holds just these keys and values. -/
def SMap (P : Program) (kt : TypeId) (w : World) (b : Nat) (m : List (Key × Value)) : Prop := w.ownsMap P kt Rv b m.length (kvD m)

theorem SMap.of {n : Nat} (h : w.ownsMap P kt Rv b n (kvD m)) : SMap P kt w b m := by
  obtain ⟨es, clock, hb, F, hs, hD⟩ := h
  refine ⟨es, clock, hb, F, ?_, hD⟩
  simp only [kvD, DataW.map.injEq] at hD
  have := congrArg List.length hD
  rw [length_sorted] at this
  simp at this
  omega
theorem SMap.made (P : Program) (kt : TypeId) (w : World) : SMap P kt (w.alloc (.map #[] 0)) w.heap.size [] := World.ownsMap_made w P kt Rv
theorem SMap.lt (h : SMap P kt w b m) : b < w.heap.size := World.ownsMap.lt h
theorem SMap.isMap (h : SMap P kt w b m) : ∃ es c, w.heap[b]? = some (.map es c) := by obtain ⟨es, c, hb, _⟩ := h; exact ⟨es, c, hb⟩
theorem SMap.keep {w' : World} (h : SMap P kt w b m) (he : w'.heap[b]? = w.heap[b]?) : SMap P kt w' b m := by
  obtain ⟨es, clock, hb, r⟩ := h
  exact ⟨es, clock, he.trans hb, r⟩
theorem SMap.sorted (K : Keyed P kt) (h : SMap P kt w b m) : MSorted m := by
  obtain ⟨es, clock, hb, F, hs, hD⟩ := h
  simp only [kvD, DataW.map.injEq] at hD
  have := Maps.sorted_sorted K.one _ (Maps.fit_keys F) (Maps.fit_apart K F)
  rw [← hD, List.pairwise_map] at this
  exact this
theorem keyOf_s (hk : P.underlying kt = some .string) {s : ByteArray} (hs : s.size ≤ maxLen) : keyOf P kt (.string s) = some (.string s.data.toList) := by
  simp [keyOf, hk, mapKey, hs]
theorem SMap.look {t e : TypeId} (h : SMap P kt w b m) (hk : P.underlying kt = some .string) (ht : P.underlying t = some (.map kt e)) {z : Value} (hz : (zeroValue e).run P w = .ok z w) {s : ByteArray} (hs : s.size ≤ maxLen) :
    (Instr.lookup t (.map (some b)) (.string s) false).run P w = .ok ((mget m s.data.toList).getD z) w := by
  obtain ⟨v, ps, hr, hv⟩ := World.ownsMap.lookup h (string_keyed hk) ht hz (zd := .held z) (zp := []) rfl (keyOf_s hk hs)
  rw [kvD_at] at hv
  simp only [Rv, Option.some.injEq, Prod.mk.injEq, DataW.held.injEq] at hv
  rw [hr, hv.1]
theorem SMap.look_ok {t e : TypeId} (h : SMap P kt w b m) (hk : P.underlying kt = some .string) (ht : P.underlying t = some (.map kt e)) {z : Value} (hz : (zeroValue e).run P w = .ok z w) {s : ByteArray} (hs : s.size ≤ maxLen) :
    (Instr.lookup t (.map (some b)) (.string s) true).run P w = .ok (.tuple #[(mget m s.data.toList).getD z, .bool (mget m s.data.toList).isSome]) w := by
  obtain ⟨v, ps, hr, hv⟩ := World.ownsMap.look_ok h (string_keyed hk) ht hz (zd := .held z) (zp := []) rfl (keyOf_s hk hs)
  rw [kvD_at] at hv
  simp only [Rv, Option.some.injEq, Prod.mk.injEq, DataW.held.injEq] at hv
  rw [hr, hv.1, kvD_has]
theorem SMap.len {t e : TypeId} (h : SMap P kt w b m) (ht : P.underlying t = some (.map kt e)) (ty : TypeId) : (Builtin.len_ #[t] ty #[.map (some b)]).run P w = .ok (.int .i64 m.length) w := by
  have := World.ownsMap.len h ht ty
  simpa [kvD, Maps.size] using this
theorem SMap.store {t e : TypeId} (h : SMap P kt w b m) (hk : P.underlying kt = some .string) (ht : P.underlying t = some (.map kt e)) (hn : m.length < maxLen) {s : ByteArray} (hs : s.size ≤ maxLen) (v : Value) :
    ∃ w', (Instr.mapUpdate t (.map (some b)) (.string s) v).run P w = .ok () w' ∧ SMap P kt w' b (mput m s.data.toList v) ∧ w.mapTurned w' b := by
  obtain ⟨w', hr, ho, ht'⟩ := World.ownsMap.store h (string_keyed hk) ht hn (keyOf_s hk hs) (val := v) (d := .held v) (ps := []) rfl
  rw [kvD_put] at ho
  exact ⟨w', hr, SMap.of ho, ht'⟩
theorem SMap.drop {t e : TypeId} (h : SMap P kt w b m) (hk : P.underlying kt = some .string) (ht : P.underlying t = some (.map kt e)) {s : ByteArray} (hs : s.size ≤ maxLen) (ty : TypeId) :
    ∃ w', (Builtin.delete_ #[t, kt] ty #[.map (some b), .string s]).run P w = .ok (.tuple #[]) w' ∧ SMap P kt w' b (mdel m s.data.toList) ∧ w.mapTurned w' b := by
  obtain ⟨w', hr, ho, ht'⟩ := World.ownsMap.drop h (string_keyed hk) ht (keyOf_s hk hs) ty
  rw [kvD_del] at ho
  exact ⟨w', hr, SMap.of ho, ht'⟩
end
end Go.Proofs.YthinpbdbhijbgaaGreatDoor
