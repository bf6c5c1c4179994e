/- The walk of stat.Right. The walk of stat.Encode: a node's record. The walks of stat.Encode's entry, and of a list of entries. The walk of stat.Encode. A node's value in memory. What a law's arguments are, opened: bytes, lists of rights, nodes. What the rows list, read; the program's own facts for the cards. Plain laws: a quota's text, and the quota of a text, as the program has it and as the document has it. No program in sight. Plain laws: identities: texts, numbers without zeros ahead, addresses, as the program has them and as the document has them. No program in sight. Plain laws: the text of a scheme, of an id: rune by rune, and byte by byte. No program in sight. The walks of package acl, as far as sessions' identities reach: texts, names ahead of a colon. A region that draws its order, whose operations only add to memory: one duty for each operation, whatever the order. -/
import Derived.Test.YtclekhjnnljjlaaGreatDoorJFuzzyWhole1
import Derived.ProofKit
import Derived.SizedLaws
import Derived.Deep.Slices
import Derived.Deep.Strs
import Derived.Test.YtclekhjnnljjlaaGreatDoorRows
import Derived.LaidMore
import Derived.OpenShut
import Derived.Stop.Joined
import Derived.Lib.LaidU8
import GoSem.PinnedTables
import Derived.Lay
import Derived.SevenTiedAt
import Derived.Lib.ParseIntBTie
import Derived.Lib.ParseIntBCases
import Derived.Lib.IndexMore
import Derived.Lib.ItoaNum
import Derived.Lib.ItoaMem
import Derived.Lib.Strings
import Derived.Lib.SplitLaws
import Derived.Lib.AtoiAll
import Derived.Lib.IndexBytes
import Derived.Orders
namespace Go.Proofs.YtclekhjnnljjlaaGreatDoor
open Go.RowKit
set_option maxHeartbeats 1000000
set_option maxRecDepth 100000

/-- A block of a node's cells. -/
def Box (w : World) (b : Nat) (cs : Array Value) : Prop := ∀ j, w.cell? ⟨b, j, none⟩ = cs[j]?
theorem Box.alloc (w : World) (cs : Array Value) (e : TypeId) : Box (w.alloc (.cells cs e)) w.heap.size cs := fun j => by rw [World.cell?_alloc_at _ _ _ _ rfl]
theorem Box.below {B b : Nat} {w w' : World} {cs : Array Value} (h : Box w b cs) (hb : Below B w w') (hB : b < B) : Box w' b cs := fun j => (hb.cell (p := ⟨b, j, none⟩) hB).trans (h j)

theorem enters_f {f : FuncId} {fn : Func} {c : Code} (hf : Tryz.prog.funcs[f]? = some fn) (hname : (fn.name == "runtime.NumGoroutine") = false) (hb : fn.body = some c) : ∀ args w, (callFunc f args).run Tryz.prog w = .ok (.enter f args) w := by
  intro args w
  have h1 : fn.name ≠ "runtime.NumGoroutine" := by simpa using hname
  simp [callFunc, hf, h1, hb, mark]

theorem bigs_any (a : Option Addr) (c : Nat) (l : List Ac) (w : World) (hc : Cells w.heap.size w a (acCs l)) (hm : l.length ≤ 9223372036854775807) (ht : ∀ x ∈ l, x.scheme.size ≤ 9223372036854775800 ∧ x.id.size ≤ 9223372036854775800) :
    Calls Tryz.prog 67 #[.slice a l.length c, .func (.func 68) #[] #[]] w fun e w' => e = .returned (.bool (l.any bigAc)) ∧ Below w.heap.size w w' :=
  contains_any 68 bigAc a _ c l w hc rfl hm (enters_f Tryz.func68 (by kernel_rfl) rfl) (fun x hx w' _ => big_any x w' (by have := ht x hx; omega) (by have := ht x hx; omega))

theorem bads_any (a : Option Addr) (c : Nat) (l : List Ac) (w : World) (hc : Cells w.heap.size w a (acCs l)) (hm : l.length ≤ 9223372036854775807) (ht : ∀ x ∈ l, x.scheme.size ≤ 9223372036854775800 ∧ x.id.size ≤ 9223372036854775800) (hT : Tabs w) :
    Calls Tryz.prog 67 #[.slice a l.length c, .func (.func 69) #[] #[]] w fun e w' => e = .returned (.bool (l.any badAc)) ∧ Below w.heap.size w w' :=
  contains_any 69 badAc a _ c l w hc rfl hm (enters_f Tryz.func69 (by kernel_rfl) rfl) (fun x hx w' hb => bad_any x w' (by have := ht x hx; omega) (by have := ht x hx; omega) (hT.below hb hT.size))

def RightOut (r : Int) (w : World) (e : Ending) (w' : World) : Prop := e = .returned (.int .i64 r) ∧ Below w.heap.size w w'

theorem right_any (n : Nd) (da aa : Option Addr) (dc ac : Nat) (w : World) (hf : Fit n) (hT : Tabs w) (hA : Cells w.heap.size w aa (acCs n.acl)) :
    Calls Tryz.prog 37 #[.agg (ndC n (.slice da n.data.length dc) (.slice aa n.acl.length ac))] w (RightOut (rightN n) w) := by
  have hfp := hf.path
  have hfd := hf.data
  have hfa := hf.acl
  have HT := Lib.hid hf.texts
  have hbox := Box.alloc w (ndC n (.slice da n.data.length dc) (.slice aa n.acl.length ac)) 88
  have hb0 : Below w.heap.size w (w.alloc (.cells (ndC n (.slice da n.data.length dc) (.slice aa n.acl.length ac)) 88)) := (Below.refl _ _).alloc (Nat.le_refl _) _
  unfold ndC at hbox hb0 ⊢
  by_cases h1 : vpath n.path = true
  · have C1 := fun w => valid_any n.path w (by omega)
    simp only [h1] at C1
    have C1 := Lib.hid C1
    go_enter Tryz.func37, Tryz.ntmps37
    go_wp2_with fail
    refine (C1.out _).mono ?_
    rintro e w1 ⟨rfl, hb1⟩
    have hx1 := hbox.below hb1 (by simp)
    have hb : Below w.heap.size w w1 := hb0.trans (hb1.mono (by simp))
    clear hbox hb1 hb0
    unfold Box at hx1
    by_cases h2 : 1048575 < (n.data.length : Int)
    · have R : Hid (rightN n = 3) := by unfold Hid rightN; simp [h1]; omega
      clear h1 C1
      go_wp2
      go_ret
      exact ⟨ret_int R.out.symm, hb⟩
    by_cases h3 : 16 < (n.acl.length : Int)
    · have R : Hid (rightN n = 3) := by unfold Hid rightN; simp [h1]; omega
      have h2' : decide (1048575 < (n.data.length : Int)) = false := by simpa using h2
      clear h1 C1
      go_wp2
      go_ret
      exact ⟨ret_int R.out.symm, hb⟩
    have h2' : decide (1048575 < (n.data.length : Int)) = false := by simpa using h2
    have h3' : decide (16 < (n.acl.length : Int)) = false := by simpa using h3
    have hA1 := hA.below hb
    have C2 := bigs_any aa ac n.acl w1 (hA1.mono hb.size) (by omega) HT.out
    by_cases h4 : n.acl.any bigAc = true
    · have R : Hid (rightN n = 3) := by unfold Hid rightN; simp only [h1, h4]; simp
      rw [h4] at C2
      have C2 := Lib.hid C2
      clear h1 h4 C1
      go_wp2_with fail
      refine C2.out.mono ?_
      rintro e w2 ⟨rfl, hb2⟩
      have hbb := hb.trans (hb2.mono hb.size)
      clear C2 hb hb2 hx1
      go_wp2
      go_ret
      exact ⟨ret_int R.out.symm, hbb⟩
    have h4' : n.acl.any bigAc = false := by simpa using h4
    have hT1 := hT.below hb hT.size
    rw [h4'] at C2
    have C2 := Lib.hid C2
    have hr4 : rightN n = if n.acl.any badAc then 1 else if badQ n then 1 else 0 := by
      unfold rightN
      rw [if_neg (by simp [h1]), if_neg (by rw [h4']; simp; omega)]
    have R4 := Lib.hid hr4
    clear h1 h4 h4' C1 hr4
    go_wp2_with fail
    refine C2.out.mono ?_
    rintro e w2 ⟨rfl, hb2⟩
    have hbb := hb.trans (hb2.mono hb.size)
    have hsz1 : w.heap.size < w1.heap.size := by
      have := block_lt_of_cell (show w1.cell? ⟨w.heap.size, 0, none⟩ = _ from hx1 0)
      exact this
    have hx2 := Box.below (b := w.heap.size) hx1 hb2 hsz1
    have hA2 := hA1.below (hb2.mono hb.size)
    have hT2 := hT1.below hb2 hT1.size
    have C3 := bads_any aa ac n.acl w2 (hA2.mono hbb.size) (by omega) HT.out hT2
    have hsz2 : w.heap.size < w2.heap.size := by have := hb2.size; omega
    clear C2 hb hb2 hx1 hA1 hA2 hT1
    unfold Box at hx2
    by_cases h5 : n.acl.any badAc = true
    · rw [h5] at C3
      have C3 := Lib.hid C3
      have R : Hid (rightN n = 1) := by unfold Hid; rw [R4.out, h5]; rfl
      clear h5 R4
      go_wp2_with fail
      refine C3.out.mono ?_
      rintro e w3 ⟨rfl, hb3⟩
      have hb4 := hbb.trans (hb3.mono hbb.size)
      clear C3 hbb hb3 hx2
      go_wp2
      go_ret
      exact ⟨ret_int R.out.symm, hb4⟩
    have h5' : n.acl.any badAc = false := by simpa using h5
    rw [h5'] at C3
    have C3 := Lib.hid C3
    have R : Hid (rightN n = if badQ n then 1 else 0) := by unfold Hid; rw [R4.out, h5']; rfl
    clear h5 h5' R4
    go_wp2_with fail
    refine C3.out.mono ?_
    rintro e w3 ⟨rfl, hb3⟩
    have hb4 := hbb.trans (hb3.mono hbb.size)
    have hx3 := Box.below (b := w.heap.size) hx2 hb3 hsz2
    have hsz3 : w.heap.size < w3.heap.size := by have := hb3.size; omega
    have hfin : ∀ o, Below w.heap.size w (w3.alloc o) := fun o => hb4.alloc (by omega) o
    have HFIN := Lib.hid hfin
    clear C3 hbb hb3 hx2 hfin
    unfold Box at hx3
    have HR : ∀ b : Bool, badQ n = b → rightN n = if b then 1 else 0 := fun b hbq => by rw [R.out, hbq]
    have HR := Lib.hid HR
    cases hh : n.has
    · have hq0 : badQ n = (n.count != 0 || n.bytes != 0) := by unfold badQ; rw [hh]; simp
      rw [hh] at hx3
      by_cases hc0 : n.count = 0
      · by_cases hb0 : n.bytes = 0
        · have R0 := Lib.hid (HR.out false (by rw [hq0, hc0, hb0]; rfl))
          have e1 : (n.count != 0) = false := by simp [hc0]
          have e2 : (n.bytes != 0) = false := by simp [hb0]
          clear hc0 hb0 hq0 hh
          go_wp2
          go_ret
          exact ⟨ret_int R0.out.symm, HFIN.out _⟩
        · have R0 := Lib.hid (HR.out true (by rw [hq0]; simp [hb0]))
          have e1 : (n.count != 0) = false := by simp [hc0]
          have e2 : (n.bytes != 0) = true := by simp [hb0]
          clear hc0 hb0 hq0 hh
          go_wp2
          go_ret
          exact ⟨ret_int R0.out.symm, HFIN.out _⟩
      · have R0 := Lib.hid (HR.out true (by rw [hq0]; simp [hc0]))
        have e1 : (n.count != 0) = true := by simp [hc0]
        clear hc0 hq0 hh
        go_wp2
        go_ret
        exact ⟨ret_int R0.out.symm, HFIN.out _⟩
    · have hq0 : badQ n = (decide (n.count < -1) || decide (n.bytes < -1)) := by unfold badQ; rw [hh]; simp
      rw [hh] at hx3
      by_cases hc0 : n.count < -1
      · have R0 := Lib.hid (HR.out true (by rw [hq0]; simp [hc0]))
        clear hq0 hh
        go_wp2
        go_ret
        exact ⟨ret_int R0.out.symm, HFIN.out _⟩
      · by_cases hb0 : n.bytes < -1
        · have R0 := Lib.hid (HR.out true (by rw [hq0]; simp [hb0]))
          have e1 : decide (n.count < -1) = false := by simpa using hc0
          clear hq0 hh
          go_wp2
          go_ret
          exact ⟨ret_int R0.out.symm, HFIN.out _⟩
        · have R0 := Lib.hid (HR.out false (by rw [hq0]; simp [hc0, hb0]))
          have e1 : decide (n.count < -1) = false := by simpa using hc0
          have e2 : decide (n.bytes < -1) = false := by simpa using hb0
          clear hq0 hh
          go_wp2
          go_ret
          exact ⟨ret_int R0.out.symm, HFIN.out _⟩
  · have C1 := fun w => valid_any n.path w (by omega)
    have h1' : vpath n.path = false := by simpa using h1
    have R : Hid (rightN n = 30) := by unfold Hid rightN; simp [h1']
    simp only [h1'] at C1
    have C1 := Lib.hid C1
    clear h1 h1'
    go_enter Tryz.func37, Tryz.ntmps37
    go_wp2_with fail
    refine (C1.out _).mono ?_
    rintro e w1 ⟨rfl, hb1⟩
    have hb : Below w.heap.size w w1 := hb0.trans (hb1.mono (by simp))
    clear hbox hb1 hb0
    go_wp2
    go_ret
    exact ⟨ret_int R.out.symm, hb⟩
end Go.Proofs.YtclekhjnnljjlaaGreatDoor
namespace Go.Proofs.YtclekhjnnljjlaaGreatDoor
open Go.RowKit
set_option maxHeartbeats 1000000
set_option maxRecDepth 100000

end Go.Proofs.YtclekhjnnljjlaaGreatDoor
namespace Go.Proofs.YtclekhjnnljjlaaGreatDoor
open Go.RowKit
set_option maxHeartbeats 1000000
set_option maxRecDepth 100000

/-- A text's record. -/
def txt (s : ByteArray) : List UInt8 := be s.size 4 ++ s.data.toList
end Go.Proofs.YtclekhjnnljjlaaGreatDoor
namespace Go.Proofs.YtclekhjnnljjlaaGreatDoor
open Go.RowKit
set_option maxHeartbeats 2000000
set_option maxRecDepth 100000

theorem sizeNd : (Tryz.prog.info? 88).map (·.size) = some 17 := by kernel_rfl

end Go.Proofs.YtclekhjnnljjlaaGreatDoor
namespace Go.Proofs.YtclekhjnnljjlaaGreatDoor
open Go.RowKit

/-- A node's value: its cells, the two slices' cells below a block number. -/
def NdV (B : Nat) (w : World) (v : Value) (n : Nd) : Prop :=
  ∃ da dc aa ac, v = .agg (ndC n (.slice da n.data.length dc) (.slice aa n.acl.length ac)) ∧ Cells B w da (n.data.map u8v) ∧ Cells B w aa (acCs n.acl)
theorem cells_node (n : Nd) (d a : Option Addr) (k k' c c' : Nat) : (ndC n (.slice d k c) (.slice a k' c')).all (·.oneCell') = true := by
  simp [ndC, Value.oneCell']
/-- Bytes as a text. -/
theorem conv_string {B : Nat} {w : World} {a : Option Addr} {xs : List UInt8} (c : Nat) (h : Cells B w a (xs.map u8v)) : (convert 83 9 (.slice a xs.length c)).run Tryz.prog w = .ok (.string ⟨xs.toArray⟩) w := by
  cases a with
  | none =>
    have hx : xs = [] := by
      have := h.none
      simpa using this
    subst hx
    exact run_convert_bytes_nil w 83 5 Tryz.underlying83 Tryz.underlying5 0 c _ Tryz.underlying9
  | some p =>
    refine run_convert_bytes_back w _ _ 5 p c xs Tryz.underlying83 Tryz.underlying5 Tryz.underlying9 (fun j hj => ?_)
    obtain ⟨b, off, ha, _, hc⟩ := h j (u8v xs[j]) (by simp [List.getElem?_eq_getElem hj])
    obtain rfl : p = ⟨b, off, none⟩ := Option.some.inj ha
    rw [show (⟨b, off, none⟩ : Addr).add j = ⟨b, off + j, none⟩ from by unfold Addr.add; split <;> simp_all]
    exact hc
end Go.Proofs.YtclekhjnnljjlaaGreatDoor
namespace Go.Proofs.YtclekhjnnljjlaaGreatDoor
open Go.ChangeShapes Go.WideShapes Go.ChangeAt Go.RowKit Go.Deep
set_option maxHeartbeats 2000000
set_option maxRecDepth 100000

theorem Tryz.cells_u8 : Tryz.prog.cellsOf 5 = 1 := by kernel_rfl
theorem Tryz.bytes_u8 : Tryz.prog.bytesOf 5 = 1 := by kernel_rfl
theorem Tryz.cells_acl : Tryz.prog.cellsOf 146 = 3 := by kernel_rfl
theorem Tryz.bytes_acl : Tryz.prog.bytesOf 146 = 40 := by kernel_rfl
theorem Tryz.cells_id : Tryz.prog.cellsOf 139 = 2 := by kernel_rfl
theorem Tryz.cells_str : Tryz.prog.cellsOf 9 = 1 := by kernel_rfl
theorem Tryz.cells_node : Tryz.prog.cellsOf 88 = 17 := by kernel_rfl
theorem Tryz.cells_quota : Tryz.prog.cellsOf 86 = 3 := by kernel_rfl
theorem Tryz.cells_i64 : Tryz.prog.cellsOf 2 = 1 := by kernel_rfl
theorem Tryz.cells_i32 : Tryz.prog.cellsOf 21 = 1 := by kernel_rfl
theorem Tryz.cells_bool : Tryz.prog.cellsOf 4 = 1 := by kernel_rfl
theorem Tryz.cells_u8s : Tryz.prog.cellsOf 83 = 1 := by kernel_rfl
theorem Tryz.cells_acls : Tryz.prog.cellsOf 84 = 1 := by kernel_rfl

/-- Every weight of a datum is within reach. -/
def Light {H : Type} (t : TypeId) (d : DataW H) : Prop := ∀ n ∈ d.weights Tryz.prog t, n ≤ 140737488355328

theorem light_each {H : Type} {ts : List TypeId} {ds : List (DataW H)} (h : (DataW.weightsEach Tryz.prog ts ds).all (· ≤ reachBytes) = true) {j : Nat} {t : TypeId} {d : DataW H} (ht : ts[j]? = some t) (hd : ds[j]? = some d) : Light t d := fun n hn => by
  have := List.all_eq_true.1 h _ (DataW.weights_mem_each ht hd n hn)
  have h2 := reachBytes_lt
  have h3 : n ≤ reachBytes := by simpa using this
  omega

theorem light_agg {H : Type} {t : TypeId} {fs : Array Field} {ds : List (DataW H)} (ht : Tryz.prog.underlying t = some (.struct fs)) (h : Light t (.agg ds)) {j : Nat} {u : TypeId} {d : DataW H} (hj : (fs.toList.map (·.type))[j]? = some u) (hd : ds[j]? = some d) : Light u d := fun n hn => by
  refine h n ?_
  simp only [DataW.weights, ht]
  exact DataW.weights_mem_each hj hd n hn

theorem weightsAll_mem {H : Type} {P : Program} {e : TypeId} : ∀ {ds : List (DataW H)} {d : DataW H}, d ∈ ds → ∀ n ∈ d.weights P e, n ∈ DataW.weightsAll P e ds
  | d0 :: ds, d, hd, n, hn => by
    simp only [DataW.weightsAll, List.mem_append]
    rcases List.mem_cons.1 hd with rfl | h
    · exact Or.inl hn
    · exact Or.inr (weightsAll_mem h n hn)

theorem light_elem {H : Type} {t e : TypeId} {ds sp : List (DataW H)} (ht : Tryz.prog.underlying t = some (.slice e)) (h : Light t (.slice ds sp)) {d : DataW H} (hd : d ∈ ds) : Light e d := fun n hn => by
  refine h n ?_
  simp only [DataW.weights, ht, List.mem_cons, List.mem_append]
  exact Or.inr (Or.inl (weightsAll_mem hd n hn))

theorem light_len {H : Type} {t e : TypeId} {ds sp : List (DataW H)} (ht : Tryz.prog.underlying t = some (.slice e)) (h : Light t (.slice ds sp)) : (ds.length + sp.length) * Tryz.prog.bytesOf e ≤ 140737488355328 := by
  refine h _ ?_
  simp only [DataW.weights, ht]
  exact List.mem_cons_self

theorem light_str {H : Type} {t : TypeId} {s : ByteArray} (h : Light (H := H) t (.lit (.string s.data.toList))) : s.size ≤ 140737488355328 := by
  have := h s.data.toList.length (by simp [DataW.weights])
  rwa [← Lib.size_eq] at this

section
variable {H : Type} {enc : TypeId × Value → H} {w : World} {fuel : Nat}

/-- A slice of bytes, opened. -/
theorem open_u8s {v : Value} {x : DataW H × List MemPlace} (h : DataW.trod enc Tryz.prog w 0 (fun _ => true) true fuel 83 [v] = some x) (hz : Light 83 x.1) :
    ∃ (l : List UInt8) (a : Option Addr) (cap : Nat), v = .slice a l.length cap ∧ l.length ≤ 140737488355328 ∧ Cells w.heap.size w a (l.map u8v) := by
  rcases open_ints Tryz.underlying83 Tryz.underlying5 Tryz.cells_u8 h with ⟨hcs, rfl⟩ | ⟨a, len, cap, zs, hcs, _, hl, hm, hlen, rfl, hcell, hwf⟩
  · simp only [List.cons.injEq, and_true] at hcs
    subst hcs
    exact ⟨[], none, 0, rfl, by simp, Cells.nil _ _ _⟩
  · simp only [List.cons.injEq, and_true] at hcs
    subst hcs
    simp only [if_true] at hlen
    have hw := light_len Tryz.underlying83 hz
    rw [Tryz.bytes_u8] at hw
    simp only [lits, List.length_map, List.length_take, List.length_drop] at hw
    refine ⟨(zs.take len).map fun z => UInt8.ofNat z.toNat, some a, cap, ?_, ?_, ?_⟩
    · simp only [List.length_map, List.length_take]
      rw [Nat.min_eq_left (by omega)]
    · simp only [List.length_map, List.length_take]; omega
    · intro j u hj
      simp only [List.map_map, List.getElem?_map, List.getElem?_take] at hj
      split at hj
      · rename_i hjl
        have hjz : j < zs.length := by omega
        rw [List.getElem?_eq_getElem hjz] at hj
        simp only [Option.map_some, Option.some.injEq, Function.comp] at hj
        have hc := hcell j hjz
        have hwz := hwf zs[j] (List.getElem_mem _)
        have hc0 := hcell 0 (by omega)
        have hsp := World.cell?_spot hc0
        have hlt := World.block_lt_of_cell? _ _ hc0
        obtain ⟨b, off, sp⟩ := a
        obtain rfl : sp = none := by simpa [Addr.add] using hsp
        refine ⟨b, off, rfl, by simpa [Addr.add] using hlt, ?_⟩
        rw [← add_plain, hc, ← hj]
        rw [List.getD_eq_getElem?_getD, List.getElem?_eq_getElem hjz]
        have h0 : 0 ≤ zs[j] ∧ zs[j] ≤ 255 := by
          have e1 : IntKind.u8.min = 0 := rfl
          have e2 : IntKind.u8.max = 255 := rfl
          simpa [Lit.wf, e1, e2] using hwz
        have e3 : (((UInt8.ofNat zs[j].toNat).toNat : Nat) : Int) = zs[j] := by
          simp only [UInt8.toNat_ofNat']
          omega
        simp only [Option.getD_some, u8v, e3]
      · simp at hj

/-- One right, opened. -/
theorem open_ac {n : Nat} {cs : List Value} {y : DataW H × List MemPlace} (h : DataW.trod enc Tryz.prog w 0 (fun _ => true) true n 146 cs = some y) (hz : Light 146 y.1) :
    ∃ x : Ac, cs = acC x ∧ x.scheme.size ≤ 140737488355328 ∧ x.id.size ≤ 140737488355328 := by
  obtain ⟨y0, y1, m, rfl, hl, h0, h1⟩ := trod_struct2 Tryz.underlying146 h
  rw [Tryz.cells_acl] at hl
  match cs, hl with
  | [c0, c1, c2], _ =>
    rw [Tryz.cells_i32] at h0
    rw [Tryz.cells_id] at h1
    simp only [List.drop_succ_cons, List.drop_zero, List.take_succ_cons, List.take_zero] at h0 h1
    obtain ⟨z0, z1, m1, rfl, _, g0, g1⟩ := trod_struct2 Tryz.underlying139 h1
    rw [Tryz.cells_str] at g0 g1
    simp only [List.drop_succ_cons, List.drop_zero, List.take_succ_cons, List.take_zero] at g0 g1
    obtain ⟨p, e0, rfl, wp⟩ := DataW.trod_int Tryz.underlying21 h0
    obtain ⟨s0, e1, rfl, _⟩ := DataW.trod_string Tryz.underlying9 g0
    obtain ⟨s1, e2, rfl, _⟩ := DataW.trod_string Tryz.underlying9 g1
    simp only [List.cons.injEq, and_true] at e0 e1 e2
    subst e0; subst e1; subst e2
    have q1 : Light 139 (.agg [DataW.lit (.string s0.data.toList), .lit (.string s1.data.toList)] : DataW H) := light_agg Tryz.underlying146 hz (j := 1) rfl rfl
    exact ⟨⟨p, s0, s1⟩, rfl, light_str (light_agg Tryz.underlying139 q1 (j := 0) rfl rfl), light_str (light_agg Tryz.underlying139 q1 (j := 1) rfl rfl)⟩

instance : Inhabited Ac := ⟨⟨0, ⟨#[]⟩, ⟨#[]⟩⟩⟩

theorem acCs_at : ∀ (l : List Ac) (j : Nat) (u : Value), (acCs l)[j]? = some u → ∃ i x, l[i]? = some x ∧ i * 3 ≤ j ∧ (acC x)[j - i * 3]? = some u
  | [], j, u, h => by simp [acCs] at h
  | x :: l, j, u, h => by
    rw [show acCs (x :: l) = acC x ++ acCs l from rfl] at h
    by_cases hj : j < 3
    · rw [List.getElem?_append_left (show j < (acC x).length from hj)] at h
      exact ⟨0, x, rfl, by omega, by simpa using h⟩
    · rw [List.getElem?_append_right (show (acC x).length ≤ j by simp [acC]; omega)] at h
      obtain ⟨i, y, h1, h2, h3⟩ := acCs_at l _ u h
      rw [show (acC x).length = 3 from rfl] at h2 h3
      refine ⟨i + 1, y, by simpa using h1, by omega, ?_⟩
      rw [show j - (i + 1) * 3 = j - 3 - i * 3 by omega]
      exact h3

/-- A slice of rights, opened. -/
theorem open_acls {v : Value} {x : DataW H × List MemPlace} (h : DataW.trod enc Tryz.prog w 0 (fun _ => true) true fuel 84 [v] = some x) (hz : Light 84 x.1) :
    ∃ (l : List Ac) (a : Option Addr) (cap : Nat), v = .slice a l.length cap ∧ l.length * 40 ≤ 140737488355328 ∧ (∀ x ∈ l, x.scheme.size ≤ 140737488355328 ∧ x.id.size ≤ 140737488355328) ∧ Cells w.heap.size w a (acCs l) := by
  rcases open_slice Tryz.underlying84 h with ⟨hcs, rfl⟩ | ⟨a, len, cap, m, n, D, Pl, hcs, _, hl, hm, hmm, rfl, hx⟩
  · simp only [List.cons.injEq, and_true] at hcs
    subst hcs
    exact ⟨[], none, 0, rfl, by simp, by simp, Cells.nil _ _ _⟩
  · simp only [List.cons.injEq, and_true] at hcs
    subst hcs
    simp only [if_true] at hmm
    subst hmm
    have hw := light_len Tryz.underlying84 hz
    rw [Tryz.bytes_acl] at hw
    simp only [List.length_map, List.length_range] at hw
    obtain ⟨X, hX⟩ := choose_lt (n := len) (p := fun i (x : Ac) => (∀ r u, (acC x)[r]? = some u → w.cell? ((a.add (i * 3)).add r) = some u) ∧ x.scheme.size ≤ 140737488355328 ∧ x.id.size ≤ 140737488355328) fun i hi => by
      obtain ⟨cs', h1, h2⟩ := hx i (by omega)
      obtain ⟨x, rfl, z1, z2⟩ := open_ac h2 (light_elem Tryz.underlying84 hz (List.mem_map.2 ⟨i, List.mem_range.2 hi, rfl⟩))
      rw [Tryz.cells_acl] at h1
      obtain ⟨_, _, h3⟩ := World.cells?_some h1
      refine ⟨x, fun r u hr => ?_, z1, z2⟩
      rw [h3 r (by have := (List.getElem?_eq_some_iff.1 hr).1; simpa [acC] using this)]
      exact hr
    refine ⟨(List.range len).map X, some a, m, by simp, by simp; omega, fun x hx' => ?_, fun j u hj => ?_⟩
    · obtain ⟨i, hi, rfl⟩ := List.mem_map.1 hx'
      exact (hX i (List.mem_range.1 hi)).2
    · obtain ⟨i, x, h1, h2, h3⟩ := acCs_at _ _ _ hj
      simp only [List.getElem?_map] at h1
      by_cases hi : i < len
      · rw [List.getElem?_range hi] at h1
        simp only [Option.map_some, Option.some.injEq] at h1
        subst h1
        have hc0 := (hX 0 (by omega)).1 0 _ rfl
        have hsp := World.cell?_spot hc0
        have hlt := World.block_lt_of_cell? _ _ hc0
        obtain ⟨b, off, sp⟩ := a
        obtain rfl : sp = none := by simpa [Addr.add] using hsp
        refine ⟨b, off, rfl, by simpa [Addr.add] using hlt, ?_⟩
        have := (hX i hi).1 _ u h3
        rw [add_plain, add_plain] at this
        rw [← this]
        congr 2
        omega
      · rw [List.getElem?_eq_none (by simp; omega)] at h1
        simp at h1

/-- A node, opened. -/
theorem open_node {cs : List Value} {x : DataW H × List MemPlace} (h : DataW.trod enc Tryz.prog w 0 (fun _ => true) true fuel 88 cs = some x) (hz : Light 88 x.1) :
    ∃ (n : Nd) (da aa : Option Addr) (dc ac : Nat), cs = (ndC n (.slice da n.data.length dc) (.slice aa n.acl.length ac)).toList ∧ Fit n ∧ Cells w.heap.size w da (n.data.map u8v) ∧ Cells w.heap.size w aa (acCs n.acl) := by
  obtain ⟨xs, m, _, rfl, hl, hn, hf⟩ := DataW.trod_struct Tryz.underlying88 h
  rw [Tryz.cells_node] at hl
  match cs, hl with
  | [c0, c1, c2, c3, c4, c5, c6, c7, c8, c9, c10, c11, c12, c13, c14, c15, c16], _ =>
  match xs, hn with
  | [x0, x1, x2, x3, x4, x5, x6, x7, x8, x9, x10, x11, x12, x13, x14], _ =>
    have f0 := hf 0 _ rfl
    have f1 := hf 1 _ rfl
    have f2 := hf 2 _ rfl
    have f3 := hf 3 _ rfl
    have f4 := hf 4 _ rfl
    have f5 := hf 5 _ rfl
    have f6 := hf 6 _ rfl
    have f7 := hf 7 _ rfl
    have f8 := hf 8 _ rfl
    have f9 := hf 9 _ rfl
    have f10 := hf 10 _ rfl
    have f11 := hf 11 _ rfl
    have f12 := hf 12 _ rfl
    have f13 := hf 13 _ rfl
    have f14 := hf 14 _ rfl
    clear hf h
    simp [Tryz.cells_str, Tryz.cells_u8s, Tryz.cells_acls, Tryz.cells_i64, Tryz.cells_i32, Tryz.cells_quota] at f0 f1 f2 f3 f4 f5 f6 f7 f8 f9 f10 f11 f12 f13 f14
    obtain ⟨s, e0, rfl, _⟩ := DataW.trod_string Tryz.underlying9 f0
    obtain ⟨d, da, dc, rfl, hd1, hd2⟩ := open_u8s f1 (light_agg Tryz.underlying88 hz (j := 1) rfl rfl)
    obtain ⟨l, aa, ac, rfl, ha1, ha2, ha3⟩ := open_acls f2 (light_agg Tryz.underlying88 hz (j := 2) rfl rfl)
    obtain ⟨z3, e3, _⟩ := DataW.trod_int Tryz.underlying2 f3
    obtain ⟨z4, e4, _⟩ := DataW.trod_int Tryz.underlying2 f4
    obtain ⟨z5, e5, _⟩ := DataW.trod_int Tryz.underlying2 f5
    obtain ⟨z6, e6, _⟩ := DataW.trod_int Tryz.underlying2 f6
    obtain ⟨z7, e7, _⟩ := DataW.trod_int Tryz.underlying2 f7
    obtain ⟨z8, e8, _⟩ := DataW.trod_int Tryz.underlying2 f8
    obtain ⟨z9, e9, _⟩ := DataW.trod_int Tryz.underlying2 f9
    obtain ⟨z10, e10, _⟩ := DataW.trod_int Tryz.underlying2 f10
    obtain ⟨z11, e11, _⟩ := DataW.trod_int Tryz.underlying21 f11
    obtain ⟨z12, e12, _⟩ := DataW.trod_int Tryz.underlying21 f12
    obtain ⟨z13, e13, _⟩ := DataW.trod_int Tryz.underlying21 f13
    obtain ⟨q0, q1, q2, m2, _, _, g0, g1, g2⟩ := trod_struct3 Tryz.underlying86 f14
    simp only [Tryz.cells_bool, Tryz.cells_i64, List.drop_succ_cons, List.drop_zero, List.take_succ_cons, List.take_zero] at g0 g1 g2
    obtain ⟨z14, e14, _⟩ := DataW.trod_bool Tryz.underlying4 g0
    obtain ⟨z15, e15, _⟩ := DataW.trod_int Tryz.underlying2 g1
    obtain ⟨z16, e16, _⟩ := DataW.trod_int Tryz.underlying2 g2
    simp only [List.cons.injEq, and_true] at e0 e3 e4 e5 e6 e7 e8 e9 e10 e11 e12 e13 e14 e15 e16
    have hs := light_str (light_agg Tryz.underlying88 hz (j := 0) rfl rfl)
    subst e0 e3 e4 e5 e6 e7 e8 e9 e10 e11 e12 e13 e14 e15 e16
    exact ⟨⟨s, d, l, z3, z4, z5, z6, z7, z8, z9, z10, z11, z12, z13, z14, z15, z16⟩, da, aa, dc, ac, rfl,
      ⟨by simp only; omega, hd1, ha1, fun x hx => ⟨by have := (ha2 x hx).1; omega, by have := (ha2 x hx).2; omega⟩⟩, hd2, ha3⟩

end
end Go.Proofs.YtclekhjnnljjlaaGreatDoor
namespace Go.Proofs.YtclekhjnnljjlaaGreatDoor
open Go.ChangeShapes Go.WideShapes Go.ChangeAt Go.RowKit Go.Lib
set_option maxHeartbeats 2000000
set_option maxRecDepth 100000

theorem Tryz.own : ownKnob Tryz.prog.godebug = none := by kernel_rfl
theorem Tryz.laidOut : laidOutB Tryz.prog = true := by kernel_rfl

theorem utf8First_eq : Pinned.utf8First = firstData := by kernel_rfl

/-- The two tables of the decoder, off what the row lists (by the laws of Derived/Lib/LaidU8.lean, at this program's numbers). -/
theorem tabs_of_reads {w : World} (h3 : VarReads Tryz.prog w "unicode/utf8.first" firstData) (h4 : VarReads Tryz.prog w "unicode/utf8.acceptRanges" acceptData) : Tabs w := by
  have X : U8Extra Tryz.prog Tryz.lays196_ren := ⟨by kernel_rfl, by kernel_rfl, by kernel_rfl, by kernel_rfl, by kernel_rfl, by kernel_rfl, by kernel_rfl⟩
  have L := Tryz.lays196
  unfold Tabs
  constructor
  · intro c hc
    obtain ⟨g, t, cs, fuel, p, hg, hty, hvar, hd⟩ := h3
    obtain rfl := Option.some.inj (X.n3.symm.trans hg)
    obtain rfl := Option.some.inj (X.y3.symm.trans hty)
    rw [World.var?_cell hg hvar c, ← Array.getElem?_toList, cells_of_tab L.t119 L.t5 X.c5 X.c119 hd]
    simp [firstTab, hc]
  · intro i hi
    obtain ⟨g, t, cs, fuel, p, hg, hty, hvar, hd⟩ := h4
    obtain rfl := Option.some.inj (X.n4.symm.trans hg)
    obtain rfl := Option.some.inj (X.y4.symm.trans hty)
    obtain ⟨_, d, q, hdi, he⟩ := array_elem L.t139 hd i hi
    simp only [List.getElem?_map, List.getElem?_range hi, Option.map_some, Option.some.injEq] at hdi
    subst hdi
    rw [X.c138] at he
    have hcs := ints_of_struct L.t138 (fun j f hj => by
      rcases j with _ | _ | j
      · simp at hj; subst hj; exact ⟨L.t5, rfl, X.c5⟩
      · simp at hj; subst hj; exact ⟨L.t5, rfl, X.c5⟩
      · simp at hj) (by rw [X.c138]; rfl) he
    have e0 := congrArg (·[0]?) hcs
    have e1 := congrArg (·[1]?) hcs
    simp only [List.getElem?_take, List.getElem?_drop] at e0 e1
    rw [World.var?_cell hg hvar (2 * i), World.var?_cell hg hvar (2 * i + 1), ← Array.getElem?_toList, ← Array.getElem?_toList]
    exact ⟨by simpa [Nat.mul_comm] using e0, by simpa [Nat.mul_comm] using e1⟩

end Go.Proofs.YtclekhjnnljjlaaGreatDoor
namespace Go.Proofs.YtclekhjnnljjlaaGreatDoor
open Go.Lib

theorem decDigits_big {u : Nat} (h : ¬ u < 10) : decDigits u = decDigits (u / 10) ++ [UInt8.ofNat (48 + u % 10)] := by rw [decDigits, dif_neg h]
/-- What digits spell behind a number. -/
def digs : Nat → List UInt8 → Option Nat
  | acc, [] => some acc
  | acc, c :: r => if 48 ≤ c.toNat ∧ c.toNat ≤ 57 then digs (acc * 10 + (c.toNat - 48)) r else none
theorem digs_cons (acc : Nat) (c : UInt8) (r : List UInt8) : digs acc (c :: r) = if 48 ≤ c.toNat ∧ c.toNat ≤ 57 then digs (acc * 10 + (c.toNat - 48)) r else none := rfl
theorem digs_append : ∀ (l r : List UInt8) (acc : Nat), digs acc (l ++ r) = (digs acc l).bind fun m => digs m r
  | [], r, acc => rfl
  | c :: l, r, acc => by
    rw [List.cons_append, digs_cons, digs_cons]
    split
    · exact digs_append l r _
    · rfl
theorem dig_toNat {d : Nat} (h : d < 10) : (UInt8.ofNat (48 + d)).toNat = 48 + d := by
  rw [UInt8.toNat_ofNat']
  omega
theorem digs_one (acc : Nat) {d : Nat} (h : d < 10) : digs acc [UInt8.ofNat (48 + d)] = some (acc * 10 + d) := by
  unfold digs
  rw [dig_toNat h, if_pos (by omega)]
  show some (acc * 10 + (48 + d - 48)) = _
  congr 1
  omega
theorem digs_dec : ∀ (f n : Nat), n ≤ f → digs 0 (decDigits n) = some n
  | f, n, hf => by
    by_cases h : n < 10
    · rw [decDigits_one h, digs_one 0 h]
      congr 1
      omega
    · rw [decDigits_big h, digs_append]
      match f, hf with
      | f + 1, hf =>
        rw [digs_dec f (n / 10) (by omega), Option.bind_some, digs_one _ (by omega)]
        congr 1
        omega
      | 0, hf => omega
theorem dec_ne (n : Nat) : decDigits n ≠ [] := fun h => by
  have := decDigits_length n
  have h1 := nDigits_pos n
  rw [h] at this
  simp at this
  omega
theorem dec_head : ∀ (f n : Nat), n ≤ f → n ≠ 0 → ∃ c r, decDigits n = c :: r ∧ 49 ≤ c.toNat ∧ c.toNat ≤ 57
  | f, n, hf, h0 => by
    by_cases h : n < 10
    · exact ⟨_, _, decDigits_one h, by rw [dig_toNat h]; omega, by rw [dig_toNat h]; omega⟩
    · match f, hf with
      | f + 1, hf =>
        obtain ⟨c, r, e, h1⟩ := dec_head f (n / 10) (by omega) (by omega)
        exact ⟨c, r ++ [UInt8.ofNat (48 + n % 10)], by rw [decDigits_big h, e]; rfl, h1⟩
      | 0, hf => omega
theorem dec_all (n : Nat) : ∀ c ∈ decDigits n, 48 ≤ c.toNat ∧ c.toNat ≤ 57 := by
  have key : ∀ (l : List UInt8) (acc n : Nat), digs acc l = some n → ∀ c ∈ l, 48 ≤ c.toNat ∧ c.toNat ≤ 57 := by
    intro l
    induction l with
    | nil => intro _ _ _ c hc; simp at hc
    | cons a l ih =>
      intro acc n h c hc
      unfold digs at h
      split at h
      · rename_i ha
        rcases List.mem_cons.1 hc with rfl | hc
        · exact ha
        · exact ih _ _ h c hc
      · cases h
  exact key _ _ _ (digs_dec n n (Nat.le_refl _))

/-- The numeral without a needless nought. -/
theorem digs_canon : ∀ (k : Nat) (l : List UInt8) (n : Nat), l.length = k → l ≠ [] → (1 < l.length → l.head? ≠ some 48) → digs 0 l = some n → l = decDigits n
  | 0, l, n, hk, hl, _, _ => absurd (List.eq_nil_of_length_eq_zero hk) hl
  | k + 1, l, n, hk, hl, hh, hd => by
    obtain ⟨l', c, rfl⟩ : ∃ l' c, l = l' ++ [c] := ⟨l.dropLast, l.getLast hl, (List.dropLast_concat_getLast hl).symm⟩
    rw [digs_append] at hd
    obtain ⟨m, hm, hc⟩ := Option.bind_eq_some_iff.1 hd
    unfold digs at hc
    split at hc
    rotate_left
    · cases hc
    rename_i hcd
    simp only [digs, Option.some.injEq] at hc
    have hcc : c = UInt8.ofNat (48 + (c.toNat - 48)) := by
      rw [← UInt8.toNat_inj, dig_toNat (by omega)]
      omega
    by_cases he : l' = []
    · subst he
      simp only [digs, Option.some.injEq] at hm
      have hn : n = c.toNat - 48 := by omega
      rw [hn, decDigits_one (by omega), ← hcc]
      rfl
    · have hlen : 1 < (l' ++ [c]).length := by
        have := List.length_pos_iff.2 he
        simp; omega
      have hhd : (l' ++ [c]).head? = l'.head? := by
        cases l' with
        | nil => exact absurd rfl he
        | cons a r => rfl
      have hh2 := hh hlen
      rw [hhd] at hh2
      have ih := digs_canon k l' m (by simp at hk; omega) he (fun _ => hh2) hm
      have hm0 : m ≠ 0 := fun h0 => by
        rw [ih, h0, decDigits_one (by omega)] at hh2
        exact hh2 rfl
      have hn10 : ¬ n < 10 := by omega
      rw [decDigits_big hn10, show n / 10 = m by omega, ← ih, show n % 10 = c.toNat - 48 by omega, ← hcc]

end Go.Proofs.YtclekhjnnljjlaaGreatDoor
namespace Go.Proofs.YtclekhjnnljjlaaGreatDoor
open Go.Lib

/-! ### Pieces between bytes of a kind -/
def pieces (c : UInt8) : List UInt8 → List (List UInt8)
  | [] => [[]]
  | b :: r => if b = c then [] :: pieces c r else match pieces c r with
    | p :: ps => (b :: p) :: ps
    | [] => [[b]]
theorem pieces_ne (c : UInt8) : ∀ l, pieces c l ≠ []
  | [] => by simp [pieces]
  | b :: r => by
    unfold pieces
    split
    · simp
    · cases h : pieces c r <;> simp
theorem pieces_none {c : UInt8} : ∀ {l : List UInt8}, c ∉ l → pieces c l = [l]
  | [], _ => rfl
  | b :: r, h => by
    simp only [List.mem_cons, not_or] at h
    unfold pieces
    rw [if_neg (Ne.symm h.1), pieces_none h.2]
theorem pieces_some {c : UInt8} : ∀ {l r : List UInt8}, c ∉ l → pieces c (l ++ c :: r) = l :: pieces c r
  | [], r, _ => by simp [pieces]
  | b :: l, r, h => by
    simp only [List.mem_cons, not_or] at h
    rw [List.cons_append]
    conv => lhs; unfold pieces
    rw [if_neg (Ne.symm h.1), pieces_some h.2]
theorem index_piece {c : UInt8} : ∀ {l r : List UInt8}, c ∉ l → index (l ++ c :: r) [c] = l.length
  | [], r, _ => by rw [List.nil_append, index]; simp [List.isPrefixOf]
  | b :: l, r, h => by
    simp only [List.mem_cons, not_or] at h
    have hp : ([c] : List UInt8).isPrefixOf (b :: (l ++ c :: r)) = false := by simp [List.isPrefixOf, h.1]
    rw [List.cons_append, index, hp, index_piece h.2]
    simp
theorem index_none {c : UInt8} : ∀ {l : List UInt8}, c ∉ l → index l [c] = -1
  | [], _ => by rw [index]; simp
  | b :: l, h => by
    simp only [List.mem_cons, not_or] at h
    have hp : ([c] : List UInt8).isPrefixOf (b :: l) = false := by simp [List.isPrefixOf, h.1]
    rw [index, hp, index_none h.2]
    simp
theorem mem_split {c : UInt8} : ∀ {l : List UInt8}, c ∈ l → ∃ a r, l = a ++ c :: r ∧ c ∉ a
  | b :: l, h => by
    by_cases e : b = c
    · exact ⟨[], l, by rw [e]; rfl, by simp⟩
    · obtain ⟨a, r, h1, h2⟩ := mem_split ((List.mem_cons.1 h).resolve_left (Ne.symm e))
      exact ⟨b :: a, r, by rw [h1]; rfl, by simp [h2, Ne.symm e]⟩
theorem split_pieces (c : UInt8) : ∀ (n : Nat) (l : List UInt8), l.length ≤ n → splitK [c] 0 (count l [c]) l = pieces c l
  | n, l, hn => by
    by_cases h : c ∈ l
    · obtain ⟨a, r, rfl, ha⟩ := mem_split h
      have hi := index_piece (r := r) ha
      have hr : ¬ (index (a ++ c :: r) [c] == -1) = true := fun e => by have := beq_iff_eq.1 e; omega
      have ed : (a ++ c :: r).drop (a.length + 1) = r := by
        rw [show a.length + 1 = (a ++ [c]).length by simp, show a ++ c :: r = (a ++ [c]) ++ r by simp, List.drop_left]
      rw [pieces_some ha, count_hit (by simp) hi, Nat.add_comm 1, splitK, if_neg hr, hi]
      simp only [Int.toNat_natCast, List.length_singleton, Nat.add_zero, ed, List.take_left]
      match n, hn with
      | n + 1, hn => rw [split_pieces c n r (by simp at hn; omega)]
      | 0, hn => simp at hn
    · rw [pieces_none h, count_miss (index_none h)]
      rfl

/-! ### Numbers without zeros ahead -/
/-- The document's: one to three digits. -/
def decR (l : List UInt8) (most : Nat) : Option Nat :=
  if l.length < 1 ∨ 3 < l.length ∨ (1 < l.length ∧ l.head? = some 48) then none else (digs 0 l).bind fun n => if n ≤ most then some n else none
theorem nDigits_le3 {n : Nat} (h : n ≤ 999) : nDigits n ≤ 3 := by
  rw [nDigits]
  split
  · omega
  · rw [nDigits]
    split
    · omega
    · rw [nDigits]
      split
      · omega
      · omega
theorem decR_iff {l : List UInt8} {most n : Nat} (hm : most ≤ 999) : decR l most = some n ↔ l = decDigits n ∧ n ≤ most := by
  unfold decR
  constructor
  · intro h
    split at h
    · cases h
    · rename_i hc
      simp only [not_or, not_and, Nat.not_lt] at hc
      obtain ⟨h1, h2, h3⟩ := hc
      cases hd : digs 0 l with
      | none => rw [hd] at h; cases h
      | some m =>
        rw [hd, Option.bind_some] at h
        split at h
        · rename_i hle
          cases h
          exact ⟨digs_canon _ l n rfl (fun e => by rw [e] at h1; simp at h1) (fun hl => h3 (by omega)) hd, hle⟩
        · cases h
  · rintro ⟨rfl, hn⟩
    have h1 := decDigits_length n
    have h2 := nDigits_pos n
    have h3 := nDigits_le3 (n := n) (by omega)
    rw [if_neg, digs_dec n n (Nat.le_refl _), Option.bind_some, if_pos hn]
    simp only [not_or, not_and]
    refine ⟨by omega, by omega, fun hl he => ?_⟩
    by_cases h0 : n = 0
    · subst h0
      rw [decDigits_one (by omega)] at hl
      simp at hl
    · obtain ⟨c, r, e, hc, _⟩ := dec_head n n (Nat.le_refl _) h0
      rw [e] at he
      simp at he
      rw [he] at hc
      simp at hc
theorem mag_dec : ∀ (l : List UInt8) (acc n : Nat), digs acc l = some n → n < 1000000 → parseUint10 acc l = .ok n
  | [], acc, n, h, hn => by simp only [digs, Option.some.injEq] at h; rw [h]; rfl
  | c :: r, acc, n, h, hn => by
    have hge : ∀ (l : List UInt8) (a m : Nat), digs a l = some m → a ≤ m := by
      intro l
      induction l with
      | nil => intro a m h; simp only [digs, Option.some.injEq] at h; omega
      | cons x t ih =>
        intro a m h
        rw [digs_cons] at h
        split at h
        · have := ih _ _ h; omega
        · cases h
    rw [digs_cons] at h
    split at h
    · rename_i hc
      have h1 := hge _ _ _ h
      unfold parseUint10
      rw [if_pos hc, if_neg (by omega), if_neg (by omega)]
      exact mag_dec r _ n h hn
    · cases h
theorem atoi_dec {n : Nat} (h : n < 1000000) : atoiAll (decDigits n) = .ok n := by
  have hne := dec_ne n
  cases hd : decDigits n with
  | nil => exact absurd hd hne
  | cons c r =>
    have hc := dec_all n c (by rw [hd]; simp)
    unfold atoiAll
    have e1 : ¬ (c.toNat = 43 ∨ c.toNat = 45) := by omega
    have e2 : ¬ c.toNat = 45 := by omega
    have hm : parseMag (c :: r) = .ok n := by
      unfold parseMag
      rw [if_neg (by simp), ← hd]
      exact mag_dec _ 0 n (digs_dec n n (Nat.le_refl _)) h
    dsimp only
    rw [if_neg e1, hm]
    simp only [e2, false_and, if_false, not_false_eq_true, true_and, if_neg (show ¬ 9223372036854775808 ≤ n by omega)]
/-- The program's: strconv's number, if strconv writes it so. -/
def decP (l : List UInt8) (most : Nat) : Int :=
  match atoiAll l with
  | .ok v => if v < 0 ∨ (most : Int) < v ∨ itoa v ≠ l then -1 else v
  | _ => -1
def optI : Option Nat → Int
  | some n => n
  | none => -1
theorem decP_eq (l : List UInt8) {most : Nat} (hm : most ≤ 999) : decP l most = optI (decR l most) := by
  cases h : decR l most with
  | some n =>
    obtain ⟨rfl, hn⟩ := (decR_iff hm).1 h
    unfold decP
    rw [atoi_dec (by omega)]
    simp only [optI]
    rw [if_neg]
    simp only [itoa_nonneg, ne_eq, not_true_eq_false, or_false]
    omega
  | none =>
    unfold decP
    cases ha : atoiAll l with
    | ok v =>
      simp only [optI]
      split
      · rfl
      · rename_i hc
        simp only [not_or] at hc
        obtain ⟨h1, h2, h3⟩ := hc
        have h3 := Classical.not_not.1 h3
        exfalso
        have : decR l most = some v.toNat := (decR_iff hm).2 ⟨by rw [← itoa_nonneg, Int.toNat_of_nonneg (by omega)]; exact h3.symm, by omega⟩
        rw [h] at this
        cases this
    | _ => rfl

/-! ### Addresses -/
def addrStep (a : Option Nat) (p : List UInt8) : Option Nat := a.bind fun x => (decR p 255).map fun n => x * 256 + n
/-- The program's: four pieces. -/
def addrP (l : List UInt8) : Option Nat := if (pieces 46 l).length = 4 then (pieces 46 l).foldl addrStep (some 0) else none
/-- The document's: piece by piece. -/
def addrR : Nat → Nat → List UInt8 → Option Nat
  | 0, x, l => if 46 ∈ l then none else (decR l 255).map fun n => x * 256 + n
  | k + 1, x, l => if 46 ∈ l then (decR (l.takeWhile (· != 46)) 255).bind fun n => addrR k (x * 256 + n) ((l.dropWhile (· != 46)).drop 1) else none
theorem foldl_none : ∀ l : List (List UInt8), l.foldl addrStep none = none
  | [] => rfl
  | p :: ps => foldl_none ps
theorem takeWhile_piece {c : UInt8} : ∀ {a r : List UInt8}, c ∉ a → (a ++ c :: r).takeWhile (· != c) = a ∧ (a ++ c :: r).dropWhile (· != c) = c :: r
  | [], r, _ => by simp
  | b :: a, r, h => by
    simp only [List.mem_cons, not_or] at h
    obtain ⟨h1, h2⟩ := takeWhile_piece (r := r) h.2
    have hb : (b != c) = true := by simpa using Ne.symm h.1
    rw [List.cons_append, List.takeWhile_cons, List.dropWhile_cons, hb]
    simp only [if_true, h1, h2, and_self]
theorem addr_steps : ∀ (k x : Nat) (l : List UInt8), addrR k x l = if (pieces 46 l).length = k + 1 then (pieces 46 l).foldl addrStep (some x) else none
  | 0, x, l => by
    unfold addrR
    by_cases h : (46 : UInt8) ∈ l
    · obtain ⟨a, r, rfl, ha⟩ := mem_split h
      rw [if_pos h, pieces_some ha, if_neg]
      have := List.length_pos_iff.2 (pieces_ne 46 r)
      simp only [List.length_cons]
      omega
    · rw [if_neg h, pieces_none h]
      rfl
  | k + 1, x, l => by
    unfold addrR
    by_cases h : (46 : UInt8) ∈ l
    · obtain ⟨a, r, rfl, ha⟩ := mem_split h
      obtain ⟨h1, h2⟩ := takeWhile_piece (r := r) ha
      rw [if_pos h, pieces_some ha, h1, h2]
      simp only [List.drop_succ_cons, List.drop_zero, List.length_cons, List.foldl_cons, Nat.add_right_cancel_iff]
      cases hd : decR a 255 with
      | none =>
        have : addrStep (some x) a = none := by simp [addrStep, hd]
        rw [this, foldl_none]
        simp
      | some n =>
        have : addrStep (some x) a = some (x * 256 + n) := by simp [addrStep, hd]
        rw [this, Option.bind_some]
        exact addr_steps k _ r
    · rw [if_neg h, pieces_none h, if_neg]
      simp
theorem addr_same (l : List UInt8) : addrP l = addrR 3 0 l := (addr_steps 3 0 l).symm
theorem dec_le {l : List UInt8} {n : Nat} (h : decR l 255 = some n) : n ≤ 255 := ((decR_iff (by omega)).1 h).2
end Go.Proofs.YtclekhjnnljjlaaGreatDoor
namespace Go.Proofs.YtclekhjnnljjlaaGreatDoor
open Go.Lib

def okB (b : UInt8) : Bool := !(decide (b.toNat < 33) || b.toNat == 127 || b.toNat == 44)
def badR (r : Nat) : Bool := decide (r < 33) || r == 127 || r == 44
/-- Rune by rune. -/
def txr (s : ByteArray) : Nat → Nat → Bool
  | 0, _ => true
  | f + 1, p => if s.size ≤ p then true else if badR (Utf8.decode s p).1 then false else txr s f (p + (Utf8.decode s p).2)
def txrAt (s : ByteArray) (p : Nat) : Bool := txr s s.size p
theorem txr_fuel (s : ByteArray) : ∀ (f g p : Nat), s.size ≤ p + f → s.size ≤ p + g → txr s f p = txr s g p
  | 0, 0, p, _, _ => rfl
  | 0, g + 1, p, h, _ => by unfold txr; rw [if_pos (by omega)]
  | f + 1, 0, p, _, h => by
    conv => lhs; unfold txr
    rw [if_pos (by omega)]; rfl
  | f + 1, g + 1, p, h1, h2 => by
    unfold txr
    split
    · rfl
    · rename_i h
      have d := (dec s p (by omega)).pos
      split
      · rfl
      · exact txr_fuel s f g _ (by omega) (by omega)
theorem txrAt_end (s : ByteArray) (p : Nat) (h : s.size ≤ p) : txrAt s p = true := by
  unfold txrAt
  rw [txr_fuel s s.size 0 p (by omega) (by omega)]; rfl
theorem txrAt_step (s : ByteArray) (p : Nat) (h : p < s.size) : txrAt s p = (!badR (Utf8.decode s p).1 && txrAt s (p + (Utf8.decode s p).2)) := by
  unfold txrAt
  have d := (dec s p h).pos
  rw [txr_fuel s s.size (s.size + 1) p (by omega) (by omega)]
  conv => lhs; unfold txr
  rw [if_neg (by omega)]
  cases badR (Utf8.decode s p).1 <;> simp
theorem all_drop (s : ByteArray) : ∀ (n p : Nat), p + n ≤ s.size → (∀ k, k < n → okB (s.data.toList.drop p)[k]! = true) → (s.data.toList.drop p).all okB = (s.data.toList.drop (p + n)).all okB
  | 0, p, _, _ => rfl
  | n + 1, p, h, hk => by
    have hp : p < s.data.toList.length := by simpa using (show p < s.size by omega)
    have e : s.data.toList.drop p = s.data.toList[p] :: s.data.toList.drop (p + 1) := List.drop_eq_getElem_cons hp
    have h0 := hk 0 (by omega)
    rw [e] at h0
    have ih := all_drop s n (p + 1) (by omega) (fun k hk' => by
      have := hk (k + 1) (by omega)
      rw [e] at this
      simpa using this)
    rw [e, List.all_cons, show p + (n + 1) = p + 1 + n by omega, ← ih]
    have h0' : okB s.data.toList[p] = true := by simpa using h0
    rw [h0', Bool.true_and]
theorem drop_bat (s : ByteArray) (p k : Nat) (h : p + k < s.size) : ((s.data.toList.drop p)[k]!).toNat = bat s (p + k) := by
  rw [bat_get s (p + k) h]
  have h1 : k < (s.data.toList.drop p).length := by simp [Array.length_toList]; have : s.data.size = s.size := rfl; omega
  rw [getElem!_pos _ k h1, List.getElem_drop]
  rfl
/-- In a text that is valid, rune by rune is byte by byte. -/
theorem txr_all (s : ByteArray) : ∀ (m p : Nat), s.size ≤ p + m → p ≤ s.size → validAt s p = true → txrAt s p = (s.data.toList.drop p).all okB
  | m, p, hm, hp, hv => by
    by_cases h : p < s.size
    · have hne : Utf8.decode s p ≠ (65533, 1) := fun e => by rw [validAt_bad s p h e] at hv; cases hv
      have hv' := validAt_good s p h hne
      rw [hv] at hv'
      have d := dec s p h
      have hpos := d.pos
      have hfit := d.fits
      rw [txrAt_step s p h]
      match m, hm with
      | 0, hm => omega
      | m + 1, hm =>
        have ih := txr_all s m (p + (Utf8.decode s p).2) (by omega) hfit hv'.symm
        rw [ih]
        by_cases h1 : (Utf8.decode s p).2 = 1
        · have hr : (Utf8.decode s p).1 ≠ 65533 := fun e => hne (Prod.ext e h1)
          obtain ⟨e1, e2⟩ := d.one h1 hr
          rw [h1, e1]
          have hpl : p < s.data.toList.length := by simpa using h
          rw [List.drop_eq_getElem_cons hpl, List.all_cons]
          congr 1
          have : (s.data.toList[p]).toNat = bat s p := by rw [bat_get s p h]; rfl
          unfold okB badR
          rw [this]
        · obtain ⟨g1, g2⟩ := d.more h1
          have hb : badR (Utf8.decode s p).1 = false := by
            unfold badR
            simp only [Bool.or_eq_false_iff, decide_eq_false_iff_not, beq_eq_false_iff_ne]
            omega
          rw [hb, Bool.not_false, Bool.true_and]
          refine (all_drop s _ p hfit fun k hk => ?_).symm
          have hge : 128 ≤ bat s (p + k) := by
            by_cases h0 : k = 0
            · subst h0; exact g2
            · exact d.tail k (by omega) hk
          unfold okB
          rw [drop_bat s p k (by omega)]
          simp only [Bool.not_eq_true', Bool.or_eq_false_iff, decide_eq_false_iff_not, beq_eq_false_iff_ne]
          omega
    · rw [txrAt_end s p (by omega), List.drop_eq_nil_of_le (by simpa using (show s.size ≤ p by omega))]
      rfl
/-- May it be a scheme, an id? -/
def textOk (s : ByteArray) : Bool := decide (1 ≤ s.size) && decide (s.size ≤ 256) && validD s.data.toList && s.data.toList.all okB
theorem textOk_runes (s : ByteArray) : textOk s = (decide (1 ≤ s.size) && decide (s.size ≤ 256) && validD s.data.toList && txrAt s 0) := by
  unfold textOk
  cases hv : validD s.data.toList with
  | false => simp
  | true =>
    have := txr_all s s.size 0 (by omega) (by omega) (by rw [validAt_zero]; exact hv)
    rw [this]
    rfl
/-- A session's identity: scheme, id. -/
def colon (s : ByteArray) : Bool := decide ((58 : UInt8) ∈ s.data.toList) && !(s.data.toList.head? == some 58)
def digestT : List UInt8 := [100, 105, 103, 101, 115, 116]
def ipT : List UInt8 := [105, 112]
def superT : List UInt8 := [115, 117, 112, 101, 114]
def identity (sc id : ByteArray) : Bool :=
  if sc.data.toList = digestT then textOk id && colon id
  else if sc.data.toList = ipT then (addrP id.data.toList).isSome
  else if sc.data.toList = superT then textOk id
  else false
theorem ascii_valid (l : List UInt8) (h : ∀ b ∈ l, b.toNat < 128) : validD l = true := by
  rw [validD_ascii l.length l (fun b hb => h b (by simpa using hb)), List.drop_length]
  rfl
theorem dec_len {l : List UInt8} {n : Nat} (h : decR l 255 = some n) : 1 ≤ l.length ∧ l.length ≤ 3 ∧ ∀ b ∈ l, 48 ≤ b.toNat ∧ b.toNat ≤ 57 := by
  obtain ⟨rfl, hn⟩ := (decR_iff (by omega)).1 h
  have h1 := decDigits_length n
  have h2 := nDigits_pos n
  have h3 := nDigits_le3 (n := n) (by omega)
  exact ⟨by omega, by omega, dec_all n⟩
/-- An address is a text: the program asks first whether it is one. -/
theorem addr_len : ∀ (k x : Nat) (l : List UInt8), (addrR k x l).isSome = true → 1 ≤ l.length ∧ l.length ≤ 4 * k + 3 ∧ ∀ b ∈ l, b.toNat = 46 ∨ (48 ≤ b.toNat ∧ b.toNat ≤ 57)
  | 0, x, l, h => by
    unfold addrR at h
    split at h
    · cases h
    · cases hd : decR l 255 with
      | none => rw [hd] at h; cases h
      | some n =>
        obtain ⟨h1, h2, h3⟩ := dec_len hd
        exact ⟨h1, by omega, fun b hb => Or.inr (h3 b hb)⟩
  | k + 1, x, l, h => by
    unfold addrR at h
    split at h
    · rename_i hm
      obtain ⟨a, r, rfl, ha⟩ := mem_split hm
      obtain ⟨e1, e2⟩ := takeWhile_piece (r := r) ha
      rw [e1, e2] at h
      simp only [List.drop_succ_cons, List.drop_zero] at h
      cases hd : decR a 255 with
      | none => rw [hd] at h; cases h
      | some n =>
        rw [hd, Option.bind_some] at h
        obtain ⟨h1, h2, h3⟩ := dec_len hd
        obtain ⟨g1, g2, g3⟩ := addr_len k _ r h
        refine ⟨by simp; omega, by simp only [List.length_append, List.length_cons]; omega, fun b hb => ?_⟩
        simp only [List.mem_append, List.mem_cons] at hb
        rcases hb with hb | rfl | hb
        · exact Or.inr (h3 b hb)
        · exact Or.inl rfl
        · exact g3 b hb
    · cases h
theorem addr_text (s : ByteArray) (h : (addrP s.data.toList).isSome = true) : textOk s = true := by
  rw [addr_same] at h
  obtain ⟨h1, h2, h3⟩ := addr_len 3 0 _ h
  have e : s.data.toList.length = s.size := Array.length_toList
  unfold textOk
  rw [ascii_valid _ (fun b hb => by rcases h3 b hb with h | h <;> omega)]
  simp only [Bool.and_eq_true, decide_eq_true_eq, List.all_eq_true, and_true]
  refine ⟨⟨by omega, by omega⟩, fun b hb => ?_⟩
  unfold okB
  simp only [Bool.not_eq_true', Bool.or_eq_false_iff, decide_eq_false_iff_not, beq_eq_false_iff_ne]
  rcases h3 b hb with h | h <;> omega
theorem colon_index (s : ByteArray) : colon s = decide (0 < index s.data.toList [58]) := by
  unfold colon
  by_cases h : (58 : UInt8) ∈ s.data.toList
  · obtain ⟨a, r, e, ha⟩ := mem_split h
    rw [e, index_piece ha]
    cases a with
    | nil => simp
    | cons x t =>
      simp only [List.mem_cons, not_or] at ha
      simp [Ne.symm ha.1]
  · rw [index_none h]
    simp [h]
theorem colon_cut (s : ByteArray) : colon s = (decide (0 < (s.data.toList.takeWhile (· != 58)).length) && decide ((s.data.toList.takeWhile (· != 58)).length < s.data.toList.length)) := by
  unfold colon
  by_cases h : (58 : UInt8) ∈ s.data.toList
  · obtain ⟨a, r, e, ha⟩ := mem_split h
    rw [e, (takeWhile_piece ha).1]
    cases a with
    | nil => simp
    | cons x t =>
      simp only [List.mem_cons, not_or] at ha
      simp [Ne.symm ha.1]
  · have : s.data.toList.takeWhile (· != 58) = s.data.toList := by
      have : ∀ l : List UInt8, (58 : UInt8) ∉ l → l.takeWhile (· != 58) = l := by
        intro l
        induction l with
        | nil => intro _; rfl
        | cons b t ih =>
          intro hl
          simp only [List.mem_cons, not_or] at hl
          have hb : (b != 58) = true := by simpa using Ne.symm hl.1
          rw [List.takeWhile_cons, hb]
          simp only [if_true, ih hl.2]
      exact this _ h
    rw [this]
    simp [h]
/-- As the program asks. -/
theorem identity_prog (sc id : ByteArray) : identity sc id = (textOk sc && textOk id && (if sc.data.toList = digestT then colon id else if sc.data.toList = ipT then (addrP id.data.toList).isSome else decide (sc.data.toList = superT))) := by
  have hs : ∀ (t : List UInt8), (decide (1 ≤ t.length) && decide (t.length ≤ 256) && validD t && t.all okB) = true → sc.data.toList = t → textOk sc = true := fun t ht e => by
    unfold textOk
    rw [show sc.size = sc.data.toList.length from (Array.length_toList).symm, e]
    exact ht
  unfold identity
  by_cases h1 : sc.data.toList = digestT
  · rw [if_pos h1, if_pos h1, hs _ (by decide) h1, Bool.true_and]
  · rw [if_neg h1, if_neg h1]
    by_cases h2 : sc.data.toList = ipT
    · rw [if_pos h2, if_pos h2, hs _ (by decide) h2, Bool.true_and]
      cases h : (addrP id.data.toList).isSome with
      | false => simp
      | true => rw [addr_text id h]; rfl
    · rw [if_neg h2, if_neg h2]
      by_cases h3 : sc.data.toList = superT
      · rw [if_pos h3, hs _ (by decide) h3, Bool.true_and, decide_eq_true h3, Bool.and_true]
      · rw [if_neg h3, decide_eq_false h3, Bool.and_false]
end Go.Proofs.YtclekhjnnljjlaaGreatDoor
namespace Go.Proofs.YtclekhjnnljjlaaGreatDoor
open Go.RowKit
set_option maxHeartbeats 1000000
set_option maxRecDepth 100000

theorem text6_any (s : ByteArray) (w : World) (hs : s.size ≤ 9223372036854775800) (hT : Tabs w) :
    Calls Tryz.prog 109 #[.string s] w fun e w' => e = .returned (.bool (textOk s)) ∧ Below w.heap.size w w' := by
  have HE := Lib.hid (textOk_runes s)
  have he := isEmpty_size s
  by_cases h0 : s.size = 0
  · have hv : Hid (textOk s = false) := by unfold Hid; rw [HE.out]; simp [h0]
    have he' : s.toList.isEmpty = true := by rw [he]; simp [h0]
    clear he h0 HE
    go_enter Tryz.func109, Tryz.ntmps109
    go_wp2
    go_ret
    exact ⟨by rw [hv.out]; rfl, Below.refl _ _⟩
  have he' : s.toList.isEmpty = false := by rw [he]; simp [h0]
  clear he
  by_cases h1 : 256 < s.size
  · have hv : Hid (textOk s = false) := by unfold Hid; rw [HE.out]; simp; omega
    clear HE
    go_enter Tryz.func109, Tryz.ntmps109
    go_wp2
    go_ret
    exact ⟨by rw [hv.out]; rfl, Below.refl _ _⟩
  have C1 := validS_any s w (by omega) hT
  by_cases h2 : Lib.validD s.data.toList = false
  · have hv : Hid (textOk s = false) := by unfold Hid; rw [HE.out]; simp [h2]
    rw [h2] at C1
    clear HE h2
    go_enter Tryz.func109, Tryz.ntmps109
    go_wp2_with fail
    refine C1.mono ?_
    rintro e w1 ⟨rfl, hB⟩
    go_wp2
    go_ret
    exact ⟨by rw [hv.out]; rfl, hB⟩
  have h2 : Lib.validD s.data.toList = true := by simpa using h2
  have hv : Hid (textOk s = txrAt s 0) := by
    unfold Hid
    have a1 : decide (1 ≤ s.size) = true := decide_eq_true (by omega)
    have a2 : decide (s.size ≤ 256) = true := decide_eq_true (by omega)
    rw [HE.out, h2, a1, a2]; simp
  rw [h2] at C1
  clear HE h2
  go_enter Tryz.func109, Tryz.ntmps109
  go_wp2_with fail
  refine C1.mono ?_
  rintro e w1 ⟨rfl, hB⟩
  go_wp2
  go_loopw [4] (fun _ wr => ∃ pos : Nat, wr = w1.iter s pos ∧ pos ≤ s.size ∧ Hid (txrAt s pos = txrAt s 0)) (fun _ wr => s.size - wr.iterPos w1.heap.size)
  case atStart => exact ⟨0, rfl, Nat.zero_le _, rfl⟩
  case round =>
    obtain ⟨pos, rfl, hpos, H⟩ := hrel
    by_cases hlt : pos < s.size
    · have hs' := txrAt_step s pos hlt
      have d := dec s pos hlt
      have hd1 := d.pos
      have hd2 := d.fits
      clear d
      have hn := run_next_any (P := Tryz.prog) w1 s pos
      by_cases hbad : badR (Utf8.decode s pos).1 = true
      · have H2 : Hid (textOk s = false) := by
          unfold Hid
          rw [hv.out, ← H.out, hs', hbad]; rfl
        have hc : ((Utf8.decode s pos).1 : Int) < 33 ∨ (¬ ((Utf8.decode s pos).1 : Int) < 33 ∧ (Utf8.decode s pos).1 = 127) ∨ (¬ ((Utf8.decode s pos).1 : Int) < 33 ∧ (Utf8.decode s pos).1 ≠ 127 ∧ (Utf8.decode s pos).1 = 44) := by
          unfold badR at hbad
          simp only [Bool.or_eq_true, decide_eq_true_eq, beq_iff_eq] at hbad
          omega
        have HB : Below w.heap.size w ((w1.iter s (pos + (Utf8.decode s pos).2))) := below_iter hB hB.size s _
        clear hs' H hbad
        generalize (Utf8.decode s pos).1 = r at hn hc
        generalize (Utf8.decode s pos).2 = m at hn hd1 hd2 HB
        rcases hc with hc | ⟨hc1, rfl⟩ | ⟨hc1, hc2, rfl⟩
        · go_wp2
          go_ret
          exact ⟨by rw [H2.out]; rfl, HB⟩
        · go_wp2
          go_ret
          exact ⟨by rw [H2.out]; rfl, HB⟩
        · go_wp2
          go_ret
          exact ⟨by rw [H2.out]; rfl, HB⟩
      · have hb : badR (Utf8.decode s pos).1 = false := by simpa using hbad
        have H2 : Hid (txrAt s (pos + (Utf8.decode s pos).2) = txrAt s 0) := by
          unfold Hid
          rw [← H.out, hs', hb]; rfl
        have hc : 33 ≤ ((Utf8.decode s pos).1 : Int) ∧ (((Utf8.decode s pos).1 : Int) == 127) = false ∧ (((Utf8.decode s pos).1 : Int) == 44) = false := by
          unfold badR at hb
          simp only [Bool.or_eq_false_iff, decide_eq_false_iff_not, beq_eq_false_iff_ne] at hb
          simp only [beq_eq_false_iff_ne]
          omega
        clear hs' H hbad hb
        generalize (Utf8.decode s pos).1 = r at hn hc
        generalize (Utf8.decode s pos).2 = m at hn hd1 hd2 H2
        obtain ⟨hc1, hc2, hc3⟩ := hc
        go_wp2
        go_roundw
        case rel => exact ⟨_, rfl, hd2, H2⟩
        case measure => simp; omega
    · have H2 : Hid (textOk s = true) := by
        unfold Hid
        rw [hv.out, ← H.out]; exact txrAt_end s pos (by omega)
      have HB : Below w.heap.size w (w1.iter s pos) := below_iter hB hB.size s _
      have hn := run_next_end (P := Tryz.prog) w1 s pos
      clear H
      go_wp2
      go_ret
      exact ⟨by rw [H2.out]; rfl, HB⟩
/-- A name ahead of a colon. -/
theorem digest6_any (s : ByteArray) (w : World) : Calls Tryz.prog 110 #[.string s] w fun e w' => e = .returned (.bool (colon s)) ∧ w' = w := by
  have C1 := Tryz.strings_Index_one s 58 w
  have H : Hid (colon s = decide (0 < Lib.indexByte s.data.toList 58)) := by unfold Hid; rw [colon_index, Lib.index_one]
  generalize Lib.indexByte s.data.toList 58 = k at C1 H
  go_enter Tryz.func110, Tryz.ntmps110
  go_wp2_with fail
  refine C1.mono ?_
  rintro e w1 ⟨rfl, rfl⟩
  go_wp2
  all_goals
    go_ret
    exact ⟨by rw [H.out]; go_light; simp_all, rfl⟩
end Go.Proofs.YtclekhjnnljjlaaGreatDoor
namespace Go.Proofs.YtclekhjnnljjlaaGreatDoor
open Go.RowKit
variable {P : Program} {ops : Array Oper} {Q : Exit → Act → World → Prop}

/-- All that was there is as it was; the rest is new. -/
def Ext (w w' : World) : Prop := Below w.heap.size w w'
theorem Ext.refl (w : World) : Ext w w := Below.refl _ _
theorem Ext.trans {a b c : World} (h : Ext a b) (k : Ext b c) : Ext a c := Below.trans h (Below.mono k (Below.size h))
theorem Ext.trans' {a b c : World} (h : Ext a b) (k : Below a.heap.size b c) : Ext a c := Below.trans h k
theorem Ext.drew (w : World) : Ext w w.drew := (Below.refl _ w).drew
theorem Ext.alloc (w : World) (o : Obj) : Ext w (w.alloc o) := (Below.refl _ w).alloc (Nat.le_refl _) o

/-- How many are not listed yet. -/
def unlisted (l : Array Bool) : Nat := l.toList.count false
theorem count_set_list : ∀ (l : List Bool) (i : Nat), l[i]? = some false → (l.set i true).count false + 1 = l.count false
  | [], i, h => by simp at h
  | b :: l, 0, h => by
    simp at h
    subst h
    simp
  | b :: l, i + 1, h => by
    have := count_set_list l i (by simpa using h)
    simp only [List.set_cons_succ, List.count_cons]
    omega
theorem unlisted_set (l : Array Bool) (i : Nat) (h : i < l.size) (hf : l[i] = false) : unlisted (l.setIfInBounds i true) + 1 = unlisted l := by
  unfold unlisted
  rw [Array.toList_setIfInBounds]
  exact count_set_list l.toList i (by simp [h, hf])

/-- One operation, whatever the order: no way out but its own end. -/
def wpOpP (P : Program) (ops : Array Oper) (Q : Exit → Act → World → Prop) (i : Nat) (K : Act → World → Prop) (a : Act) (w : World) : Prop :=
  match ops[i]? with
  | none => K a w
  | some o => if Region.wanted o (yielded ops a.tmps) then o.wp P a w K Q else K (a.put o.dst undef) w
theorem wpOpP_mono {i : Nat} {a : Act} {w : World} {K K' : Act → World → Prop} (h : ∀ a w, K a w → K' a w) (hh : wpOpP P ops Q i K a w) : wpOpP P ops Q i K' a w := by
  unfold wpOpP at *
  cases ho : ops[i]? with
  | none => rw [ho] at hh; exact h _ _ hh
  | some o =>
    rw [ho] at hh
    simp only [] at hh ⊢
    by_cases hw : Region.wanted o (yielded ops a.tmps) = true
    · rw [if_pos hw] at hh ⊢
      exact Oper.wp_mono h hh
    · rw [if_neg hw] at hh ⊢
      exact h _ _ hh
def wpAnyP (P : Program) (md : Region.Mode) (ops : Array Oper) (Q : Exit → Act → World → Prop) : Nat → Array Bool → Act → World → Prop
  | 0, l, a, w => Region.ready md ops l = [] ∧ Q .normal a w
  | fuel + 1, l, a, w => (Region.ready md ops l = [] → Q .normal a w) ∧ ∀ i ∈ Region.ready md ops l, wpOpP P ops Q i (wpAnyP P md ops Q fuel (l.setIfInBounds i true)) a w
theorem wpOp_of_P {i : Nat} {a : Act} {w : World} {K K' : Act → World → Prop} (h : ∀ a w, K a w → K' a w) (hh : wpOpP P ops Q i K a w) : wpOp P ops Q i K' a w := by
  have hh := wpOpP_mono h hh
  unfold wpOpP at hh
  unfold wpOp
  cases ho : ops[i]? with
  | none => rw [ho] at hh; exact hh
  | some o =>
    rw [ho] at hh
    simp only [] at hh ⊢
    by_cases hw : Region.wanted o (yielded ops a.tmps) = true
    · rw [if_pos hw] at hh ⊢
      exact .inl hh
    · rw [if_neg hw] at hh ⊢
      exact hh
theorem wpAny_of_P {md : Region.Mode} : ∀ (fuel : Nat) (l : Array Bool) (a : Act) (w : World), wpAnyP P md ops Q fuel l a w → wpAny P md ops Q fuel l a w
  | 0, _, _, _, h => h
  | fuel + 1, _, _, _, h => ⟨h.1, fun i hi => wpOp_of_P (wpAny_of_P fuel _) (h.2 i hi)⟩
/-- A region that draws its order, in any of its orders. -/
def RegionP (P : Program) (ops : Array Oper) (Q : Exit → Act → World → Prop) (a : Act) (w : World) : Prop :=
  wpAnyP P .any ops Q ops.size (Array.replicate ops.size false) a { w with drawn := w.drawn + 1 }
theorem wp_region_P {id : Nat} {a : Act} {w : World} (hm : P.follows .mixedOrders = true) (h : RegionP P ops Q a w) : (Code.region id ops true).wp P Q a w := wp_region_any hm (wpAny_of_P _ _ _ _ h)

theorem wpAny_inv {md : Region.Mode} (J : Array Bool → Act → World → Prop)
    (hsize : ∀ l a w, J l a w → l.size = ops.size)
    (hstep : ∀ l a w i, J l a w → i ∈ Region.ready md ops l → wpOpP P ops Q i (J (l.setIfInBounds i true)) a w)
    (hend : ∀ l a w, J l a w → Region.ready md ops l = [] → Q .normal a w) :
    ∀ (fuel : Nat) (l : Array Bool) (a : Act) (w : World), J l a w → unlisted l ≤ fuel → wpAnyP P md ops Q fuel l a w
  | 0, l, a, w, hJ, hf => by
    have hr : Region.ready md ops l = [] := by
      rw [List.eq_nil_iff_forall_not_mem]
      intro i hi
      unfold Region.ready at hi
      simp only [List.mem_filter, List.mem_range, Bool.and_eq_true, Bool.not_eq_true'] at hi
      have hs := hsize l a w hJ
      have hlt : i < l.size := by omega
      have h1 : l[i] = false := by
        have := hi.2.1
        rw [Array.getD_eq_getD_getElem?, Array.getElem?_eq_getElem hlt] at this
        simpa using this
      have : 0 < unlisted l := List.count_pos_iff.2 (by rw [← h1]; simp)
      omega
    exact ⟨hr, hend l a w hJ hr⟩
  | fuel + 1, l, a, w, hJ, hf => by
    refine ⟨fun hr => hend l a w hJ hr, fun i hi => ?_⟩
    have hs := hsize l a w hJ
    have hi' := hi
    unfold Region.ready at hi'
    simp only [List.mem_filter, List.mem_range, Bool.and_eq_true, Bool.not_eq_true'] at hi'
    have hlt : i < l.size := by omega
    have h1 : l[i] = false := by
      have := hi'.2.1
      rw [Array.getD_eq_getD_getElem?, Array.getElem?_eq_getElem hlt] at this
      simpa using this
    have hu := unlisted_set l i hlt h1
    exact wpOpP_mono (fun a' w' h => wpAny_inv J hsize hstep hend fuel _ a' w' h (by omega)) (hstep l a w i hJ hi)

/-- What an operation has left in its slot. -/
def valOf (o : Oper) (a : Act) : Value := match o.dst with | some d => a.tmps.getD d undef | none => undef

/-- The slots that no operation writes are as they were. -/
def Framed (ops : Array Oper) (a0 a : Act) : Prop := a.defers = a0.defers ∧ a.tmps.size = a0.tmps.size ∧ ∀ t, (∀ o ∈ ops.toList, o.dst ≠ some t) → a.tmps.getD t undef = a0.tmps.getD t undef

/-- What those ahead of an operation have left. -/
def Ahead (ops : Array Oper) (Φ : Nat → Value → World → Prop) (o : Oper) (a : Act) (w : World) : Prop :=
  ∀ e ∈ o.after.toList, Region.binds .any e = true → ∀ p, ops[e.on]? = some p → Φ e.on (valOf p a) w

/-- An operation's duty. -/
def Duty (P : Program) (ops : Array Oper) (Q : Exit → Act → World → Prop) (Φ : Nat → Value → World → Prop) (a0 : Act) (w0 : World) (i : Nat) (o : Oper) : Prop :=
  ∀ a w, Ext w0 w → Framed ops a0 a → Ahead ops Φ o a w →
    if Region.wanted o (yielded ops a.tmps) then o.wp P a w (fun a' w' => ∃ v, a' = a.put o.dst v ∧ Φ i v w' ∧ Ext w w') Q else Φ i undef w

def Duties (P : Program) (ops : Array Oper) (Q : Exit → Act → World → Prop) (Φ : Nat → Value → World → Prop) (a0 : Act) (w0 : World) : Nat → List Oper → Prop
  | _, [] => True
  | i, o :: l => Duty P ops Q Φ a0 w0 i o ∧ Duties P ops Q Φ a0 w0 (i + 1) l

theorem Duties.at {Φ : Nat → Value → World → Prop} {a0 : Act} {w0 : World} : ∀ {l : List Oper} {k : Nat}, Duties P ops Q Φ a0 w0 k l → ∀ i o, l[i]? = some o → Duty P ops Q Φ a0 w0 (k + i) o
  | [], _, _, i, o, h => by simp at h
  | p :: l, k, hd, 0, o, h => by simp at h; subst h; exact hd.1
  | p :: l, k, hd, i + 1, o, h => by
    have := Duties.at (k := k + 1) hd.2 i o (by simpa using h)
    rwa [show k + 1 + i = k + (i + 1) from by omega] at this

/-- No slot is written twice. -/
def dstsOk (ops : Array Oper) : Bool := decide ((ops.toList.filterMap (·.dst)).Nodup)

theorem dst_inj : ∀ (l : List Oper), (l.filterMap (·.dst)).Nodup → ∀ (i j : Nat) (o p : Oper) (d : Tmp), l[i]? = some o → l[j]? = some p → o.dst = some d → p.dst = some d → i = j
  | [], _, i, j, o, p, d, h, _, _, _ => by simp at h
  | x :: l, hn, i, j, o, p, d, hi, hj, ho, hp => by
    have hrest : (l.filterMap (·.dst)).Nodup := by
      cases hx : x.dst with
      | none => simpa [List.filterMap_cons, hx] using hn
      | some y => rw [List.filterMap_cons_some hx] at hn; exact (List.nodup_cons.1 hn).2
    cases i with
    | zero =>
      cases j with
      | zero => rfl
      | succ j =>
        simp at hi hj
        subst hi
        rw [List.filterMap_cons_some ho] at hn
        exact absurd (List.mem_filterMap.2 ⟨p, List.mem_of_getElem? hj, hp⟩) (List.nodup_cons.1 hn).1
    | succ i =>
      cases j with
      | zero =>
        simp at hi hj
        subst hj
        rw [List.filterMap_cons_some hp] at hn
        exact absurd (List.mem_filterMap.2 ⟨o, List.mem_of_getElem? hi, ho⟩) (List.nodup_cons.1 hn).1
      | succ j =>
        simp at hi hj
        rw [dst_inj l hrest i j o p d hi hj ho hp]

theorem valOf_put_other {o p : Oper} {a : Act} {v : Value} (h : ∀ d, p.dst = some d → o.dst ≠ some d) : valOf p (a.put o.dst v) = valOf p a := by
  unfold valOf Act.put
  cases hp : p.dst with
  | none => rfl
  | some d =>
    cases ho : o.dst with
    | none => rfl
    | some d' =>
      have hne : d' ≠ d := fun e => h d hp (by rw [ho, e])
      simp [Array.getD_eq_getD_getElem?, hne]

theorem valOf_put_same {o : Oper} {a : Act} {v : Value} (h : ∀ d, o.dst = some d → d < a.tmps.size) (hn : o.dst = none → v = undef) : valOf o (a.put o.dst v) = v := by
  unfold valOf Act.put
  cases ho : o.dst with
  | none => exact (hn ho).symm
  | some d => simp [Array.getD_eq_getD_getElem?, h d ho]

end Go.Proofs.YtclekhjnnljjlaaGreatDoor
