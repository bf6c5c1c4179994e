/- The walk of stat.Right. -/
import Derived.Test.YtfgjbcejpjcpeaaDoorRight
namespace Go.Proofs.YtfgjbcejpjcpeaaDoor
open Go.RowKit
set_option maxHeartbeats 1000000
set_option maxRecDepth 100000

/-- A block of a node's cells. -/
def Box (w : World) (b : Nat) (cs : Array Value) : Prop := ∀ j, w.cell? ⟨b, j, none⟩ = cs[j]?
theorem Box.alloc (w : World) (cs : Array Value) (e : TypeId) : Box (w.alloc (.cells cs e)) w.heap.size cs := fun j => by rw [World.cell?_alloc_at _ _ _ _ rfl]
theorem Box.below {B b : Nat} {w w' : World} {cs : Array Value} (h : Box w b cs) (hb : Below B w w') (hB : b < B) : Box w' b cs := fun j => (hb.cell (p := ⟨b, j, none⟩) hB).trans (h j)

theorem enters_f {f : FuncId} {fn : Func} {c : Code} (hf : Tryd.prog.funcs[f]? = some fn) (hname : (fn.name == "runtime.NumGoroutine") = false) (hb : fn.body = some c) : ∀ args w, (callFunc f args).run Tryd.prog w = .ok (.enter f args) w := by
  intro args w
  have h1 : fn.name ≠ "runtime.NumGoroutine" := by simpa using hname
  simp [callFunc, hf, h1, hb, mark]

theorem bigs_any (a : Option Addr) (c : Nat) (l : List Ac) (w : World) (hc : Cells w.heap.size w a (acCs l)) (hm : l.length ≤ 9223372036854775807) (ht : ∀ x ∈ l, x.scheme.size ≤ 9223372036854775800 ∧ x.id.size ≤ 9223372036854775800) :
    Calls Tryd.prog 61 #[.slice a l.length c, .func (.func 62) #[] #[]] w fun e w' => e = .returned (.bool (l.any bigAc)) ∧ Below w.heap.size w w' :=
  contains_any 62 bigAc a _ c l w hc rfl hm (enters_f Tryd.func62 (by kernel_rfl) rfl) (fun x hx w' _ => big_any x w' (by have := ht x hx; omega) (by have := ht x hx; omega))

theorem bads_any (a : Option Addr) (c : Nat) (l : List Ac) (w : World) (hc : Cells w.heap.size w a (acCs l)) (hm : l.length ≤ 9223372036854775807) (ht : ∀ x ∈ l, x.scheme.size ≤ 9223372036854775800 ∧ x.id.size ≤ 9223372036854775800) (hT : Tabs w) :
    Calls Tryd.prog 61 #[.slice a l.length c, .func (.func 63) #[] #[]] w fun e w' => e = .returned (.bool (l.any badAc)) ∧ Below w.heap.size w w' :=
  contains_any 63 badAc a _ c l w hc rfl hm (enters_f Tryd.func63 (by kernel_rfl) rfl) (fun x hx w' hb => bad_any x w' (by have := ht x hx; omega) (by have := ht x hx; omega) (hT.below hb hT.size))

def RightOut (r : Int) (w : World) (e : Ending) (w' : World) : Prop := e = .returned (.int .i64 r) ∧ Below w.heap.size w w'

theorem right_any (n : Nd) (da aa : Option Addr) (dc ac : Nat) (w : World) (hf : Fit n) (hT : Tabs w) (hA : Cells w.heap.size w aa (acCs n.acl)) :
    Calls Tryd.prog 42 #[.agg (ndC n (.slice da n.data.length dc) (.slice aa n.acl.length ac))] w (RightOut (rightN n) w) := by
  have hfp := hf.path
  have hfd := hf.data
  have hfa := hf.acl
  have HT := Lib.hid hf.texts
  have hbox := Box.alloc w (ndC n (.slice da n.data.length dc) (.slice aa n.acl.length ac)) 37
  have hb0 : Below w.heap.size w (w.alloc (.cells (ndC n (.slice da n.data.length dc) (.slice aa n.acl.length ac)) 37)) := (Below.refl _ _).alloc (Nat.le_refl _) _
  unfold ndC at hbox hb0 ⊢
  by_cases h1 : vpath n.path = true
  · have C1 := fun w => valid_any n.path w (by omega)
    simp only [h1] at C1
    have C1 := Lib.hid C1
    go_enter Tryd.func42, Tryd.ntmps42
    go_wp2_with fail
    refine (C1.out _).mono ?_
    rintro e w1 ⟨rfl, hb1⟩
    have hx1 := hbox.below hb1 (by simp)
    have hb : Below w.heap.size w w1 := hb0.trans (hb1.mono (by simp))
    clear hbox hb1 hb0
    unfold Box at hx1
    by_cases h2 : 1048575 < (n.data.length : Int)
    · have R : Hid (rightN n = 3) := by unfold Hid rightN; simp [h1]; omega
      clear h1 C1
      go_wp2
      go_ret
      exact ⟨ret_int R.out.symm, hb⟩
    by_cases h3 : 16 < (n.acl.length : Int)
    · have R : Hid (rightN n = 3) := by unfold Hid rightN; simp [h1]; omega
      have h2' : decide (1048575 < (n.data.length : Int)) = false := by simpa using h2
      clear h1 C1
      go_wp2
      go_ret
      exact ⟨ret_int R.out.symm, hb⟩
    have h2' : decide (1048575 < (n.data.length : Int)) = false := by simpa using h2
    have h3' : decide (16 < (n.acl.length : Int)) = false := by simpa using h3
    have hA1 := hA.below hb
    have C2 := bigs_any aa ac n.acl w1 (hA1.mono hb.size) (by omega) HT.out
    by_cases h4 : n.acl.any bigAc = true
    · have R : Hid (rightN n = 3) := by unfold Hid rightN; simp only [h1, h4]; simp
      rw [h4] at C2
      have C2 := Lib.hid C2
      clear h1 h4 C1
      go_wp2_with fail
      refine C2.out.mono ?_
      rintro e w2 ⟨rfl, hb2⟩
      have hbb := hb.trans (hb2.mono hb.size)
      clear C2 hb hb2 hx1
      go_wp2
      go_ret
      exact ⟨ret_int R.out.symm, hbb⟩
    have h4' : n.acl.any bigAc = false := by simpa using h4
    have hT1 := hT.below hb hT.size
    rw [h4'] at C2
    have C2 := Lib.hid C2
    have hr4 : rightN n = if n.acl.any badAc then 1 else if badQ n then 1 else 0 := by
      unfold rightN
      rw [if_neg (by simp [h1]), if_neg (by rw [h4']; simp; omega)]
    have R4 := Lib.hid hr4
    clear h1 h4 h4' C1 hr4
    go_wp2_with fail
    refine C2.out.mono ?_
    rintro e w2 ⟨rfl, hb2⟩
    have hbb := hb.trans (hb2.mono hb.size)
    have hsz1 : w.heap.size < w1.heap.size := by
      have := block_lt_of_cell (show w1.cell? ⟨w.heap.size, 0, none⟩ = _ from hx1 0)
      exact this
    have hx2 := Box.below (b := w.heap.size) hx1 hb2 hsz1
    have hA2 := hA1.below (hb2.mono hb.size)
    have hT2 := hT1.below hb2 hT1.size
    have C3 := bads_any aa ac n.acl w2 (hA2.mono hbb.size) (by omega) HT.out hT2
    have hsz2 : w.heap.size < w2.heap.size := by have := hb2.size; omega
    clear C2 hb hb2 hx1 hA1 hA2 hT1
    unfold Box at hx2
    by_cases h5 : n.acl.any badAc = true
    · rw [h5] at C3
      have C3 := Lib.hid C3
      have R : Hid (rightN n = 1) := by unfold Hid; rw [R4.out, h5]; rfl
      clear h5 R4
      go_wp2_with fail
      refine C3.out.mono ?_
      rintro e w3 ⟨rfl, hb3⟩
      have hb4 := hbb.trans (hb3.mono hbb.size)
      clear C3 hbb hb3 hx2
      go_wp2
      go_ret
      exact ⟨ret_int R.out.symm, hb4⟩
    have h5' : n.acl.any badAc = false := by simpa using h5
    rw [h5'] at C3
    have C3 := Lib.hid C3
    have R : Hid (rightN n = if badQ n then 1 else 0) := by unfold Hid; rw [R4.out, h5']; rfl
    clear h5 h5' R4
    go_wp2_with fail
    refine C3.out.mono ?_
    rintro e w3 ⟨rfl, hb3⟩
    have hb4 := hbb.trans (hb3.mono hbb.size)
    have hx3 := Box.below (b := w.heap.size) hx2 hb3 hsz2
    have hsz3 : w.heap.size < w3.heap.size := by have := hb3.size; omega
    have hfin : ∀ o, Below w.heap.size w (w3.alloc o) := fun o => hb4.alloc (by omega) o
    have HFIN := Lib.hid hfin
    clear C3 hbb hb3 hx2 hfin
    unfold Box at hx3
    have HR : ∀ b : Bool, badQ n = b → rightN n = if b then 1 else 0 := fun b hbq => by rw [R.out, hbq]
    have HR := Lib.hid HR
    cases hh : n.has
    · have hq0 : badQ n = (n.count != 0 || n.bytes != 0) := by unfold badQ; rw [hh]; simp
      rw [hh] at hx3
      by_cases hc0 : n.count = 0
      · by_cases hb0 : n.bytes = 0
        · have R0 := Lib.hid (HR.out false (by rw [hq0, hc0, hb0]; rfl))
          have e1 : (n.count != 0) = false := by simp [hc0]
          have e2 : (n.bytes != 0) = false := by simp [hb0]
          clear hc0 hb0 hq0 hh
          go_wp2
          go_ret
          exact ⟨ret_int R0.out.symm, HFIN.out _⟩
        · have R0 := Lib.hid (HR.out true (by rw [hq0]; simp [hb0]))
          have e1 : (n.count != 0) = false := by simp [hc0]
          have e2 : (n.bytes != 0) = true := by simp [hb0]
          clear hc0 hb0 hq0 hh
          go_wp2
          go_ret
          exact ⟨ret_int R0.out.symm, HFIN.out _⟩
      · have R0 := Lib.hid (HR.out true (by rw [hq0]; simp [hc0]))
        have e1 : (n.count != 0) = true := by simp [hc0]
        clear hc0 hq0 hh
        go_wp2
        go_ret
        exact ⟨ret_int R0.out.symm, HFIN.out _⟩
    · have hq0 : badQ n = (decide (n.count < -1) || decide (n.bytes < -1)) := by unfold badQ; rw [hh]; simp
      rw [hh] at hx3
      by_cases hc0 : n.count < -1
      · have R0 := Lib.hid (HR.out true (by rw [hq0]; simp [hc0]))
        clear hq0 hh
        go_wp2
        go_ret
        exact ⟨ret_int R0.out.symm, HFIN.out _⟩
      · by_cases hb0 : n.bytes < -1
        · have R0 := Lib.hid (HR.out true (by rw [hq0]; simp [hb0]))
          have e1 : decide (n.count < -1) = false := by simpa using hc0
          clear hq0 hh
          go_wp2
          go_ret
          exact ⟨ret_int R0.out.symm, HFIN.out _⟩
        · have R0 := Lib.hid (HR.out false (by rw [hq0]; simp [hc0, hb0]))
          have e1 : decide (n.count < -1) = false := by simpa using hc0
          have e2 : decide (n.bytes < -1) = false := by simpa using hb0
          clear hq0 hh
          go_wp2
          go_ret
          exact ⟨ret_int R0.out.symm, HFIN.out _⟩
  · have C1 := fun w => valid_any n.path w (by omega)
    have h1' : vpath n.path = false := by simpa using h1
    have R : Hid (rightN n = 30) := by unfold Hid rightN; simp [h1']
    simp only [h1'] at C1
    have C1 := Lib.hid C1
    clear h1 h1'
    go_enter Tryd.func42, Tryd.ntmps42
    go_wp2_with fail
    refine (C1.out _).mono ?_
    rintro e w1 ⟨rfl, hb1⟩
    have hb : Below w.heap.size w w1 := hb0.trans (hb1.mono (by simp))
    clear hbox hb1 hb0
    go_wp2
    go_ret
    exact ⟨ret_int R.out.symm, hb⟩
end Go.Proofs.YtfgjbcejpjcpeaaDoor
