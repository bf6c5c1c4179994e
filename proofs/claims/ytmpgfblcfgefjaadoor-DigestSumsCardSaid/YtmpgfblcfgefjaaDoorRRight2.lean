/- The walk of the reference of stat.Right. -/
import Derived.Test.YtmpgfblcfgefjaaDoorRRight
namespace Go.Proofs.YtmpgfblcfgefjaaDoor
open Go.RowKit
set_option maxHeartbeats 1000000
set_option maxRecDepth 100000

theorem rright_any (n : Nd) (da aa : Option Addr) (dc ac : Nat) (w : World) (hf : Fit n) (hT : Tabs w) (hA : Cells w.heap.size w aa (acCs n.acl)) :
    Calls Tryd.prog 23 #[.agg (ndC n (.slice da n.data.length dc) (.slice aa n.acl.length ac))] w (RightOut (rightN n) w) := by
  have hfp := hf.path
  have hfd := hf.data
  have hfa := hf.acl
  have HT := Lib.hid hf.texts
  have hbox := Box.alloc w (ndC n (.slice da n.data.length dc) (.slice aa n.acl.length ac)) 27
  have hb0 : Below w.heap.size w (w.alloc (.cells (ndC n (.slice da n.data.length dc) (.slice aa n.acl.length ac)) 27)) := (Below.refl _ _).alloc (Nat.le_refl _) _
  unfold ndC at hbox hb0 ⊢
  by_cases h1 : vpath n.path = true
  · have C1 := fun w => rvalid_any n.path w (by omega)
    simp only [h1] at C1
    have C1 := Lib.hid C1
    go_enter Tryd.func23, Tryd.ntmps23
    go_wp2_with fail
    refine (C1.out _).mono ?_
    rintro e w1 ⟨rfl, hb1⟩
    have hx1 := hbox.below hb1 (by simp)
    have hb : Below w.heap.size w w1 := hb0.trans (hb1.mono (by simp))
    clear hbox hb1 hb0
    unfold Box at hx1
    by_cases h2 : 1048575 < (n.data.length : Int)
    · have R : Hid (rightN n = 3) := by unfold Hid rightN; simp [h1]; omega
      clear h1 C1
      go_wp2
      go_ret
      exact ⟨ret_int R.out.symm, hb⟩
    by_cases h3 : 16 < (n.acl.length : Int)
    · have R : Hid (rightN n = 3) := by unfold Hid rightN; simp [h1]; omega
      have h2' : decide (1048575 < (n.data.length : Int)) = false := by simpa using h2
      clear h1 C1
      go_wp2
      go_ret
      exact ⟨ret_int R.out.symm, hb⟩
    have h2' : decide (1048575 < (n.data.length : Int)) = false := by simpa using h2
    have h3' : decide (16 < (n.acl.length : Int)) = false := by simpa using h3
    have hA1 := hA.below hb
    have hr4 : rightN n = if textsN n.acl ≠ 0 then textsN n.acl else if badQ n then 1 else 0 := by
      rw [textsN_eq, if_neg (by simp [h1]), if_neg (by omega)]
    have R4 := Lib.hid hr4
    have C2 := texts_any aa ac n.acl w1 (hA1.mono hb.size) (by omega) HT.out
    clear h1 C1 hr4
    by_cases h5 : ¬ textsN n.acl = 0
    · have R : Hid (rightN n = textsN n.acl) := by unfold Hid; rw [R4.out, if_pos h5]
      have hne : (textsN n.acl != 0) = true := by simpa using h5
      have C2 := Lib.hid C2
      clear h5 R4
      go_wp2_with fail
      refine C2.out.mono ?_
      rintro e w3 ⟨rfl, rfl⟩
      clear C2
      go_wp2
      go_ret
      exact ⟨ret_int R.out.symm, hb⟩
    have h5 : textsN n.acl = 0 := by omega
    have R : Hid (rightN n = if badQ n then 1 else 0) := by unfold Hid; rw [R4.out, h5]; simp
    rw [h5] at C2
    have C2 := Lib.hid C2
    clear R4 h5
    go_wp2_with fail
    refine C2.out.mono ?_
    rintro e w3 ⟨rfl, rfl⟩
    have hsz3 : w.heap.size < w1.heap.size := by
      have := block_lt_of_cell (show w1.cell? ⟨w.heap.size, 0, none⟩ = _ from hx1 0)
      exact this
    have hfin : ∀ o, Below w.heap.size w (w1.alloc o) := fun o => hb.alloc (by omega) o
    have HFIN := Lib.hid hfin
    have hx3 := hx1
    clear C2 hfin hx1
    have HR : ∀ b : Bool, badQ n = b → rightN n = if b then 1 else 0 := fun b hbq => by rw [R.out, hbq]
    have HR := Lib.hid HR
    cases hh : n.has
    · have hq0 : badQ n = (n.count != 0 || n.bytes != 0) := by unfold badQ; rw [hh]; simp
      rw [hh] at hx3
      by_cases hc0 : n.count = 0
      · by_cases hb0 : n.bytes = 0
        · have R0 := Lib.hid (HR.out false (by rw [hq0, hc0, hb0]; rfl))
          have e1 : (n.count != 0) = false := by simp [hc0]
          have e2 : (n.bytes != 0) = false := by simp [hb0]
          clear hc0 hb0 hq0 hh
          go_wp2
          go_ret
          exact ⟨ret_int R0.out.symm, HFIN.out _⟩
        · have R0 := Lib.hid (HR.out true (by rw [hq0]; simp [hb0]))
          have e1 : (n.count != 0) = false := by simp [hc0]
          have e2 : (n.bytes != 0) = true := by simp [hb0]
          clear hc0 hb0 hq0 hh
          go_wp2
          go_ret
          exact ⟨ret_int R0.out.symm, HFIN.out _⟩
      · have R0 := Lib.hid (HR.out true (by rw [hq0]; simp [hc0]))
        have e1 : (n.count != 0) = true := by simp [hc0]
        clear hc0 hq0 hh
        go_wp2
        go_ret
        exact ⟨ret_int R0.out.symm, HFIN.out _⟩
    · have hq0 : badQ n = (decide (n.count < -1) || decide (n.bytes < -1)) := by unfold badQ; rw [hh]; simp
      rw [hh] at hx3
      by_cases hc0 : n.count < -1
      · have R0 := Lib.hid (HR.out true (by rw [hq0]; simp [hc0]))
        clear hq0 hh
        go_wp2
        go_ret
        exact ⟨ret_int R0.out.symm, HFIN.out _⟩
      · by_cases hb0 : n.bytes < -1
        · have R0 := Lib.hid (HR.out true (by rw [hq0]; simp [hb0]))
          have e1 : decide (n.count < -1) = false := by simpa using hc0
          clear hq0 hh
          go_wp2
          go_ret
          exact ⟨ret_int R0.out.symm, HFIN.out _⟩
        · have R0 := Lib.hid (HR.out false (by rw [hq0]; simp [hc0, hb0]))
          have e1 : decide (n.count < -1) = false := by simpa using hc0
          have e2 : decide (n.bytes < -1) = false := by simpa using hb0
          clear hq0 hh
          go_wp2
          go_ret
          exact ⟨ret_int R0.out.symm, HFIN.out _⟩
  · have C1 := fun w => rvalid_any n.path w (by omega)
    have h1' : vpath n.path = false := by simpa using h1
    have R : Hid (rightN n = 30) := by unfold Hid rightN; simp [h1']
    simp only [h1'] at C1
    have C1 := Lib.hid C1
    clear h1 h1'
    go_enter Tryd.func23, Tryd.ntmps23
    go_wp2_with fail
    refine (C1.out _).mono ?_
    rintro e w1 ⟨rfl, hb1⟩
    have hb : Below w.heap.size w w1 := hb0.trans (hb1.mono (by simp))
    clear hbox hb1 hb0
    go_wp2
    go_ret
    exact ⟨ret_int R.out.symm, hb⟩
end Go.Proofs.YtmpgfblcfgefjaaDoor
