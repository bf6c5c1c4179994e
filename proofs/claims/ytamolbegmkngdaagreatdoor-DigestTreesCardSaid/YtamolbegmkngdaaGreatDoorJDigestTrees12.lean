/- The law DigestTrees, walked. -/
import Derived.Test.YtamolbegmkngdaaGreatDoorJDigestTrees8
import Derived.Test.YtamolbegmkngdaaGreatDoorJDigestTrees11
namespace Go.Proofs.YtamolbegmkngdaaGreatDoor
open Go.RowKit Go.Sort
set_option maxHeartbeats 4000000
set_option maxRecDepth 100000

theorem trees_walk (L : List Nd) (a : Option Addr) (c : Nat) (w : World) (hT : Tabs w) (hL : NdsAt w.heap.size w a L) (hf : ∀ n ∈ L, Fit n) (hl : L.length * 168 ≤ 140737488355328) :
    Calls Tryz.prog 3 #[.slice a L.length c] w fun e w' => e = .returned (.bool true) ∧ Below w.heap.size w w' := by
  have hsz := hT.size
  have C1 := Lib.hid (from_any L a c w hT hL hf (by omega))
  have HL := Lib.hid hL
  have HF := Lib.hid hf
  have HT := Lib.hid hT
  clear hL hf hT
  go_enter Tryz.func3, Tryz.ntmps3
  go_wp2_with fail
  refine C1.out.mono ?_
  intro e W1 hout
  unfold FromOut at hout
  cases hfr : fromN L with
  | error x =>
    obtain ⟨i, x⟩ := x
    rw [hfr] at hout
    obtain ⟨rfl, hE1⟩ := hout
    have C2 := Lib.hid (rfrom_any L a c W1 (HT.out.below hE1 hsz) (HL.out.ext hE1) HF.out hl)
    have HE1 := Lib.hid hE1
    have hz1 := hE1.size
    clear C1 hE1
    go_wp2_with fail
    refine C2.out.mono ?_
    intro e W2 hout
    unfold RFromOut at hout
    rw [hfr] at hout
    obtain ⟨rfl, hE2⟩ := hout
    have hx1 : (x != x) = false := by simp
    have HE2 := Lib.hid (HE1.out.trans hE2)
    have C3 := Lib.hid (dof_nil W2)
    clear C2 hE2 hfr
    go_wp2_with fail
    refine C3.out.mono ?_
    rintro e W3 ⟨rfl, hE3⟩
    have HE3 := Lib.hid (HE2.out.trans hE3)
    have C4 := Lib.hid (r9of_nil W3)
    clear C3 hE3
    go_wp2_with fail
    refine C4.out.mono ?_
    rintro e W4 ⟨rfl, rfl⟩
    have C5 := Lib.hid (alive9_any W3 (HT.out.below HE3.out hsz))
    clear C4
    go_wp2_with fail
    refine C5.out.mono ?_
    rintro e W5 ⟨rfl, hE5⟩
    have HE5 := Lib.hid (HE3.out.trans hE5)
    clear C5 hE5
    go_wp2
    go_ret
    exact ⟨rfl, HE5.out⟩
  | ok M =>
    rw [hfr] at hout
    obtain ⟨bt, rfl, hT1, hE1⟩ := hout
    have hok := hT1.ok
    have hML := hT1.len
    have C2 := Lib.hid (rfrom_any L a c W1 (HT.out.below hE1 hsz) (HL.out.ext hE1) HF.out hl)
    have HE1 := Lib.hid hE1
    have HT1 := Lib.hid hT1
    have HOK := Lib.hid hok
    have hz1 := hE1.size
    clear C1 hE1 hT1 hok
    go_wp2_with fail
    refine C2.out.mono ?_
    intro e W2 hout
    unfold RFromOut at hout
    rw [hfr] at hout
    obtain ⟨br, rfl, hbr, hR, hE2⟩ := hout
    have hE2 : Ext W1 W2 := hE2
    have HE2 := Lib.hid (HE1.out.trans hE2)
    have C3 := Lib.hid (dof_any _ W2 bt M _ (HT1.out.ext hE2) (HT.out.below HE2.out hsz) (by omega))
    have HR := Lib.hid hR
    clear C2 hE2 hfr hR
    go_wp2_with fail
    refine C3.out.mono ?_
    rintro e W3 ⟨rfl, hE3⟩
    have hE3 : Ext W2 W3 := hE3
    have HE3 := Lib.hid (HE2.out.trans hE3)
    have C4 := Lib.hid (r9of_any W3 br (nds M) (HR.out.ext hE3) (nds_fit HOK.out) (HT.out.below HE3.out hsz))
    clear C3 hE3
    go_wp2_with fail
    refine C4.out.mono ?_
    rintro e W4 ⟨rfl, hE4⟩
    have HE4 := Lib.hid (HE3.out.trans hE4)
    have C5 := Lib.hid (alive9_any W4 (HT.out.below HE4.out hsz))
    clear C4 hE4
    have heq : addN 0 (M.map (·.2)) = addN 0 (nds M) := rfl
    rw [heq]
    generalize addN 0 (nds M) = z at *
    go_wp2_with fail
    refine C5.out.mono ?_
    rintro e W5 ⟨rfl, hE5⟩
    have HE5 := Lib.hid (HE4.out.trans hE5)
    clear C5 hE5 heq
    go_wp2
    go_ret
    exact ⟨rfl, HE5.out⟩
end Go.Proofs.YtamolbegmkngdaaGreatDoor
