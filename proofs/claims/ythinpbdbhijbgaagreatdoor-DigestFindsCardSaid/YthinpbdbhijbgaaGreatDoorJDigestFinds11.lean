/- The walk of stat.Same at nodes that differ: part 1. -/
import Derived.Test.YthinpbdbhijbgaaGreatDoorJDigestFinds5
import Derived.Test.YthinpbdbhijbgaaGreatDoorJDigestFinds10
namespace Go.Proofs.YthinpbdbhijbgaaGreatDoor
open Go.RowKit
set_option maxHeartbeats 8000000
set_option maxRecDepth 100000

theorem ssame_p1 (x y : Nd) (da aa db ab : Option Addr) (dc ac dd ad : Nat) (w : World) (hf : Fit x) (hf' : Fit y) (hD : Cells w.heap.size w da (x.data.map u8v)) (hA : Cells w.heap.size w aa (acCs x.acl)) (hD' : Cells w.heap.size w db (y.data.map u8v)) (hA' : Cells w.heap.size w ab (acCs y.acl))
    (hne : ¬ (x.data = y.data ∧ x.acl = y.acl ∧ x.path = y.path ∧ x.owner = y.owner)) :
    Calls Tryz.prog 98 #[.agg (ndC x (.slice da x.data.length dc) (.slice aa x.acl.length ac)), .agg (ndC y (.slice db y.data.length dd) (.slice ab y.acl.length ad))] w fun e w' => e = .returned (.bool false) ∧ Below w.heap.size w w' := by
  have hfa := hf.acl
  have hfb := hf'.acl
  obtain ⟨W2, hW2⟩ : ∃ W2, W2 = (w.alloc (.cells (ndC x (.slice da x.data.length dc) (.slice aa x.acl.length ac)) 44)).alloc (.cells (ndC y (.slice db y.data.length dd) (.slice ab y.acl.length ad)) 44) := ⟨_, rfl⟩
  have hs2 : W2.heap.size = w.heap.size + 1 + 1 := by rw [hW2]; simp
  have hb2 : Below w.heap.size w W2 := by rw [hW2]; exact ((Below.refl _ _).alloc (Nat.le_refl _) _).alloc (by simp) _
  have hx : Box W2 w.heap.size (ndC x (.slice da x.data.length dc) (.slice aa x.acl.length ac)) := fun j => by rw [hW2]; exact cell_of_row _ _ _ _ _ _ (heap_alloc2_old w _ _)
  have hy : Box W2 (w.heap.size + 1) (ndC y (.slice db y.data.length dd) (.slice ab y.acl.length ad)) := fun j => by rw [hW2]; exact cell_of_row _ _ _ _ _ _ (heap_alloc2_new w _ _)
  have CB := bequal_any da db dc dd x.data y.data W2 ((hD.below hb2).mono (by omega)) ((hD'.below hb2).mono (by omega))
  have CA := aequal_any aa ab ac ad x.acl y.acl W2 ((hA.below hb2).mono (by omega)) ((hA'.below hb2).mono (by omega)) (by omega) (by omega)
  have hgq := guard_q
  have hnq := eql_q
  rw [hW2] at CA CB
  clear hD hA hD' hA' hf hf'
  obtain ⟨x_path, x_data, x_acl, x_owner, x_czxid, x_mzxid, x_pzxid, x_azxid, x_qzxid, x_ctime, x_mtime, x_version, x_creates, x_aversion, x_has, x_count, x_bytes⟩ := x
  obtain ⟨y_path, y_data, y_acl, y_owner, y_czxid, y_mzxid, y_pzxid, y_azxid, y_qzxid, y_ctime, y_mtime, y_version, y_creates, y_aversion, y_has, y_count, y_bytes⟩ := y
  simp only at hx hy CB CA hW2 hfa hfb
  simp only at hne
  by_cases q : x_data = y_data
  rotate_left
  · rw [show (x_data == y_data) = false by simpa using q] at CB
    clear hne q
    have CA := Lib.hid CA
    have CB := Lib.hid CB
    have HW2 := Lib.hid hW2
    have hbw := hb2
    rw [hW2] at hbw
    unfold ndC at hx hy CA CB HW2 hbw ⊢
    clear hW2
    unfold Box at hx hy
    have hx0 := hx
    have hy0 := hy
    rw [HW2.out] at hx hy
    go_enter Tryz.func98, Tryz.ntmps98
    go_wp2_with fail
    refine CB.out.mono ?_
    rintro e w3 ⟨rfl, rfl⟩
    clear CB
    clear CA hx0 hy0
    go_wp2
    go_ret
    exact ⟨rfl, hbw⟩
  subst q
  by_cases q : x_acl = y_acl
  rotate_left
  · rw [show (x_data == x_data) = true by simp] at CB
    rw [show eqAcs x_acl y_acl = false from Bool.eq_false_iff.2 fun h => q (eqAcs_eq h)] at CA
    clear hne q
    have CA := Lib.hid CA
    have CB := Lib.hid CB
    have HW2 := Lib.hid hW2
    have hbw := hb2
    rw [hW2] at hbw
    unfold ndC at hx hy CA CB HW2 hbw ⊢
    clear hW2
    unfold Box at hx hy
    have hx0 := hx
    have hy0 := hy
    rw [HW2.out] at hx hy
    go_enter Tryz.func98, Tryz.ntmps98
    go_wp2_with fail
    refine CB.out.mono ?_
    rintro e w3 ⟨rfl, rfl⟩
    clear CB
    go_wp2_with fail
    refine CA.out.mono ?_
    rintro e w3 ⟨rfl, hb3⟩
    rw [← HW2.out] at hb3
    have hx3 := Box.below (fun j => hx0 j) hb3 (by omega)
    have hy3 := Box.below (fun j => hy0 j) hb3 (by omega)
    have hbb := hb2.trans (hb3.mono (by omega))
    unfold Box at hx3 hy3
    clear CA hx hy hx0 hy0 hb3 hb2 HW2 hbw
    go_wp2
    go_ret
    exact ⟨rfl, hbb⟩
  subst q
  by_cases q : x_path = y_path
  rotate_left
  · rw [show (x_data == x_data) = true by simp] at CB
    rw [eqAcs_self] at CA
    have f1 : (x_path.toList != y_path.toList) = true := by simp only [ByteArray.toList_eq, bne_iff_ne, ne_eq]; exact fun h => q (ba_ext0 h)
    have f2 : (x_path.toList == y_path.toList) = false := by simp only [ByteArray.toList_eq, beq_eq_false_iff_ne, ne_eq]; exact fun h => q (ba_ext0 h)
    clear hne q
    have CA := Lib.hid CA
    have CB := Lib.hid CB
    have HW2 := Lib.hid hW2
    have hbw := hb2
    rw [hW2] at hbw
    unfold ndC at hx hy CA CB HW2 hbw ⊢
    clear hW2
    unfold Box at hx hy
    have hx0 := hx
    have hy0 := hy
    rw [HW2.out] at hx hy
    go_enter Tryz.func98, Tryz.ntmps98
    go_wp2_with fail
    refine CB.out.mono ?_
    rintro e w3 ⟨rfl, rfl⟩
    clear CB
    go_wp2_with fail
    refine CA.out.mono ?_
    rintro e w3 ⟨rfl, hb3⟩
    rw [← HW2.out] at hb3
    have hx3 := Box.below (fun j => hx0 j) hb3 (by omega)
    have hy3 := Box.below (fun j => hy0 j) hb3 (by omega)
    have hbb := hb2.trans (hb3.mono (by omega))
    unfold Box at hx3 hy3
    clear CA hx hy hx0 hy0 hb3 hb2 HW2 hbw
    go_wp2
    go_ret
    exact ⟨rfl, hbb⟩
  subst q
  by_cases q : x_owner = y_owner
  rotate_left
  · rw [show (x_data == x_data) = true by simp] at CB
    rw [eqAcs_self] at CA
    have f1 : (x_owner != y_owner) = true := by simpa using q
    have f2 : (x_owner == y_owner) = false := by simpa using q
    clear hne q
    have CA := Lib.hid CA
    have CB := Lib.hid CB
    have HW2 := Lib.hid hW2
    have hbw := hb2
    rw [hW2] at hbw
    unfold ndC at hx hy CA CB HW2 hbw ⊢
    clear hW2
    unfold Box at hx hy
    have hx0 := hx
    have hy0 := hy
    rw [HW2.out] at hx hy
    go_enter Tryz.func98, Tryz.ntmps98
    go_wp2_with fail
    refine CB.out.mono ?_
    rintro e w3 ⟨rfl, rfl⟩
    clear CB
    go_wp2_with fail
    refine CA.out.mono ?_
    rintro e w3 ⟨rfl, hb3⟩
    rw [← HW2.out] at hb3
    have hx3 := Box.below (fun j => hx0 j) hb3 (by omega)
    have hy3 := Box.below (fun j => hy0 j) hb3 (by omega)
    have hbb := hb2.trans (hb3.mono (by omega))
    unfold Box at hx3 hy3
    clear CA hx hy hx0 hy0 hb3 hb2 HW2 hbw
    go_wp2
    go_ret
    exact ⟨rfl, hbb⟩
  subst q
  exact absurd (by simp) hne
end Go.Proofs.YthinpbdbhijbgaaGreatDoor
