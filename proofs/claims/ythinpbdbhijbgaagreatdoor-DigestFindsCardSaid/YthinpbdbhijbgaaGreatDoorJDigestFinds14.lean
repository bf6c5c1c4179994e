/- The walk of stat.Same at nodes that differ: part 4. -/
import Derived.Test.YthinpbdbhijbgaaGreatDoorJDigestFinds5
import Derived.Test.YthinpbdbhijbgaaGreatDoorJDigestFinds10
namespace Go.Proofs.YthinpbdbhijbgaaGreatDoor
open Go.RowKit
set_option maxHeartbeats 8000000
set_option maxRecDepth 100000

theorem ssame_p4 (x y : Nd) (da aa db ab : Option Addr) (dc ac dd ad : Nat) (w : World) (hf : Fit x) (hf' : Fit y) (hD : Cells w.heap.size w da (x.data.map u8v)) (hA : Cells w.heap.size w aa (acCs x.acl)) (hD' : Cells w.heap.size w db (y.data.map u8v)) (hA' : Cells w.heap.size w ab (acCs y.acl)) (h_data : x.data = y.data) (h_acl : x.acl = y.acl) (h_path : x.path = y.path) (h_owner : x.owner = y.owner) (h_czxid : x.czxid = y.czxid) (h_mzxid : x.mzxid = y.mzxid) (h_pzxid : x.pzxid = y.pzxid) (h_azxid : x.azxid = y.azxid) (h_qzxid : x.qzxid = y.qzxid) (h_ctime : x.ctime = y.ctime) (h_mtime : x.mtime = y.mtime) (h_version : x.version = y.version)
    (hne : ¬ (x.creates = y.creates ∧ x.aversion = y.aversion ∧ x.has = y.has ∧ x.count = y.count ∧ x.bytes = y.bytes)) :
    Calls Tryz.prog 98 #[.agg (ndC x (.slice da x.data.length dc) (.slice aa x.acl.length ac)), .agg (ndC y (.slice db y.data.length dd) (.slice ab y.acl.length ad))] w fun e w' => e = .returned (.bool false) ∧ Below w.heap.size w w' := by
  have hfa := hf.acl
  have hfb := hf'.acl
  obtain ⟨W2, hW2⟩ : ∃ W2, W2 = (w.alloc (.cells (ndC x (.slice da x.data.length dc) (.slice aa x.acl.length ac)) 44)).alloc (.cells (ndC y (.slice db y.data.length dd) (.slice ab y.acl.length ad)) 44) := ⟨_, rfl⟩
  have hs2 : W2.heap.size = w.heap.size + 1 + 1 := by rw [hW2]; simp
  have hb2 : Below w.heap.size w W2 := by rw [hW2]; exact ((Below.refl _ _).alloc (Nat.le_refl _) _).alloc (by simp) _
  have hx : Box W2 w.heap.size (ndC x (.slice da x.data.length dc) (.slice aa x.acl.length ac)) := fun j => by rw [hW2]; exact cell_of_row _ _ _ _ _ _ (heap_alloc2_old w _ _)
  have hy : Box W2 (w.heap.size + 1) (ndC y (.slice db y.data.length dd) (.slice ab y.acl.length ad)) := fun j => by rw [hW2]; exact cell_of_row _ _ _ _ _ _ (heap_alloc2_new w _ _)
  have CB := bequal_any da db dc dd x.data y.data W2 ((hD.below hb2).mono (by omega)) ((hD'.below hb2).mono (by omega))
  have CA := aequal_any aa ab ac ad x.acl y.acl W2 ((hA.below hb2).mono (by omega)) ((hA'.below hb2).mono (by omega)) (by omega) (by omega)
  have hgq := guard_q
  have hnq := eql_q
  rw [hW2] at CA CB
  clear hD hA hD' hA' hf hf'
  obtain ⟨x_path, x_data, x_acl, x_owner, x_czxid, x_mzxid, x_pzxid, x_azxid, x_qzxid, x_ctime, x_mtime, x_version, x_creates, x_aversion, x_has, x_count, x_bytes⟩ := x
  obtain ⟨y_path, y_data, y_acl, y_owner, y_czxid, y_mzxid, y_pzxid, y_azxid, y_qzxid, y_ctime, y_mtime, y_version, y_creates, y_aversion, y_has, y_count, y_bytes⟩ := y
  simp only at hx hy CB CA hW2 hfa hfb
  have h_data : x_data = y_data := h_data
  subst h_data
  have h_acl : x_acl = y_acl := h_acl
  subst h_acl
  have h_path : x_path = y_path := h_path
  subst h_path
  have h_owner : x_owner = y_owner := h_owner
  subst h_owner
  have h_czxid : x_czxid = y_czxid := h_czxid
  subst h_czxid
  have h_mzxid : x_mzxid = y_mzxid := h_mzxid
  subst h_mzxid
  have h_pzxid : x_pzxid = y_pzxid := h_pzxid
  subst h_pzxid
  have h_azxid : x_azxid = y_azxid := h_azxid
  subst h_azxid
  have h_qzxid : x_qzxid = y_qzxid := h_qzxid
  subst h_qzxid
  have h_ctime : x_ctime = y_ctime := h_ctime
  subst h_ctime
  have h_mtime : x_mtime = y_mtime := h_mtime
  subst h_mtime
  have h_version : x_version = y_version := h_version
  subst h_version
  simp only at hne
  by_cases q : x_creates = y_creates
  rotate_left
  · rw [show (x_data == x_data) = true by simp] at CB
    rw [eqAcs_self] at CA
    have f1 : (x_creates != y_creates) = true := by simpa using q
    have f2 : (x_creates == y_creates) = false := by simpa using q
    clear hne q
    have CA := Lib.hid CA
    have CB := Lib.hid CB
    have HW2 := Lib.hid hW2
    have hbw := hb2
    rw [hW2] at hbw
    unfold ndC at hx hy CA CB HW2 hbw ⊢
    clear hW2
    unfold Box at hx hy
    have hx0 := hx
    have hy0 := hy
    rw [HW2.out] at hx hy
    go_enter Tryz.func98, Tryz.ntmps98
    go_wp2_with fail
    refine CB.out.mono ?_
    rintro e w3 ⟨rfl, rfl⟩
    clear CB
    go_wp2_with fail
    refine CA.out.mono ?_
    rintro e w3 ⟨rfl, hb3⟩
    rw [← HW2.out] at hb3
    have hx3 := Box.below (fun j => hx0 j) hb3 (by omega)
    have hy3 := Box.below (fun j => hy0 j) hb3 (by omega)
    have hbb := hb2.trans (hb3.mono (by omega))
    unfold Box at hx3 hy3
    clear CA hx hy hx0 hy0 hb3 hb2 HW2 hbw
    go_wp2
    go_ret
    exact ⟨rfl, hbb⟩
  subst q
  by_cases q : x_aversion = y_aversion
  rotate_left
  · rw [show (x_data == x_data) = true by simp] at CB
    rw [eqAcs_self] at CA
    have f1 : (x_aversion != y_aversion) = true := by simpa using q
    have f2 : (x_aversion == y_aversion) = false := by simpa using q
    clear hne q
    have CA := Lib.hid CA
    have CB := Lib.hid CB
    have HW2 := Lib.hid hW2
    have hbw := hb2
    rw [hW2] at hbw
    unfold ndC at hx hy CA CB HW2 hbw ⊢
    clear hW2
    unfold Box at hx hy
    have hx0 := hx
    have hy0 := hy
    rw [HW2.out] at hx hy
    go_enter Tryz.func98, Tryz.ntmps98
    go_wp2_with fail
    refine CB.out.mono ?_
    rintro e w3 ⟨rfl, rfl⟩
    clear CB
    go_wp2_with fail
    refine CA.out.mono ?_
    rintro e w3 ⟨rfl, hb3⟩
    rw [← HW2.out] at hb3
    have hx3 := Box.below (fun j => hx0 j) hb3 (by omega)
    have hy3 := Box.below (fun j => hy0 j) hb3 (by omega)
    have hbb := hb2.trans (hb3.mono (by omega))
    unfold Box at hx3 hy3
    clear CA hx hy hx0 hy0 hb3 hb2 HW2 hbw
    go_wp2
    go_ret
    exact ⟨rfl, hbb⟩
  subst q
  by_cases q : x_has = y_has ∧ x_count = y_count ∧ x_bytes = y_bytes
  rotate_left
  · rw [show (x_data == x_data) = true by simp] at CB
    rw [eqAcs_self] at CA
    have hqq : eqQ x_has x_count x_bytes y_has y_count y_bytes = false := Bool.eq_false_iff.2 fun h => q (by unfold eqQ at h; simpa using h)
    clear hne q
    have CA := Lib.hid CA
    have CB := Lib.hid CB
    have HW2 := Lib.hid hW2
    have hbw := hb2
    rw [hW2] at hbw
    unfold ndC at hx hy CA CB HW2 hbw ⊢
    clear hW2
    unfold Box at hx hy
    have hx0 := hx
    have hy0 := hy
    rw [HW2.out] at hx hy
    go_enter Tryz.func98, Tryz.ntmps98
    go_wp2_with fail
    refine CB.out.mono ?_
    rintro e w3 ⟨rfl, rfl⟩
    clear CB
    go_wp2_with fail
    refine CA.out.mono ?_
    rintro e w3 ⟨rfl, hb3⟩
    rw [← HW2.out] at hb3
    have hx3 := Box.below (fun j => hx0 j) hb3 (by omega)
    have hy3 := Box.below (fun j => hy0 j) hb3 (by omega)
    have hbb := hb2.trans (hb3.mono (by omega))
    unfold Box at hx3 hy3
    clear CA hx hy hx0 hy0 hb3 hb2 HW2 hbw
    go_wp2
    go_ret
    exact ⟨rfl, hbb⟩
  obtain ⟨rfl, rfl, rfl⟩ := q
  exact absurd (by simp) hne
end Go.Proofs.YthinpbdbhijbgaaGreatDoor
