/- The walks of arborref07's Owned, Idle and Aged. The nodes of a tree in another order are the same tree: the plain law; a list turned round and about. What From makes of nodes has as many, and a root. The law TreeMakes, walked. -/
import Derived.Test.YthinpbdbhijbgaaGreatDoorJTreePlays23
import Derived.Test.YthinpbdbhijbgaaGreatDoorJTreePlays11
import Derived.Test.YthinpbdbhijbgaaGreatDoorJTreePlays13
import Derived.Test.YthinpbdbhijbgaaGreatDoorJTreePlays5
import Derived.Test.YthinpbdbhijbgaaGreatDoorJTreePlays7
import Derived.Test.YthinpbdbhijbgaaGreatDoorJTreePlays14
import Derived.Test.YthinpbdbhijbgaaGreatDoorJTreePlays22
import Derived.Test.YthinpbdbhijbgaaGreatDoorJTreePlays9
namespace Go.Proofs.YthinpbdbhijbgaaGreatDoor
open Go.RowKit Go.Sort
set_option maxHeartbeats 4000000
set_option maxRecDepth 100000

theorem rowned_any (w : World) (b : Nat) (M : List (Key × Nd)) (hR : RT w b (nds M)) (hM : MOk M) (hl : M.length * 168 ≤ 140737488355328) (z : Int) : Calls Tryz.prog 26 #[.pointer (some ⟨b, 0, none⟩), .int .i64 z] w (StrsOut (someL M (ownP z)) w) := by
  obtain ⟨pr, hpr⟩ : ∃ pr, pr = ownP z := ⟨_, rfl⟩
  rw [← hpr]
  have HRT := Lib.hid hR
  obtain ⟨a, cap, vs, hb, hlc, hcm, hS, hrows, _⟩ := hR
  have hcb : w.cell? ⟨b, 0, none⟩ = some (.slice a (nds M).length cap) := cell_of_row _ _ _ _ _ _ hb
  have hbl := (Array.getElem?_eq_some_iff.1 hb).1
  rw [nds_length] at hcb
  have hl64 : M.length ≤ 9223372036854775807 := by omega
  have HROWS := Lib.hid hrows
  have HS := Lib.hid hS
  have HM := Lib.hid hM
  have HPR := Lib.hid hpr
  clear hb hrows hS hM hlc hcm hpr
  go_enter Tryz.func26, Tryz.ntmps26
  go_wp2
  go_loopw [5, 6] (fun lv i wr => ∃ k : Nat, k ≤ M.length ∧ i = .int .i64 k ∧ Hid (wr.ownsRow w.heap.size 9 1 lv (someL (M.take k) pr).length ((someL (M.take k) pr).map .string)) ∧ Ext w wr) (fun _ i _ => M.length - (intOf i).toNat)
  case atStart => exact ⟨0, Nat.zero_le _, rfl, World.ownsRow_nil _ _ _ _, Ext.refl _⟩
  case round =>
    obtain ⟨k, hk, rfl, HO, hE⟩ := hrel
    have hcr : wr.cell? ⟨b, 0, none⟩ = some (.slice a M.length cap) := (hE.cell (p := ⟨b, 0, none⟩) hbl).trans hcb
    by_cases hlt : k < M.length
    · have hMk : (nds M)[k]? = some M[k].2 := by unfold nds; rw [List.getElem?_map, List.getElem?_eq_getElem hlt]; rfl
      obtain ⟨bl, off, da, dc, aa, ac, ea, hSb, hc, hD, hA, _⟩ := HROWS.out.row hMk
      subst ea
      have hST := someL_take (pr := pr) hlt
      have hle := someL_le (M.take k) pr
      rw [List.length_take] at hle
      have hps := (vpath_facts (right_vpath (HM.out.right M[k] (List.getElem_mem hlt)))).2.1
      generalize hxx : M[k].2 = n at *
      have c0 : wr.cell? ⟨bl, off + k * 17, none⟩ = some (.string n.path) := (hE.cell (p := ⟨bl, off + k * 17, none⟩) (HS.out bl hSb).1).trans (hc 0 _ rfl)
      have c3 : wr.cell? ⟨bl, off + k * 17 + 3, none⟩ = some (.int .i64 n.owner) := (hE.cell (p := ⟨bl, off + k * 17 + 3, none⟩) (HS.out bl hSb).1).trans (hc 3 _ rfl)
      have c12 : wr.cell? ⟨bl, off + k * 17 + 12, none⟩ = some (.int .i32 n.creates) := (hE.cell (p := ⟨bl, off + k * 17 + 12, none⟩) (HS.out bl hSb).1).trans (hc 12 _ rfl)
      have c10 : wr.cell? ⟨bl, off + k * 17 + 10, none⟩ = some (.int .i64 n.mtime) := (hE.cell (p := ⟨bl, off + k * 17 + 10, none⟩) (HS.out bl hSb).1).trans (hc 10 _ rfl)
      have HC := Lib.hid (show ∀ j u, (ndC n (.slice da n.data.length dc) (.slice aa n.acl.length ac))[j]? = some u → wr.cell? ((⟨bl, off + k * 17, none⟩ : Addr).add j) = some u from fun j u hj => by
        rw [addr_add, hE.cell (p := ⟨bl, off + k * 17 + j, none⟩) (HS.out bl hSb).1]
        exact hc j u hj)
      have HP := Lib.hid (congrFun HPR.out n)
      have HST := Lib.hid hST
      have CK := Lib.hid fun W (h : Ext wr W) => rkids_any W b M ((HRT.out.ext hE).ext h) HM.out n.path (by omega)
      have HE := Lib.hid hE
      have HNO := Lib.hid (show pr n = false → someL (M.take (k + 1)) pr = someL (M.take k) pr from fun h => by rw [HST.out, if_neg (by rw [h]; decide), List.append_nil])
      have HYES := Lib.hid (show pr n = true → someL (M.take (k + 1)) pr = someL (M.take k) pr ++ [n.path] from fun h => by rw [HST.out, if_pos h])
      clear hST hc hD hA hMk hxx hE HST
      by_cases hz : z = 0
      · have f1 : (z != 0) = false := by simpa using hz
        have HS2 := Lib.hid (HNO.out (by rw [HP.out]; unfold ownP; simp [hz]))
        clear hz
        go_wp2
        go_roundw
        case rel => exact ⟨k + 1, by omega, by go_num, by unfold Hid; rw [HS2.out]; exact HO.out, HE.out⟩
        case measure => simp [intOf]; omega
      · by_cases ho : n.owner = z
        · have f1 : (z != 0) = true := by simpa using hz
          have f2 : (n.owner == z) = true := by simpa using ho
          have HS2 := Lib.hid (HYES.out (by rw [HP.out]; unfold ownP; simp [hz, ho]))
          clear hz ho
          have hz5 : w.heap.size ≤ wr.heap.size := HE.out.size
          generalize hol : someL (M.take k) pr = ol at *
          go_wp2_with (at_builtin; refine wpList_append_s rfl (.tmp 34) (.tmp 43) rfl w.heap.size ol.length _ _ HO.out hz5 n.path (by omega) rfl rfl ?_)
          intro v' W6 hO6 hE6
          have HO6 := Lib.hid hO6
          have HE6 := Lib.hid (hE6 w HE.out (Nat.le_refl _))
          clear hO6 hE6
          go_wp2
          go_roundw
          case rel => exact ⟨k + 1, by omega, by go_num, by unfold Hid; rw [HS2.out, List.length_append, List.map_append]; exact HO6.out, HE6.out⟩
          case measure => simp [intOf]; omega
        · have f1 : (z != 0) = true := by simpa using hz
          have f2 : (n.owner == z) = false := by simpa using ho
          have HS2 := Lib.hid (HNO.out (by rw [HP.out]; unfold ownP; simp [hz, ho]))
          clear hz ho
          go_wp2
          go_roundw
          case rel => exact ⟨k + 1, by omega, by go_num, by unfold Hid; rw [HS2.out]; exact HO.out, HE.out⟩
          case measure => simp [intOf]; omega
    · obtain rfl : k = M.length := by omega
      rw [List.take_length] at HO
      have HFIN := Lib.hid (strs_of_own HO.out hE)
      clear hE HO
      go_wp2
      go_ret
      exact HFIN.out

theorem ridle_any (w : World) (b : Nat) (M : List (Key × Nd)) (hR : RT w b (nds M)) (hM : MOk M) (hl : M.length * 168 ≤ 140737488355328) : Calls Tryz.prog 28 #[.pointer (some ⟨b, 0, none⟩)] w (StrsOut (someL M (idleP M)) w) := by
  obtain ⟨pr, hpr⟩ : ∃ pr, pr = idleP M := ⟨_, rfl⟩
  rw [← hpr]
  have HRT := Lib.hid hR
  obtain ⟨a, cap, vs, hb, hlc, hcm, hS, hrows, _⟩ := hR
  have hcb : w.cell? ⟨b, 0, none⟩ = some (.slice a (nds M).length cap) := cell_of_row _ _ _ _ _ _ hb
  have hbl := (Array.getElem?_eq_some_iff.1 hb).1
  rw [nds_length] at hcb
  have hl64 : M.length ≤ 9223372036854775807 := by omega
  have HROWS := Lib.hid hrows
  have HS := Lib.hid hS
  have HM := Lib.hid hM
  have HPR := Lib.hid hpr
  clear hb hrows hS hM hlc hcm hpr
  go_enter Tryz.func28, Tryz.ntmps28
  go_wp2
  go_loopw [3, 4] (fun lv i wr => ∃ k : Nat, k ≤ M.length ∧ i = .int .i64 k ∧ Hid (wr.ownsRow w.heap.size 9 1 lv (someL (M.take k) pr).length ((someL (M.take k) pr).map .string)) ∧ Ext w wr) (fun _ i _ => M.length - (intOf i).toNat)
  case atStart => exact ⟨0, Nat.zero_le _, rfl, World.ownsRow_nil _ _ _ _, Ext.refl _⟩
  case round =>
    obtain ⟨k, hk, rfl, HO, hE⟩ := hrel
    have hcr : wr.cell? ⟨b, 0, none⟩ = some (.slice a M.length cap) := (hE.cell (p := ⟨b, 0, none⟩) hbl).trans hcb
    by_cases hlt : k < M.length
    · have hMk : (nds M)[k]? = some M[k].2 := by unfold nds; rw [List.getElem?_map, List.getElem?_eq_getElem hlt]; rfl
      obtain ⟨bl, off, da, dc, aa, ac, ea, hSb, hc, hD, hA, _⟩ := HROWS.out.row hMk
      subst ea
      have hST := someL_take (pr := pr) hlt
      have hle := someL_le (M.take k) pr
      rw [List.length_take] at hle
      have hps := (vpath_facts (right_vpath (HM.out.right M[k] (List.getElem_mem hlt)))).2.1
      generalize hxx : M[k].2 = n at *
      have c0 : wr.cell? ⟨bl, off + k * 17, none⟩ = some (.string n.path) := (hE.cell (p := ⟨bl, off + k * 17, none⟩) (HS.out bl hSb).1).trans (hc 0 _ rfl)
      have c3 : wr.cell? ⟨bl, off + k * 17 + 3, none⟩ = some (.int .i64 n.owner) := (hE.cell (p := ⟨bl, off + k * 17 + 3, none⟩) (HS.out bl hSb).1).trans (hc 3 _ rfl)
      have c12 : wr.cell? ⟨bl, off + k * 17 + 12, none⟩ = some (.int .i32 n.creates) := (hE.cell (p := ⟨bl, off + k * 17 + 12, none⟩) (HS.out bl hSb).1).trans (hc 12 _ rfl)
      have c10 : wr.cell? ⟨bl, off + k * 17 + 10, none⟩ = some (.int .i64 n.mtime) := (hE.cell (p := ⟨bl, off + k * 17 + 10, none⟩) (HS.out bl hSb).1).trans (hc 10 _ rfl)
      have HC := Lib.hid (show ∀ j u, (ndC n (.slice da n.data.length dc) (.slice aa n.acl.length ac))[j]? = some u → wr.cell? ((⟨bl, off + k * 17, none⟩ : Addr).add j) = some u from fun j u hj => by
        rw [addr_add, hE.cell (p := ⟨bl, off + k * 17 + j, none⟩) (HS.out bl hSb).1]
        exact hc j u hj)
      have HP := Lib.hid (congrFun HPR.out n)
      have HST := Lib.hid hST
      have CK := Lib.hid fun W (h : Ext wr W) => rkids_any W b M ((HRT.out.ext hE).ext h) HM.out n.path (by omega)
      have HE := Lib.hid hE
      have HNO := Lib.hid (show pr n = false → someL (M.take (k + 1)) pr = someL (M.take k) pr from fun h => by rw [HST.out, if_neg (by rw [h]; decide), List.append_nil])
      have HYES := Lib.hid (show pr n = true → someL (M.take (k + 1)) pr = someL (M.take k) pr ++ [n.path] from fun h => by rw [HST.out, if_pos h])
      clear hST hc hD hA hMk hxx hE HST
      by_cases h1 : n.owner = -9223372036854775808
      rotate_left
      · have e1 : (n.owner == -9223372036854775808) = false := by simpa using h1
        have HS2 := Lib.hid (HNO.out (by rw [HP.out]; unfold idleP; simp [h1]))
        clear h1
        go_wp2
        go_roundw
        case rel => exact ⟨k + 1, by omega, by go_num, by unfold Hid; rw [HS2.out]; exact HO.out, HE.out⟩
        case measure => simp [intOf]; omega
      have e1 : (n.owner == -9223372036854775808) = true := by simpa using h1
      by_cases h2 : n.creates = 0
      · have e2 : (n.creates != 0) = false := by simpa using h2
        have HS2 := Lib.hid (HNO.out (by rw [HP.out]; unfold idleP; simp [h2]))
        clear h1 h2
        go_wp2
        go_roundw
        case rel => exact ⟨k + 1, by omega, by go_num, by unfold Hid; rw [HS2.out]; exact HO.out, HE.out⟩
        case measure => simp [intOf]; omega
      have e2 : (n.creates != 0) = true := by simpa using h2
      by_cases h3 : (kidsOf M n.path).length = 0
      · have HS2 := Lib.hid (HYES.out (by rw [HP.out]; unfold idleP; simp [h1, h2, h3]))
        have hkl : (kidsOf M n.path).length = 0 := h3
        clear h1 h2 h3
        go_wp2_with fail
        refine (CK.out wr (Ext.refl _)).mono ?_
        rintro e W5 ⟨v, rfl, hown, hE5⟩
        obtain ⟨ka, kc, rfl⟩ : ∃ ka kc, v = .slice ka (kidsOf M n.path).length kc := by
          rcases hown.2 with ⟨rfl, h0⟩ | ⟨g, cap, cur, rfl, _⟩
          · exact ⟨none, 0, by rw [h0]⟩
          · exact ⟨_, _, rfl⟩
        have hE5 : Ext wr W5 := hE5
        have HO5 := Lib.hid (World.ownsRow.kept HO.out (grown_of_ext hE5 none) (Classical.em _))
        have hcr5 := cellM hE5 hcr
        have c05 := cellM hE5 c0
        have c105 := cellM hE5 c10
        have HE5 := Lib.hid (HE.out.trans hE5)
        clear hown hE5 CK hcr c0 c3 c12 c10 HC
        rw [hkl]
        clear hkl
        have hz5 : w.heap.size ≤ W5.heap.size := HE5.out.size
        generalize hol : someL (M.take k) pr = ol at *
        go_wp2_with (at_builtin; refine wpList_append_s rfl (.tmp 52) (.tmp 61) rfl w.heap.size ol.length _ _ HO5.out hz5 n.path (by omega) rfl rfl ?_)
        intro v' W6 hO6 hE6
        have HO6 := Lib.hid hO6
        have HE6 := Lib.hid (hE6 w HE5.out (Nat.le_refl _))
        clear hO6 hE6
        go_wp2
        go_roundw
        case rel => exact ⟨k + 1, by omega, by go_num, by unfold Hid; rw [HS2.out, List.length_append, List.map_append]; exact HO6.out, HE6.out⟩
        case measure => simp [intOf]; omega
      · have HS2 := Lib.hid (HNO.out (by rw [HP.out]; unfold idleP; simp [h3]))
        have e3 : (((kidsOf M n.path).length : Int) == 0) = false := by simpa using h3
        clear h1 h2 h3
        go_wp2_with fail
        refine (CK.out wr (Ext.refl _)).mono ?_
        rintro e W5 ⟨v, rfl, hown, hE5⟩
        obtain ⟨ka, kc, rfl⟩ : ∃ ka kc, v = .slice ka (kidsOf M n.path).length kc := by
          rcases hown.2 with ⟨rfl, h0⟩ | ⟨g, cap, cur, rfl, _⟩
          · exact ⟨none, 0, by rw [h0]⟩
          · exact ⟨_, _, rfl⟩
        have hE5 : Ext wr W5 := hE5
        have HO5 := Lib.hid (World.ownsRow.kept HO.out (grown_of_ext hE5 none) (Classical.em _))
        have hcr5 := cellM hE5 hcr
        have c05 := cellM hE5 c0
        have c105 := cellM hE5 c10
        have HE5 := Lib.hid (HE.out.trans hE5)
        clear hown hE5 CK hcr c0 c3 c12 c10 HC
        generalize (kidsOf M n.path).length = kl at *
        go_wp2
        go_roundw
        case rel => exact ⟨k + 1, by omega, by go_num, by unfold Hid; rw [HS2.out]; exact HO5.out, HE5.out⟩
        case measure => simp [intOf]; omega
    · obtain rfl : k = M.length := by omega
      rw [List.take_length] at HO
      have HFIN := Lib.hid (strs_of_own HO.out hE)
      clear hE HO
      go_wp2
      go_ret
      exact HFIN.out

theorem raged_any (w : World) (b : Nat) (M : List (Key × Nd)) (hR : RT w b (nds M)) (hM : MOk M) (hl : M.length * 168 ≤ 140737488355328) (hi : ∀ x ∈ M, Ir x.2) (now : Int) : Calls Tryz.prog 30 #[.pointer (some ⟨b, 0, none⟩), .int .i64 now] w (StrsOut (someL M (agedP M now)) w) := by
  obtain ⟨pr, hpr⟩ : ∃ pr, pr = agedP M now := ⟨_, rfl⟩
  rw [← hpr]
  have HRT := Lib.hid hR
  obtain ⟨a, cap, vs, hb, hlc, hcm, hS, hrows, _⟩ := hR
  have hcb : w.cell? ⟨b, 0, none⟩ = some (.slice a (nds M).length cap) := cell_of_row _ _ _ _ _ _ hb
  have hbl := (Array.getElem?_eq_some_iff.1 hb).1
  rw [nds_length] at hcb
  have hl64 : M.length ≤ 9223372036854775807 := by omega
  have HROWS := Lib.hid hrows
  have HS := Lib.hid hS
  have HM := Lib.hid hM
  have HPR := Lib.hid hpr
  clear hb hrows hS hM hlc hcm hpr
  go_enter Tryz.func30, Tryz.ntmps30
  go_wp2
  go_loopw [5, 6] (fun lv i wr => ∃ k : Nat, k ≤ M.length ∧ i = .int .i64 k ∧ Hid (wr.ownsRow w.heap.size 9 1 lv (someL (M.take k) pr).length ((someL (M.take k) pr).map .string)) ∧ Ext w wr) (fun _ i _ => M.length - (intOf i).toNat)
  case atStart => exact ⟨0, Nat.zero_le _, rfl, World.ownsRow_nil _ _ _ _, Ext.refl _⟩
  case round =>
    obtain ⟨k, hk, rfl, HO, hE⟩ := hrel
    have hcr : wr.cell? ⟨b, 0, none⟩ = some (.slice a M.length cap) := (hE.cell (p := ⟨b, 0, none⟩) hbl).trans hcb
    by_cases hlt : k < M.length
    · have hMk : (nds M)[k]? = some M[k].2 := by unfold nds; rw [List.getElem?_map, List.getElem?_eq_getElem hlt]; rfl
      obtain ⟨bl, off, da, dc, aa, ac, ea, hSb, hc, hD, hA, _⟩ := HROWS.out.row hMk
      subst ea
      have hST := someL_take (pr := pr) hlt
      have hle := someL_le (M.take k) pr
      rw [List.length_take] at hle
      have hps := (vpath_facts (right_vpath (HM.out.right M[k] (List.getElem_mem hlt)))).2.1
      have hir := wf_i64 ((hi M[k] (List.getElem_mem hlt)).1 M[k].2.owner (by simp))
      generalize hxx : M[k].2 = n at *
      have c0 : wr.cell? ⟨bl, off + k * 17, none⟩ = some (.string n.path) := (hE.cell (p := ⟨bl, off + k * 17, none⟩) (HS.out bl hSb).1).trans (hc 0 _ rfl)
      have c3 : wr.cell? ⟨bl, off + k * 17 + 3, none⟩ = some (.int .i64 n.owner) := (hE.cell (p := ⟨bl, off + k * 17 + 3, none⟩) (HS.out bl hSb).1).trans (hc 3 _ rfl)
      have c12 : wr.cell? ⟨bl, off + k * 17 + 12, none⟩ = some (.int .i32 n.creates) := (hE.cell (p := ⟨bl, off + k * 17 + 12, none⟩) (HS.out bl hSb).1).trans (hc 12 _ rfl)
      have c10 : wr.cell? ⟨bl, off + k * 17 + 10, none⟩ = some (.int .i64 n.mtime) := (hE.cell (p := ⟨bl, off + k * 17 + 10, none⟩) (HS.out bl hSb).1).trans (hc 10 _ rfl)
      have HC := Lib.hid (show ∀ j u, (ndC n (.slice da n.data.length dc) (.slice aa n.acl.length ac))[j]? = some u → wr.cell? ((⟨bl, off + k * 17, none⟩ : Addr).add j) = some u from fun j u hj => by
        rw [addr_add, hE.cell (p := ⟨bl, off + k * 17 + j, none⟩) (HS.out bl hSb).1]
        exact hc j u hj)
      have HP := Lib.hid (congrFun HPR.out n)
      have HST := Lib.hid hST
      have CK := Lib.hid fun W (h : Ext wr W) => rkids_any W b M ((HRT.out.ext hE).ext h) HM.out n.path (by omega)
      have HE := Lib.hid hE
      have HNO := Lib.hid (show pr n = false → someL (M.take (k + 1)) pr = someL (M.take k) pr from fun h => by rw [HST.out, if_neg (by rw [h]; decide), List.append_nil])
      have HYES := Lib.hid (show pr n = true → someL (M.take (k + 1)) pr = someL (M.take k) pr ++ [n.path] from fun h => by rw [HST.out, if_pos h])
      clear hST hc hD hA hMk hxx hE HST
      have CL := Lib.hid (rlife_any n (.slice da n.data.length dc) (.slice aa n.acl.length ac) wr hir)
      have HC0 := HC
      unfold ndC at HC0 CL
      go_wp2_with (refine wpList_load_at rfl 44 (.tmp 28) rfl _ rfl _ _ HC0.out Tryz.underlying44 rfl sizeNd ?_)
      refine CL.out.mono ?_
      rintro e W3 ⟨rfl, hE3⟩
      have hE3 : Ext wr W3 := hE3
      have HO3 := Lib.hid (World.ownsRow.kept HO.out (grown_of_ext hE3 none) (Classical.em _))
      have hcrL := cellM hE3 hcr
      have c0L := cellM hE3 c0
      have c3L := cellM hE3 c3
      have c12L := cellM hE3 c12
      have c10L := cellM hE3 c10
      have CK3 := Lib.hid fun W (h : Ext W3 W) => CK.out W (hE3.trans h)
      have HE3 := Lib.hid (HE.out.trans hE3)
      have HPD := Lib.hid (show agedP M now n = (lifeB n && (decide ((kidsOf M n.path).length = 0) && (decide (n.mtime ≤ now) && ageB now n.mtime (lifeV n)))) from rfl)
      have hag : ageB now n.mtime (lifeV n) = decide (IntKind.u64.wrap (lifeV n) ≤ IntKind.u64.wrap (IntKind.u64.wrap now - IntKind.u64.wrap n.mtime)) := rfl
      generalize lifeV n = lv at *
      generalize lifeB n = lb at *
      generalize ageB now n.mtime lv = ab at *
      have HAG := Lib.hid hag
      clear CL CK hE3 hag hcr c0 c3 c12 c10 HO HC0
      cases lb with
      | false =>
        have HS2 := Lib.hid (HNO.out (by rw [HP.out, HPD.out]; simp))
        clear HAG
        go_wp2
        go_roundw
        case rel => exact ⟨k + 1, by omega, by go_num, by unfold Hid; rw [HS2.out]; exact HO3.out, HE3.out⟩
        case measure => simp [intOf]; omega
      | true =>
        by_cases h2 : (kidsOf M n.path).length = 0
        rotate_left
        · have e2 : (((kidsOf M n.path).length : Int) == 0) = false := by simpa using h2
          have HS2 := Lib.hid (HNO.out (by rw [HP.out, HPD.out]; simp [h2]))
          clear h2 HAG
          go_wp2_with fail
          refine (CK3.out W3 (Ext.refl _)).mono ?_
          rintro e W5 ⟨v, rfl, hown, hE5⟩
          obtain ⟨ka, kc, rfl⟩ : ∃ ka kc, v = .slice ka (kidsOf M n.path).length kc := by
            rcases hown.2 with ⟨rfl, h0⟩ | ⟨g, cap, cur, rfl, _⟩
            · exact ⟨none, 0, by rw [h0]⟩
            · exact ⟨_, _, rfl⟩
          have hE5 : Ext W3 W5 := hE5
          have HO5 := Lib.hid (World.ownsRow.kept HO3.out (grown_of_ext hE5 none) (Classical.em _))
          have hcr5 := cellM hE5 hcrL
          have c05 := cellM hE5 c0L
          have c105 := cellM hE5 c10L
          have HE5 := Lib.hid (HE3.out.trans hE5)
          clear hown hE5 CK3 hcrL c0L c3L c12L c10L HC
          generalize (kidsOf M n.path).length = kl at *
          go_wp2
          go_roundw
          case rel => exact ⟨k + 1, by omega, by go_num, by unfold Hid; rw [HS2.out]; exact HO5.out, HE5.out⟩
          case measure => simp [intOf]; omega
        by_cases h3 : n.mtime ≤ now
        rotate_left
        · have HS2 := Lib.hid (HNO.out (by rw [HP.out, HPD.out]; simp [h3]))
          have e3 : decide (n.mtime ≤ now) = false := by simpa using h3
          go_wp2_with fail
          refine (CK3.out W3 (Ext.refl _)).mono ?_
          rintro e W5 ⟨v, rfl, hown, hE5⟩
          obtain ⟨ka, kc, rfl⟩ : ∃ ka kc, v = .slice ka (kidsOf M n.path).length kc := by
            rcases hown.2 with ⟨rfl, h0⟩ | ⟨g, cap, cur, rfl, _⟩
            · exact ⟨none, 0, by rw [h0]⟩
            · exact ⟨_, _, rfl⟩
          have hE5 : Ext W3 W5 := hE5
          have HO5 := Lib.hid (World.ownsRow.kept HO3.out (grown_of_ext hE5 none) (Classical.em _))
          have hcr5 := cellM hE5 hcrL
          have c05 := cellM hE5 c0L
          have c105 := cellM hE5 c10L
          have HE5 := Lib.hid (HE3.out.trans hE5)
          clear hown hE5 CK3 hcrL c0L c3L c12L c10L HC
          rw [h2]
          clear h2 HAG
          go_wp2
          go_roundw
          case rel => exact ⟨k + 1, by omega, by go_num, by unfold Hid; rw [HS2.out]; exact HO5.out, HE5.out⟩
          case measure => simp [intOf]; omega
        cases ab with
        | false =>
          have HS2 := Lib.hid (HNO.out (by rw [HP.out, HPD.out]; simp))
          have e4 := HAG.out.symm
          have e5 : ¬ IntKind.u64.wrap lv ≤ IntKind.u64.wrap (IntKind.u64.wrap now - IntKind.u64.wrap n.mtime) := by simpa using e4
          go_wp2_with fail
          refine (CK3.out W3 (Ext.refl _)).mono ?_
          rintro e W5 ⟨v, rfl, hown, hE5⟩
          obtain ⟨ka, kc, rfl⟩ : ∃ ka kc, v = .slice ka (kidsOf M n.path).length kc := by
            rcases hown.2 with ⟨rfl, h0⟩ | ⟨g, cap, cur, rfl, _⟩
            · exact ⟨none, 0, by rw [h0]⟩
            · exact ⟨_, _, rfl⟩
          have hE5 : Ext W3 W5 := hE5
          have HO5 := Lib.hid (World.ownsRow.kept HO3.out (grown_of_ext hE5 none) (Classical.em _))
          have hcr5 := cellM hE5 hcrL
          have c05 := cellM hE5 c0L
          have c105 := cellM hE5 c10L
          have HE5 := Lib.hid (HE3.out.trans hE5)
          clear hown hE5 CK3 hcrL c0L c3L c12L c10L HC
          rw [h2]
          clear h2 HAG
          go_wp2
          go_roundw
          case rel => exact ⟨k + 1, by omega, by go_num, by unfold Hid; rw [HS2.out]; exact HO5.out, HE5.out⟩
          case measure => simp [intOf]; omega
        | true =>
          have HS2 := Lib.hid (HYES.out (by rw [HP.out, HPD.out]; simp [h2, h3]))
          have e4 := HAG.out.symm
          have e5 : IntKind.u64.wrap lv ≤ IntKind.u64.wrap (IntKind.u64.wrap now - IntKind.u64.wrap n.mtime) := by simpa using e4
          go_wp2_with fail
          refine (CK3.out W3 (Ext.refl _)).mono ?_
          rintro e W5 ⟨v, rfl, hown, hE5⟩
          obtain ⟨ka, kc, rfl⟩ : ∃ ka kc, v = .slice ka (kidsOf M n.path).length kc := by
            rcases hown.2 with ⟨rfl, h0⟩ | ⟨g, cap, cur, rfl, _⟩
            · exact ⟨none, 0, by rw [h0]⟩
            · exact ⟨_, _, rfl⟩
          have hE5 : Ext W3 W5 := hE5
          have HO5 := Lib.hid (World.ownsRow.kept HO3.out (grown_of_ext hE5 none) (Classical.em _))
          have hcr5 := cellM hE5 hcrL
          have c05 := cellM hE5 c0L
          have c105 := cellM hE5 c10L
          have HE5 := Lib.hid (HE3.out.trans hE5)
          clear hown hE5 CK3 hcrL c0L c3L c12L c10L HC
          rw [h2]
          clear h2 HAG
          have hz5 : w.heap.size ≤ W5.heap.size := HE5.out.size
          generalize hol : someL (M.take k) pr = ol at *
          go_wp2_with (at_builtin; refine wpList_append_s rfl (.tmp 77) (.tmp 86) rfl w.heap.size ol.length _ _ HO5.out hz5 n.path (by omega) rfl rfl ?_)
          intro v' W6 hO6 hE6
          have HO6 := Lib.hid hO6
          have HE6 := Lib.hid (hE6 w HE5.out (Nat.le_refl _))
          clear hO6 hE6
          go_wp2
          go_roundw
          case rel => exact ⟨k + 1, by omega, by go_num, by unfold Hid; rw [HS2.out, List.length_append, List.map_append]; exact HO6.out, HE6.out⟩
          case measure => simp [intOf]; omega
    · obtain rfl : k = M.length := by omega
      rw [List.take_length] at HO
      have HFIN := Lib.hid (strs_of_own HO.out hE)
      clear hE HO
      go_wp2
      go_ret
      exact HFIN.out
end Go.Proofs.YthinpbdbhijbgaaGreatDoor
namespace Go.Proofs.YthinpbdbhijbgaaGreatDoor
open Go.RowKit
set_option maxHeartbeats 1000000

end Go.Proofs.YthinpbdbhijbgaaGreatDoor
namespace Go.Proofs.YthinpbdbhijbgaaGreatDoor
open Go.RowKit Go.Sort
set_option maxHeartbeats 2000000

end Go.Proofs.YthinpbdbhijbgaaGreatDoor
namespace Go.Proofs.YthinpbdbhijbgaaGreatDoor
open Go.RowKit Go.Sort
set_option maxHeartbeats 8000000
set_option maxRecDepth 100000

theorem MOk.klen {M : List (Key × Nd)} (hok : MOk M) : ∀ k ∈ M.map (·.1), k.length ≤ maxLen := fun k hk => by
  obtain ⟨x, hx, rfl⟩ := List.mem_map.1 hk
  rw [hok.key x hx]
  unfold keyN
  rw [size_list]
  have := (vpath_facts (right_vpath (hok.right x hx))).2.1
  unfold maxLen; omega

/-- All, where it may tell all. -/
theorem lall_nds (S : Nat → Prop) (w : World) (bt : Nat) (M : List (Key × Nd)) (N : Nat) (hT : TreeAt S w bt M N) (most : Nat) (hm : M.length ≤ most) (hmost : most < maxLen) (hks : M.length * 168 ≤ 140737488355328) :
    Calls Tryz.prog 22 #[.pointer (some ⟨bt, 0, none⟩), .int .i64 most] w fun e w' => ∃ a c, e = .returned (.slice a M.length c) ∧ NdsAt w'.heap.size w' a (nds M) ∧ Ext w w' := by
  have C := lall_any S w bt M N hT most hmost hks hT.ok.klen
  rw [nodesOf_vals hT.ok.sorted, List.take_of_length_le (by rw [List.length_map]; omega)] at C
  refine C.mono ?_
  rintro e w' ⟨v, vs, rfl, hvl, hrow, hvn, hE⟩
  obtain ⟨a, c, rfl, _, _, hR, _⟩ := RowsOf.of_own (S := fun b => b < w'.heap.size) hrow rfl hvl (fun b _ h => h) hvn
  exact ⟨a, c, by rw [List.length_map], hR.nds fun _ h => h, hE⟩
theorem NdsAt.stay {M : List (Key × Nd)} (n : Nat) : ∀ v w w', (∃ a c, v = Value.slice a n c ∧ NdsAt w.heap.size w a (nds M)) → Ext w w' → ∃ a c, v = Value.slice a n c ∧ NdsAt w'.heap.size w' a (nds M) := by
  rintro v w w' ⟨a, c, h1, h2⟩ hE
  exact ⟨a, c, h1, h2.ext hE⟩

end Go.Proofs.YthinpbdbhijbgaaGreatDoor
