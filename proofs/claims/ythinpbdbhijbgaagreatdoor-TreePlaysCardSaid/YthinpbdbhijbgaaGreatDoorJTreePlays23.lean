/- The walks of the tree's some at its three closures, of Owned, Idle and Aged. -/
import Derived.Test.YthinpbdbhijbgaaGreatDoorJTreePlays22
import Derived.Test.YthinpbdbhijbgaaGreatDoorJTreePlays10
import Derived.Test.YthinpbdbhijbgaaGreatDoorJTreePlays14
import Derived.Test.YthinpbdbhijbgaaGreatDoorJTreePlays5
namespace Go.Proofs.YthinpbdbhijbgaaGreatDoor
open Go.RowKit Go.Sort
set_option maxHeartbeats 4000000
set_option maxRecDepth 100000

/-- The paths of the nodes that are so. -/
def someL (M : List (Key × Nd)) (pr : Nd → Bool) : List ByteArray := ((nds M).filter pr).map (·.path)
def StrsOut (L : List ByteArray) (w : World) (e : Ending) (w' : World) : Prop := ∃ a c, e = .returned (.slice a L.length c) ∧ StrsAt w'.heap.size w' a L ∧ Ext w w'
theorem someL_le (M : List (Key × Nd)) (pr : Nd → Bool) : (someL M pr).length ≤ M.length := by
  unfold someL
  rw [List.length_map]
  exact Nat.le_trans (List.length_filter_le _ _) (Nat.le_of_eq (nds_length M))
theorem someL_take {M : List (Key × Nd)} {pr : Nd → Bool} {k : Nat} (hk : k < M.length) : someL (M.take (k + 1)) pr = someL (M.take k) pr ++ if pr M[k].2 = true then [M[k].2.path] else [] := by
  unfold someL nds
  rw [List.take_succ_eq_append_getElem hk, List.map_append, List.filter_append, List.map_append]
  congr 1
  by_cases h : pr M[k].2 = true
  · rw [if_pos h]; simp [h]
  · rw [if_neg h]; simp [h]
theorem encStr_dat (p : ByteArray) : encStr p.data.toList = .string p := by unfold encStr; congr 1
theorem strs_of_own {base : Nat} {w w' : World} {v : Value} {L : List ByteArray} (h : w'.ownsRow base 9 1 v L.length (L.map .string)) (hE : Ext w w') : StrsOut L w (.returned v) w' := by
  have h2 : w'.ownsRow base 9 1 v (L.map fun p => p.data.toList).length ((L.map fun p => p.data.toList).map encStr) := by
    rw [List.length_map, List.map_map]
    rw [show L.map (encStr ∘ fun p => p.data.toList) = L.map Value.string from List.map_congr_left fun p _ => encStr_dat p]
    exact h
  obtain ⟨a, c, rfl, _, hs⟩ := StrsAt.of_own h2
  rw [List.length_map]
  have e : ((L.map fun p => p.data.toList).map fun k => (⟨k.toArray⟩ : ByteArray)) = L := by
    rw [List.map_map]
    exact (List.map_congr_left fun p _ => by simp).trans (List.map_id _)
  rw [e] at hs
  exact ⟨a, c, rfl, hs, hE⟩

theorem cellM {w w' : World} (hE : Ext w w') {p : Addr} {u : Value} (hu : w.cell? p = some u) : w'.cell? p = some u := (hE.cell (World.block_lt_of_cell? _ _ hu)).trans hu
/-- What the closures say. -/
def ownP (z : Int) (n : Nd) : Bool := decide (z ≠ 0) && decide (n.owner = z)
def idleP (M : List (Key × Nd)) (n : Nd) : Bool := decide (n.owner = -9223372036854775808) && (decide (n.creates ≠ 0) && decide ((kidsOf M n.path).length = 0))
def ageB (now m l : Int) : Bool := decide (IntKind.u64.wrap l ≤ IntKind.u64.wrap (IntKind.u64.wrap now - IntKind.u64.wrap m))
def agedP (M : List (Key × Nd)) (now : Int) (n : Nd) : Bool := lifeB n && (decide ((kidsOf M n.path).length = 0) && (decide (n.mtime ≤ now) && ageB now n.mtime (lifeV n)))

theorem some_owned (S : Nat → Prop) (w : World) (bt : Nat) (M : List (Key × Nd)) (N : Nat) (hT : TreeAt S w bt M N) (hl : M.length * 168 ≤ 140737488355328) (g : Nat) (pr : Nd → Bool)
    (hf : ∀ W v n, Ext w W → mget M (keyN n) = some n → NdS S W v n → Calls Tryz.prog 91 #[v, .pointer (some ⟨g, 0, none⟩)] W fun e W' => e = .returned (.bool (pr n)) ∧ Ext W W') :
    Calls Tryz.prog 90 #[.pointer (some ⟨bt, 0, none⟩), .func (.func 91) #[] #[.pointer (some ⟨g, 0, none⟩)]] w (StrsOut (someL M pr) w) := by
  have C1 := Lib.hid (tsorted_any S w bt M N hT (by omega))
  have hbd := hT.bound
  have hok := hT.ok
  have HT := Lib.hid hT
  have HF := Lib.hid hf
  clear hT hf
  go_enter Tryz.func90, Tryz.ntmps90
  go_wp2_with fail
  refine C1.out.mono ?_
  rintro e W1 ⟨v, rfl, hown, _, hE1⟩
  obtain ⟨sa, sc, rfl, _, hstr⟩ := StrsAt.of_own hown
  rw [List.length_map]
  have HSTR := Lib.hid hstr
  have HE1 := Lib.hid hE1
  have HOK := Lib.hid hok
  have hl64 : M.length ≤ 9223372036854775807 := by omega
  clear C1 hown hstr hE1 hok
  go_wp2
  go_loopw [5, 11] (fun lv i wr => ∃ k : Nat, k ≤ M.length ∧ i = .int .i64 k ∧ Hid (wr.ownsRow W1.heap.size 9 1 lv (someL (M.take k) pr).length ((someL (M.take k) pr).map .string)) ∧ Ext W1 wr) (fun _ i _ => M.length - (intOf i).toNat)
  case atStart => exact ⟨0, Nat.zero_le _, rfl, World.ownsRow_nil _ _ _ _, Ext.refl _⟩
  case round =>
    obtain ⟨k, hk, rfl, HO, hE⟩ := hrel
    by_cases hlt : k < M.length
    · obtain ⟨b, off, rfl, hb, hc⟩ := HSTR.out k ⟨M[k].1.toArray⟩ (by rw [List.getElem?_map, List.getElem?_map, List.getElem?_eq_getElem hlt]; rfl)
      have hST := someL_take (pr := pr) hlt
      have hle := someL_le (M.take k) pr
      have hkey := HOK.out.key M[k] (List.getElem_mem hlt)
      have hg : mget M M[k].1 = some M[k].2 := mget_of_mem HOK.out.sorted (List.getElem_mem hlt)
      have hps := (vpath_facts (right_vpath (HOK.out.right M[k] (List.getElem_mem hlt)))).2.1
      rw [show (⟨M[k].1.toArray⟩ : ByteArray) = M[k].2.path from by rw [hkey]; unfold keyN; exact key_bytes _] at hc
      rw [hkey] at hg
      rw [List.length_take] at hle
      generalize hxx : M[k].2 = n at *
      have hcr : wr.cell? ⟨b, off + k, none⟩ = some (.string n.path) := (hE.cell (p := ⟨b, off + k, none⟩) hb).trans hc
      have hEw := HE1.out.trans hE
      obtain ⟨bn, bk, K, hd, hNd, hKd⟩ := HT.out.ext hEw
      have hx := TreeAt.box hd
      obtain ⟨v, hv, _, hq⟩ := hNd.look' n.path (by unfold maxLen; omega)
      rw [show mget M n.path.data.toList = some n from hg] at hv
      simp only [Option.getD_some] at hv
      have CF := Lib.hid (HF.out wr v n hEw hg hv)
      obtain ⟨da, dc, aa, ac, rfl, _, _⟩ := hv
      have HST := Lib.hid hST
      have HE := Lib.hid hE
      have HEW := Lib.hid hEw
      unfold Box treeC at hx
      clear hST hc hkey hg hxx hE hEw hd hNd hKd
      cases hp : pr n with
      | false =>
        rw [hp] at CF
        have HS2 := Lib.hid (show someL (M.take (k + 1)) pr = someL (M.take k) pr by rw [HST.out, if_neg (by rw [hp]; decide), List.append_nil])
        clear hp HST
        go_wp2_with fail
        refine CF.out.mono ?_
        rintro e W5 ⟨rfl, hE5⟩
        have hE5 : Ext wr W5 := hE5
        have HO5 := Lib.hid (World.ownsRow.kept HO.out (grown_of_ext hE5 none) (Classical.em _))
        have HE5 := Lib.hid (HE.out.trans hE5)
        clear CF hE5 hx hq hcr
        go_wp2
        go_roundw
        case rel => exact ⟨k + 1, by omega, by go_num, by unfold Hid; rw [HS2.out]; exact HO5.out, HE5.out⟩
        case measure => simp [intOf]; omega
      | true =>
        rw [hp] at CF
        have HS2 := Lib.hid (show someL (M.take (k + 1)) pr = someL (M.take k) pr ++ [n.path] by rw [HST.out, if_pos hp])
        clear hp HST
        go_wp2_with fail
        refine CF.out.mono ?_
        rintro e W5 ⟨rfl, hE5⟩
        have hE5 : Ext wr W5 := hE5
        have HO5 := Lib.hid (World.ownsRow.kept HO.out (grown_of_ext hE5 none) (Classical.em _))
        have hE05 := HEW.out.trans hE5
        have HE5 := Lib.hid (HE.out.trans hE5)
        have hz5 : W1.heap.size ≤ W5.heap.size := HE5.out.size
        have HE05 := Lib.hid hE05
        generalize hol : someL (M.take k) pr = ol at *
        clear CF hE5 hE05 hx hq hcr
        go_wp2_with (at_builtin; refine wpList_append_s rfl (.tmp 23) (.tmp 25) rfl W1.heap.size ol.length _ _ HO5.out hz5 n.path (by omega) rfl rfl ?_)
        intro v' W6 hO6 hE6
        have HO6 := Lib.hid hO6
        have HE6 := Lib.hid (hE6 W1 HE5.out (Nat.le_refl _))
        clear hO6 hE6
        go_wp2
        go_roundw
        case rel => exact ⟨k + 1, by omega, by go_num, by unfold Hid; rw [HS2.out, List.length_append, List.map_append]; exact HO6.out, HE6.out⟩
        case measure => simp [intOf]; omega
    · obtain rfl : k = M.length := by omega
      rw [List.take_length] at HO
      have HFIN := Lib.hid (strs_of_own HO.out (HE1.out.trans hE))
      clear hE HO
      go_wp2
      go_ret
      exact HFIN.out

theorem some_idle (S : Nat → Prop) (w : World) (bt : Nat) (M : List (Key × Nd)) (N : Nat) (hT : TreeAt S w bt M N) (hl : M.length * 168 ≤ 140737488355328) (g : Nat) (pr : Nd → Bool)
    (hf : ∀ W v n, Ext w W → mget M (keyN n) = some n → NdS S W v n → Calls Tryz.prog 92 #[v, .pointer (some ⟨g, 0, none⟩)] W fun e W' => e = .returned (.bool (pr n)) ∧ Ext W W') :
    Calls Tryz.prog 90 #[.pointer (some ⟨bt, 0, none⟩), .func (.func 92) #[] #[.pointer (some ⟨g, 0, none⟩)]] w (StrsOut (someL M pr) w) := by
  have C1 := Lib.hid (tsorted_any S w bt M N hT (by omega))
  have hbd := hT.bound
  have hok := hT.ok
  have HT := Lib.hid hT
  have HF := Lib.hid hf
  clear hT hf
  go_enter Tryz.func90, Tryz.ntmps90
  go_wp2_with fail
  refine C1.out.mono ?_
  rintro e W1 ⟨v, rfl, hown, _, hE1⟩
  obtain ⟨sa, sc, rfl, _, hstr⟩ := StrsAt.of_own hown
  rw [List.length_map]
  have HSTR := Lib.hid hstr
  have HE1 := Lib.hid hE1
  have HOK := Lib.hid hok
  have hl64 : M.length ≤ 9223372036854775807 := by omega
  clear C1 hown hstr hE1 hok
  go_wp2
  go_loopw [5, 11] (fun lv i wr => ∃ k : Nat, k ≤ M.length ∧ i = .int .i64 k ∧ Hid (wr.ownsRow W1.heap.size 9 1 lv (someL (M.take k) pr).length ((someL (M.take k) pr).map .string)) ∧ Ext W1 wr) (fun _ i _ => M.length - (intOf i).toNat)
  case atStart => exact ⟨0, Nat.zero_le _, rfl, World.ownsRow_nil _ _ _ _, Ext.refl _⟩
  case round =>
    obtain ⟨k, hk, rfl, HO, hE⟩ := hrel
    by_cases hlt : k < M.length
    · obtain ⟨b, off, rfl, hb, hc⟩ := HSTR.out k ⟨M[k].1.toArray⟩ (by rw [List.getElem?_map, List.getElem?_map, List.getElem?_eq_getElem hlt]; rfl)
      have hST := someL_take (pr := pr) hlt
      have hle := someL_le (M.take k) pr
      have hkey := HOK.out.key M[k] (List.getElem_mem hlt)
      have hg : mget M M[k].1 = some M[k].2 := mget_of_mem HOK.out.sorted (List.getElem_mem hlt)
      have hps := (vpath_facts (right_vpath (HOK.out.right M[k] (List.getElem_mem hlt)))).2.1
      rw [show (⟨M[k].1.toArray⟩ : ByteArray) = M[k].2.path from by rw [hkey]; unfold keyN; exact key_bytes _] at hc
      rw [hkey] at hg
      rw [List.length_take] at hle
      generalize hxx : M[k].2 = n at *
      have hcr : wr.cell? ⟨b, off + k, none⟩ = some (.string n.path) := (hE.cell (p := ⟨b, off + k, none⟩) hb).trans hc
      have hEw := HE1.out.trans hE
      obtain ⟨bn, bk, K, hd, hNd, hKd⟩ := HT.out.ext hEw
      have hx := TreeAt.box hd
      obtain ⟨v, hv, _, hq⟩ := hNd.look' n.path (by unfold maxLen; omega)
      rw [show mget M n.path.data.toList = some n from hg] at hv
      simp only [Option.getD_some] at hv
      have CF := Lib.hid (HF.out wr v n hEw hg hv)
      obtain ⟨da, dc, aa, ac, rfl, _, _⟩ := hv
      have HST := Lib.hid hST
      have HE := Lib.hid hE
      have HEW := Lib.hid hEw
      unfold Box treeC at hx
      clear hST hc hkey hg hxx hE hEw hd hNd hKd
      cases hp : pr n with
      | false =>
        rw [hp] at CF
        have HS2 := Lib.hid (show someL (M.take (k + 1)) pr = someL (M.take k) pr by rw [HST.out, if_neg (by rw [hp]; decide), List.append_nil])
        clear hp HST
        go_wp2_with fail
        refine CF.out.mono ?_
        rintro e W5 ⟨rfl, hE5⟩
        have hE5 : Ext wr W5 := hE5
        have HO5 := Lib.hid (World.ownsRow.kept HO.out (grown_of_ext hE5 none) (Classical.em _))
        have HE5 := Lib.hid (HE.out.trans hE5)
        clear CF hE5 hx hq hcr
        go_wp2
        go_roundw
        case rel => exact ⟨k + 1, by omega, by go_num, by unfold Hid; rw [HS2.out]; exact HO5.out, HE5.out⟩
        case measure => simp [intOf]; omega
      | true =>
        rw [hp] at CF
        have HS2 := Lib.hid (show someL (M.take (k + 1)) pr = someL (M.take k) pr ++ [n.path] by rw [HST.out, if_pos hp])
        clear hp HST
        go_wp2_with fail
        refine CF.out.mono ?_
        rintro e W5 ⟨rfl, hE5⟩
        have hE5 : Ext wr W5 := hE5
        have HO5 := Lib.hid (World.ownsRow.kept HO.out (grown_of_ext hE5 none) (Classical.em _))
        have hE05 := HEW.out.trans hE5
        have HE5 := Lib.hid (HE.out.trans hE5)
        have hz5 : W1.heap.size ≤ W5.heap.size := HE5.out.size
        have HE05 := Lib.hid hE05
        generalize hol : someL (M.take k) pr = ol at *
        clear CF hE5 hE05 hx hq hcr
        go_wp2_with (at_builtin; refine wpList_append_s rfl (.tmp 23) (.tmp 25) rfl W1.heap.size ol.length _ _ HO5.out hz5 n.path (by omega) rfl rfl ?_)
        intro v' W6 hO6 hE6
        have HO6 := Lib.hid hO6
        have HE6 := Lib.hid (hE6 W1 HE5.out (Nat.le_refl _))
        clear hO6 hE6
        go_wp2
        go_roundw
        case rel => exact ⟨k + 1, by omega, by go_num, by unfold Hid; rw [HS2.out, List.length_append, List.map_append]; exact HO6.out, HE6.out⟩
        case measure => simp [intOf]; omega
    · obtain rfl : k = M.length := by omega
      rw [List.take_length] at HO
      have HFIN := Lib.hid (strs_of_own HO.out (HE1.out.trans hE))
      clear hE HO
      go_wp2
      go_ret
      exact HFIN.out

theorem some_aged (S : Nat → Prop) (w : World) (bt : Nat) (M : List (Key × Nd)) (N : Nat) (hT : TreeAt S w bt M N) (hl : M.length * 168 ≤ 140737488355328) (g g2 : Nat) (pr : Nd → Bool)
    (hf : ∀ W v n, Ext w W → mget M (keyN n) = some n → NdS S W v n → Calls Tryz.prog 94 #[v, .pointer (some ⟨g, 0, none⟩), .pointer (some ⟨g2, 0, none⟩)] W fun e W' => e = .returned (.bool (pr n)) ∧ Ext W W') :
    Calls Tryz.prog 90 #[.pointer (some ⟨bt, 0, none⟩), .func (.func 94) #[] #[.pointer (some ⟨g, 0, none⟩), .pointer (some ⟨g2, 0, none⟩)]] w (StrsOut (someL M pr) w) := by
  have C1 := Lib.hid (tsorted_any S w bt M N hT (by omega))
  have hbd := hT.bound
  have hok := hT.ok
  have HT := Lib.hid hT
  have HF := Lib.hid hf
  clear hT hf
  go_enter Tryz.func90, Tryz.ntmps90
  go_wp2_with fail
  refine C1.out.mono ?_
  rintro e W1 ⟨v, rfl, hown, _, hE1⟩
  obtain ⟨sa, sc, rfl, _, hstr⟩ := StrsAt.of_own hown
  rw [List.length_map]
  have HSTR := Lib.hid hstr
  have HE1 := Lib.hid hE1
  have HOK := Lib.hid hok
  have hl64 : M.length ≤ 9223372036854775807 := by omega
  clear C1 hown hstr hE1 hok
  go_wp2
  go_loopw [5, 11] (fun lv i wr => ∃ k : Nat, k ≤ M.length ∧ i = .int .i64 k ∧ Hid (wr.ownsRow W1.heap.size 9 1 lv (someL (M.take k) pr).length ((someL (M.take k) pr).map .string)) ∧ Ext W1 wr) (fun _ i _ => M.length - (intOf i).toNat)
  case atStart => exact ⟨0, Nat.zero_le _, rfl, World.ownsRow_nil _ _ _ _, Ext.refl _⟩
  case round =>
    obtain ⟨k, hk, rfl, HO, hE⟩ := hrel
    by_cases hlt : k < M.length
    · obtain ⟨b, off, rfl, hb, hc⟩ := HSTR.out k ⟨M[k].1.toArray⟩ (by rw [List.getElem?_map, List.getElem?_map, List.getElem?_eq_getElem hlt]; rfl)
      have hST := someL_take (pr := pr) hlt
      have hle := someL_le (M.take k) pr
      have hkey := HOK.out.key M[k] (List.getElem_mem hlt)
      have hg : mget M M[k].1 = some M[k].2 := mget_of_mem HOK.out.sorted (List.getElem_mem hlt)
      have hps := (vpath_facts (right_vpath (HOK.out.right M[k] (List.getElem_mem hlt)))).2.1
      rw [show (⟨M[k].1.toArray⟩ : ByteArray) = M[k].2.path from by rw [hkey]; unfold keyN; exact key_bytes _] at hc
      rw [hkey] at hg
      rw [List.length_take] at hle
      generalize hxx : M[k].2 = n at *
      have hcr : wr.cell? ⟨b, off + k, none⟩ = some (.string n.path) := (hE.cell (p := ⟨b, off + k, none⟩) hb).trans hc
      have hEw := HE1.out.trans hE
      obtain ⟨bn, bk, K, hd, hNd, hKd⟩ := HT.out.ext hEw
      have hx := TreeAt.box hd
      obtain ⟨v, hv, _, hq⟩ := hNd.look' n.path (by unfold maxLen; omega)
      rw [show mget M n.path.data.toList = some n from hg] at hv
      simp only [Option.getD_some] at hv
      have CF := Lib.hid (HF.out wr v n hEw hg hv)
      obtain ⟨da, dc, aa, ac, rfl, _, _⟩ := hv
      have HST := Lib.hid hST
      have HE := Lib.hid hE
      have HEW := Lib.hid hEw
      unfold Box treeC at hx
      clear hST hc hkey hg hxx hE hEw hd hNd hKd
      cases hp : pr n with
      | false =>
        rw [hp] at CF
        have HS2 := Lib.hid (show someL (M.take (k + 1)) pr = someL (M.take k) pr by rw [HST.out, if_neg (by rw [hp]; decide), List.append_nil])
        clear hp HST
        go_wp2_with fail
        refine CF.out.mono ?_
        rintro e W5 ⟨rfl, hE5⟩
        have hE5 : Ext wr W5 := hE5
        have HO5 := Lib.hid (World.ownsRow.kept HO.out (grown_of_ext hE5 none) (Classical.em _))
        have HE5 := Lib.hid (HE.out.trans hE5)
        clear CF hE5 hx hq hcr
        go_wp2
        go_roundw
        case rel => exact ⟨k + 1, by omega, by go_num, by unfold Hid; rw [HS2.out]; exact HO5.out, HE5.out⟩
        case measure => simp [intOf]; omega
      | true =>
        rw [hp] at CF
        have HS2 := Lib.hid (show someL (M.take (k + 1)) pr = someL (M.take k) pr ++ [n.path] by rw [HST.out, if_pos hp])
        clear hp HST
        go_wp2_with fail
        refine CF.out.mono ?_
        rintro e W5 ⟨rfl, hE5⟩
        have hE5 : Ext wr W5 := hE5
        have HO5 := Lib.hid (World.ownsRow.kept HO.out (grown_of_ext hE5 none) (Classical.em _))
        have hE05 := HEW.out.trans hE5
        have HE5 := Lib.hid (HE.out.trans hE5)
        have hz5 : W1.heap.size ≤ W5.heap.size := HE5.out.size
        have HE05 := Lib.hid hE05
        generalize hol : someL (M.take k) pr = ol at *
        clear CF hE5 hE05 hx hq hcr
        go_wp2_with (at_builtin; refine wpList_append_s rfl (.tmp 23) (.tmp 25) rfl W1.heap.size ol.length _ _ HO5.out hz5 n.path (by omega) rfl rfl ?_)
        intro v' W6 hO6 hE6
        have HO6 := Lib.hid hO6
        have HE6 := Lib.hid (hE6 W1 HE5.out (Nat.le_refl _))
        clear hO6 hE6
        go_wp2
        go_roundw
        case rel => exact ⟨k + 1, by omega, by go_num, by unfold Hid; rw [HS2.out, List.length_append, List.map_append]; exact HO6.out, HE6.out⟩
        case measure => simp [intOf]; omega
    · obtain rfl : k = M.length := by omega
      rw [List.take_length] at HO
      have HFIN := Lib.hid (strs_of_own HO.out (HE1.out.trans hE))
      clear hE HO
      go_wp2
      go_ret
      exact HFIN.out

theorem owned1_any (S : Nat → Prop) (w : World) (n : Nd) (v : Value) (hv : NdS S w v n) (g : Nat) (z : Int) (hg : w.cell? ⟨g, 0, none⟩ = some (.int .i64 z)) :
    Calls Tryz.prog 91 #[v, .pointer (some ⟨g, 0, none⟩)] w fun e w' => e = .returned (.bool (ownP z n)) ∧ Ext w w' := by
  obtain ⟨da, dc, aa, ac, rfl, _, _⟩ := hv
  generalize Value.slice da n.data.length dc = d at *
  generalize Value.slice aa n.acl.length ac = a at *
  obtain ⟨W1, hW1⟩ : ∃ W1, W1 = w.alloc (.cells (ndC n d a) 44) := ⟨_, rfl⟩
  have hE1 : Ext w W1 := by rw [hW1]; exact Ext.alloc _ _
  have hx : Box W1 w.heap.size (ndC n d a) := fun j => by rw [hW1]; exact cell_of_row _ _ _ _ _ _ (heap_alloc_new w _)
  have how : W1.cell? ⟨w.heap.size, 3, none⟩ = some (.int .i64 n.owner) := hx 3
  have hg1 := cellM hE1 hg
  have HE1 := Lib.hid hE1
  rw [hW1] at how hg1 HE1
  unfold ndC at how hg1 HE1 ⊢
  clear hx hE1 hW1 hg
  by_cases hz : z = 0
  · have HV := Lib.hid (show ownP z n = false by unfold ownP; simp [hz])
    have f1 : (z != 0) = false := by simpa using hz
    clear hz
    go_enter Tryz.func91, Tryz.ntmps91
    go_wp2
    go_ret
    exact ⟨by rw [HV.out]; rfl, HE1.out⟩
  · by_cases ho : n.owner = z
    · have HV := Lib.hid (show ownP z n = true by unfold ownP; simp [hz, ho])
      have f1 : (z != 0) = true := by simpa using hz
      have f2 : (n.owner == z) = true := by simpa using ho
      clear ho hz
      go_enter Tryz.func91, Tryz.ntmps91
      go_wp2
      go_ret
      exact ⟨by rw [HV.out]; rfl, HE1.out⟩
    · have HV := Lib.hid (show ownP z n = false by unfold ownP; simp [hz, ho])
      have f1 : (z != 0) = true := by simpa using hz
      have f2 : (n.owner == z) = false := by simpa using ho
      clear ho hz
      go_enter Tryz.func91, Tryz.ntmps91
      go_wp2
      go_ret
      exact ⟨by rw [HV.out]; rfl, HE1.out⟩

theorem idle1_any (S S' : Nat → Prop) (w : World) (bt : Nat) (M : List (Key × Nd)) (N : Nat) (hT : TreeAt S w bt M N) (n : Nd) (v : Value) (hv : NdS S' w v n) (hps : n.path.size ≤ maxLen) (g : Nat) (hg : w.cell? ⟨g, 0, none⟩ = some (.pointer (some ⟨bt, 0, none⟩))) :
    Calls Tryz.prog 92 #[v, .pointer (some ⟨g, 0, none⟩)] w fun e w' => e = .returned (.bool (idleP M n)) ∧ Ext w w' := by
  obtain ⟨da, dc, aa, ac, rfl, _, _⟩ := hv
  generalize Value.slice da n.data.length dc = d at *
  generalize Value.slice aa n.acl.length ac = a at *
  obtain ⟨W1, hW1⟩ : ∃ W1, W1 = w.alloc (.cells (ndC n d a) 44) := ⟨_, rfl⟩
  have hE1 : Ext w W1 := by rw [hW1]; exact Ext.alloc _ _
  have hx : Box W1 w.heap.size (ndC n d a) := fun j => by rw [hW1]; exact cell_of_row _ _ _ _ _ _ (heap_alloc_new w _)
  obtain ⟨bn, bk, mb, _, hkl⟩ := hT.kids_look n.path hps
  have hbd := hT.bound
  have HKL := Lib.hid fun W (h : Ext W1 W) => (by
    obtain ⟨h1, h2, _, _, h5⟩ := hkl W fun k hk => (h.block k (Nat.lt_of_lt_of_le (hbd k hk) hE1.size)).trans (hE1.block k (hbd k hk))
    exact ⟨h1 1, h2, h5 _⟩ : W.cell? ⟨bt, 1, none⟩ = some (.map (some bk)) ∧ (Instr.lookup 121 (.map (some bk)) (.string n.path) false).run Tryz.prog W = .ok (.map mb) W ∧ (Builtin.len_ #[157] 3 #[.map mb]).run Tryz.prog W = .ok (.int .i64 (kidsOf M n.path).length) W)
  have HG := Lib.hid (cellM hE1 hg)
  have HOW : Hid (W1.cell? ⟨w.heap.size, 3, none⟩ = some (.int .i64 n.owner)) := hx 3
  have HCR : Hid (W1.cell? ⟨w.heap.size, 12, none⟩ = some (.int .i32 n.creates)) := hx 12
  have HP : Hid (W1.cell? ⟨w.heap.size, 0, none⟩ = some (.string n.path)) := hx 0
  have HE1 := Lib.hid hE1
  have HW1 := Lib.hid hW1
  unfold ndC at HW1 ⊢
  clear hx hE1 hW1 hg hkl hbd hT
  by_cases h1 : n.owner = -9223372036854775808
  rotate_left
  · have e1 : (n.owner == -9223372036854775808) = false := by simpa using h1
    have HV := Lib.hid (show idleP M n = false by unfold idleP; simp [h1])
    clear h1
    go_enter Tryz.func92, Tryz.ntmps92
    go_wp2
    rw [← HW1.out]
    refine wp_region_P (by kernel_rfl) (region_sp 23 [.val (.pointer (some ⟨w.heap.size, 3, none⟩)), .val (.int .i64 n.owner), .val (.bool false), .val (.bool false), .val (undef), .val (undef), .val (undef), .val (.bool false), .val (.bool false), .val (undef), .val (undef), .val (undef), .val (undef), .val (undef), .val (undef), .val (undef), .val (undef), .val (undef), .val (.bool false), .val (.bool false)] ?stay rfl (by decide) rfl ?duties ?rest)
    case duties =>
      refine ⟨?_, ?_, ?_, ?_, ?_, ?_, ?_, ?_, ?_, ?_, ?_, ?_, ?_, ?_, ?_, ?_, ?_, ?_, ?_, ?_, trivial⟩
      · refine duty_free rfl fun a w' hE hF hA => ?_
        have x1 := hF.slot 2 _ (by decide) rfl
        exact wp_value (w' := w') (v := .pointer (some ⟨w.heap.size, 3, none⟩)) (by simp only [execOp, x1]; simp [go_sem]) ⟨_, rfl, rfl, Ext.refl _⟩
      · refine duty_free rfl fun a w' hE hF hA => ?_
        have x1 := hA.pick 0 4 (.pointer (some ⟨w.heap.size, 3, none⟩)) rfl rfl ⟨⟨0, .data⟩, by simp, rfl, rfl⟩ (fun u h => h)
        exact wp_value (ex_cell rfl _ _ x1 ((hE.cell (World.block_lt_of_cell? _ _ HOW.out)).trans HOW.out) rfl Tryz.underlying2) ⟨_, rfl, rfl, Ext.refl _⟩
      · refine duty_free rfl fun a w' hE hF hA => ?_
        have x1 := hA.pick 1 5 (.int .i64 n.owner) rfl rfl ⟨⟨1, .data⟩, by simp, rfl, rfl⟩ (fun u h => h)
        exact wp_value (w' := w') (v := .bool false) (by simp only [execOp, x1]; simp [go_sem, e1]) ⟨_, rfl, rfl, Ext.refl _⟩
      · refine duty_free rfl fun a w' hE hF hA => ?_
        have x1 := hA.pick 2 6 (.bool false) rfl rfl ⟨⟨2, .data⟩, by simp, rfl, rfl⟩ (fun u h => h)
        exact wp_value (w' := w') (ex_move rfl) ⟨_, rfl, x1, Ext.refl _⟩
      · exact duty_no rfl (p := _) rfl (d := 7) rfl (show 7 < 23 by decide) ⟨⟨3, .guard⟩, by simp, rfl, rfl⟩ (fun v w h => h) fun w => rfl
      · exact duty_no rfl (p := _) rfl (d := 7) rfl (show 7 < 23 by decide) ⟨⟨3, .guard⟩, by simp, rfl, rfl⟩ (fun v w h => h) fun w => rfl
      · exact duty_no rfl (p := _) rfl (d := 7) rfl (show 7 < 23 by decide) ⟨⟨3, .guard⟩, by simp, rfl, rfl⟩ (fun v w h => h) fun w => rfl
      · refine duty_free rfl fun a w' hE hF hA => ?_
        have x1 := hA.pick 3 7 (.bool false) rfl rfl ⟨⟨3, .data⟩, by simp, rfl, rfl⟩ (fun u h => h)
        exact wp_value (w' := w') (ex_pick rfl x1) ⟨_, rfl, rfl, Ext.refl _⟩
      · refine duty_free rfl fun a w' hE hF hA => ?_
        have x1 := hA.pick 7 11 (.bool false) rfl rfl ⟨⟨7, .data⟩, by simp, rfl, rfl⟩ (fun u h => h)
        exact wp_value (w' := w') (ex_move rfl) ⟨_, rfl, x1, Ext.refl _⟩
      · exact duty_no rfl (p := _) rfl (d := 12) rfl (show 12 < 23 by decide) ⟨⟨8, .guard⟩, by simp, rfl, rfl⟩ (fun v w h => h) fun w => rfl
      · exact duty_no rfl (p := _) rfl (d := 12) rfl (show 12 < 23 by decide) ⟨⟨8, .guard⟩, by simp, rfl, rfl⟩ (fun v w h => h) fun w => rfl
      · exact duty_no rfl (p := _) rfl (d := 12) rfl (show 12 < 23 by decide) ⟨⟨8, .guard⟩, by simp, rfl, rfl⟩ (fun v w h => h) fun w => rfl
      · exact duty_no rfl (p := _) rfl (d := 12) rfl (show 12 < 23 by decide) ⟨⟨8, .guard⟩, by simp, rfl, rfl⟩ (fun v w h => h) fun w => rfl
      · exact duty_no rfl (p := _) rfl (d := 12) rfl (show 12 < 23 by decide) ⟨⟨8, .guard⟩, by simp, rfl, rfl⟩ (fun v w h => h) fun w => rfl
      · exact duty_no rfl (p := _) rfl (d := 12) rfl (show 12 < 23 by decide) ⟨⟨8, .guard⟩, by simp, rfl, rfl⟩ (fun v w h => h) fun w => rfl
      · exact duty_no rfl (p := _) rfl (d := 12) rfl (show 12 < 23 by decide) ⟨⟨8, .guard⟩, by simp, rfl, rfl⟩ (fun v w h => h) fun w => rfl
      · exact duty_no rfl (p := _) rfl (d := 12) rfl (show 12 < 23 by decide) ⟨⟨8, .guard⟩, by simp, rfl, rfl⟩ (fun v w h => h) fun w => rfl
      · exact duty_no rfl (p := _) rfl (d := 12) rfl (show 12 < 23 by decide) ⟨⟨8, .guard⟩, by simp, rfl, rfl⟩ (fun v w h => h) fun w => rfl
      · refine duty_free rfl fun a w' hE hF hA => ?_
        have x1 := hA.pick 8 12 (.bool false) rfl rfl ⟨⟨8, .data⟩, by simp, rfl, rfl⟩ (fun u h => h)
        exact wp_value (w' := w') (ex_pick rfl x1) ⟨_, rfl, rfl, Ext.refl _⟩
      · refine duty_free rfl fun a w' hE hF hA => ?_
        have x1 := hA.pick 18 22 (.bool false) rfl rfl ⟨⟨18, .data⟩, by simp, rfl, rfl⟩ (fun u h => h)
        exact wp_value (w' := w') (ex_assign rfl) ⟨_, rfl, x1, Ext.refl _⟩
    case stay => exact trivial
    case rest =>
      intro W5 hE5
      have HFIN := Lib.hid (HE1.out.trans hE5)
      clear hE5
      simp only [forS]
      simp only [filled, List.zip_cons_cons, List.zip_nil_left, List.foldl_cons, List.foldl_nil, Act.put, List.setIfInBounds_toArray, List.set_cons_succ, List.set_cons_zero, Exit.inBlock, Exit.then]
      rename_i hK
      refine hK _ _ ?_
      clear hK
      go_wp2
      go_ret
      exact ⟨by rw [HV.out]; rfl, HFIN.out⟩
  have e1 : (n.owner == -9223372036854775808) = true := by simpa using h1
  by_cases h2 : n.creates = 0
  · have e2 : (n.creates != 0) = false := by simpa using h2
    have HV := Lib.hid (show idleP M n = false by unfold idleP; simp [h2])
    clear h1 h2
    go_enter Tryz.func92, Tryz.ntmps92
    go_wp2
    rw [← HW1.out]
    refine wp_region_P (by kernel_rfl) (region_sp 23 [.val (.pointer (some ⟨w.heap.size, 3, none⟩)), .val (.int .i64 n.owner), .val (.bool true), .val (.bool true), .val (.pointer (some ⟨w.heap.size, 12, none⟩)), .val (.int .i32 n.creates), .val (.bool false), .val (.bool false), .val (.bool false), .val (undef), .val (undef), .val (undef), .val (undef), .val (undef), .val (undef), .val (undef), .val (undef), .val (undef), .val (.bool false), .val (.bool false)] ?stay rfl (by decide) rfl ?duties ?rest)
    case duties =>
      refine ⟨?_, ?_, ?_, ?_, ?_, ?_, ?_, ?_, ?_, ?_, ?_, ?_, ?_, ?_, ?_, ?_, ?_, ?_, ?_, ?_, trivial⟩
      · refine duty_free rfl fun a w' hE hF hA => ?_
        have x1 := hF.slot 2 _ (by decide) rfl
        exact wp_value (w' := w') (v := .pointer (some ⟨w.heap.size, 3, none⟩)) (by simp only [execOp, x1]; simp [go_sem]) ⟨_, rfl, rfl, Ext.refl _⟩
      · refine duty_free rfl fun a w' hE hF hA => ?_
        have x1 := hA.pick 0 4 (.pointer (some ⟨w.heap.size, 3, none⟩)) rfl rfl ⟨⟨0, .data⟩, by simp, rfl, rfl⟩ (fun u h => h)
        exact wp_value (ex_cell rfl _ _ x1 ((hE.cell (World.block_lt_of_cell? _ _ HOW.out)).trans HOW.out) rfl Tryz.underlying2) ⟨_, rfl, rfl, Ext.refl _⟩
      · refine duty_free rfl fun a w' hE hF hA => ?_
        have x1 := hA.pick 1 5 (.int .i64 n.owner) rfl rfl ⟨⟨1, .data⟩, by simp, rfl, rfl⟩ (fun u h => h)
        exact wp_value (w' := w') (v := .bool true) (by simp only [execOp, x1]; simp [go_sem, e1]) ⟨_, rfl, rfl, Ext.refl _⟩
      · refine duty_free rfl fun a w' hE hF hA => ?_
        have x1 := hA.pick 2 6 (.bool true) rfl rfl ⟨⟨2, .data⟩, by simp, rfl, rfl⟩ (fun u h => h)
        exact wp_value (w' := w') (ex_move rfl) ⟨_, rfl, x1, Ext.refl _⟩
      · refine duty_yes rfl (p := _) rfl (d := 7) rfl (show 7 < 23 by decide) ⟨⟨3, .guard⟩, by simp, rfl, rfl⟩ (fun v w h => h) fun a w' hE hF hA => ?_
        have x1 := hF.slot 2 _ (by decide) rfl
        exact wp_value (w' := w') (v := .pointer (some ⟨w.heap.size, 12, none⟩)) (by simp only [execOp, x1]; simp [go_sem]) ⟨_, rfl, rfl, Ext.refl _⟩
      · refine duty_yes rfl (p := _) rfl (d := 7) rfl (show 7 < 23 by decide) ⟨⟨3, .guard⟩, by simp, rfl, rfl⟩ (fun v w h => h) fun a w' hE hF hA => ?_
        have x1 := hA.pick 4 8 (.pointer (some ⟨w.heap.size, 12, none⟩)) rfl rfl ⟨⟨4, .data⟩, by simp, rfl, rfl⟩ (fun u h => h)
        exact wp_value (ex_cell rfl _ _ x1 ((hE.cell (World.block_lt_of_cell? _ _ HCR.out)).trans HCR.out) rfl Tryz.underlying21) ⟨_, rfl, rfl, Ext.refl _⟩
      · refine duty_yes rfl (p := _) rfl (d := 7) rfl (show 7 < 23 by decide) ⟨⟨3, .guard⟩, by simp, rfl, rfl⟩ (fun v w h => h) fun a w' hE hF hA => ?_
        have x1 := hA.pick 5 9 (.int .i32 n.creates) rfl rfl ⟨⟨5, .data⟩, by simp, rfl, rfl⟩ (fun u h => h)
        exact wp_value (w' := w') (v := .bool false) (by simp only [execOp, x1]; simp [go_sem, e2]) ⟨_, rfl, rfl, Ext.refl _⟩
      · refine duty_free rfl fun a w' hE hF hA => ?_
        have x1 := hA.pick 3 7 (.bool true) rfl rfl ⟨⟨3, .data⟩, by simp, rfl, rfl⟩ (fun u h => h)
        have x2 := hA.pick 6 10 (.bool false) rfl rfl ⟨⟨6, .data⟩, by simp, rfl, rfl⟩ (fun u h => h)
        exact wp_value (w' := w') (ex_pick rfl x1) ⟨_, rfl, x2, Ext.refl _⟩
      · refine duty_free rfl fun a w' hE hF hA => ?_
        have x1 := hA.pick 7 11 (.bool false) rfl rfl ⟨⟨7, .data⟩, by simp, rfl, rfl⟩ (fun u h => h)
        exact wp_value (w' := w') (ex_move rfl) ⟨_, rfl, x1, Ext.refl _⟩
      · exact duty_no rfl (p := _) rfl (d := 12) rfl (show 12 < 23 by decide) ⟨⟨8, .guard⟩, by simp, rfl, rfl⟩ (fun v w h => h) fun w => rfl
      · exact duty_no rfl (p := _) rfl (d := 12) rfl (show 12 < 23 by decide) ⟨⟨8, .guard⟩, by simp, rfl, rfl⟩ (fun v w h => h) fun w => rfl
      · exact duty_no rfl (p := _) rfl (d := 12) rfl (show 12 < 23 by decide) ⟨⟨8, .guard⟩, by simp, rfl, rfl⟩ (fun v w h => h) fun w => rfl
      · exact duty_no rfl (p := _) rfl (d := 12) rfl (show 12 < 23 by decide) ⟨⟨8, .guard⟩, by simp, rfl, rfl⟩ (fun v w h => h) fun w => rfl
      · exact duty_no rfl (p := _) rfl (d := 12) rfl (show 12 < 23 by decide) ⟨⟨8, .guard⟩, by simp, rfl, rfl⟩ (fun v w h => h) fun w => rfl
      · exact duty_no rfl (p := _) rfl (d := 12) rfl (show 12 < 23 by decide) ⟨⟨8, .guard⟩, by simp, rfl, rfl⟩ (fun v w h => h) fun w => rfl
      · exact duty_no rfl (p := _) rfl (d := 12) rfl (show 12 < 23 by decide) ⟨⟨8, .guard⟩, by simp, rfl, rfl⟩ (fun v w h => h) fun w => rfl
      · exact duty_no rfl (p := _) rfl (d := 12) rfl (show 12 < 23 by decide) ⟨⟨8, .guard⟩, by simp, rfl, rfl⟩ (fun v w h => h) fun w => rfl
      · exact duty_no rfl (p := _) rfl (d := 12) rfl (show 12 < 23 by decide) ⟨⟨8, .guard⟩, by simp, rfl, rfl⟩ (fun v w h => h) fun w => rfl
      · refine duty_free rfl fun a w' hE hF hA => ?_
        have x1 := hA.pick 8 12 (.bool false) rfl rfl ⟨⟨8, .data⟩, by simp, rfl, rfl⟩ (fun u h => h)
        exact wp_value (w' := w') (ex_pick rfl x1) ⟨_, rfl, rfl, Ext.refl _⟩
      · refine duty_free rfl fun a w' hE hF hA => ?_
        have x1 := hA.pick 18 22 (.bool false) rfl rfl ⟨⟨18, .data⟩, by simp, rfl, rfl⟩ (fun u h => h)
        exact wp_value (w' := w') (ex_assign rfl) ⟨_, rfl, x1, Ext.refl _⟩
    case stay => exact trivial
    case rest =>
      intro W5 hE5
      have HFIN := Lib.hid (HE1.out.trans hE5)
      clear hE5
      simp only [forS]
      simp only [filled, List.zip_cons_cons, List.zip_nil_left, List.foldl_cons, List.foldl_nil, Act.put, List.setIfInBounds_toArray, List.set_cons_succ, List.set_cons_zero, Exit.inBlock, Exit.then]
      rename_i hK
      refine hK _ _ ?_
      clear hK
      go_wp2
      go_ret
      exact ⟨by rw [HV.out]; rfl, HFIN.out⟩
  have e2 : (n.creates != 0) = true := by simpa using h2
  by_cases h3 : (kidsOf M n.path).length = 0
  · have e3 : (((kidsOf M n.path).length : Int) == 0) = true := by simpa using h3
    have HV := Lib.hid (show idleP M n = true by unfold idleP; simp [h1, h2, h3])
    clear h1 h2 h3
    go_enter Tryz.func92, Tryz.ntmps92
    go_wp2
    rw [← HW1.out]
    refine wp_region_P (by kernel_rfl) (region_sp 23 [.val (.pointer (some ⟨w.heap.size, 3, none⟩)), .val (.int .i64 n.owner), .val (.bool true), .val (.bool true), .val (.pointer (some ⟨w.heap.size, 12, none⟩)), .val (.int .i32 n.creates), .val (.bool true), .val (.bool true), .val (.bool true), .val (.pointer (some ⟨bt, 0, none⟩)), .val (.pointer (some ⟨bt, 0, none⟩)), .val (.pointer (some ⟨bt, 1, none⟩)), .val (.map (some bk)), .val (.pointer (some ⟨w.heap.size, 0, none⟩)), .val (.string n.path), .val (.map mb), .val (.int .i64 (kidsOf M n.path).length), .val (.bool true), .val (.bool true), .val (.bool true)] ?stay rfl (by decide) rfl ?duties ?rest)
    case duties =>
      refine ⟨?_, ?_, ?_, ?_, ?_, ?_, ?_, ?_, ?_, ?_, ?_, ?_, ?_, ?_, ?_, ?_, ?_, ?_, ?_, ?_, trivial⟩
      · refine duty_free rfl fun a w' hE hF hA => ?_
        have x1 := hF.slot 2 _ (by decide) rfl
        exact wp_value (w' := w') (v := .pointer (some ⟨w.heap.size, 3, none⟩)) (by simp only [execOp, x1]; simp [go_sem]) ⟨_, rfl, rfl, Ext.refl _⟩
      · refine duty_free rfl fun a w' hE hF hA => ?_
        have x1 := hA.pick 0 4 (.pointer (some ⟨w.heap.size, 3, none⟩)) rfl rfl ⟨⟨0, .data⟩, by simp, rfl, rfl⟩ (fun u h => h)
        exact wp_value (ex_cell rfl _ _ x1 ((hE.cell (World.block_lt_of_cell? _ _ HOW.out)).trans HOW.out) rfl Tryz.underlying2) ⟨_, rfl, rfl, Ext.refl _⟩
      · refine duty_free rfl fun a w' hE hF hA => ?_
        have x1 := hA.pick 1 5 (.int .i64 n.owner) rfl rfl ⟨⟨1, .data⟩, by simp, rfl, rfl⟩ (fun u h => h)
        exact wp_value (w' := w') (v := .bool true) (by simp only [execOp, x1]; simp [go_sem, e1]) ⟨_, rfl, rfl, Ext.refl _⟩
      · refine duty_free rfl fun a w' hE hF hA => ?_
        have x1 := hA.pick 2 6 (.bool true) rfl rfl ⟨⟨2, .data⟩, by simp, rfl, rfl⟩ (fun u h => h)
        exact wp_value (w' := w') (ex_move rfl) ⟨_, rfl, x1, Ext.refl _⟩
      · refine duty_yes rfl (p := _) rfl (d := 7) rfl (show 7 < 23 by decide) ⟨⟨3, .guard⟩, by simp, rfl, rfl⟩ (fun v w h => h) fun a w' hE hF hA => ?_
        have x1 := hF.slot 2 _ (by decide) rfl
        exact wp_value (w' := w') (v := .pointer (some ⟨w.heap.size, 12, none⟩)) (by simp only [execOp, x1]; simp [go_sem]) ⟨_, rfl, rfl, Ext.refl _⟩
      · refine duty_yes rfl (p := _) rfl (d := 7) rfl (show 7 < 23 by decide) ⟨⟨3, .guard⟩, by simp, rfl, rfl⟩ (fun v w h => h) fun a w' hE hF hA => ?_
        have x1 := hA.pick 4 8 (.pointer (some ⟨w.heap.size, 12, none⟩)) rfl rfl ⟨⟨4, .data⟩, by simp, rfl, rfl⟩ (fun u h => h)
        exact wp_value (ex_cell rfl _ _ x1 ((hE.cell (World.block_lt_of_cell? _ _ HCR.out)).trans HCR.out) rfl Tryz.underlying21) ⟨_, rfl, rfl, Ext.refl _⟩
      · refine duty_yes rfl (p := _) rfl (d := 7) rfl (show 7 < 23 by decide) ⟨⟨3, .guard⟩, by simp, rfl, rfl⟩ (fun v w h => h) fun a w' hE hF hA => ?_
        have x1 := hA.pick 5 9 (.int .i32 n.creates) rfl rfl ⟨⟨5, .data⟩, by simp, rfl, rfl⟩ (fun u h => h)
        exact wp_value (w' := w') (v := .bool true) (by simp only [execOp, x1]; simp [go_sem, e2]) ⟨_, rfl, rfl, Ext.refl _⟩
      · refine duty_free rfl fun a w' hE hF hA => ?_
        have x1 := hA.pick 3 7 (.bool true) rfl rfl ⟨⟨3, .data⟩, by simp, rfl, rfl⟩ (fun u h => h)
        have x2 := hA.pick 6 10 (.bool true) rfl rfl ⟨⟨6, .data⟩, by simp, rfl, rfl⟩ (fun u h => h)
        exact wp_value (w' := w') (ex_pick rfl x1) ⟨_, rfl, x2, Ext.refl _⟩
      · refine duty_free rfl fun a w' hE hF hA => ?_
        have x1 := hA.pick 7 11 (.bool true) rfl rfl ⟨⟨7, .data⟩, by simp, rfl, rfl⟩ (fun u h => h)
        exact wp_value (w' := w') (ex_move rfl) ⟨_, rfl, x1, Ext.refl _⟩
      · refine duty_yes rfl (p := _) rfl (d := 12) rfl (show 12 < 23 by decide) ⟨⟨8, .guard⟩, by simp, rfl, rfl⟩ (fun v w h => h) fun a w' hE hF hA => ?_
        have x1 := hF.slot 1 _ (by decide) rfl
        exact wp_value (ex_cell rfl _ _ x1 ((hE.cell (World.block_lt_of_cell? _ _ HG.out)).trans HG.out) rfl Tryz.underlying37) ⟨_, rfl, rfl, Ext.refl _⟩
      · refine duty_yes rfl (p := _) rfl (d := 12) rfl (show 12 < 23 by decide) ⟨⟨8, .guard⟩, by simp, rfl, rfl⟩ (fun v w h => h) fun a w' hE hF hA => ?_
        have x1 := hA.pick 9 13 (.pointer (some ⟨bt, 0, none⟩)) rfl rfl ⟨⟨9, .data⟩, by simp, rfl, rfl⟩ (fun u h => h)
        exact wp_value (ex_nilCheck rfl _ x1) ⟨_, rfl, rfl, Ext.refl _⟩
      · refine duty_yes rfl (p := _) rfl (d := 12) rfl (show 12 < 23 by decide) ⟨⟨8, .guard⟩, by simp, rfl, rfl⟩ (fun v w h => h) fun a w' hE hF hA => ?_
        have x1 := hA.pick 10 14 (.pointer (some ⟨bt, 0, none⟩)) rfl rfl ⟨⟨10, .data⟩, by simp, rfl, rfl⟩ (fun u h => h)
        exact wp_value (w' := w') (v := .pointer (some ⟨bt, 1, none⟩)) (by simp only [execOp, x1]; simp [go_sem]) ⟨_, rfl, rfl, Ext.refl _⟩
      · refine duty_yes rfl (p := _) rfl (d := 12) rfl (show 12 < 23 by decide) ⟨⟨8, .guard⟩, by simp, rfl, rfl⟩ (fun v w h => h) fun a w' hE hF hA => ?_
        have x1 := hA.pick 11 15 (.pointer (some ⟨bt, 1, none⟩)) rfl rfl ⟨⟨11, .data⟩, by simp, rfl, rfl⟩ (fun u h => h)
        exact wp_value (ex_cell rfl _ _ x1 (HKL.out w' hE).1 rfl Tryz.underlying121) ⟨_, rfl, rfl, Ext.refl _⟩
      · refine duty_yes rfl (p := _) rfl (d := 12) rfl (show 12 < 23 by decide) ⟨⟨8, .guard⟩, by simp, rfl, rfl⟩ (fun v w h => h) fun a w' hE hF hA => ?_
        have x1 := hF.slot 2 _ (by decide) rfl
        exact wp_value (w' := w') (v := .pointer (some ⟨w.heap.size, 0, none⟩)) (by simp only [execOp, x1]; simp [go_sem]) ⟨_, rfl, rfl, Ext.refl _⟩
      · refine duty_yes rfl (p := _) rfl (d := 12) rfl (show 12 < 23 by decide) ⟨⟨8, .guard⟩, by simp, rfl, rfl⟩ (fun v w h => h) fun a w' hE hF hA => ?_
        have x1 := hA.pick 13 17 (.pointer (some ⟨w.heap.size, 0, none⟩)) rfl rfl ⟨⟨13, .data⟩, by simp, rfl, rfl⟩ (fun u h => h)
        exact wp_value (ex_cell rfl _ _ x1 ((hE.cell (World.block_lt_of_cell? _ _ HP.out)).trans HP.out) rfl Tryz.underlying9) ⟨_, rfl, rfl, Ext.refl _⟩
      · refine duty_yes rfl (p := _) rfl (d := 12) rfl (show 12 < 23 by decide) ⟨⟨8, .guard⟩, by simp, rfl, rfl⟩ (fun v w h => h) fun a w' hE hF hA => ?_
        have x1 := hA.pick 12 16 (.map (some bk)) rfl rfl ⟨⟨12, .data⟩, by simp, rfl, rfl⟩ (fun u h => h)
        have x2 := hA.pick 14 18 (.string n.path) rfl rfl ⟨⟨14, .data⟩, by simp, rfl, rfl⟩ (fun u h => h)
        exact wp_value (w' := w') (v := .map mb) (by simp only [execOp, x1, x2, Sem.run_bind, (HKL.out w' hE).2.1, Sem.run_pure, Result.andThen_ok]) ⟨_, rfl, rfl, Ext.refl _⟩
      · refine duty_yes rfl (p := _) rfl (d := 12) rfl (show 12 < 23 by decide) ⟨⟨8, .guard⟩, by simp, rfl, rfl⟩ (fun v w h => h) fun a w' hE hF hA => ?_
        have x1 := hA.pick 15 19 (.map mb) rfl rfl ⟨⟨15, .data⟩, by simp, rfl, rfl⟩ (fun u h => h)
        exact wp_value (w' := w') (v := .int .i64 (kidsOf M n.path).length) (by simp only [execOp, resolve, invoke, builtin, Sem.run_bind, Sem.run_pure, Result.andThen_ok, List.map_toArray, List.map_cons, List.map_nil, x1, (HKL.out w' hE).2.2]) ⟨_, rfl, rfl, Ext.refl _⟩
      · refine duty_yes rfl (p := _) rfl (d := 12) rfl (show 12 < 23 by decide) ⟨⟨8, .guard⟩, by simp, rfl, rfl⟩ (fun v w h => h) fun a w' hE hF hA => ?_
        have x1 := hA.pick 16 20 (.int .i64 (kidsOf M n.path).length) rfl rfl ⟨⟨16, .data⟩, by simp, rfl, rfl⟩ (fun u h => h)
        exact wp_value (w' := w') (v := .bool true) (by simp only [execOp, x1]; simp [go_sem, e3]) ⟨_, rfl, rfl, Ext.refl _⟩
      · refine duty_free rfl fun a w' hE hF hA => ?_
        have x1 := hA.pick 8 12 (.bool true) rfl rfl ⟨⟨8, .data⟩, by simp, rfl, rfl⟩ (fun u h => h)
        have x2 := hA.pick 17 21 (.bool true) rfl rfl ⟨⟨17, .data⟩, by simp, rfl, rfl⟩ (fun u h => h)
        exact wp_value (w' := w') (ex_pick rfl x1) ⟨_, rfl, x2, Ext.refl _⟩
      · refine duty_free rfl fun a w' hE hF hA => ?_
        have x1 := hA.pick 18 22 (.bool true) rfl rfl ⟨⟨18, .data⟩, by simp, rfl, rfl⟩ (fun u h => h)
        exact wp_value (w' := w') (ex_assign rfl) ⟨_, rfl, x1, Ext.refl _⟩
    case stay => exact trivial
    case rest =>
      intro W5 hE5
      have HFIN := Lib.hid (HE1.out.trans hE5)
      clear hE5
      simp only [forS]
      simp only [filled, List.zip_cons_cons, List.zip_nil_left, List.foldl_cons, List.foldl_nil, Act.put, List.setIfInBounds_toArray, List.set_cons_succ, List.set_cons_zero, Exit.inBlock, Exit.then]
      rename_i hK
      refine hK _ _ ?_
      clear hK
      go_wp2
      go_ret
      exact ⟨by rw [HV.out]; rfl, HFIN.out⟩
  · have e3 : (((kidsOf M n.path).length : Int) == 0) = false := by simpa using h3
    have HV := Lib.hid (show idleP M n = false by unfold idleP; simp [h3])
    clear h1 h2 h3
    go_enter Tryz.func92, Tryz.ntmps92
    go_wp2
    rw [← HW1.out]
    refine wp_region_P (by kernel_rfl) (region_sp 23 [.val (.pointer (some ⟨w.heap.size, 3, none⟩)), .val (.int .i64 n.owner), .val (.bool true), .val (.bool true), .val (.pointer (some ⟨w.heap.size, 12, none⟩)), .val (.int .i32 n.creates), .val (.bool true), .val (.bool true), .val (.bool true), .val (.pointer (some ⟨bt, 0, none⟩)), .val (.pointer (some ⟨bt, 0, none⟩)), .val (.pointer (some ⟨bt, 1, none⟩)), .val (.map (some bk)), .val (.pointer (some ⟨w.heap.size, 0, none⟩)), .val (.string n.path), .val (.map mb), .val (.int .i64 (kidsOf M n.path).length), .val (.bool false), .val (.bool false), .val (.bool false)] ?stay rfl (by decide) rfl ?duties ?rest)
    case duties =>
      refine ⟨?_, ?_, ?_, ?_, ?_, ?_, ?_, ?_, ?_, ?_, ?_, ?_, ?_, ?_, ?_, ?_, ?_, ?_, ?_, ?_, trivial⟩
      · refine duty_free rfl fun a w' hE hF hA => ?_
        have x1 := hF.slot 2 _ (by decide) rfl
        exact wp_value (w' := w') (v := .pointer (some ⟨w.heap.size, 3, none⟩)) (by simp only [execOp, x1]; simp [go_sem]) ⟨_, rfl, rfl, Ext.refl _⟩
      · refine duty_free rfl fun a w' hE hF hA => ?_
        have x1 := hA.pick 0 4 (.pointer (some ⟨w.heap.size, 3, none⟩)) rfl rfl ⟨⟨0, .data⟩, by simp, rfl, rfl⟩ (fun u h => h)
        exact wp_value (ex_cell rfl _ _ x1 ((hE.cell (World.block_lt_of_cell? _ _ HOW.out)).trans HOW.out) rfl Tryz.underlying2) ⟨_, rfl, rfl, Ext.refl _⟩
      · refine duty_free rfl fun a w' hE hF hA => ?_
        have x1 := hA.pick 1 5 (.int .i64 n.owner) rfl rfl ⟨⟨1, .data⟩, by simp, rfl, rfl⟩ (fun u h => h)
        exact wp_value (w' := w') (v := .bool true) (by simp only [execOp, x1]; simp [go_sem, e1]) ⟨_, rfl, rfl, Ext.refl _⟩
      · refine duty_free rfl fun a w' hE hF hA => ?_
        have x1 := hA.pick 2 6 (.bool true) rfl rfl ⟨⟨2, .data⟩, by simp, rfl, rfl⟩ (fun u h => h)
        exact wp_value (w' := w') (ex_move rfl) ⟨_, rfl, x1, Ext.refl _⟩
      · refine duty_yes rfl (p := _) rfl (d := 7) rfl (show 7 < 23 by decide) ⟨⟨3, .guard⟩, by simp, rfl, rfl⟩ (fun v w h => h) fun a w' hE hF hA => ?_
        have x1 := hF.slot 2 _ (by decide) rfl
        exact wp_value (w' := w') (v := .pointer (some ⟨w.heap.size, 12, none⟩)) (by simp only [execOp, x1]; simp [go_sem]) ⟨_, rfl, rfl, Ext.refl _⟩
      · refine duty_yes rfl (p := _) rfl (d := 7) rfl (show 7 < 23 by decide) ⟨⟨3, .guard⟩, by simp, rfl, rfl⟩ (fun v w h => h) fun a w' hE hF hA => ?_
        have x1 := hA.pick 4 8 (.pointer (some ⟨w.heap.size, 12, none⟩)) rfl rfl ⟨⟨4, .data⟩, by simp, rfl, rfl⟩ (fun u h => h)
        exact wp_value (ex_cell rfl _ _ x1 ((hE.cell (World.block_lt_of_cell? _ _ HCR.out)).trans HCR.out) rfl Tryz.underlying21) ⟨_, rfl, rfl, Ext.refl _⟩
      · refine duty_yes rfl (p := _) rfl (d := 7) rfl (show 7 < 23 by decide) ⟨⟨3, .guard⟩, by simp, rfl, rfl⟩ (fun v w h => h) fun a w' hE hF hA => ?_
        have x1 := hA.pick 5 9 (.int .i32 n.creates) rfl rfl ⟨⟨5, .data⟩, by simp, rfl, rfl⟩ (fun u h => h)
        exact wp_value (w' := w') (v := .bool true) (by simp only [execOp, x1]; simp [go_sem, e2]) ⟨_, rfl, rfl, Ext.refl _⟩
      · refine duty_free rfl fun a w' hE hF hA => ?_
        have x1 := hA.pick 3 7 (.bool true) rfl rfl ⟨⟨3, .data⟩, by simp, rfl, rfl⟩ (fun u h => h)
        have x2 := hA.pick 6 10 (.bool true) rfl rfl ⟨⟨6, .data⟩, by simp, rfl, rfl⟩ (fun u h => h)
        exact wp_value (w' := w') (ex_pick rfl x1) ⟨_, rfl, x2, Ext.refl _⟩
      · refine duty_free rfl fun a w' hE hF hA => ?_
        have x1 := hA.pick 7 11 (.bool true) rfl rfl ⟨⟨7, .data⟩, by simp, rfl, rfl⟩ (fun u h => h)
        exact wp_value (w' := w') (ex_move rfl) ⟨_, rfl, x1, Ext.refl _⟩
      · refine duty_yes rfl (p := _) rfl (d := 12) rfl (show 12 < 23 by decide) ⟨⟨8, .guard⟩, by simp, rfl, rfl⟩ (fun v w h => h) fun a w' hE hF hA => ?_
        have x1 := hF.slot 1 _ (by decide) rfl
        exact wp_value (ex_cell rfl _ _ x1 ((hE.cell (World.block_lt_of_cell? _ _ HG.out)).trans HG.out) rfl Tryz.underlying37) ⟨_, rfl, rfl, Ext.refl _⟩
      · refine duty_yes rfl (p := _) rfl (d := 12) rfl (show 12 < 23 by decide) ⟨⟨8, .guard⟩, by simp, rfl, rfl⟩ (fun v w h => h) fun a w' hE hF hA => ?_
        have x1 := hA.pick 9 13 (.pointer (some ⟨bt, 0, none⟩)) rfl rfl ⟨⟨9, .data⟩, by simp, rfl, rfl⟩ (fun u h => h)
        exact wp_value (ex_nilCheck rfl _ x1) ⟨_, rfl, rfl, Ext.refl _⟩
      · refine duty_yes rfl (p := _) rfl (d := 12) rfl (show 12 < 23 by decide) ⟨⟨8, .guard⟩, by simp, rfl, rfl⟩ (fun v w h => h) fun a w' hE hF hA => ?_
        have x1 := hA.pick 10 14 (.pointer (some ⟨bt, 0, none⟩)) rfl rfl ⟨⟨10, .data⟩, by simp, rfl, rfl⟩ (fun u h => h)
        exact wp_value (w' := w') (v := .pointer (some ⟨bt, 1, none⟩)) (by simp only [execOp, x1]; simp [go_sem]) ⟨_, rfl, rfl, Ext.refl _⟩
      · refine duty_yes rfl (p := _) rfl (d := 12) rfl (show 12 < 23 by decide) ⟨⟨8, .guard⟩, by simp, rfl, rfl⟩ (fun v w h => h) fun a w' hE hF hA => ?_
        have x1 := hA.pick 11 15 (.pointer (some ⟨bt, 1, none⟩)) rfl rfl ⟨⟨11, .data⟩, by simp, rfl, rfl⟩ (fun u h => h)
        exact wp_value (ex_cell rfl _ _ x1 (HKL.out w' hE).1 rfl Tryz.underlying121) ⟨_, rfl, rfl, Ext.refl _⟩
      · refine duty_yes rfl (p := _) rfl (d := 12) rfl (show 12 < 23 by decide) ⟨⟨8, .guard⟩, by simp, rfl, rfl⟩ (fun v w h => h) fun a w' hE hF hA => ?_
        have x1 := hF.slot 2 _ (by decide) rfl
        exact wp_value (w' := w') (v := .pointer (some ⟨w.heap.size, 0, none⟩)) (by simp only [execOp, x1]; simp [go_sem]) ⟨_, rfl, rfl, Ext.refl _⟩
      · refine duty_yes rfl (p := _) rfl (d := 12) rfl (show 12 < 23 by decide) ⟨⟨8, .guard⟩, by simp, rfl, rfl⟩ (fun v w h => h) fun a w' hE hF hA => ?_
        have x1 := hA.pick 13 17 (.pointer (some ⟨w.heap.size, 0, none⟩)) rfl rfl ⟨⟨13, .data⟩, by simp, rfl, rfl⟩ (fun u h => h)
        exact wp_value (ex_cell rfl _ _ x1 ((hE.cell (World.block_lt_of_cell? _ _ HP.out)).trans HP.out) rfl Tryz.underlying9) ⟨_, rfl, rfl, Ext.refl _⟩
      · refine duty_yes rfl (p := _) rfl (d := 12) rfl (show 12 < 23 by decide) ⟨⟨8, .guard⟩, by simp, rfl, rfl⟩ (fun v w h => h) fun a w' hE hF hA => ?_
        have x1 := hA.pick 12 16 (.map (some bk)) rfl rfl ⟨⟨12, .data⟩, by simp, rfl, rfl⟩ (fun u h => h)
        have x2 := hA.pick 14 18 (.string n.path) rfl rfl ⟨⟨14, .data⟩, by simp, rfl, rfl⟩ (fun u h => h)
        exact wp_value (w' := w') (v := .map mb) (by simp only [execOp, x1, x2, Sem.run_bind, (HKL.out w' hE).2.1, Sem.run_pure, Result.andThen_ok]) ⟨_, rfl, rfl, Ext.refl _⟩
      · refine duty_yes rfl (p := _) rfl (d := 12) rfl (show 12 < 23 by decide) ⟨⟨8, .guard⟩, by simp, rfl, rfl⟩ (fun v w h => h) fun a w' hE hF hA => ?_
        have x1 := hA.pick 15 19 (.map mb) rfl rfl ⟨⟨15, .data⟩, by simp, rfl, rfl⟩ (fun u h => h)
        exact wp_value (w' := w') (v := .int .i64 (kidsOf M n.path).length) (by simp only [execOp, resolve, invoke, builtin, Sem.run_bind, Sem.run_pure, Result.andThen_ok, List.map_toArray, List.map_cons, List.map_nil, x1, (HKL.out w' hE).2.2]) ⟨_, rfl, rfl, Ext.refl _⟩
      · refine duty_yes rfl (p := _) rfl (d := 12) rfl (show 12 < 23 by decide) ⟨⟨8, .guard⟩, by simp, rfl, rfl⟩ (fun v w h => h) fun a w' hE hF hA => ?_
        have x1 := hA.pick 16 20 (.int .i64 (kidsOf M n.path).length) rfl rfl ⟨⟨16, .data⟩, by simp, rfl, rfl⟩ (fun u h => h)
        exact wp_value (w' := w') (v := .bool false) (by simp only [execOp, x1]; simp [go_sem, e3]) ⟨_, rfl, rfl, Ext.refl _⟩
      · refine duty_free rfl fun a w' hE hF hA => ?_
        have x1 := hA.pick 8 12 (.bool true) rfl rfl ⟨⟨8, .data⟩, by simp, rfl, rfl⟩ (fun u h => h)
        have x2 := hA.pick 17 21 (.bool false) rfl rfl ⟨⟨17, .data⟩, by simp, rfl, rfl⟩ (fun u h => h)
        exact wp_value (w' := w') (ex_pick rfl x1) ⟨_, rfl, x2, Ext.refl _⟩
      · refine duty_free rfl fun a w' hE hF hA => ?_
        have x1 := hA.pick 18 22 (.bool false) rfl rfl ⟨⟨18, .data⟩, by simp, rfl, rfl⟩ (fun u h => h)
        exact wp_value (w' := w') (ex_assign rfl) ⟨_, rfl, x1, Ext.refl _⟩
    case stay => exact trivial
    case rest =>
      intro W5 hE5
      have HFIN := Lib.hid (HE1.out.trans hE5)
      clear hE5
      simp only [forS]
      simp only [filled, List.zip_cons_cons, List.zip_nil_left, List.foldl_cons, List.foldl_nil, Act.put, List.setIfInBounds_toArray, List.set_cons_succ, List.set_cons_zero, Exit.inBlock, Exit.then]
      rename_i hK
      refine hK _ _ ?_
      clear hK
      go_wp2
      go_ret
      exact ⟨by rw [HV.out]; rfl, HFIN.out⟩

theorem aged1_any (S S' : Nat → Prop) (w : World) (bt : Nat) (M : List (Key × Nd)) (N : Nat) (hT : TreeAt S w bt M N) (n : Nd) (v : Value) (hv : NdS S' w v n) (hps : n.path.size ≤ maxLen) (hi : -9223372036854775808 ≤ n.owner ∧ n.owner ≤ 9223372036854775807) (g g2 : Nat) (now : Int) (hg : w.cell? ⟨g, 0, none⟩ = some (.pointer (some ⟨bt, 0, none⟩))) (hn : w.cell? ⟨g2, 0, none⟩ = some (.int .i64 now)) :
    Calls Tryz.prog 94 #[v, .pointer (some ⟨g, 0, none⟩), .pointer (some ⟨g2, 0, none⟩)] w fun e w' => e = .returned (.bool (agedP M now n)) ∧ Ext w w' := by
  obtain ⟨da, dc, aa, ac, rfl, _, _⟩ := hv
  generalize Value.slice da n.data.length dc = d at *
  generalize Value.slice aa n.acl.length ac = a at *
  obtain ⟨W1, hW1⟩ : ∃ W1, W1 = w.alloc (.cells (ndC n d a) 44) := ⟨_, rfl⟩
  have hE1 : Ext w W1 := by rw [hW1]; exact Ext.alloc _ _
  have hx : Box W1 w.heap.size (ndC n d a) := fun j => by rw [hW1]; exact cell_of_row _ _ _ _ _ _ (heap_alloc_new w _)
  obtain ⟨bn, bk, mb, _, hkl⟩ := hT.kids_look n.path hps
  have hbd := hT.bound
  have HKL := Lib.hid fun W (h : Ext W1 W) => (by
    obtain ⟨h1, h2, _, _, h5⟩ := hkl W fun k hk => (h.block k (Nat.lt_of_lt_of_le (hbd k hk) hE1.size)).trans (hE1.block k (hbd k hk))
    exact ⟨h1 1, h2, h5 _⟩ : W.cell? ⟨bt, 1, none⟩ = some (.map (some bk)) ∧ (Instr.lookup 121 (.map (some bk)) (.string n.path) false).run Tryz.prog W = .ok (.map mb) W ∧ (Builtin.len_ #[157] 3 #[.map mb]).run Tryz.prog W = .ok (.int .i64 (kidsOf M n.path).length) W)
  have HG := Lib.hid (cellM hE1 hg)
  have hn1 : W1.heap[w.heap.size]? = some (.cells (ndC n d a) 44 (0, 0)) := by rw [hW1]; exact heap_alloc_new w _
  have CL := slife_any n d a W1 hi
  have HMT0 := Lib.hid (show W1.cell? ⟨w.heap.size, 10, none⟩ = some (.int .i64 n.mtime) from hx 10)
  have HP0 : Hid (W1.cell? ⟨w.heap.size, 0, none⟩ = some (.string n.path)) := hx 0
  have HNOW0 := Lib.hid (cellM hE1 hn)
  have HE1 := Lib.hid hE1
  have HKL0 := HKL
  have HG0 := HG
  rw [hW1] at CL hn1
  have CL := Lib.hid CL
  have HN1 := Lib.hid hn1
  have HW1 := Lib.hid hW1
  unfold ndC at HW1 HN1 CL ⊢
  clear hx hE1 hW1 hg hkl hbd hT hn hn1 HG HKL
  go_enter Tryz.func94, Tryz.ntmps94
  go_wp2_with (refine wpList_load_row rfl 44 (.tmp 3) rfl w.heap.size rfl 44 _ (0, 0) _ HN1.out Tryz.underlying44 rfl sizeNd ?_)
  refine CL.out.mono ?_
  rintro e W2 ⟨rfl, hE2⟩
  rw [← HW1.out] at hE2
  have hE2 : Ext W1 W2 := hE2
  have HKL := Lib.hid fun W (h : Ext W2 W) => HKL0.out W (hE2.trans h)
  have HG := Lib.hid (cellM hE2 HG0.out)
  have HP := Lib.hid (cellM hE2 HP0.out)
  have HMT := Lib.hid (cellM hE2 HMT0.out)
  have HNOW := Lib.hid (cellM hE2 HNOW0.out)
  have HE2 := Lib.hid (HE1.out.trans hE2)
  have HPD := Lib.hid (show agedP M now n = (lifeB n && (decide ((kidsOf M n.path).length = 0) && (decide (n.mtime ≤ now) && ageB now n.mtime (lifeV n)))) from rfl)
  have hag : ageB now n.mtime (lifeV n) = decide (IntKind.u64.wrap (lifeV n) ≤ IntKind.u64.wrap (IntKind.u64.wrap now - IntKind.u64.wrap n.mtime)) := rfl
  generalize lifeV n = lv at *
  generalize lifeB n = lb at *
  generalize ageB now n.mtime lv = ab at *
  have HAG := Lib.hid hag
  clear CL HKL0 HG0 HP0 HMT0 HNOW0 hE2 HN1 HW1 hag
  cases lb with
  | false =>
    have HV := Lib.hid (show agedP M now n = false by rw [HPD.out]; simp [])
    go_wp2
    refine wp_region_P (by kernel_rfl) (region_sp 41 [.val (.bool false), .val (.bool false), .val (undef), .val (undef), .val (undef), .val (undef), .val (undef), .val (undef), .val (undef), .val (undef), .val (undef), .val (.bool false), .val (.bool false), .val (undef), .val (undef), .val (undef), .val (undef), .val (.bool false), .val (.bool false), .val (undef), .val (undef), .val (undef), .val (undef), .val (undef), .val (undef), .val (undef), .val (undef), .val (undef), .val (.bool false), .val (.bool false)] ?stay rfl (by decide) rfl ?duties ?rest)
    case duties =>
      refine ⟨?_, ?_, ?_, ?_, ?_, ?_, ?_, ?_, ?_, ?_, ?_, ?_, ?_, ?_, ?_, ?_, ?_, ?_, ?_, ?_, ?_, ?_, ?_, ?_, ?_, ?_, ?_, ?_, ?_, ?_, trivial⟩
      · refine duty_free rfl fun a w' hE hF hA => ?_
        have x1 := hF.slot 6 _ (by decide) rfl
        exact wp_value (w' := w') (ex_move rfl) ⟨_, rfl, x1, Ext.refl _⟩
      · refine duty_free rfl fun a w' hE hF hA => ?_
        have x1 := hA.pick 0 12 (.bool false) rfl rfl ⟨⟨0, .data⟩, by simp, rfl, rfl⟩ (fun u h => h)
        exact wp_value (w' := w') (ex_move rfl) ⟨_, rfl, x1, Ext.refl _⟩
      · exact duty_no rfl (p := _) rfl (d := 13) rfl (show 13 < 41 by decide) ⟨⟨1, .guard⟩, by simp, rfl, rfl⟩ (fun v w h => h) fun w => rfl
      · exact duty_no rfl (p := _) rfl (d := 13) rfl (show 13 < 41 by decide) ⟨⟨1, .guard⟩, by simp, rfl, rfl⟩ (fun v w h => h) fun w => rfl
      · exact duty_no rfl (p := _) rfl (d := 13) rfl (show 13 < 41 by decide) ⟨⟨1, .guard⟩, by simp, rfl, rfl⟩ (fun v w h => h) fun w => rfl
      · exact duty_no rfl (p := _) rfl (d := 13) rfl (show 13 < 41 by decide) ⟨⟨1, .guard⟩, by simp, rfl, rfl⟩ (fun v w h => h) fun w => rfl
      · exact duty_no rfl (p := _) rfl (d := 13) rfl (show 13 < 41 by decide) ⟨⟨1, .guard⟩, by simp, rfl, rfl⟩ (fun v w h => h) fun w => rfl
      · exact duty_no rfl (p := _) rfl (d := 13) rfl (show 13 < 41 by decide) ⟨⟨1, .guard⟩, by simp, rfl, rfl⟩ (fun v w h => h) fun w => rfl
      · exact duty_no rfl (p := _) rfl (d := 13) rfl (show 13 < 41 by decide) ⟨⟨1, .guard⟩, by simp, rfl, rfl⟩ (fun v w h => h) fun w => rfl
      · exact duty_no rfl (p := _) rfl (d := 13) rfl (show 13 < 41 by decide) ⟨⟨1, .guard⟩, by simp, rfl, rfl⟩ (fun v w h => h) fun w => rfl
      · exact duty_no rfl (p := _) rfl (d := 13) rfl (show 13 < 41 by decide) ⟨⟨1, .guard⟩, by simp, rfl, rfl⟩ (fun v w h => h) fun w => rfl
      · refine duty_free rfl fun a w' hE hF hA => ?_
        have x1 := hA.pick 1 13 (.bool false) rfl rfl ⟨⟨1, .data⟩, by simp, rfl, rfl⟩ (fun u h => h)
        exact wp_value (w' := w') (ex_pick rfl x1) ⟨_, rfl, rfl, Ext.refl _⟩
      · refine duty_free rfl fun a w' hE hF hA => ?_
        have x1 := hA.pick 11 23 (.bool false) rfl rfl ⟨⟨11, .data⟩, by simp, rfl, rfl⟩ (fun u h => h)
        exact wp_value (w' := w') (ex_move rfl) ⟨_, rfl, x1, Ext.refl _⟩
      · exact duty_no rfl (p := _) rfl (d := 24) rfl (show 24 < 41 by decide) ⟨⟨12, .guard⟩, by simp, rfl, rfl⟩ (fun v w h => h) fun w => rfl
      · exact duty_no rfl (p := _) rfl (d := 24) rfl (show 24 < 41 by decide) ⟨⟨12, .guard⟩, by simp, rfl, rfl⟩ (fun v w h => h) fun w => rfl
      · exact duty_no rfl (p := _) rfl (d := 24) rfl (show 24 < 41 by decide) ⟨⟨12, .guard⟩, by simp, rfl, rfl⟩ (fun v w h => h) fun w => rfl
      · exact duty_no rfl (p := _) rfl (d := 24) rfl (show 24 < 41 by decide) ⟨⟨12, .guard⟩, by simp, rfl, rfl⟩ (fun v w h => h) fun w => rfl
      · refine duty_free rfl fun a w' hE hF hA => ?_
        have x1 := hA.pick 12 24 (.bool false) rfl rfl ⟨⟨12, .data⟩, by simp, rfl, rfl⟩ (fun u h => h)
        exact wp_value (w' := w') (ex_pick rfl x1) ⟨_, rfl, rfl, Ext.refl _⟩
      · refine duty_free rfl fun a w' hE hF hA => ?_
        have x1 := hA.pick 17 29 (.bool false) rfl rfl ⟨⟨17, .data⟩, by simp, rfl, rfl⟩ (fun u h => h)
        exact wp_value (w' := w') (ex_move rfl) ⟨_, rfl, x1, Ext.refl _⟩
      · exact duty_no rfl (p := _) rfl (d := 30) rfl (show 30 < 41 by decide) ⟨⟨18, .guard⟩, by simp, rfl, rfl⟩ (fun v w h => h) fun w => rfl
      · exact duty_no rfl (p := _) rfl (d := 30) rfl (show 30 < 41 by decide) ⟨⟨18, .guard⟩, by simp, rfl, rfl⟩ (fun v w h => h) fun w => rfl
      · exact duty_no rfl (p := _) rfl (d := 30) rfl (show 30 < 41 by decide) ⟨⟨18, .guard⟩, by simp, rfl, rfl⟩ (fun v w h => h) fun w => rfl
      · exact duty_no rfl (p := _) rfl (d := 30) rfl (show 30 < 41 by decide) ⟨⟨18, .guard⟩, by simp, rfl, rfl⟩ (fun v w h => h) fun w => rfl
      · exact duty_no rfl (p := _) rfl (d := 30) rfl (show 30 < 41 by decide) ⟨⟨18, .guard⟩, by simp, rfl, rfl⟩ (fun v w h => h) fun w => rfl
      · exact duty_no rfl (p := _) rfl (d := 30) rfl (show 30 < 41 by decide) ⟨⟨18, .guard⟩, by simp, rfl, rfl⟩ (fun v w h => h) fun w => rfl
      · exact duty_no rfl (p := _) rfl (d := 30) rfl (show 30 < 41 by decide) ⟨⟨18, .guard⟩, by simp, rfl, rfl⟩ (fun v w h => h) fun w => rfl
      · exact duty_no rfl (p := _) rfl (d := 30) rfl (show 30 < 41 by decide) ⟨⟨18, .guard⟩, by simp, rfl, rfl⟩ (fun v w h => h) fun w => rfl
      · exact duty_no rfl (p := _) rfl (d := 30) rfl (show 30 < 41 by decide) ⟨⟨18, .guard⟩, by simp, rfl, rfl⟩ (fun v w h => h) fun w => rfl
      · refine duty_free rfl fun a w' hE hF hA => ?_
        have x1 := hA.pick 18 30 (.bool false) rfl rfl ⟨⟨18, .data⟩, by simp, rfl, rfl⟩ (fun u h => h)
        exact wp_value (w' := w') (ex_pick rfl x1) ⟨_, rfl, rfl, Ext.refl _⟩
      · refine duty_free rfl fun a w' hE hF hA => ?_
        have x1 := hA.pick 28 40 (.bool false) rfl rfl ⟨⟨28, .data⟩, by simp, rfl, rfl⟩ (fun u h => h)
        exact wp_value (w' := w') (ex_assign rfl) ⟨_, rfl, x1, Ext.refl _⟩
    case stay => exact trivial
    case rest =>
      intro W5 hE5
      have HFIN := Lib.hid (HE2.out.trans hE5)
      clear hE5
      simp only [forS]
      simp only [filled, List.zip_cons_cons, List.zip_nil_left, List.foldl_cons, List.foldl_nil, Act.put, List.setIfInBounds_toArray, List.set_cons_succ, List.set_cons_zero, Exit.inBlock, Exit.then]
      rename_i hK
      refine hK _ _ ?_
      clear hK
      go_wp2
      go_ret
      exact ⟨by rw [HV.out]; rfl, HFIN.out⟩
  | true =>
    by_cases h2 : (kidsOf M n.path).length = 0
    rotate_left
    · have e2 : (((kidsOf M n.path).length : Int) == 0) = false := by simpa using h2
      have HV := Lib.hid (show agedP M now n = false by rw [HPD.out]; simp [h2])
      clear h2
      go_wp2
      refine wp_region_P (by kernel_rfl) (region_sp 41 [.val (.bool true), .val (.bool true), .val (.pointer (some ⟨bt, 0, none⟩)), .val (.pointer (some ⟨bt, 0, none⟩)), .val (.pointer (some ⟨bt, 1, none⟩)), .val (.map (some bk)), .val (.pointer (some ⟨w.heap.size, 0, none⟩)), .val (.string n.path), .val (.map mb), .val (.int .i64 (kidsOf M n.path).length), .val (.bool false), .val (.bool false), .val (.bool false), .val (undef), .val (undef), .val (undef), .val (undef), .val (.bool false), .val (.bool false), .val (undef), .val (undef), .val (undef), .val (undef), .val (undef), .val (undef), .val (undef), .val (undef), .val (undef), .val (.bool false), .val (.bool false)] ?stay rfl (by decide) rfl ?duties ?rest)
      case duties =>
        refine ⟨?_, ?_, ?_, ?_, ?_, ?_, ?_, ?_, ?_, ?_, ?_, ?_, ?_, ?_, ?_, ?_, ?_, ?_, ?_, ?_, ?_, ?_, ?_, ?_, ?_, ?_, ?_, ?_, ?_, ?_, trivial⟩
        · refine duty_free rfl fun a w' hE hF hA => ?_
          have x1 := hF.slot 6 _ (by decide) rfl
          exact wp_value (w' := w') (ex_move rfl) ⟨_, rfl, x1, Ext.refl _⟩
        · refine duty_free rfl fun a w' hE hF hA => ?_
          have x1 := hA.pick 0 12 (.bool true) rfl rfl ⟨⟨0, .data⟩, by simp, rfl, rfl⟩ (fun u h => h)
          exact wp_value (w' := w') (ex_move rfl) ⟨_, rfl, x1, Ext.refl _⟩
        · refine duty_yes rfl (p := _) rfl (d := 13) rfl (show 13 < 41 by decide) ⟨⟨1, .guard⟩, by simp, rfl, rfl⟩ (fun v w h => h) fun a w' hE hF hA => ?_
          have x1 := hF.slot 1 _ (by decide) rfl
          exact wp_value (ex_cell rfl _ _ x1 ((hE.cell (World.block_lt_of_cell? _ _ HG.out)).trans HG.out) rfl Tryz.underlying37) ⟨_, rfl, rfl, Ext.refl _⟩
        · refine duty_yes rfl (p := _) rfl (d := 13) rfl (show 13 < 41 by decide) ⟨⟨1, .guard⟩, by simp, rfl, rfl⟩ (fun v w h => h) fun a w' hE hF hA => ?_
          have x1 := hA.pick 2 14 (.pointer (some ⟨bt, 0, none⟩)) rfl rfl ⟨⟨2, .data⟩, by simp, rfl, rfl⟩ (fun u h => h)
          exact wp_value (ex_nilCheck rfl _ x1) ⟨_, rfl, rfl, Ext.refl _⟩
        · refine duty_yes rfl (p := _) rfl (d := 13) rfl (show 13 < 41 by decide) ⟨⟨1, .guard⟩, by simp, rfl, rfl⟩ (fun v w h => h) fun a w' hE hF hA => ?_
          have x1 := hA.pick 3 15 (.pointer (some ⟨bt, 0, none⟩)) rfl rfl ⟨⟨3, .data⟩, by simp, rfl, rfl⟩ (fun u h => h)
          exact wp_value (w' := w') (v := .pointer (some ⟨bt, 1, none⟩)) (by simp only [execOp, x1]; simp [go_sem]) ⟨_, rfl, rfl, Ext.refl _⟩
        · refine duty_yes rfl (p := _) rfl (d := 13) rfl (show 13 < 41 by decide) ⟨⟨1, .guard⟩, by simp, rfl, rfl⟩ (fun v w h => h) fun a w' hE hF hA => ?_
          have x1 := hA.pick 4 16 (.pointer (some ⟨bt, 1, none⟩)) rfl rfl ⟨⟨4, .data⟩, by simp, rfl, rfl⟩ (fun u h => h)
          exact wp_value (ex_cell rfl _ _ x1 (HKL.out w' hE).1 rfl Tryz.underlying121) ⟨_, rfl, rfl, Ext.refl _⟩
        · refine duty_yes rfl (p := _) rfl (d := 13) rfl (show 13 < 41 by decide) ⟨⟨1, .guard⟩, by simp, rfl, rfl⟩ (fun v w h => h) fun a w' hE hF hA => ?_
          have x1 := hF.slot 3 _ (by decide) rfl
          exact wp_value (w' := w') (v := .pointer (some ⟨w.heap.size, 0, none⟩)) (by simp only [execOp, x1]; simp [go_sem]) ⟨_, rfl, rfl, Ext.refl _⟩
        · refine duty_yes rfl (p := _) rfl (d := 13) rfl (show 13 < 41 by decide) ⟨⟨1, .guard⟩, by simp, rfl, rfl⟩ (fun v w h => h) fun a w' hE hF hA => ?_
          have x1 := hA.pick 6 18 (.pointer (some ⟨w.heap.size, 0, none⟩)) rfl rfl ⟨⟨6, .data⟩, by simp, rfl, rfl⟩ (fun u h => h)
          exact wp_value (ex_cell rfl _ _ x1 ((hE.cell (World.block_lt_of_cell? _ _ HP.out)).trans HP.out) rfl Tryz.underlying9) ⟨_, rfl, rfl, Ext.refl _⟩
        · refine duty_yes rfl (p := _) rfl (d := 13) rfl (show 13 < 41 by decide) ⟨⟨1, .guard⟩, by simp, rfl, rfl⟩ (fun v w h => h) fun a w' hE hF hA => ?_
          have x1 := hA.pick 5 17 (.map (some bk)) rfl rfl ⟨⟨5, .data⟩, by simp, rfl, rfl⟩ (fun u h => h)
          have x2 := hA.pick 7 19 (.string n.path) rfl rfl ⟨⟨7, .data⟩, by simp, rfl, rfl⟩ (fun u h => h)
          exact wp_value (w' := w') (v := .map mb) (by simp only [execOp, x1, x2, Sem.run_bind, (HKL.out w' hE).2.1, Sem.run_pure, Result.andThen_ok]) ⟨_, rfl, rfl, Ext.refl _⟩
        · refine duty_yes rfl (p := _) rfl (d := 13) rfl (show 13 < 41 by decide) ⟨⟨1, .guard⟩, by simp, rfl, rfl⟩ (fun v w h => h) fun a w' hE hF hA => ?_
          have x1 := hA.pick 8 20 (.map mb) rfl rfl ⟨⟨8, .data⟩, by simp, rfl, rfl⟩ (fun u h => h)
          exact wp_value (w' := w') (v := .int .i64 (kidsOf M n.path).length) (by simp only [execOp, resolve, invoke, builtin, Sem.run_bind, Sem.run_pure, Result.andThen_ok, List.map_toArray, List.map_cons, List.map_nil, x1, (HKL.out w' hE).2.2]) ⟨_, rfl, rfl, Ext.refl _⟩
        · refine duty_yes rfl (p := _) rfl (d := 13) rfl (show 13 < 41 by decide) ⟨⟨1, .guard⟩, by simp, rfl, rfl⟩ (fun v w h => h) fun a w' hE hF hA => ?_
          have x1 := hA.pick 9 21 (.int .i64 (kidsOf M n.path).length) rfl rfl ⟨⟨9, .data⟩, by simp, rfl, rfl⟩ (fun u h => h)
          exact wp_value (w' := w') (v := .bool false) (by simp only [execOp, x1]; simp [go_sem, e2]) ⟨_, rfl, rfl, Ext.refl _⟩
        · refine duty_free rfl fun a w' hE hF hA => ?_
          have x1 := hA.pick 1 13 (.bool true) rfl rfl ⟨⟨1, .data⟩, by simp, rfl, rfl⟩ (fun u h => h)
          have x2 := hA.pick 10 22 (.bool false) rfl rfl ⟨⟨10, .data⟩, by simp, rfl, rfl⟩ (fun u h => h)
          exact wp_value (w' := w') (ex_pick rfl x1) ⟨_, rfl, x2, Ext.refl _⟩
        · refine duty_free rfl fun a w' hE hF hA => ?_
          have x1 := hA.pick 11 23 (.bool false) rfl rfl ⟨⟨11, .data⟩, by simp, rfl, rfl⟩ (fun u h => h)
          exact wp_value (w' := w') (ex_move rfl) ⟨_, rfl, x1, Ext.refl _⟩
        · exact duty_no rfl (p := _) rfl (d := 24) rfl (show 24 < 41 by decide) ⟨⟨12, .guard⟩, by simp, rfl, rfl⟩ (fun v w h => h) fun w => rfl
        · exact duty_no rfl (p := _) rfl (d := 24) rfl (show 24 < 41 by decide) ⟨⟨12, .guard⟩, by simp, rfl, rfl⟩ (fun v w h => h) fun w => rfl
        · exact duty_no rfl (p := _) rfl (d := 24) rfl (show 24 < 41 by decide) ⟨⟨12, .guard⟩, by simp, rfl, rfl⟩ (fun v w h => h) fun w => rfl
        · exact duty_no rfl (p := _) rfl (d := 24) rfl (show 24 < 41 by decide) ⟨⟨12, .guard⟩, by simp, rfl, rfl⟩ (fun v w h => h) fun w => rfl
        · refine duty_free rfl fun a w' hE hF hA => ?_
          have x1 := hA.pick 12 24 (.bool false) rfl rfl ⟨⟨12, .data⟩, by simp, rfl, rfl⟩ (fun u h => h)
          exact wp_value (w' := w') (ex_pick rfl x1) ⟨_, rfl, rfl, Ext.refl _⟩
        · refine duty_free rfl fun a w' hE hF hA => ?_
          have x1 := hA.pick 17 29 (.bool false) rfl rfl ⟨⟨17, .data⟩, by simp, rfl, rfl⟩ (fun u h => h)
          exact wp_value (w' := w') (ex_move rfl) ⟨_, rfl, x1, Ext.refl _⟩
        · exact duty_no rfl (p := _) rfl (d := 30) rfl (show 30 < 41 by decide) ⟨⟨18, .guard⟩, by simp, rfl, rfl⟩ (fun v w h => h) fun w => rfl
        · exact duty_no rfl (p := _) rfl (d := 30) rfl (show 30 < 41 by decide) ⟨⟨18, .guard⟩, by simp, rfl, rfl⟩ (fun v w h => h) fun w => rfl
        · exact duty_no rfl (p := _) rfl (d := 30) rfl (show 30 < 41 by decide) ⟨⟨18, .guard⟩, by simp, rfl, rfl⟩ (fun v w h => h) fun w => rfl
        · exact duty_no rfl (p := _) rfl (d := 30) rfl (show 30 < 41 by decide) ⟨⟨18, .guard⟩, by simp, rfl, rfl⟩ (fun v w h => h) fun w => rfl
        · exact duty_no rfl (p := _) rfl (d := 30) rfl (show 30 < 41 by decide) ⟨⟨18, .guard⟩, by simp, rfl, rfl⟩ (fun v w h => h) fun w => rfl
        · exact duty_no rfl (p := _) rfl (d := 30) rfl (show 30 < 41 by decide) ⟨⟨18, .guard⟩, by simp, rfl, rfl⟩ (fun v w h => h) fun w => rfl
        · exact duty_no rfl (p := _) rfl (d := 30) rfl (show 30 < 41 by decide) ⟨⟨18, .guard⟩, by simp, rfl, rfl⟩ (fun v w h => h) fun w => rfl
        · exact duty_no rfl (p := _) rfl (d := 30) rfl (show 30 < 41 by decide) ⟨⟨18, .guard⟩, by simp, rfl, rfl⟩ (fun v w h => h) fun w => rfl
        · exact duty_no rfl (p := _) rfl (d := 30) rfl (show 30 < 41 by decide) ⟨⟨18, .guard⟩, by simp, rfl, rfl⟩ (fun v w h => h) fun w => rfl
        · refine duty_free rfl fun a w' hE hF hA => ?_
          have x1 := hA.pick 18 30 (.bool false) rfl rfl ⟨⟨18, .data⟩, by simp, rfl, rfl⟩ (fun u h => h)
          exact wp_value (w' := w') (ex_pick rfl x1) ⟨_, rfl, rfl, Ext.refl _⟩
        · refine duty_free rfl fun a w' hE hF hA => ?_
          have x1 := hA.pick 28 40 (.bool false) rfl rfl ⟨⟨28, .data⟩, by simp, rfl, rfl⟩ (fun u h => h)
          exact wp_value (w' := w') (ex_assign rfl) ⟨_, rfl, x1, Ext.refl _⟩
      case stay => exact trivial
      case rest =>
        intro W5 hE5
        have HFIN := Lib.hid (HE2.out.trans hE5)
        clear hE5
        simp only [forS]
        simp only [filled, List.zip_cons_cons, List.zip_nil_left, List.foldl_cons, List.foldl_nil, Act.put, List.setIfInBounds_toArray, List.set_cons_succ, List.set_cons_zero, Exit.inBlock, Exit.then]
        rename_i hK
        refine hK _ _ ?_
        clear hK
        go_wp2
        go_ret
        exact ⟨by rw [HV.out]; rfl, HFIN.out⟩
    have e2 : (((kidsOf M n.path).length : Int) == 0) = true := by simpa using h2
    by_cases h3 : n.mtime ≤ now
    rotate_left
    · have e3 : decide (n.mtime ≤ now) = false := by simpa using h3
      have HV := Lib.hid (show agedP M now n = false by rw [HPD.out]; simp [h2, h3])
      clear h2 h3
      go_wp2
      refine wp_region_P (by kernel_rfl) (region_sp 41 [.val (.bool true), .val (.bool true), .val (.pointer (some ⟨bt, 0, none⟩)), .val (.pointer (some ⟨bt, 0, none⟩)), .val (.pointer (some ⟨bt, 1, none⟩)), .val (.map (some bk)), .val (.pointer (some ⟨w.heap.size, 0, none⟩)), .val (.string n.path), .val (.map mb), .val (.int .i64 (kidsOf M n.path).length), .val (.bool true), .val (.bool true), .val (.bool true), .val (.pointer (some ⟨w.heap.size, 10, none⟩)), .val (.int .i64 n.mtime), .val (.int .i64 now), .val (.bool false), .val (.bool false), .val (.bool false), .val (undef), .val (undef), .val (undef), .val (undef), .val (undef), .val (undef), .val (undef), .val (undef), .val (undef), .val (.bool false), .val (.bool false)] ?stay rfl (by decide) rfl ?duties ?rest)
      case duties =>
        refine ⟨?_, ?_, ?_, ?_, ?_, ?_, ?_, ?_, ?_, ?_, ?_, ?_, ?_, ?_, ?_, ?_, ?_, ?_, ?_, ?_, ?_, ?_, ?_, ?_, ?_, ?_, ?_, ?_, ?_, ?_, trivial⟩
        · refine duty_free rfl fun a w' hE hF hA => ?_
          have x1 := hF.slot 6 _ (by decide) rfl
          exact wp_value (w' := w') (ex_move rfl) ⟨_, rfl, x1, Ext.refl _⟩
        · refine duty_free rfl fun a w' hE hF hA => ?_
          have x1 := hA.pick 0 12 (.bool true) rfl rfl ⟨⟨0, .data⟩, by simp, rfl, rfl⟩ (fun u h => h)
          exact wp_value (w' := w') (ex_move rfl) ⟨_, rfl, x1, Ext.refl _⟩
        · refine duty_yes rfl (p := _) rfl (d := 13) rfl (show 13 < 41 by decide) ⟨⟨1, .guard⟩, by simp, rfl, rfl⟩ (fun v w h => h) fun a w' hE hF hA => ?_
          have x1 := hF.slot 1 _ (by decide) rfl
          exact wp_value (ex_cell rfl _ _ x1 ((hE.cell (World.block_lt_of_cell? _ _ HG.out)).trans HG.out) rfl Tryz.underlying37) ⟨_, rfl, rfl, Ext.refl _⟩
        · refine duty_yes rfl (p := _) rfl (d := 13) rfl (show 13 < 41 by decide) ⟨⟨1, .guard⟩, by simp, rfl, rfl⟩ (fun v w h => h) fun a w' hE hF hA => ?_
          have x1 := hA.pick 2 14 (.pointer (some ⟨bt, 0, none⟩)) rfl rfl ⟨⟨2, .data⟩, by simp, rfl, rfl⟩ (fun u h => h)
          exact wp_value (ex_nilCheck rfl _ x1) ⟨_, rfl, rfl, Ext.refl _⟩
        · refine duty_yes rfl (p := _) rfl (d := 13) rfl (show 13 < 41 by decide) ⟨⟨1, .guard⟩, by simp, rfl, rfl⟩ (fun v w h => h) fun a w' hE hF hA => ?_
          have x1 := hA.pick 3 15 (.pointer (some ⟨bt, 0, none⟩)) rfl rfl ⟨⟨3, .data⟩, by simp, rfl, rfl⟩ (fun u h => h)
          exact wp_value (w' := w') (v := .pointer (some ⟨bt, 1, none⟩)) (by simp only [execOp, x1]; simp [go_sem]) ⟨_, rfl, rfl, Ext.refl _⟩
        · refine duty_yes rfl (p := _) rfl (d := 13) rfl (show 13 < 41 by decide) ⟨⟨1, .guard⟩, by simp, rfl, rfl⟩ (fun v w h => h) fun a w' hE hF hA => ?_
          have x1 := hA.pick 4 16 (.pointer (some ⟨bt, 1, none⟩)) rfl rfl ⟨⟨4, .data⟩, by simp, rfl, rfl⟩ (fun u h => h)
          exact wp_value (ex_cell rfl _ _ x1 (HKL.out w' hE).1 rfl Tryz.underlying121) ⟨_, rfl, rfl, Ext.refl _⟩
        · refine duty_yes rfl (p := _) rfl (d := 13) rfl (show 13 < 41 by decide) ⟨⟨1, .guard⟩, by simp, rfl, rfl⟩ (fun v w h => h) fun a w' hE hF hA => ?_
          have x1 := hF.slot 3 _ (by decide) rfl
          exact wp_value (w' := w') (v := .pointer (some ⟨w.heap.size, 0, none⟩)) (by simp only [execOp, x1]; simp [go_sem]) ⟨_, rfl, rfl, Ext.refl _⟩
        · refine duty_yes rfl (p := _) rfl (d := 13) rfl (show 13 < 41 by decide) ⟨⟨1, .guard⟩, by simp, rfl, rfl⟩ (fun v w h => h) fun a w' hE hF hA => ?_
          have x1 := hA.pick 6 18 (.pointer (some ⟨w.heap.size, 0, none⟩)) rfl rfl ⟨⟨6, .data⟩, by simp, rfl, rfl⟩ (fun u h => h)
          exact wp_value (ex_cell rfl _ _ x1 ((hE.cell (World.block_lt_of_cell? _ _ HP.out)).trans HP.out) rfl Tryz.underlying9) ⟨_, rfl, rfl, Ext.refl _⟩
        · refine duty_yes rfl (p := _) rfl (d := 13) rfl (show 13 < 41 by decide) ⟨⟨1, .guard⟩, by simp, rfl, rfl⟩ (fun v w h => h) fun a w' hE hF hA => ?_
          have x1 := hA.pick 5 17 (.map (some bk)) rfl rfl ⟨⟨5, .data⟩, by simp, rfl, rfl⟩ (fun u h => h)
          have x2 := hA.pick 7 19 (.string n.path) rfl rfl ⟨⟨7, .data⟩, by simp, rfl, rfl⟩ (fun u h => h)
          exact wp_value (w' := w') (v := .map mb) (by simp only [execOp, x1, x2, Sem.run_bind, (HKL.out w' hE).2.1, Sem.run_pure, Result.andThen_ok]) ⟨_, rfl, rfl, Ext.refl _⟩
        · refine duty_yes rfl (p := _) rfl (d := 13) rfl (show 13 < 41 by decide) ⟨⟨1, .guard⟩, by simp, rfl, rfl⟩ (fun v w h => h) fun a w' hE hF hA => ?_
          have x1 := hA.pick 8 20 (.map mb) rfl rfl ⟨⟨8, .data⟩, by simp, rfl, rfl⟩ (fun u h => h)
          exact wp_value (w' := w') (v := .int .i64 (kidsOf M n.path).length) (by simp only [execOp, resolve, invoke, builtin, Sem.run_bind, Sem.run_pure, Result.andThen_ok, List.map_toArray, List.map_cons, List.map_nil, x1, (HKL.out w' hE).2.2]) ⟨_, rfl, rfl, Ext.refl _⟩
        · refine duty_yes rfl (p := _) rfl (d := 13) rfl (show 13 < 41 by decide) ⟨⟨1, .guard⟩, by simp, rfl, rfl⟩ (fun v w h => h) fun a w' hE hF hA => ?_
          have x1 := hA.pick 9 21 (.int .i64 (kidsOf M n.path).length) rfl rfl ⟨⟨9, .data⟩, by simp, rfl, rfl⟩ (fun u h => h)
          exact wp_value (w' := w') (v := .bool true) (by simp only [execOp, x1]; simp [go_sem, e2]) ⟨_, rfl, rfl, Ext.refl _⟩
        · refine duty_free rfl fun a w' hE hF hA => ?_
          have x1 := hA.pick 1 13 (.bool true) rfl rfl ⟨⟨1, .data⟩, by simp, rfl, rfl⟩ (fun u h => h)
          have x2 := hA.pick 10 22 (.bool true) rfl rfl ⟨⟨10, .data⟩, by simp, rfl, rfl⟩ (fun u h => h)
          exact wp_value (w' := w') (ex_pick rfl x1) ⟨_, rfl, x2, Ext.refl _⟩
        · refine duty_free rfl fun a w' hE hF hA => ?_
          have x1 := hA.pick 11 23 (.bool true) rfl rfl ⟨⟨11, .data⟩, by simp, rfl, rfl⟩ (fun u h => h)
          exact wp_value (w' := w') (ex_move rfl) ⟨_, rfl, x1, Ext.refl _⟩
        · refine duty_yes rfl (p := _) rfl (d := 24) rfl (show 24 < 41 by decide) ⟨⟨12, .guard⟩, by simp, rfl, rfl⟩ (fun v w h => h) fun a w' hE hF hA => ?_
          have x1 := hF.slot 3 _ (by decide) rfl
          exact wp_value (w' := w') (v := .pointer (some ⟨w.heap.size, 10, none⟩)) (by simp only [execOp, x1]; simp [go_sem]) ⟨_, rfl, rfl, Ext.refl _⟩
        · refine duty_yes rfl (p := _) rfl (d := 24) rfl (show 24 < 41 by decide) ⟨⟨12, .guard⟩, by simp, rfl, rfl⟩ (fun v w h => h) fun a w' hE hF hA => ?_
          have x1 := hA.pick 13 25 (.pointer (some ⟨w.heap.size, 10, none⟩)) rfl rfl ⟨⟨13, .data⟩, by simp, rfl, rfl⟩ (fun u h => h)
          exact wp_value (ex_cell rfl _ _ x1 ((hE.cell (World.block_lt_of_cell? _ _ HMT.out)).trans HMT.out) rfl Tryz.underlying2) ⟨_, rfl, rfl, Ext.refl _⟩
        · refine duty_yes rfl (p := _) rfl (d := 24) rfl (show 24 < 41 by decide) ⟨⟨12, .guard⟩, by simp, rfl, rfl⟩ (fun v w h => h) fun a w' hE hF hA => ?_
          have x1 := hF.slot 2 _ (by decide) rfl
          exact wp_value (ex_cell rfl _ _ x1 ((hE.cell (World.block_lt_of_cell? _ _ HNOW.out)).trans HNOW.out) rfl Tryz.underlying2) ⟨_, rfl, rfl, Ext.refl _⟩
        · refine duty_yes rfl (p := _) rfl (d := 24) rfl (show 24 < 41 by decide) ⟨⟨12, .guard⟩, by simp, rfl, rfl⟩ (fun v w h => h) fun a w' hE hF hA => ?_
          have x1 := hA.pick 14 26 (.int .i64 n.mtime) rfl rfl ⟨⟨14, .data⟩, by simp, rfl, rfl⟩ (fun u h => h)
          have x2 := hA.pick 15 27 (.int .i64 now) rfl rfl ⟨⟨15, .data⟩, by simp, rfl, rfl⟩ (fun u h => h)
          exact wp_value (w' := w') (v := .bool false) (by simp only [execOp, x1, x2]; simp [go_sem, e3]) ⟨_, rfl, rfl, Ext.refl _⟩
        · refine duty_free rfl fun a w' hE hF hA => ?_
          have x1 := hA.pick 12 24 (.bool true) rfl rfl ⟨⟨12, .data⟩, by simp, rfl, rfl⟩ (fun u h => h)
          have x2 := hA.pick 16 28 (.bool false) rfl rfl ⟨⟨16, .data⟩, by simp, rfl, rfl⟩ (fun u h => h)
          exact wp_value (w' := w') (ex_pick rfl x1) ⟨_, rfl, x2, Ext.refl _⟩
        · refine duty_free rfl fun a w' hE hF hA => ?_
          have x1 := hA.pick 17 29 (.bool false) rfl rfl ⟨⟨17, .data⟩, by simp, rfl, rfl⟩ (fun u h => h)
          exact wp_value (w' := w') (ex_move rfl) ⟨_, rfl, x1, Ext.refl _⟩
        · exact duty_no rfl (p := _) rfl (d := 30) rfl (show 30 < 41 by decide) ⟨⟨18, .guard⟩, by simp, rfl, rfl⟩ (fun v w h => h) fun w => rfl
        · exact duty_no rfl (p := _) rfl (d := 30) rfl (show 30 < 41 by decide) ⟨⟨18, .guard⟩, by simp, rfl, rfl⟩ (fun v w h => h) fun w => rfl
        · exact duty_no rfl (p := _) rfl (d := 30) rfl (show 30 < 41 by decide) ⟨⟨18, .guard⟩, by simp, rfl, rfl⟩ (fun v w h => h) fun w => rfl
        · exact duty_no rfl (p := _) rfl (d := 30) rfl (show 30 < 41 by decide) ⟨⟨18, .guard⟩, by simp, rfl, rfl⟩ (fun v w h => h) fun w => rfl
        · exact duty_no rfl (p := _) rfl (d := 30) rfl (show 30 < 41 by decide) ⟨⟨18, .guard⟩, by simp, rfl, rfl⟩ (fun v w h => h) fun w => rfl
        · exact duty_no rfl (p := _) rfl (d := 30) rfl (show 30 < 41 by decide) ⟨⟨18, .guard⟩, by simp, rfl, rfl⟩ (fun v w h => h) fun w => rfl
        · exact duty_no rfl (p := _) rfl (d := 30) rfl (show 30 < 41 by decide) ⟨⟨18, .guard⟩, by simp, rfl, rfl⟩ (fun v w h => h) fun w => rfl
        · exact duty_no rfl (p := _) rfl (d := 30) rfl (show 30 < 41 by decide) ⟨⟨18, .guard⟩, by simp, rfl, rfl⟩ (fun v w h => h) fun w => rfl
        · exact duty_no rfl (p := _) rfl (d := 30) rfl (show 30 < 41 by decide) ⟨⟨18, .guard⟩, by simp, rfl, rfl⟩ (fun v w h => h) fun w => rfl
        · refine duty_free rfl fun a w' hE hF hA => ?_
          have x1 := hA.pick 18 30 (.bool false) rfl rfl ⟨⟨18, .data⟩, by simp, rfl, rfl⟩ (fun u h => h)
          exact wp_value (w' := w') (ex_pick rfl x1) ⟨_, rfl, rfl, Ext.refl _⟩
        · refine duty_free rfl fun a w' hE hF hA => ?_
          have x1 := hA.pick 28 40 (.bool false) rfl rfl ⟨⟨28, .data⟩, by simp, rfl, rfl⟩ (fun u h => h)
          exact wp_value (w' := w') (ex_assign rfl) ⟨_, rfl, x1, Ext.refl _⟩
      case stay => exact trivial
      case rest =>
        intro W5 hE5
        have HFIN := Lib.hid (HE2.out.trans hE5)
        clear hE5
        simp only [forS]
        simp only [filled, List.zip_cons_cons, List.zip_nil_left, List.foldl_cons, List.foldl_nil, Act.put, List.setIfInBounds_toArray, List.set_cons_succ, List.set_cons_zero, Exit.inBlock, Exit.then]
        rename_i hK
        refine hK _ _ ?_
        clear hK
        go_wp2
        go_ret
        exact ⟨by rw [HV.out]; rfl, HFIN.out⟩
    have e3 : decide (n.mtime ≤ now) = true := by simpa using h3
    have HV := Lib.hid (show agedP M now n = ab by rw [HPD.out]; simp [h2, h3])
    clear h2 h3
    go_wp2
    refine wp_region_P (by kernel_rfl) (region_sp 41 [.val (.bool true), .val (.bool true), .val (.pointer (some ⟨bt, 0, none⟩)), .val (.pointer (some ⟨bt, 0, none⟩)), .val (.pointer (some ⟨bt, 1, none⟩)), .val (.map (some bk)), .val (.pointer (some ⟨w.heap.size, 0, none⟩)), .val (.string n.path), .val (.map mb), .val (.int .i64 (kidsOf M n.path).length), .val (.bool true), .val (.bool true), .val (.bool true), .val (.pointer (some ⟨w.heap.size, 10, none⟩)), .val (.int .i64 n.mtime), .val (.int .i64 now), .val (.bool true), .val (.bool true), .val (.bool true), .val (.int .i64 now), .val (.int .u64 (IntKind.u64.wrap now)), .val (.pointer (some ⟨w.heap.size, 10, none⟩)), .val (.int .i64 n.mtime), .val (.int .u64 (IntKind.u64.wrap n.mtime)), .val (.int .u64 (IntKind.u64.wrap (IntKind.u64.wrap now - IntKind.u64.wrap n.mtime))), .val (.int .i64 lv), .val (.int .u64 (IntKind.u64.wrap lv)), .val (.bool ab), .val (.bool ab), .val (.bool ab)] ?stay rfl (by decide) rfl ?duties ?rest)
    case duties =>
      refine ⟨?_, ?_, ?_, ?_, ?_, ?_, ?_, ?_, ?_, ?_, ?_, ?_, ?_, ?_, ?_, ?_, ?_, ?_, ?_, ?_, ?_, ?_, ?_, ?_, ?_, ?_, ?_, ?_, ?_, ?_, trivial⟩
      · refine duty_free rfl fun a w' hE hF hA => ?_
        have x1 := hF.slot 6 _ (by decide) rfl
        exact wp_value (w' := w') (ex_move rfl) ⟨_, rfl, x1, Ext.refl _⟩
      · refine duty_free rfl fun a w' hE hF hA => ?_
        have x1 := hA.pick 0 12 (.bool true) rfl rfl ⟨⟨0, .data⟩, by simp, rfl, rfl⟩ (fun u h => h)
        exact wp_value (w' := w') (ex_move rfl) ⟨_, rfl, x1, Ext.refl _⟩
      · refine duty_yes rfl (p := _) rfl (d := 13) rfl (show 13 < 41 by decide) ⟨⟨1, .guard⟩, by simp, rfl, rfl⟩ (fun v w h => h) fun a w' hE hF hA => ?_
        have x1 := hF.slot 1 _ (by decide) rfl
        exact wp_value (ex_cell rfl _ _ x1 ((hE.cell (World.block_lt_of_cell? _ _ HG.out)).trans HG.out) rfl Tryz.underlying37) ⟨_, rfl, rfl, Ext.refl _⟩
      · refine duty_yes rfl (p := _) rfl (d := 13) rfl (show 13 < 41 by decide) ⟨⟨1, .guard⟩, by simp, rfl, rfl⟩ (fun v w h => h) fun a w' hE hF hA => ?_
        have x1 := hA.pick 2 14 (.pointer (some ⟨bt, 0, none⟩)) rfl rfl ⟨⟨2, .data⟩, by simp, rfl, rfl⟩ (fun u h => h)
        exact wp_value (ex_nilCheck rfl _ x1) ⟨_, rfl, rfl, Ext.refl _⟩
      · refine duty_yes rfl (p := _) rfl (d := 13) rfl (show 13 < 41 by decide) ⟨⟨1, .guard⟩, by simp, rfl, rfl⟩ (fun v w h => h) fun a w' hE hF hA => ?_
        have x1 := hA.pick 3 15 (.pointer (some ⟨bt, 0, none⟩)) rfl rfl ⟨⟨3, .data⟩, by simp, rfl, rfl⟩ (fun u h => h)
        exact wp_value (w' := w') (v := .pointer (some ⟨bt, 1, none⟩)) (by simp only [execOp, x1]; simp [go_sem]) ⟨_, rfl, rfl, Ext.refl _⟩
      · refine duty_yes rfl (p := _) rfl (d := 13) rfl (show 13 < 41 by decide) ⟨⟨1, .guard⟩, by simp, rfl, rfl⟩ (fun v w h => h) fun a w' hE hF hA => ?_
        have x1 := hA.pick 4 16 (.pointer (some ⟨bt, 1, none⟩)) rfl rfl ⟨⟨4, .data⟩, by simp, rfl, rfl⟩ (fun u h => h)
        exact wp_value (ex_cell rfl _ _ x1 (HKL.out w' hE).1 rfl Tryz.underlying121) ⟨_, rfl, rfl, Ext.refl _⟩
      · refine duty_yes rfl (p := _) rfl (d := 13) rfl (show 13 < 41 by decide) ⟨⟨1, .guard⟩, by simp, rfl, rfl⟩ (fun v w h => h) fun a w' hE hF hA => ?_
        have x1 := hF.slot 3 _ (by decide) rfl
        exact wp_value (w' := w') (v := .pointer (some ⟨w.heap.size, 0, none⟩)) (by simp only [execOp, x1]; simp [go_sem]) ⟨_, rfl, rfl, Ext.refl _⟩
      · refine duty_yes rfl (p := _) rfl (d := 13) rfl (show 13 < 41 by decide) ⟨⟨1, .guard⟩, by simp, rfl, rfl⟩ (fun v w h => h) fun a w' hE hF hA => ?_
        have x1 := hA.pick 6 18 (.pointer (some ⟨w.heap.size, 0, none⟩)) rfl rfl ⟨⟨6, .data⟩, by simp, rfl, rfl⟩ (fun u h => h)
        exact wp_value (ex_cell rfl _ _ x1 ((hE.cell (World.block_lt_of_cell? _ _ HP.out)).trans HP.out) rfl Tryz.underlying9) ⟨_, rfl, rfl, Ext.refl _⟩
      · refine duty_yes rfl (p := _) rfl (d := 13) rfl (show 13 < 41 by decide) ⟨⟨1, .guard⟩, by simp, rfl, rfl⟩ (fun v w h => h) fun a w' hE hF hA => ?_
        have x1 := hA.pick 5 17 (.map (some bk)) rfl rfl ⟨⟨5, .data⟩, by simp, rfl, rfl⟩ (fun u h => h)
        have x2 := hA.pick 7 19 (.string n.path) rfl rfl ⟨⟨7, .data⟩, by simp, rfl, rfl⟩ (fun u h => h)
        exact wp_value (w' := w') (v := .map mb) (by simp only [execOp, x1, x2, Sem.run_bind, (HKL.out w' hE).2.1, Sem.run_pure, Result.andThen_ok]) ⟨_, rfl, rfl, Ext.refl _⟩
      · refine duty_yes rfl (p := _) rfl (d := 13) rfl (show 13 < 41 by decide) ⟨⟨1, .guard⟩, by simp, rfl, rfl⟩ (fun v w h => h) fun a w' hE hF hA => ?_
        have x1 := hA.pick 8 20 (.map mb) rfl rfl ⟨⟨8, .data⟩, by simp, rfl, rfl⟩ (fun u h => h)
        exact wp_value (w' := w') (v := .int .i64 (kidsOf M n.path).length) (by simp only [execOp, resolve, invoke, builtin, Sem.run_bind, Sem.run_pure, Result.andThen_ok, List.map_toArray, List.map_cons, List.map_nil, x1, (HKL.out w' hE).2.2]) ⟨_, rfl, rfl, Ext.refl _⟩
      · refine duty_yes rfl (p := _) rfl (d := 13) rfl (show 13 < 41 by decide) ⟨⟨1, .guard⟩, by simp, rfl, rfl⟩ (fun v w h => h) fun a w' hE hF hA => ?_
        have x1 := hA.pick 9 21 (.int .i64 (kidsOf M n.path).length) rfl rfl ⟨⟨9, .data⟩, by simp, rfl, rfl⟩ (fun u h => h)
        exact wp_value (w' := w') (v := .bool true) (by simp only [execOp, x1]; simp [go_sem, e2]) ⟨_, rfl, rfl, Ext.refl _⟩
      · refine duty_free rfl fun a w' hE hF hA => ?_
        have x1 := hA.pick 1 13 (.bool true) rfl rfl ⟨⟨1, .data⟩, by simp, rfl, rfl⟩ (fun u h => h)
        have x2 := hA.pick 10 22 (.bool true) rfl rfl ⟨⟨10, .data⟩, by simp, rfl, rfl⟩ (fun u h => h)
        exact wp_value (w' := w') (ex_pick rfl x1) ⟨_, rfl, x2, Ext.refl _⟩
      · refine duty_free rfl fun a w' hE hF hA => ?_
        have x1 := hA.pick 11 23 (.bool true) rfl rfl ⟨⟨11, .data⟩, by simp, rfl, rfl⟩ (fun u h => h)
        exact wp_value (w' := w') (ex_move rfl) ⟨_, rfl, x1, Ext.refl _⟩
      · refine duty_yes rfl (p := _) rfl (d := 24) rfl (show 24 < 41 by decide) ⟨⟨12, .guard⟩, by simp, rfl, rfl⟩ (fun v w h => h) fun a w' hE hF hA => ?_
        have x1 := hF.slot 3 _ (by decide) rfl
        exact wp_value (w' := w') (v := .pointer (some ⟨w.heap.size, 10, none⟩)) (by simp only [execOp, x1]; simp [go_sem]) ⟨_, rfl, rfl, Ext.refl _⟩
      · refine duty_yes rfl (p := _) rfl (d := 24) rfl (show 24 < 41 by decide) ⟨⟨12, .guard⟩, by simp, rfl, rfl⟩ (fun v w h => h) fun a w' hE hF hA => ?_
        have x1 := hA.pick 13 25 (.pointer (some ⟨w.heap.size, 10, none⟩)) rfl rfl ⟨⟨13, .data⟩, by simp, rfl, rfl⟩ (fun u h => h)
        exact wp_value (ex_cell rfl _ _ x1 ((hE.cell (World.block_lt_of_cell? _ _ HMT.out)).trans HMT.out) rfl Tryz.underlying2) ⟨_, rfl, rfl, Ext.refl _⟩
      · refine duty_yes rfl (p := _) rfl (d := 24) rfl (show 24 < 41 by decide) ⟨⟨12, .guard⟩, by simp, rfl, rfl⟩ (fun v w h => h) fun a w' hE hF hA => ?_
        have x1 := hF.slot 2 _ (by decide) rfl
        exact wp_value (ex_cell rfl _ _ x1 ((hE.cell (World.block_lt_of_cell? _ _ HNOW.out)).trans HNOW.out) rfl Tryz.underlying2) ⟨_, rfl, rfl, Ext.refl _⟩
      · refine duty_yes rfl (p := _) rfl (d := 24) rfl (show 24 < 41 by decide) ⟨⟨12, .guard⟩, by simp, rfl, rfl⟩ (fun v w h => h) fun a w' hE hF hA => ?_
        have x1 := hA.pick 14 26 (.int .i64 n.mtime) rfl rfl ⟨⟨14, .data⟩, by simp, rfl, rfl⟩ (fun u h => h)
        have x2 := hA.pick 15 27 (.int .i64 now) rfl rfl ⟨⟨15, .data⟩, by simp, rfl, rfl⟩ (fun u h => h)
        exact wp_value (w' := w') (v := .bool true) (by simp only [execOp, x1, x2]; simp [go_sem, e3]) ⟨_, rfl, rfl, Ext.refl _⟩
      · refine duty_free rfl fun a w' hE hF hA => ?_
        have x1 := hA.pick 12 24 (.bool true) rfl rfl ⟨⟨12, .data⟩, by simp, rfl, rfl⟩ (fun u h => h)
        have x2 := hA.pick 16 28 (.bool true) rfl rfl ⟨⟨16, .data⟩, by simp, rfl, rfl⟩ (fun u h => h)
        exact wp_value (w' := w') (ex_pick rfl x1) ⟨_, rfl, x2, Ext.refl _⟩
      · refine duty_free rfl fun a w' hE hF hA => ?_
        have x1 := hA.pick 17 29 (.bool true) rfl rfl ⟨⟨17, .data⟩, by simp, rfl, rfl⟩ (fun u h => h)
        exact wp_value (w' := w') (ex_move rfl) ⟨_, rfl, x1, Ext.refl _⟩
      · refine duty_yes rfl (p := _) rfl (d := 30) rfl (show 30 < 41 by decide) ⟨⟨18, .guard⟩, by simp, rfl, rfl⟩ (fun v w h => h) fun a w' hE hF hA => ?_
        have x1 := hF.slot 2 _ (by decide) rfl
        exact wp_value (ex_cell rfl _ _ x1 ((hE.cell (World.block_lt_of_cell? _ _ HNOW.out)).trans HNOW.out) rfl Tryz.underlying2) ⟨_, rfl, rfl, Ext.refl _⟩
      · refine duty_yes rfl (p := _) rfl (d := 30) rfl (show 30 < 41 by decide) ⟨⟨18, .guard⟩, by simp, rfl, rfl⟩ (fun v w h => h) fun a w' hE hF hA => ?_
        have x1 := hA.pick 19 31 (.int .i64 now) rfl rfl ⟨⟨19, .data⟩, by simp, rfl, rfl⟩ (fun u h => h)
        exact wp_value (w' := w') (v := .int .u64 (IntKind.u64.wrap now)) (by simp only [execOp, x1]; simp [go_sem]) ⟨_, rfl, rfl, Ext.refl _⟩
      · refine duty_yes rfl (p := _) rfl (d := 30) rfl (show 30 < 41 by decide) ⟨⟨18, .guard⟩, by simp, rfl, rfl⟩ (fun v w h => h) fun a w' hE hF hA => ?_
        have x1 := hF.slot 3 _ (by decide) rfl
        exact wp_value (w' := w') (v := .pointer (some ⟨w.heap.size, 10, none⟩)) (by simp only [execOp, x1]; simp [go_sem]) ⟨_, rfl, rfl, Ext.refl _⟩
      · refine duty_yes rfl (p := _) rfl (d := 30) rfl (show 30 < 41 by decide) ⟨⟨18, .guard⟩, by simp, rfl, rfl⟩ (fun v w h => h) fun a w' hE hF hA => ?_
        have x1 := hA.pick 21 33 (.pointer (some ⟨w.heap.size, 10, none⟩)) rfl rfl ⟨⟨21, .data⟩, by simp, rfl, rfl⟩ (fun u h => h)
        exact wp_value (ex_cell rfl _ _ x1 ((hE.cell (World.block_lt_of_cell? _ _ HMT.out)).trans HMT.out) rfl Tryz.underlying2) ⟨_, rfl, rfl, Ext.refl _⟩
      · refine duty_yes rfl (p := _) rfl (d := 30) rfl (show 30 < 41 by decide) ⟨⟨18, .guard⟩, by simp, rfl, rfl⟩ (fun v w h => h) fun a w' hE hF hA => ?_
        have x1 := hA.pick 22 34 (.int .i64 n.mtime) rfl rfl ⟨⟨22, .data⟩, by simp, rfl, rfl⟩ (fun u h => h)
        exact wp_value (w' := w') (v := .int .u64 (IntKind.u64.wrap n.mtime)) (by simp only [execOp, x1]; simp [go_sem]) ⟨_, rfl, rfl, Ext.refl _⟩
      · refine duty_yes rfl (p := _) rfl (d := 30) rfl (show 30 < 41 by decide) ⟨⟨18, .guard⟩, by simp, rfl, rfl⟩ (fun v w h => h) fun a w' hE hF hA => ?_
        have x1 := hA.pick 20 32 (.int .u64 (IntKind.u64.wrap now)) rfl rfl ⟨⟨20, .data⟩, by simp, rfl, rfl⟩ (fun u h => h)
        have x2 := hA.pick 23 35 (.int .u64 (IntKind.u64.wrap n.mtime)) rfl rfl ⟨⟨23, .data⟩, by simp, rfl, rfl⟩ (fun u h => h)
        exact wp_value (w' := w') (v := .int .u64 (IntKind.u64.wrap (IntKind.u64.wrap now - IntKind.u64.wrap n.mtime))) (by simp only [execOp, x1, x2]; simp [go_sem]) ⟨_, rfl, rfl, Ext.refl _⟩
      · refine duty_yes rfl (p := _) rfl (d := 30) rfl (show 30 < 41 by decide) ⟨⟨18, .guard⟩, by simp, rfl, rfl⟩ (fun v w h => h) fun a w' hE hF hA => ?_
        have x1 := hF.slot 5 _ (by decide) rfl
        exact wp_value (w' := w') (ex_move rfl) ⟨_, rfl, x1, Ext.refl _⟩
      · refine duty_yes rfl (p := _) rfl (d := 30) rfl (show 30 < 41 by decide) ⟨⟨18, .guard⟩, by simp, rfl, rfl⟩ (fun v w h => h) fun a w' hE hF hA => ?_
        have x1 := hA.pick 25 37 (.int .i64 lv) rfl rfl ⟨⟨25, .data⟩, by simp, rfl, rfl⟩ (fun u h => h)
        exact wp_value (w' := w') (v := .int .u64 (IntKind.u64.wrap lv)) (by simp only [execOp, x1]; simp [go_sem]) ⟨_, rfl, rfl, Ext.refl _⟩
      · refine duty_yes rfl (p := _) rfl (d := 30) rfl (show 30 < 41 by decide) ⟨⟨18, .guard⟩, by simp, rfl, rfl⟩ (fun v w h => h) fun a w' hE hF hA => ?_
        have x1 := hA.pick 24 36 (.int .u64 (IntKind.u64.wrap (IntKind.u64.wrap now - IntKind.u64.wrap n.mtime))) rfl rfl ⟨⟨24, .data⟩, by simp, rfl, rfl⟩ (fun u h => h)
        have x2 := hA.pick 26 38 (.int .u64 (IntKind.u64.wrap lv)) rfl rfl ⟨⟨26, .data⟩, by simp, rfl, rfl⟩ (fun u h => h)
        exact wp_value (w' := w') (v := .bool ab) (by simp only [execOp, x1, x2]; simp [go_sem, HAG.out]) ⟨_, rfl, rfl, Ext.refl _⟩
      · refine duty_free rfl fun a w' hE hF hA => ?_
        have x1 := hA.pick 18 30 (.bool true) rfl rfl ⟨⟨18, .data⟩, by simp, rfl, rfl⟩ (fun u h => h)
        have x2 := hA.pick 27 39 (.bool ab) rfl rfl ⟨⟨27, .data⟩, by simp, rfl, rfl⟩ (fun u h => h)
        exact wp_value (w' := w') (ex_pick rfl x1) ⟨_, rfl, x2, Ext.refl _⟩
      · refine duty_free rfl fun a w' hE hF hA => ?_
        have x1 := hA.pick 28 40 (.bool ab) rfl rfl ⟨⟨28, .data⟩, by simp, rfl, rfl⟩ (fun u h => h)
        exact wp_value (w' := w') (ex_assign rfl) ⟨_, rfl, x1, Ext.refl _⟩
    case stay => exact trivial
    case rest =>
      intro W5 hE5
      have HFIN := Lib.hid (HE2.out.trans hE5)
      clear hE5
      simp only [forS]
      simp only [filled, List.zip_cons_cons, List.zip_nil_left, List.foldl_cons, List.foldl_nil, Act.put, List.setIfInBounds_toArray, List.set_cons_succ, List.set_cons_zero, Exit.inBlock, Exit.then]
      rename_i hK
      refine hK _ _ ?_
      clear hK
      go_wp2
      go_ret
      exact ⟨by rw [HV.out]; rfl, HFIN.out⟩

theorem taged_any (S : Nat → Prop) (w : World) (bt : Nat) (M : List (Key × Nd)) (N : Nat) (hT : TreeAt S w bt M N) (hl : M.length * 168 ≤ 140737488355328) (hi : ∀ x ∈ M, Ir x.2) (now : Int) : Calls Tryz.prog 29 #[.pointer (some ⟨bt, 0, none⟩), .int .i64 now] w (StrsOut (someL M (agedP M now)) w) := by
  obtain ⟨W1, hW1⟩ : ∃ W1, W1 = (w.alloc (.cells #[.pointer (some ⟨bt, 0, none⟩)] 37)).alloc (.cells #[.int .i64 now] 2) := ⟨_, rfl⟩
  have hE1 : Ext w W1 := by rw [hW1]; exact (Ext.alloc _ _).trans (Ext.alloc _ _)
  have hg : W1.cell? ⟨w.heap.size, 0, none⟩ = some (.pointer (some ⟨bt, 0, none⟩)) := by rw [hW1, cell_of_row _ _ _ _ _ _ (heap_alloc2_old w _ _)]; rfl
  have hn : W1.cell? ⟨w.heap.size + 1, 0, none⟩ = some (.int .i64 now) := by rw [hW1, cell_of_row _ _ _ _ _ _ (heap_alloc2_new w _ _)]; rfl
  have C := some_aged S W1 bt M N (hT.ext hE1) hl w.heap.size (w.heap.size + 1) (agedP M now) fun W v n hE hm hv => aged1_any S S W bt M N ((hT.ext hE1).ext hE) n v hv (by
    have := (vpath_facts (right_vpath (hT.ok.at hm).2)).2.1
    unfold maxLen; omega) (wf_i64 ((hi _ (mget_some_mem hm)).1 n.owner (by simp))) w.heap.size (w.heap.size + 1) now (cellM hE hg) (cellM hE hn)
  have HE1 := Lib.hid hE1
  rw [hW1] at C hg hn
  have HW1 := Lib.hid hW1
  have C := Lib.hid C
  clear hT hE1 hW1 hi
  go_enter Tryz.func29, Tryz.ntmps29
  go_wp2_with fail
  refine C.out.mono ?_
  rintro e w2 ⟨a, c, rfl, hs, hE2⟩
  rw [← HW1.out] at hE2
  have HFIN := Lib.hid (show StrsOut (someL M (agedP M now)) w (.returned (.slice a (someL M (agedP M now)).length c)) w2 from ⟨a, c, rfl, hs, HE1.out.trans hE2⟩)
  clear C hs hE2
  go_wp2
  go_ret
  exact HFIN.out

theorem towned_any (S : Nat → Prop) (w : World) (bt : Nat) (M : List (Key × Nd)) (N : Nat) (hT : TreeAt S w bt M N) (hl : M.length * 168 ≤ 140737488355328) (z : Int) : Calls Tryz.prog 25 #[.pointer (some ⟨bt, 0, none⟩), .int .i64 z] w (StrsOut (someL M (ownP z)) w) := by
  obtain ⟨W1, hW1⟩ : ∃ W1, W1 = w.alloc (.cells #[.int .i64 z] 2) := ⟨_, rfl⟩
  have hE1 : Ext w W1 := by rw [hW1]; exact Ext.alloc _ _
  have hg : W1.cell? ⟨w.heap.size, 0, none⟩ = some (.int .i64 z) := by rw [hW1, cell_of_row _ _ _ _ _ _ (heap_alloc_new w _)]; rfl
  have C := some_owned S W1 bt M N (hT.ext hE1) hl w.heap.size (ownP z) fun W v n hE _ hv => owned1_any S W n v hv w.heap.size z (cellM hE hg)
  have HE1 := Lib.hid hE1
  rw [hW1] at C
  have HW1 := Lib.hid hW1
  have C := Lib.hid C
  clear hT hE1 hg hW1
  go_enter Tryz.func25, Tryz.ntmps25
  go_wp2_with fail
  refine C.out.mono ?_
  rintro e w2 ⟨a, c, rfl, hs, hE2⟩
  rw [← HW1.out] at hE2
  have HFIN := Lib.hid (show StrsOut (someL M (ownP z)) w (.returned (.slice a (someL M (ownP z)).length c)) w2 from ⟨a, c, rfl, hs, HE1.out.trans hE2⟩)
  clear C hs hE2
  go_wp2
  go_ret
  exact HFIN.out

theorem tidle_any (S : Nat → Prop) (w : World) (bt : Nat) (M : List (Key × Nd)) (N : Nat) (hT : TreeAt S w bt M N) (hl : M.length * 168 ≤ 140737488355328) : Calls Tryz.prog 27 #[.pointer (some ⟨bt, 0, none⟩)] w (StrsOut (someL M (idleP M)) w) := by
  obtain ⟨W1, hW1⟩ : ∃ W1, W1 = w.alloc (.cells #[.pointer (some ⟨bt, 0, none⟩)] 37) := ⟨_, rfl⟩
  have hE1 : Ext w W1 := by rw [hW1]; exact Ext.alloc _ _
  have hg : W1.cell? ⟨w.heap.size, 0, none⟩ = some (.pointer (some ⟨bt, 0, none⟩)) := by rw [hW1, cell_of_row _ _ _ _ _ _ (heap_alloc_new w _)]; rfl
  have C := some_idle S W1 bt M N (hT.ext hE1) hl w.heap.size (idleP M) fun W v n hE hn hv => idle1_any S S W bt M N ((hT.ext hE1).ext hE) n v hv (by
    have := (vpath_facts (right_vpath (hT.ok.at hn).2)).2.1
    unfold maxLen; omega) w.heap.size (cellM hE hg)
  have HE1 := Lib.hid hE1
  rw [hW1] at C hg
  have HW1 := Lib.hid hW1
  have C := Lib.hid C
  clear hT hE1 hW1
  go_enter Tryz.func27, Tryz.ntmps27
  go_wp2_with fail
  refine C.out.mono ?_
  rintro e w2 ⟨a, c, rfl, hs, hE2⟩
  rw [← HW1.out] at hE2
  have HFIN := Lib.hid (show StrsOut (someL M (idleP M)) w (.returned (.slice a (someL M (idleP M)).length c)) w2 from ⟨a, c, rfl, hs, HE1.out.trans hE2⟩)
  clear C hs hE2
  go_wp2
  go_ret
  exact HFIN.out
end Go.Proofs.YthinpbdbhijbgaaGreatDoor
