/- The walk of arborref07's Weigh. The walks of arborref10's Over, above, Passes, Exceeds. The walks of arborref03's Name and arborref07's Kids. The walks of arborref05's Of, arborref07's Stat and Children. The walks of arborref10's Passes, Exceeds, Begin. The walk of a quota book's List. -/
import Derived.Test.YtamolbegmkngdaaGreatDoorJQuotaTurns14
import Derived.Test.YtamolbegmkngdaaGreatDoorJQuotaTurns15
import Derived.Test.YtamolbegmkngdaaGreatDoorJQuotaTurns23
import Derived.Test.YtamolbegmkngdaaGreatDoorJQuotaTurns12
import Derived.Test.YtamolbegmkngdaaGreatDoorJQuotaTurns10
import Derived.Test.YtamolbegmkngdaaGreatDoorJQuotaTurns9
import Derived.Test.YtamolbegmkngdaaGreatDoorJQuotaTurns7
import Derived.Test.YtamolbegmkngdaaGreatDoorIterQ
namespace Go.Proofs.YtamolbegmkngdaaGreatDoor
open Go.RowKit Go.Sort
set_option maxHeartbeats 4000000
set_option maxRecDepth 100000

theorem rweigh_any (w : World) (b : Nat) (M : List (Key × Nd)) (hR : RT w b (nds M)) (hM : MOk M) (s : ByteArray) (hs : s.size ≤ 9223372036854775800) (hl : M.length * 168 ≤ 140737488355328) :
    Calls Tryz.prog 92 #[.pointer (some ⟨b, 0, none⟩), .string s] w (WeighOut M s w) := by
  have C1 := Lib.hid (rbelow_any w b M hR hM s hs hl)
  have HM := Lib.hid hM
  clear hR hM
  go_enter Tryz.func92, Tryz.ntmps92
  go_wp2_with fail
  refine C1.out.mono ?_
  rintro e w1 ⟨v, rfl, hown, hE1⟩
  obtain ⟨la, lc, vs, rfl, _, _, hrows, _⟩ := hown.rows
  clear C1 hown
  cases hg : mget M s.data.toList with
  | none =>
    have hfin : WeighOut M s w (.returned (.tuple #[.int .i64 0, .int .i64 0, .int .i64 70])) w1 := ⟨by rw [hg]; rfl, hE1⟩
    have HFIN := Lib.hid hfin
    have e0 : (nodesOf M (UndL M s)).length = 0 := by rw [UndL_none hg]; rfl
    rw [e0]
    clear hfin hg hrows hE1
    go_wp2
    go_ret3
    exact HFIN.out
  | some y =>
    have hU := UndL_some hg
    have hpos := und_self_mem HM.out hg
    rw [hU] at hrows ⊢
    generalize hks : undK M s = ks at *
    have hkl : ks.length ≤ M.length := by rw [← hks]; exact undK_length_le M s
    have hnl : (nodesOf M ks).length = ks.length := by unfold nodesOf; exact List.length_map _
    have hfin : WeighOut M s w (.returned (.tuple #[.int .i64 ks.length, .int .i64 (bytesK M ks), .int .i64 0])) w1 := ⟨by rw [hg, hks]; rfl, hE1⟩
    have HFIN := Lib.hid hfin
    have HROWS := Lib.hid hrows
    have hlp : ¬ ks.length = 0 := by omega
    have hlb : ((ks.length : Int) == 0) = false := by simp; exact fun e => hlp (by rw [e]; rfl)
    have hl64 : ks.length ≤ 9223372036854775807 := by omega
    rw [hnl]
    clear hfin hg hE1 hks hU hpos hrows
    go_wp2
    go_loopw [8, 9] (fun sm i wr => ∃ k : Nat, k ≤ ks.length ∧ i = .int .i64 k ∧ sm = .int .i64 (bytesK M (ks.take k)) ∧ wr = w1) (fun _ i _ => ks.length - (intOf i).toNat)
    case atStart => exact ⟨0, Nat.zero_le _, rfl, rfl, rfl⟩
    case round =>
      obtain ⟨k, hk, rfl, rfl, rfl⟩ := hrel
      by_cases hlt : k < ks.length
      · have hnk : (nodesOf M ks)[k]? = some ((mget M ks[k]).getD zeroN) := by unfold nodesOf; rw [List.getElem?_map, List.getElem?_eq_getElem hlt]; rfl
        obtain ⟨bl, off, da, dc, aa, ac, ea, hSb, hc, hD, hA, _⟩ := HROWS.out.row hnk
        subst ea
        have hsucc := bytesK_succ M ks k hlt
        have hle1 := bytesK_le HM.out (ks.take k)
        have hle2 := data_le HM.out ks[k]
        have hln : (ks.take k).length ≤ ks.length := by simp; omega
        generalize (mget M ks[k]).getD zeroN = n at *
        have c1 : wr.cell? ⟨bl, off + k * 17 + 1, none⟩ = some (.slice da n.data.length dc) := hc 1 _ rfl
        have HSC := Lib.hid hsucc
        have hb1 : (0 : Int) ≤ (bytesK M (ks.take k) : Int) + (n.data.length : Int) := by omega
        have hb2 : (bytesK M (ks.take k) : Int) + (n.data.length : Int) < 9223372036854775808 := by omega
        clear hc hD hA hsucc hnk
        go_wp2
        go_roundw
        case rel => exact ⟨k + 1, by omega, by go_num, by rw [HSC.out]; push_cast; go_num, by first | rfl | trivial⟩
        case measure => simp [intOf]; omega
      · obtain rfl : k = ks.length := by omega
        rw [List.take_length]
        go_wp2
        go_ret3
        exact HFIN.out
end Go.Proofs.YtamolbegmkngdaaGreatDoor
namespace Go.Proofs.YtamolbegmkngdaaGreatDoor
open Go.RowKit Go.Sort
set_option maxHeartbeats 4000000
set_option maxRecDepth 100000

def roverT (L : List Nd) (s : ByteArray) (k : Nat) : List ByteArray := ((L.take k).filter fun n => n.has && und s n.path).map (·.path)
theorem roverT_succ (L : List Nd) (s : ByteArray) (k : Nat) (hk : k < L.length) : roverT L s (k + 1) = roverT L s k ++ if (L[k].has && und s L[k].path) = true then [L[k].path] else [] := by
  unfold roverT
  rw [List.take_succ_eq_append_getElem hk, List.filter_append, List.map_append]
  congr 1
  by_cases h : (L[k].has && und s L[k].path) = true
  · rw [if_pos h]; simp [h]
  · rw [if_neg h]; simp only [List.filter_cons, h, List.filter_nil]; simp
theorem roverT_le (L : List Nd) (s : ByteArray) (k : Nat) : (roverT L s k).length ≤ k := by
  unfold roverT
  rw [List.length_map]
  refine Nat.le_trans (List.length_filter_le _ _) ?_
  rw [List.length_take]; omega

theorem rover_nil (s : ByteArray) (w : World) : Calls Tryz.prog 30 #[.pointer none, .string s] w (TextsOut [] w) := by
  have HFIN := Lib.hid (show TextsOut [] w (.returned (.slice none 0 0)) w from ⟨_, rfl, World.ownsRow_nil _ _ _ _, Ext.refl _⟩)
  go_enter Tryz.func30, Tryz.ntmps30
  go_wp2
  go_ret
  exact HFIN.out

theorem rover_any (w : World) (b : Nat) (M : List (Key × Nd)) (hR : RT w b (nds M)) (hM : MOk M) (s : ByteArray) (hs : s.size ≤ 9223372036854775800) (hl : M.length * 168 ≤ 140737488355328) :
    Calls Tryz.prog 30 #[.pointer (some ⟨b, 0, none⟩), .string s] w (TextsOut ((overL M s).map (·.path)) w) := by
  have CV := rvalid_any s w hs
  cases hv : vpath s with
  | false =>
    rw [hv] at CV
    have hfin : ∀ W, Ext w W → TextsOut ((overL M s).map (·.path)) w (.returned (.slice none 0 0)) W := fun W hE => by
      unfold overL; rw [hv]; exact ⟨_, rfl, World.ownsRow_nil _ _ _ _, hE⟩
    have HFIN := Lib.hid hfin
    have CV := Lib.hid CV
    clear hfin hv hR
    go_enter Tryz.func30, Tryz.ntmps30
    go_wp2_with fail
    refine CV.out.mono ?_
    rintro e w1 ⟨rfl, hE1⟩
    clear CV
    go_wp2
    go_ret
    exact HFIN.out _ hE1
  | true =>
    rw [hv] at CV
    have CV := Lib.hid CV
    obtain ⟨a, cap, vs, hb, hlc, hcm, hS, hrows, _⟩ := hR
    have hcb : w.cell? ⟨b, 0, none⟩ = some (.slice a (nds M).length cap) := cell_of_row _ _ _ _ _ _ hb
    have hbl := (Array.getElem?_eq_some_iff.1 hb).1
    have hnl : (nds M).length ≤ 837723144972 := by rw [nds_length]; omega
    have hre : roverT (nds M) s (nds M).length = (overL M s).map (·.path) := by
      rw [← rover_eq hM hv]; unfold roverT roverL; rw [List.take_length]
    have hvp : ∀ n ∈ nds M, vpath n.path = true ∧ n.path.size ≤ 4096 := fun n hn => by
      obtain ⟨x, hx, rfl⟩ := List.mem_map.1 hn
      have := right_vpath (hM.right x hx)
      exact ⟨this, (vpath_facts this).2.1⟩
    generalize nds M = L at *
    have HROWS := Lib.hid hrows
    have HS := Lib.hid hS
    have HRE := Lib.hid hre
    have HVP := Lib.hid hvp
    have HV := Lib.hid hv
    clear hb hrows hS hM hlc hcm hre hvp hv
    go_enter Tryz.func30, Tryz.ntmps30
    go_wp2_with fail
    refine CV.out.mono ?_
    rintro e w1 ⟨rfl, hE1⟩
    have HE1 : Hid (Ext w w1) := hE1
    clear CV hE1
    go_wp2
    go_loopw [5, 6] (fun lv i wr => ∃ k : Nat, k ≤ L.length ∧ i = .int .i64 k ∧ Hid (wr.ownsRow w.heap.size 9 1 lv (roverT L s k).length ((roverT L s k).map .string)) ∧ Ext w wr) (fun _ i _ => L.length - (intOf i).toNat)
    case atStart => exact ⟨0, Nat.zero_le _, rfl, World.ownsRow_nil _ _ _ _, HE1.out⟩
    case round =>
      obtain ⟨k, hk, rfl, HO, hE⟩ := hrel
      have hcr : wr.cell? ⟨b, 0, none⟩ = some (.slice a L.length cap) := (hE.cell (p := ⟨b, 0, none⟩) hbl).trans hcb
      have hzr := hE.size
      by_cases hlt : k < L.length
      · obtain ⟨bl, off, da, dc, aa, ac, ea, hSb, hc, _⟩ := HROWS.out.row (List.getElem?_eq_getElem hlt)
        subst ea
        have hsucc := roverT_succ L s k hlt
        have hle := roverT_le L s k
        obtain ⟨hvn, hsn⟩ := HVP.out L[k] (List.getElem_mem hlt)
        generalize L[k] = n at *
        have c0 : wr.cell? ⟨bl, off + k * 17, none⟩ = some (.string n.path) := (hE.cell (p := ⟨bl, off + k * 17, none⟩) (HS.out bl hSb).1).trans (hc 0 _ rfl)
        have c14 : wr.cell? ⟨bl, off + k * 17 + 14, none⟩ = some (.bool n.has) := (hE.cell (p := ⟨bl, off + k * 17 + 14, none⟩) (HS.out bl hSb).1).trans (hc 14 _ rfl)
        have HSUCC := Lib.hid hsucc
        have HE := Lib.hid hE
        have CU := rund_any s n.path wr hs (by omega)
        rw [hvn, HV.out, Bool.true_and, Bool.true_and] at CU
        have CU := Lib.hid CU
        clear hc hE hsucc
        cases hh : n.has with
        | false =>
          rw [hh] at HSUCC c14
          have hst : roverT L s (k + 1) = roverT L s k := by rw [HSUCC.out]; simp
          have HST := Lib.hid hst
          clear hst CU hh
          go_wp2
          go_roundw
          case rel => exact ⟨k + 1, by omega, by go_num, by unfold Hid; rw [HST.out]; exact HO.out, HE.out⟩
          case measure => simp [intOf]; omega
        | true =>
          rw [hh] at HSUCC c14
          cases hu : und s n.path with
          | false =>
            rw [hu] at HSUCC CU
            have hst : roverT L s (k + 1) = roverT L s k := by rw [HSUCC.out]; simp
            have HST := Lib.hid hst
            clear hst hh hu
            go_wp2_with fail
            refine CU.out.mono ?_
            rintro e w2 ⟨rfl, hE2⟩
            have HE2 := Lib.hid (HE.out.trans hE2)
            have HO2 := Lib.hid (HO.out.kept (grown_of_ext hE2 none) (Classical.em _))
            clear CU hE2 hcr c0 c14
            go_wp2
            go_roundw
            case rel => exact ⟨k + 1, by omega, by go_num, by unfold Hid; rw [HST.out]; exact HO2.out, HE2.out⟩
            case measure => simp [intOf]; omega
          | true =>
            rw [hu] at HSUCC CU
            have hst : roverT L s (k + 1) = roverT L s k ++ [n.path] := by rw [HSUCC.out]; simp
            have HST := Lib.hid hst
            clear hst hh hu
            go_wp2_with fail
            refine CU.out.mono ?_
            rintro e w2 ⟨rfl, hE2⟩
            have hE2 : Ext wr w2 := hE2
            have hz2 := hE2.size
            have hO2 := HO.out.kept (grown_of_ext hE2 none) (Classical.em _)
            have hcr2 : w2.cell? ⟨b, 0, none⟩ = some (.slice (some ⟨bl, off, none⟩) L.length cap) := (hE2.cell (p := ⟨b, 0, none⟩) (World.block_lt_of_cell? _ _ hcr)).trans hcr
            have c02 : w2.cell? ⟨bl, off + k * 17, none⟩ = some (.string n.path) := (hE2.cell (p := ⟨bl, off + k * 17, none⟩) (World.block_lt_of_cell? _ _ c0)).trans c0
            have HE2 := Lib.hid (HE.out.trans hE2)
            clear CU hE2 hcr c0 c14
            go_wp2_with (at_builtin; refine wpList_append_s rfl (.tmp 44) (.tmp 53) rfl w.heap.size (roverT L s k).length _ _ hO2 (by omega) n.path (by omega) rfl rfl ?_)
            intro v' W6 hO6 hE6
            have HO6 := Lib.hid hO6
            have HE6 := Lib.hid (hE6 w HE2.out (Nat.le_refl _))
            clear hO6 hE6 hO2 hcr2 c02
            go_wp2
            go_roundw
            case rel => exact ⟨k + 1, by omega, by go_num, by unfold Hid; rw [HST.out]; simpa using HO6.out, HE6.out⟩
            case measure => simp [intOf]; omega
      · obtain rfl : k = L.length := by omega
        rw [HRE.out] at HO
        have HFIN := Lib.hid (show TextsOut ((overL M s).map (·.path)) w (.returned u5) wr from ⟨_, rfl, HO.out, hE⟩)
        clear hE HO HROWS
        go_wp2
        go_ret
        exact HFIN.out

theorem rabove_any (used more bound : Int) (w : World) : Calls Tryz.prog 147 #[.int .i64 used, .int .i64 more, .int .i64 bound] w fun e w' => e = .returned (.bool (aboveB used more bound)) ∧ w = w' := by
  by_cases h1 : more ≤ 0
  · have d1 : decide (more ≤ 0) = true := by simpa using h1
    have HP := Lib.hid (show aboveB used more bound = false by unfold aboveB; rw [if_pos (.inl h1)])
    go_enter Tryz.func147, Tryz.ntmps147
    go_wp2
    go_ret
    exact ⟨by rw [HP.out]; rfl, rfl⟩
  · have d1 : decide (more ≤ 0) = false := by simpa using h1
    by_cases h2 : bound = -1
    · have HP := Lib.hid (show aboveB used more bound = false by unfold aboveB; rw [if_pos (.inr h2)])
      subst h2
      go_enter Tryz.func147, Tryz.ntmps147
      go_wp2
      go_ret
      exact ⟨by rw [HP.out]; rfl, rfl⟩
    · have d2 : (bound == -1) = false := by simpa using h2
      have hp : aboveB used more bound = (decide (wrap64 (9223372036854775807 - more) < used) || decide (bound < wrap64 (used + more))) := by unfold aboveB; rw [if_neg (by rintro (h | h); exact h1 h; exact h2 h)]
      by_cases h3 : wrap64 (9223372036854775807 - more) < used
      · have d3 : decide (wrap64 (9223372036854775807 - more) < used) = true := by simpa using h3
        rw [d3] at hp
        have HP := Lib.hid hp
        clear hp
        go_enter Tryz.func147, Tryz.ntmps147
        go_wp2
        go_ret
        exact ⟨by rw [HP.out]; simp, rfl⟩
      · have d3 : decide (wrap64 (9223372036854775807 - more) < used) = false := by simpa using h3
        rw [d3] at hp
        by_cases h4 : bound < wrap64 (used + more)
        · have d4 : decide (bound < wrap64 (used + more)) = true := by simpa using h4
          rw [d4] at hp
          have HP := Lib.hid hp
          clear hp
          go_enter Tryz.func147, Tryz.ntmps147
          go_wp2
          go_ret
          exact ⟨by rw [HP.out]; simp, rfl⟩
        · have d4 : decide (bound < wrap64 (used + more)) = false := by simpa using h4
          rw [d4] at hp
          have HP := Lib.hid hp
          clear hp
          go_enter Tryz.func147, Tryz.ntmps147
          go_wp2
          go_ret
          exact ⟨by rw [HP.out]; simp, rfl⟩
end Go.Proofs.YtamolbegmkngdaaGreatDoor
namespace Go.Proofs.YtamolbegmkngdaaGreatDoor
open Go.RowKit Go.Sort
set_option maxHeartbeats 4000000
set_option maxRecDepth 100000

theorem rname_any (s : ByteArray) (w : World) (hv : vpath s = true) (hs : s.size ≤ 9223372036854775800) : Calls Tryz.prog 152 #[.string s] w fun e w' => e = .returned (.tuple #[.string (nameB s), .int .i64 0]) ∧ Ext w w' := by
  have C1 := rvalid_any s w (by omega)
  rw [hv] at C1
  have R : Hid (nameB s = s.extract (lastS s + 1).toNat s.size) := rfl
  have C1 := Lib.hid C1
  have C2 := fun w => rlast_any s w hv hs
  obtain ⟨i, e, hi, _, _⟩ := lastS_spec hv
  rw [e] at C2 R
  have C2 := Lib.hid C2
  clear hv e
  go_enter Tryz.func152, Tryz.ntmps152
  go_wp2_with fail
  refine C1.out.mono ?_
  rintro e w1 ⟨rfl, hb1⟩
  clear C1
  go_wp2_with fail
  refine (C2.out _).mono ?_
  rintro e w2 ⟨rfl, rfl⟩
  clear C2
  go_wp2
  go_ret2
  exact ⟨by rw [R.out]; rfl, hb1⟩

theorem kids_take (M : List (Key × Nd)) (s : ByteArray) (k : Nat) (hk : k < M.length) : kidsOf (M.take (k + 1)) s = kidsOf (M.take k) s ++ if childOf s M[k].2 = true then [(nameK M[k].2, Value.agg #[])] else [] := by
  unfold kidsOf
  rw [List.take_succ_eq_append_getElem hk, List.filter_append, List.map_append]
  congr 1
  by_cases h : childOf s M[k].2 = true
  · rw [if_pos h, List.filter_cons_of_pos (by simpa using h)]; rfl
  · rw [if_neg h, List.filter_cons_of_neg (by simpa using h)]; rfl

def KidsOut (M : List (Key × Nd)) (s : ByteArray) (w : World) (e : Ending) (w' : World) : Prop :=
  ∃ v, e = .returned v ∧ w'.ownsRow w.heap.size 9 1 v (kidsOf M s).length ((kidsOf M s).map fun x => encStr x.1) ∧ Ext w w'

theorem rkids_any (w : World) (b : Nat) (M : List (Key × Nd)) (hR : RT w b (nds M)) (hM : MOk M) (s : ByteArray) (hl : M.length * 16 ≤ 140737488355328) : Calls Tryz.prog 111 #[.pointer (some ⟨b, 0, none⟩), .string s] w (KidsOut M s w) := by
  obtain ⟨a, cap, vs, hb, hlc, hcm, hS, hrows, _⟩ := hR
  have hcb : w.cell? ⟨b, 0, none⟩ = some (.slice a (nds M).length cap) := cell_of_row _ _ _ _ _ _ hb
  have hbl := (Array.getElem?_eq_some_iff.1 hb).1
  rw [nds_length] at hcb
  have hl64 : M.length ≤ 9223372036854775807 := by omega
  have HROWS := Lib.hid hrows
  have HS := Lib.hid hS
  have HM := Lib.hid hM
  have HKL := Lib.hid (fun k => kids_length (M.take k) s)
  clear hb hrows hS hM hlc hcm
  go_enter Tryz.func111, Tryz.ntmps111
  go_wp2
  go_loopw [5, 6] (fun ov i wr => ∃ (k n : Nat), k ≤ M.length ∧ i = .int .i64 k ∧ Hid (n = (kidsOf (M.take k) s).length) ∧ n ≤ k ∧ wr.ownsRow w.heap.size 9 1 ov n ((kidsOf (M.take k) s).map fun x => encStr x.1) ∧ Ext w wr) (fun _ i _ => M.length - (intOf i).toNat)
  case atStart => exact ⟨0, 0, Nat.zero_le _, rfl, rfl, Nat.le_refl _, World.ownsRow_nil _ _ _ _, Ext.refl _⟩
  case round =>
    obtain ⟨k, q, hk, rfl, HN, hqk, hown, hE⟩ := hrel
    have hcr : wr.cell? ⟨b, 0, none⟩ = some (.slice a M.length cap) := (hE.cell (p := ⟨b, 0, none⟩) hbl).trans hcb
    by_cases hlt : k < M.length
    · have hMk : (nds M)[k]? = some M[k].2 := by unfold nds; rw [List.getElem?_map, List.getElem?_eq_getElem hlt]; rfl
      obtain ⟨bl, off, da, dc, aa, ac, ea, hSb, hc, _⟩ := HROWS.out.row hMk
      subst ea
      have hright := HM.out.right M[k] (List.getElem_mem hlt)
      have hst := kids_take M s k hlt
      have hfit := (right_fit hright).1
      have hv := right_vpath hright
      generalize M[k].2 = n at *
      have c0 : wr.cell? ⟨bl, off + k * 17, none⟩ = some (.string n.path) := (hE.cell (p := ⟨bl, off + k * 17, none⟩) (HS.out bl hSb).1).trans (hc 0 _ rfl)
      have hbS : bl ≠ b := (HS.out bl hSb).2
      have hp64 := hfit.path
      have hroot := root_iff hv
      have HE := Lib.hid hE
      have HOWN := Lib.hid hown
      clear hc hE hMk hown
      by_cases h1 : n.path.size = 1
      · have e2 : n.path.toList = [47] := by rw [ByteArray.toList_eq]; exact hroot.1 h1
        have e1 : (n.path.toList == [47]) = true := by simpa using e2
        have hch : childOf s n = false := by unfold childOf; simp [h1]
        rw [hch] at hst
        have HST := Lib.hid hst
        clear hst hch hroot hright
        go_wp2
        go_roundw
        case rel => exact ⟨k + 1, q, by omega, by go_num, by unfold Hid; rw [HST.out]; simpa using HN.out, by omega, by rw [HST.out]; simpa using HOWN.out, HE.out⟩
        case measure => simp [intOf]; omega
      · have e2 : ¬ n.path.toList = [47] := by rw [ByteArray.toList_eq]; exact fun h => h1 (hroot.2 h)
        have e1 : (n.path.toList == [47]) = false := by simpa using e2
        have CP := rparent_any n.path wr hp64
        rw [show parV n.path = .tuple #[.string (parentB n.path), .int .i64 0] by unfold parV; rw [if_pos ⟨hv, h1⟩]] at CP
        have CP := Lib.hid CP
        by_cases hps : parentB n.path = s
        · have hch : childOf s n = true := childOf_iff.2 ⟨h1, hps⟩
          rw [hch] at hst
          have HST := Lib.hid hst
          have p2 : (parentB n.path).toList = s.toList := by rw [hps]
          have p1 : ((parentB n.path).toList == s.toList) = true := by simpa using p2
          clear hst hch hroot hright
          go_wp2_with fail
          refine CP.out.mono ?_
          rintro e w2 ⟨rfl, hE2⟩
          have hE2 : Ext wr w2 := hE2
          have hz2 := hE2.size
          have hzr := HE.out.size
          have c2 : w2.cell? ⟨bl, off + k * 17, none⟩ = some (.string n.path) := (hE2.cell (p := ⟨bl, off + k * 17, none⟩) (World.block_lt_of_cell? _ _ c0)).trans c0
          have hcr2 : w2.cell? ⟨b, 0, none⟩ = some (.slice (some ⟨bl, off, none⟩) M.length cap) := (hE2.cell (p := ⟨b, 0, none⟩) (World.block_lt_of_cell? _ _ hcr)).trans hcr
          have CN := Lib.hid (rname_any n.path w2 hv hp64)
          have HE2 := Lib.hid (HE.out.trans hE2)
          have HO2 := Lib.hid (HOWN.out.kept (ext_grown hE2 none) (Classical.em _))
          clear hE2 CP c0 hcr hcb HOWN
          go_wp2_with fail
          refine CN.out.mono ?_
          rintro e w3 ⟨rfl, hE3⟩
          have hE3 : Ext w2 w3 := hE3
          have hz3 := hE3.size
          have hrow7 := HO2.out.kept (ext_grown hE3 none) (Classical.em _)
          have hrow8 := hrow7.alloc (.cells #[.string (nameB n.path)] 9)
          have hs1 : Cells (w3.alloc (.cells #[.string (nameB n.path)] 9)).heap.size (w3.alloc (.cells #[.string (nameB n.path)] 9)) (some ⟨w3.heap.size, 0, none⟩) [.string (nameB n.path)] := fun j u hj => by
            refine ⟨_, 0, rfl, by simp, ?_⟩
            rw [Nat.zero_add, cell_of_row _ _ _ _ _ _ (heap_alloc_new w3 _)]
            simpa using hj
          have hsrc : Src Tryz.prog 1 39 (.slice (some ⟨w3.heap.size, 0, none⟩) 1 1) 1 [.string (nameB n.path)] (w3.alloc (.cells #[.string (nameB n.path)] 9)) := hs1.src Tryz.underlying39 1 1 (by simp) (fun u hu => by simp at hu; subst hu; rfl)
          obtain ⟨i0, hi, hz0, hz1', hz2'⟩ := strInfo
          have hE8 : Ext w (w3.alloc (.cells #[.string (nameB n.path)] 9)) := (HE2.out.trans hE3).trans (Ext.alloc _ _)
          have HE8 := Lib.hid hE8
          have HO8 := Lib.hid hrow8
          clear CN hE3 hs1 hE8 hrow7 HO2 c2 hcr2 HE2 HE
          go_wp2_with (at_builtin; refine wpList_append_src _ rfl (.tmp 56) (.tmp 58) 39 39 rfl w.heap.size 9 i0 (.string ⟨#[]⟩) 1 16 Tryz.underlying39 hi hz0 hz1' hz2' rfl (by decide) _ q _ rfl hrow8 _ 1 _ rfl hsrc ?c1 ?c2 ?c3 ?_)
          case c1 => unfold maxLen; omega
          case c2 => omega
          case c3 => simp; omega
          intro v' w9 hown9 hg9 _ ho9
          have hE9 : Ext w w9 := HE8.out.trans' ⟨hg9.os, hg9.tape, hg9.output, hg9.size, fun i hi => hg9.block i (Nat.lt_of_lt_of_le hi HE8.out.size) (fun e => by
            have := (HO8.out.lt i e.symm).1
            omega)⟩
          have hown9' : w9.ownsRow w.heap.size 9 1 v' (q + 1) ((kidsOf (M.take (k + 1)) s).map fun x => encStr x.1) := by
            rw [HST.out]
            simpa [encStr, nameK] using hown9
          have hq9 : q + 1 = (kidsOf (M.take (k + 1)) s).length := by rw [HST.out, HN.out]; simp
          have HO9 := Lib.hid hown9'
          have HE9 := Lib.hid hE9
          have HQ9 := Lib.hid hq9
          clear hown9 hown9' hE9 hg9 ho9 hrow8 hsrc HO8 hq9
          go_wp2
          go_roundw
          case rel => exact ⟨k + 1, q + 1, by omega, by go_num, HQ9.out, by omega, HO9.out, HE9.out⟩
          case measure => simp [intOf]; omega
        · have hch : childOf s n = false := by
            cases h : childOf s n with
            | false => rfl
            | true => exact absurd (childOf_iff.1 h).2 hps
          rw [hch] at hst
          have HST := Lib.hid hst
          have p2 : ¬ (parentB n.path).toList = s.toList := fun h => hps (ba_ext (by rw [← ByteArray.toList_eq, ← ByteArray.toList_eq]; exact h))
          have p1 : ((parentB n.path).toList == s.toList) = false := by simpa using p2
          clear hst hch hroot hright
          go_wp2_with fail
          refine CP.out.mono ?_
          rintro e w2 ⟨rfl, hE2⟩
          have hE2 : Ext wr w2 := hE2
          have HE2 := Lib.hid (HE.out.trans hE2)
          have HO2 := Lib.hid (HOWN.out.kept (ext_grown hE2 none) (Classical.em _))
          clear hE2 CP c0 hcr hcb HOWN
          go_wp2
          go_roundw
          case rel => exact ⟨k + 1, q, by omega, by go_num, by unfold Hid; rw [HST.out]; simpa using HN.out, by omega, by rw [HST.out]; simpa using HO2.out, HE2.out⟩
          case measure => simp [intOf]; omega
    · obtain rfl : k = M.length := by omega
      rw [List.take_length] at hown HN
      have hfin : KidsOut M s w (.returned u5) wr := ⟨_, rfl, by rw [← HN.out]; exact hown, hE⟩
      have HFIN := Lib.hid hfin
      clear hfin hown hE hcb
      go_wp2
      go_ret
      exact HFIN.out
end Go.Proofs.YtamolbegmkngdaaGreatDoor
namespace Go.Proofs.YtamolbegmkngdaaGreatDoor
open Go.RowKit Go.Sort
set_option maxHeartbeats 4000000
set_option maxRecDepth 100000

theorem cver_eq (c k : Int) : wrap32 (wrap64 (wrap64 (2 * wrap64 c) - k) % 4294967296) = wrap32 (wrap32 (2 * c) - wrap32 k) := by
  unfold wrap32 wrap64
  omega

theorem rstof_any (n : Nd) (da aa : Option Addr) (dc ac : Nat) (k : Int) (w : World) (hf : Fit n) :
    Calls Tryz.prog 146 #[.agg (ndC n (.slice da n.data.length dc) (.slice aa n.acl.length ac)), .int .i64 k] w fun e w' => e = .returned (.agg (statC n k)) ∧ Ext w w' := by
  have hfd := hf.data
  obtain ⟨W1, hW1⟩ : ∃ W1, W1 = w.alloc (.cells (ndC n (.slice da n.data.length dc) (.slice aa n.acl.length ac)) 47) := ⟨_, rfl⟩
  have hE1 : Ext w W1 := by rw [hW1]; exact Ext.alloc _ _
  have hz1 : W1.heap.size = w.heap.size + 1 := by rw [hW1]; simp
  have hb1 : W1.heap[w.heap.size]? = some (.cells (ndC n (.slice da n.data.length dc) (.slice aa n.acl.length ac)) 47 (0, 0)) := by rw [hW1]; exact heap_alloc_new w _
  obtain ⟨W2, hW2⟩ : ∃ W2, W2 = W1.alloc (.cells zeroStat 93) := ⟨_, rfl⟩
  have hE2 : Ext W1 W2 := by rw [hW2]; exact Ext.alloc _ _
  have hz2 : W2.heap.size = w.heap.size + 1 + 1 := by rw [hW2]; simp [hz1]
  have hb2 := (hE2.block w.heap.size (by omega)).trans hb1
  have hs2 : W2.heap[w.heap.size + 1]? = some (.cells zeroStat 93 (0, 0)) := by rw [hW2, ← hz1]; exact heap_alloc_new W1 _
  have hx : Box W2 w.heap.size (ndC n (.slice da n.data.length dc) (.slice aa n.acl.length ac)) := fun j => cell_of_row _ _ _ _ _ _ hb2
  rw [hW2, hW1] at hx hs2
  unfold Box at hx
  unfold ndC zeroStat at hx hs2
  have HS2 := Lib.hid hs2
  clear hb1 hb2 hs2 hE1 hE2 hf hz1 hz2 hW2 hW1
  clear W2
  clear W1
  unfold ndC
  have hcv := cver_eq n.creates k
  have HCV := Lib.hid hcv
  clear hcv
  go_enter Tryz.func146, Tryz.ntmps146
  go_wp2
  refine bodyPost_ret (v := .agg (statC n k)) ?_ rfl ⟨rfl, (Ext.alloc _ _).trans (Ext.alloc _ _)⟩
  refine results_cell_row (p := 4) (ty := 93) rfl _ _ (w.heap.size + 1) 93 (statC n k) (0, 0) _ rfl ?_ Tryz.underlying93 rfl sizeStat
  have := heap_alloc_new (w.alloc (.cells (ndC n (.slice da n.data.length dc) (.slice aa n.acl.length ac)) 47)) (.cells (statC n k) 93)
  rw [World.size_alloc] at this
  unfold statC at this ⊢
  rw [← HCV.out] at this ⊢
  exact this

/-- A region's invariant: a row is stored by its operation k. -/
def StK (k : Nat) (W3 : World) (gs : Nat) (cs : Array Value) (d : Nat → Bool) (W : World) : Prop :=
  Chg (· = gs) W3 W ∧ W.heap[gs]? = some (.cells (if d k = true then cs else zeroStat) 93 (0, 0))
theorem StK.ext {k : Nat} {W3 : World} {gs : Nat} {cs : Array Value} {i : Nat} (hi : i ≠ k) (d d' : Nat → Bool) (w w' : World) (h : StK k W3 gs cs d w) (he : Ext w w') (hd : ∀ k, k ≠ i → d' k = d k) : StK k W3 gs cs d' w' := by
  obtain ⟨h1, h2⟩ := h
  refine ⟨h1.trans (Chg.of_ext (S := fun _ => False) he) (fun _ _ h => h.elim), ?_⟩
  rw [hd k (Ne.symm hi), he.block gs (Array.getElem?_eq_some_iff.1 h2).1]
  exact h2
def RstP (cs : Array Value) (b : Nat) (s : ByteArray) (k : Nat) (st : Array Value) : Nat → Value → Prop
  | 0, v => v = .agg cs
  | 1, v => v = .pointer (some ⟨b, 0, none⟩)
  | 2, v => v = .string s
  | 3, v => ∃ a c, v = .slice a k c
  | 4, v => v = .int .i64 k
  | 5, v => v = .agg st
  | 6, v => v = undef
  | _, v => v = .int .i64 0
theorem own_slice1 {w : World} {base n : Nat} {v : Value} {xs : List Value} {t : TypeId} (h : w.ownsRow base t 1 v n xs) : ∃ a c, v = .slice a n c := by
  rcases h.2 with ⟨h, h0⟩ | ⟨g, cap, cur, h, _⟩
  · exact ⟨none, 0, by rw [h, h0]⟩
  · exact ⟨_, cap, h⟩
theorem own_base {w : World} {base base' n m : Nat} {v : Value} {xs : List Value} {t : TypeId} (h : w.ownsRow base t m v n xs) (hb : base' ≤ base) : w.ownsRow base' t m v n xs :=
  ⟨h.1, h.2.imp id fun ⟨g, cap, cur, h1, h2, h3⟩ => ⟨g, cap, cur, h1, Nat.le_trans hb h2, h3⟩⟩

theorem rstat_any (w : World) (b : Nat) (M : List (Key × Nd)) (hR : RT w b (nds M)) (hM : MOk M) (s : ByteArray) (hs : s.size ≤ 9223372036854775800) (hl : M.length * 16 ≤ 140737488355328) :
    Calls Tryz.prog 89 #[.pointer (some ⟨b, 0, none⟩), .string s] w (StatOut M s w) := by
  obtain ⟨W0, hW0⟩ : ∃ W0, W0 = w.alloc (.cells zeroStat 93) := ⟨_, rfl⟩
  have hE0 : Ext w W0 := by rw [hW0]; exact Ext.alloc _ _
  have hz0 : W0.heap.size = w.heap.size + 1 := by rw [hW0]; simp
  have hr0 : W0.heap[w.heap.size]? = some (.cells zeroStat 93 (0, 0)) := by rw [hW0]; exact heap_alloc_new w _
  have C1 := rget_any W0 b M (hR.ext hE0) hM s hs
  have HW0 := Lib.hid hW0
  have HR := Lib.hid hR
  have HM := Lib.hid hM
  have hfit : Fit ((mget M s.data.toList).getD zeroN) := hM.fit s.data.toList
  unfold zeroStat at HW0
  clear hR hW0 hM
  go_enter Tryz.func89, Tryz.ntmps89
  go_wp2_with fail
  rw [← HW0.out]
  refine C1.mono ?_
  rintro e w1 ⟨v, rfl, hv, hE1⟩
  obtain ⟨da, dc, aa, ac, rfl, hD, hA⟩ := hv
  have hcase : (mget M s.data.toList).getD zeroN = (mget M s.data.toList).getD zeroN := rfl
  generalize hn : (mget M s.data.toList).getD zeroN = n at hD hA hfit ⊢
  clear hD hA hcase
  obtain ⟨W2, hW2⟩ : ∃ W2, W2 = w1.alloc (.cells (ndC n (.slice da n.data.length dc) (.slice aa n.acl.length ac)) 47) := ⟨_, rfl⟩
  have HSET := Lib.hid ((setRow_alloc w1 zeroNd (ndC n (.slice da n.data.length dc) (.slice aa n.acl.length ac)) 47).trans hW2.symm)
  have HNew := Lib.hid (heap_alloc_new w1 (.cells zeroNd 47))
  have hE2 : Ext w1 W2 := by rw [hW2]; exact Ext.alloc _ _
  have hb2 : W2.heap[w1.heap.size]? = some (.cells (ndC n (.slice da n.data.length dc) (.slice aa n.acl.length ac)) 47 (0, 0)) := by rw [hW2]; exact heap_alloc_new w1 _
  have hz1 := hE1.size
  have hz2 := hE2.size
  have hr2 := ((hE1.trans hE2).block w.heap.size (by omega)).trans hr0
  have hEw2 := (hE0.trans hE1).trans hE2
  unfold ndC at HSET
  unfold zeroNd at HSET HNew
  have HB2 := Lib.hid hb2
  have HR2 := Lib.hid hr2
  have HN := Lib.hid hn
  have HEW := Lib.hid hEw2
  have HFit := Lib.hid hfit
  clear C1 hW2 hE0 hE1 hE2 hb2 hr2 hEw2 hr0 hfit hn
  unfold ndC
  cases hg : mget M s.data.toList with
  | none =>
    have hfin : StatOut M s w (.returned (.tuple #[.agg zeroStat, .int .i64 70])) (W2.setRow w.heap.size zeroStat) := by
      refine ⟨by rw [hg]; rfl, HEW.out.trans' ⟨rfl, rfl, rfl, by simp, fun k hk => setRow_other _ _ _ _ (by omega)⟩⟩
    have hR4 := setRow_heap W2 w.heap.size _ zeroStat 93 (0, 0) HR2.out
    have HFIN := Lib.hid hfin
    have HR4 := Lib.hid hR4
    have HR2' := HR2.out
    unfold zeroStat at HR2'
    have HR3 := Lib.hid HR2'
    clear hfin hg hR4 HR2'
    go_wp2_with (first | (refine wpList_store_row rfl 47 (.tmp 6) (.tmp 12) rfl w1.heap.size _ rfl rfl 47 _ HNew.out sizeNd rfl (cells_node n da aa _ _ dc ac) ?_; rw [HSET.out]) | (refine wpList_store_row rfl 93 (.tmp 4) (.tmp 16) rfl w.heap.size _ rfl rfl 93 _ HR3.out sizeStat rfl zeroStat_one ?_))
    refine bodyPost_ret (v := .tuple #[.agg zeroStat, .int .i64 70]) ?_ rfl HFIN.out
    exact results_cell_row2 (p := 4) (q := 5) (ty := 93) rfl _ _ w.heap.size 93 _ (0, 0) _ _ rfl rfl HR4.out Tryz.underlying93 rfl sizeStat
  | some y =>
    have hny : n = y := by have := HN.out; rw [hg] at this; exact this.symm
    have HG := Lib.hid hg
    have hG0 : StK 6 W2 w.heap.size (statC n (kidsOf M s).length) (fun _ => false) W2.drew := by
      refine ⟨Chg.of_ext (Ext.drew _), ?_⟩
      simp only [Bool.false_eq_true, if_false]
      exact HR2.out
    have HG0 := Lib.hid hG0
    have hread : ∀ (d : Nat → Bool) (W : World), StK 6 W2 w.heap.size (statC n (kidsOf M s).length) d W → Ext w W ∧ W.heap[w1.heap.size]? = W2.heap[w1.heap.size]? := fun d W h =>
      ⟨HEW.out.trans' (h.1.below (fun k hk => by subst hk; exact Nat.le_refl _) (by have := HEW.out.size; omega)), h.1.same _ (Array.getElem?_eq_some_iff.1 HB2.out).1 (by omega)⟩
    have HRD := Lib.hid hread
    clear hg hG0 hread
    subst hny
    go_wp2_with (refine wpList_store_row rfl 47 (.tmp 6) (.tmp 12) rfl w1.heap.size _ rfl rfl 47 _ HNew.out sizeNd rfl (cells_node n da aa _ _ dc ac) ?_; rw [HSET.out])
    refine wp_region_P (by kernel_rfl) (region_state0 23 (StK 6 W2 w.heap.size (statC n (kidsOf M s).length)) HG0.out (RstP (ndC n (.slice da n.data.length dc) (.slice aa n.acl.length ac)) b s (kidsOf M s).length (statC n (kidsOf M s).length)) (by decide) rfl ?hnone ?duties ?rest)
    case hnone =>
      intro i o v h1 h2 h3
      match i, h1, h3 with
      | 6, _, h3 => exact h3
      | 0, h1, _ => cases h1; cases h2
      | 1, h1, _ => cases h1; cases h2
      | 2, h1, _ => cases h1; cases h2
      | 3, h1, _ => cases h1; cases h2
      | 4, h1, _ => cases h1; cases h2
      | 5, h1, _ => cases h1; cases h2
      | 7, h1, _ => cases h1; cases h2
      | i + 8, h1, _ => simp at h1
    case duties =>
      refine ⟨?_, ?_, ?_, ?_, ?_, ?_, ?_, ?_, trivial⟩
      · refine dutyS_ext (StK.ext (by decide)) fun d a w' hG hF hA => ?_
        have x1 := hF.slot 6 _ (by decide) rfl
        exact wp_value (ex_load_row rfl w1.heap.size x1 47 _ (0, 0) _ ((HRD.out d w' hG).2.trans HB2.out) Tryz.underlying47 rfl sizeNd) ⟨_, rfl, rfl, Ext.refl _⟩
      · refine dutyS_ext (StK.ext (by decide)) fun d a w' hG hF hA => ?_
        have x1 := hF.slot 0 _ (by decide) rfl
        exact wp_value (w' := w') (v := .pointer (some ⟨b, 0, none⟩)) (by simp only [execOp, x1]; simp [go_sem]) ⟨_, rfl, rfl, Ext.refl _⟩
      · refine dutyS_ext (StK.ext (by decide)) fun d a w' hG hF hA => ?_
        have x1 := hF.slot 1 _ (by decide) rfl
        exact wp_value (w' := w') (v := .string s) (by simp only [execOp, x1]; simp [go_sem]) ⟨_, rfl, rfl, Ext.refl _⟩
      · refine dutyS_ext (StK.ext (by decide)) fun d a w' hG hF hA => ?_
        have x1 : a.eval (.tmp 18) = _ := hA.slot 1 18 rfl rfl ⟨⟨1, .data⟩, by simp, rfl, rfl⟩
        have x2 : a.eval (.tmp 19) = _ := hA.slot 2 19 rfl rfl ⟨⟨2, .data⟩, by simp, rfl, rfl⟩
        refine wp_enter (ex_call rfl (enters_f Tryz.func111 (by kernel_rfl) rfl)) (by simp only [List.map_toArray, List.map_cons, List.map_nil, x1, x2]; exact rkids_any w' b M (HR.out.ext (HRD.out d w' hG).1) HM.out s hl) ?_
        rintro e w4 ⟨v, rfl, hv, h4⟩
        exact ⟨_, rfl, v, rfl, own_slice1 hv, h4⟩
      · refine dutyS_ext (StK.ext (by decide)) fun d a w' hG hF hA => ?_
        obtain ⟨ka, kc, x1⟩ : ∃ ka kc, a.eval (.tmp 20) = .slice ka (kidsOf M s).length kc := hA.slot 3 20 rfl rfl ⟨⟨3, .data⟩, by simp, rfl, rfl⟩
        exact wp_value (w' := w') (v := .int .i64 (kidsOf M s).length) (by simp only [execOp, resolve, invoke, builtin, Sem.run_bind, Sem.run_pure, Result.andThen_ok, List.map_toArray, List.map_cons, List.map_nil, x1]; simp [go_sem]) ⟨_, rfl, rfl, Ext.refl _⟩
      · refine dutyS_ext (StK.ext (by decide)) fun d a w' hG hF hA => ?_
        have x1 : a.eval (.tmp 17) = _ := hA.slot 0 17 rfl rfl ⟨⟨0, .data⟩, by simp, rfl, rfl⟩
        have x2 : a.eval (.tmp 21) = _ := hA.slot 4 21 rfl rfl ⟨⟨4, .data⟩, by simp, rfl, rfl⟩
        refine wp_enter (ex_call rfl (enters_f Tryz.func146 (by kernel_rfl) rfl)) (by simp only [List.map_toArray, List.map_cons, List.map_nil, x1, x2]; exact rstof_any n da aa dc ac (kidsOf M s).length w' HFit.out) ?_
        rintro e w4 ⟨rfl, h4⟩
        exact ⟨_, rfl, _, rfl, rfl, h4⟩
      · intro d a w' hdi _ _ hG hF hA
        have x1 := hF.slot 4 _ (by decide) rfl
        have x2 : a.eval (.tmp 22) = _ := hA.slot 5 22 rfl rfl ⟨⟨5, .data⟩, by simp, rfl, rfl⟩
        refine wp_skipped (ex_store_row 93 (.tmp 4) (.tmp 22) rfl w.heap.size _ x1 x2 93 _ hG.2 sizeStat (by split <;> rfl) (statC_one n _)) ⟨undef, rfl, rfl, ?_⟩
        refine ⟨hG.1.trans (Chg.set (S := (· = w.heap.size)) w.heap.size w' (statC n (kidsOf M s).length) rfl) (fun _ _ h => h), ?_⟩
        have e : ((fun k => d k || k == 6) 6) = true := by simp
        rw [if_pos e]
        exact setRow_heap w' w.heap.size _ _ _ _ hG.2
      · refine dutyS_ext (StK.ext (by decide)) fun d a w' hG hF hA => ?_
        exact wp_value (w' := w') (v := .int .i64 0) (by simp only [execOp]; simp [go_sem]) ⟨_, rfl, rfl, Ext.refl _⟩
    case rest =>
      intro us d W4 hdn hG4 hl8 hP
      have hl8' : us.length = 8 := by simpa using hl8
      have us8' := us8 us hl8'
      have q1 := us8'.choose_spec
      generalize us8'.choose = u0 at q1
      have q2 := q1.choose_spec
      generalize q1.choose = u1 at q2
      have q3 := q2.choose_spec
      generalize q2.choose = u2 at q3
      have q4 := q3.choose_spec
      generalize q3.choose = u3 at q4
      have q5 := q4.choose_spec
      generalize q4.choose = u4 at q5
      have q6 := q5.choose_spec
      generalize q5.choose = u5 at q6
      have q7 := q6.choose_spec
      generalize q6.choose = u6 at q7
      have q8 := q7.choose_spec
      generalize q7.choose = u7 at q8
      subst q8
      have e7 : u7 = .int .i64 0 := hP 7 u7 rfl
      subst e7
      have h9 := hdn 6 (by decide)
      obtain ⟨k1, k2⟩ := hG4
      rw [if_pos h9] at k2
      have hfin : StatOut M s w (.returned (.tuple #[.agg (statC n (kidsOf M s).length), .int .i64 0])) W4 :=
        ⟨by rw [HG.out]; rfl, HEW.out.trans' (k1.below (fun k hk => by subst hk; exact Nat.le_refl _) (by have := HEW.out.size; omega))⟩
      have HFIN := Lib.hid hfin
      have HK := Lib.hid k2
      clear hfin k1 k2 h9 hdn hP q1 q2 q3 q4 q5 q6 q7 us8' hl8 hl8'
      simp only [filled, List.zip_cons_cons, List.zip_nil_left, List.foldl_cons, List.foldl_nil, Act.put, List.setIfInBounds_toArray, List.set_cons_succ, List.set_cons_zero, Exit.inBlock, Exit.then]
      rename_i hK
      refine hK _ _ ?_
      clear hK
      go_wp2
      refine bodyPost_ret (v := .tuple #[.agg (statC n (kidsOf M s).length), .int .i64 0]) ?_ rfl HFIN.out
      exact results_cell_row2 (p := 4) (q := 5) (ty := 93) rfl _ _ w.heap.size 93 _ (0, 0) _ _ rfl rfl HK.out Tryz.underlying93 rfl sizeStat

theorem rchildren_any (w : World) (b : Nat) (M : List (Key × Nd)) (hR : RT w b (nds M)) (hM : MOk M) (s : ByteArray) (hs : s.size ≤ 9223372036854775800) (hl : M.length * 16 ≤ 140737488355328) :
    Calls Tryz.prog 90 #[.pointer (some ⟨b, 0, none⟩), .string s] w (ChildOut M s w) := by
  have C1 := Lib.hid (rget_any w b M hR hM s hs)
  have HR := Lib.hid hR
  have HM := Lib.hid hM
  clear hR hM
  go_enter Tryz.func90, Tryz.ntmps90
  go_wp2_with fail
  refine C1.out.mono ?_
  rintro e w1 ⟨v, rfl, hv, hE1⟩
  obtain ⟨da, dc, aa, ac, rfl, hD, hA⟩ := hv
  generalize hn : (mget M s.data.toList).getD zeroN = n at hD hA ⊢
  clear hD hA
  obtain ⟨W2, hW2⟩ : ∃ W2, W2 = w1.alloc (.cells (ndC n (.slice da n.data.length dc) (.slice aa n.acl.length ac)) 47) := ⟨_, rfl⟩
  have HSET := Lib.hid ((setRow_alloc w1 zeroNd (ndC n (.slice da n.data.length dc) (.slice aa n.acl.length ac)) 47).trans hW2.symm)
  have HNew := Lib.hid (heap_alloc_new w1 (.cells zeroNd 47))
  have hE2 : Ext w1 W2 := by rw [hW2]; exact Ext.alloc _ _
  have HEW := Lib.hid (hE1.trans hE2)
  unfold ndC at HSET
  unfold zeroNd at HSET HNew
  clear C1 hW2 hE1 hE2 hn
  unfold ndC
  cases hg : mget M s.data.toList with
  | none =>
    have HFIN : Hid (ChildOut M s w (.returned (.tuple #[.slice none 0 0, .int .i64 70])) W2) := ⟨_, by rw [hg]; rfl, HEW.out, by rw [hg]; rfl⟩
    clear hg
    go_wp2_with (refine wpList_store_row rfl 47 (.tmp 6) (.tmp 12) rfl w1.heap.size _ rfl rfl 47 _ HNew.out sizeNd rfl (cells_node n da aa _ _ dc ac) ?_; rw [HSET.out])
    go_ret2
    exact HFIN.out
  | some y =>
    have CK := Lib.hid (rkids_any W2 b M (HR.out.ext HEW.out) HM.out s hl)
    have HG := Lib.hid hg
    clear hg
    go_wp2_with (refine wpList_store_row rfl 47 (.tmp 6) (.tmp 12) rfl w1.heap.size _ rfl rfl 47 _ HNew.out sizeNd rfl (cells_node n da aa _ _ dc ac) ?_; rw [HSET.out])
    refine CK.out.mono ?_
    rintro e w3 ⟨v, rfl, hown, hE3⟩
    have HFIN : Hid (ChildOut M s w (.returned (.tuple #[v, .int .i64 0])) w3) := ⟨_, by rw [HG.out]; rfl, HEW.out.trans hE3, by
      rw [HG.out]
      simp only [Option.isSome_some, if_true]
      exact own_base hown HEW.out.size⟩
    clear CK hown hE3
    go_wp2
    go_ret2
    exact HFIN.out
end Go.Proofs.YtamolbegmkngdaaGreatDoor
namespace Go.Proofs.YtamolbegmkngdaaGreatDoor
open Go.RowKit Go.Sort
set_option maxHeartbeats 4000000
set_option maxRecDepth 100000

theorem rpasses_any (h : Bool) (qc qb uc ub dn db : Int) (w : World) : Calls Tryz.prog 95 #[.agg #[.bool h, .int .i64 qc, .int .i64 qb], .agg #[.int .i64 uc, .int .i64 ub], .int .i64 dn, .int .i64 db] w fun e w' => e = .returned (.bool (aboveB uc dn qc || aboveB ub db qb)) ∧ Ext w w' := by
  obtain ⟨W1, hW1⟩ : ∃ W1, W1 = w.alloc (.cells #[.bool h, .int .i64 qc, .int .i64 qb] 45) := ⟨_, rfl⟩
  obtain ⟨W2, hW2⟩ : ∃ W2, W2 = W1.alloc (.cells #[.int .i64 uc, .int .i64 ub] 148) := ⟨_, rfl⟩
  have hE1 : Ext w W1 := by rw [hW1]; exact Ext.alloc _ _
  have hE2 : Ext W1 W2 := by rw [hW2]; exact Ext.alloc _ _
  have hz1 : W1.heap.size = w.heap.size + 1 := by rw [hW1]; simp
  have g1 : W2.heap[w.heap.size]? = some (.cells #[.bool h, .int .i64 qc, .int .i64 qb] 45 (0, 0)) := (hE2.block _ (by omega)).trans (by rw [hW1]; exact heap_alloc_new w _)
  have g2 : W2.heap[w.heap.size + 1]? = some (.cells #[.int .i64 uc, .int .i64 ub] 148 (0, 0)) := by rw [hW2, ← hz1]; exact heap_alloc_new W1 _
  have a1 : W2.cell? ⟨w.heap.size, 1, none⟩ = some (.int .i64 qc) := cell_of_row _ _ _ _ _ _ g1
  have a2 : W2.cell? ⟨w.heap.size, 2, none⟩ = some (.int .i64 qb) := cell_of_row _ _ _ _ _ _ g1
  have b0 : W2.cell? ⟨w.heap.size + 1, 0, none⟩ = some (.int .i64 uc) := cell_of_row _ _ _ _ _ _ g2
  have b1 : W2.cell? ⟨w.heap.size + 1, 1, none⟩ = some (.int .i64 ub) := cell_of_row _ _ _ _ _ _ g2
  have CA := rabove_any uc dn qc W2
  have CB := rabove_any ub db qb W2
  have HE := Lib.hid (hE1.trans hE2)
  rw [hW2, hW1] at a1 a2 b0 b1 CA CB HE
  have CA := Lib.hid CA
  have CB := Lib.hid CB
  clear g1 g2 hE1 hE2 hz1 hW2 hW1
  clear W2 W1
  cases h1 : aboveB uc dn qc with
  | true =>
    rw [h1] at CA
    clear h1
    go_enter Tryz.func95, Tryz.ntmps95
    go_wp2_with fail
    refine CA.out.mono ?_
    rintro e w3 ⟨rfl, rfl⟩
    clear CA
    go_wp2
    go_ret
    exact ⟨by simp, HE.out⟩
  | false =>
    rw [h1] at CA
    clear h1
    generalize aboveB ub db qb = z at *
    go_enter Tryz.func95, Tryz.ntmps95
    go_wp2_with fail
    refine CA.out.mono ?_
    rintro e w3 ⟨rfl, rfl⟩
    clear CA
    go_wp2_with fail
    refine CB.out.mono ?_
    rintro e w4 ⟨rfl, rfl⟩
    clear CB
    go_wp2
    go_ret
    exact ⟨by simp, HE.out⟩

theorem sizeQ : (Tryz.prog.info? 45).map (·.size) = some 3 := by kernel_rfl
def rpassB (M : List (Key × Nd)) (dn db : Int) (n : Nd) : Bool := aboveB (undK M n.path).length dn n.count || aboveB (bytesK M (undK M n.path)) db n.bytes

theorem rExceeds_nil (s : ByteArray) (dn db : Int) (w : World) : Calls Tryz.prog 27 #[.pointer none, .string s, .int .i64 dn, .int .i64 db] w fun e w' => e = .returned (.tuple #[.string ⟨#[]⟩, .bool false]) ∧ Ext w w' := by
  have C1 := Lib.hid (rover_nil s w)
  go_enter Tryz.func27, Tryz.ntmps27
  go_wp2_with fail
  refine C1.out.mono ?_
  rintro e W1 ⟨v, rfl, hown, hE1⟩
  obtain ⟨a, c, rfl⟩ := own_slice1 hown
  have HFIN : Hid (Ext w W1) := hE1
  clear C1 hown hE1
  go_wp2
  go_loopw [11] (fun i wr => i = .int .i64 0 ∧ wr = W1) (fun _ _ => 0)
  case atStart => exact ⟨rfl, rfl⟩
  case round =>
    obtain ⟨rfl, rfl⟩ := hrel
    go_wp2
    go_ret2
    exact ⟨rfl, HFIN.out⟩

theorem rExceeds_any (w : World) (b : Nat) (M : List (Key × Nd)) (hR : RT w b (nds M)) (hM : MOk M) (s : ByteArray) (hs : s.size ≤ 9223372036854775800) (hl : M.length * 168 ≤ 140737488355328) (dn db : Int) :
    Calls Tryz.prog 27 #[.pointer (some ⟨b, 0, none⟩), .string s, .int .i64 dn, .int .i64 db] w (ExcOut (rpassB M dn db) (overL M s) w) := by
  have C1 := Lib.hid ((rover_any w b M hR hM s hs hl).mono fun e w' h => texts_out h)
  have hle := overL_le M s
  have hth := fun n (h : n ∈ overL M s) => (overL_there hM h).1
  have CG := Lib.hid fun W t (h : Ext w W) (ht : t.size ≤ 9223372036854775800) => rget_any W b M (hR.ext h) hM t ht
  have CW := Lib.hid fun W t (h : Ext w W) (ht : t.size ≤ 9223372036854775800) => rweigh_any W b M (hR.ext h) hM t ht hl
  have hpp0 : ∀ n : Nd, rpassB M dn db n = (aboveB (undK M n.path).length dn n.count || aboveB (bytesK M (undK M n.path)) db n.bytes) := fun _ => rfl
  have HPP := Lib.hid hpp0
  clear hpp0
  have hsz := fun n (h : n ∈ overL M s) => (overL_fit hM h).path
  generalize rpassB M dn db = PP at *
  generalize overL M s = L at *
  have HTH := Lib.hid hth
  have HSZ := Lib.hid hsz
  clear hR hM hth hsz
  go_enter Tryz.func27, Tryz.ntmps27
  go_wp2_with fail
  refine C1.out.mono ?_
  rintro e W1 ⟨la, lc, rfl, hst, hE1⟩
  have HST := Lib.hid hst
  have HE1 := Lib.hid hE1
  rw [List.length_map]
  clear C1 hst hE1
  go_wp2
  go_loopw [11] (fun i wr => ∃ k : Nat, k ≤ L.length ∧ i = .int .i64 k ∧ Hid (L.find? PP = (L.drop k).find? PP) ∧ Ext W1 wr) (fun i _ => L.length - (intOf i).toNat)
  case atStart => exact ⟨0, Nat.zero_le _, rfl, rfl, Ext.refl _⟩
  case round =>
    obtain ⟨k, hk, rfl, HF, hE⟩ := hrel
    by_cases hlt : k < L.length
    · obtain ⟨b1, o1, rfl, hb1, hc1⟩ := HST.out k L[k].path (by rw [List.getElem?_map, List.getElem?_eq_getElem hlt]; rfl)
      have hskip := find_skip (P := PP) hlt
      have hhit := find_hit (P := PP) hlt
      have hmem := List.getElem_mem hlt
      have hP := HPP.out L[k]
      generalize L[k] = n at *
      have hgn := HTH.out n hmem
      have hsn := HSZ.out n hmem
      have c1 := (hE.cell (p := ⟨b1, o1 + k, none⟩) hb1).trans hc1
      have CG1 := CG.out wr n.path (HE1.out.trans hE) hsn
      unfold GetOut at CG1
      rw [hgn] at CG1
      simp only [Option.isSome_some, Option.getD_some] at CG1
      have CG1 := Lib.hid CG1
      have HE := Lib.hid hE
      have HHIT := Lib.hid hhit
      have HSKIP := Lib.hid hskip
      have HP := Lib.hid hP
      have HGN := Lib.hid hgn
      clear hE hc1 hskip hhit hmem hP hgn
      go_wp2_with fail
      refine CG1.out.mono ?_
      rintro e w3 ⟨v3, rfl, hv3, hE3⟩
      obtain ⟨d1, e1, a1, f1, X1, e0, hset1, hbx1, hEX1, hD1, hA1⟩ := box_node hv3 fun b hb => hb.2
      subst e0
      have hE13 : Ext wr X1 := Ext.trans hE3 hEX1
      have HSET1 := Lib.hid hset1
      have HNEW1 := Lib.hid (heap_alloc_new w3 (.cells zeroNd 47))
      have c2 := (hE13.cell (p := ⟨b1, o1 + k, none⟩) (World.block_lt_of_cell? _ _ c1)).trans c1
      have CW1 := CW.out X1 n.path (HE1.out.trans (HE.out.trans hE13)) hsn
      unfold WeighOut at CW1
      rw [HGN.out] at CW1
      simp only [Option.isSome_some, if_true] at CW1
      have CW1 := Lib.hid CW1
      have HB1 := Lib.hid hbx1
      have HE13 := Lib.hid (HE.out.trans hE13)
      unfold ndC at HSET1 ⊢
      unfold zeroNd at HSET1 HNEW1
      clear CG1 hv3 hE3 hset1 hbx1 hEX1 hD1 hA1 hE13 c1
      go_wp2_with (refine wpList_store_row rfl 47 (.tmp 12) (.tmp 33) rfl w3.heap.size _ rfl rfl 47 _ HNEW1.out sizeNd rfl (cells_node n d1 a1 _ _ e1 f1) ?_; rw [HSET1.out])
      refine CW1.out.mono ?_
      rintro e W4 ⟨rfl, hE4⟩
      have hE4 : Ext X1 W4 := hE4
      have hb4 := (hE4.block w3.heap.size (Array.getElem?_eq_some_iff.1 HB1.out).1).trans HB1.out
      have hq4 : ∀ j u, (#[.bool n.has, .int .i64 n.count, .int .i64 n.bytes] : Array Value)[j]? = some u → W4.cell? ((⟨w3.heap.size, 14, none⟩ : Addr).add j) = some u := fun j u hj => by
        rw [addr_add, cell_of_row _ _ _ _ _ _ hb4]
        match j, hj with
        | 0, hj => exact hj
        | 1, hj => exact hj
        | 2, hj => exact hj
        | j + 3, hj => simp at hj
      have c4 := (hE4.cell (p := ⟨b1, o1 + k, none⟩) (World.block_lt_of_cell? _ _ c2)).trans c2
      have CP := Lib.hid (rpasses_any n.has n.count n.bytes (undK M n.path).length (bytesK M (undK M n.path)) dn db W4)
      have HQ4 := Lib.hid hq4
      have HE4 := Lib.hid (HE13.out.trans hE4)
      clear CW1 hE4 hb4 hq4 c2 HB1 HSET1 HNEW1
      generalize ((undK M n.path).length : Int) = uc at *
      generalize (bytesK M (undK M n.path) : Int) = ub at *
      go_wp2_with (refine wpList_load_at rfl 45 (.tmp 45) rfl _ rfl _ _ HQ4.out Tryz.underlying45 rfl sizeQ ?_)
      refine CP.out.mono ?_
      rw [← HP.out]
      rintro e W5 ⟨rfl, hE5⟩
      have hE5 : Ext W4 W5 := hE5
      have c5 := (hE5.cell (p := ⟨b1, o1 + k, none⟩) (World.block_lt_of_cell? _ _ c4)).trans c4
      have HE5 := Lib.hid (HE4.out.trans hE5)
      clear CP hE5 c4 HQ4
      cases hpp : PP n with
      | true =>
        have hfin : ExcOut PP L w (.returned (.tuple #[.string n.path, .bool true])) W5 := ⟨by rw [HF.out, HHIT.out hpp], HE1.out.trans HE5.out⟩
        have HX := Lib.hid hfin
        clear hfin hpp
        go_wp2
        go_ret2
        exact HX.out
      | false =>
        have HF2 := Lib.hid (HF.out.trans (HSKIP.out hpp))
        clear hpp c5
        go_wp2
        go_roundw
        case rel => exact ⟨k + 1, by omega, by go_num, HF2.out, HE5.out⟩
        case measure => simp [intOf]; omega
    · obtain rfl : k = L.length := by omega
      have hfin : ExcOut PP L w (.returned (.tuple #[.string ⟨#[]⟩, .bool false])) wr := ⟨by rw [HF.out, List.drop_length]; rfl, HE1.out.trans hE⟩
      have HFIN := Lib.hid hfin
      clear hfin hE
      go_wp2
      go_ret2
      exact HFIN.out
end Go.Proofs.YtamolbegmkngdaaGreatDoor
namespace Go.Proofs.YtamolbegmkngdaaGreatDoor
open Go.RowKit Go.Maps Go.Sort Go.Shelf
set_option maxHeartbeats 4000000
set_option maxRecDepth 100000

theorem keysQ_any (mb : Option Nat) (W : World) : Calls Tryz.prog 127 #[.map mb] W fun e w' => e = .returned (.func (.func 162) #[] #[.pointer (some ⟨W.heap.size, 0, none⟩)]) ∧ w' = W.alloc (.cells #[.map mb] 149) :=
  (callsIn_wide (n := 5)).1 (AnyZ.keys_in Tryz.keysQ Fence.wide 5 trivial rfl mb W)

theorem sortedQ_own {H : Type} (b nn : Nat) (D0 : DataW H) (R : Value → Option (DataW H × List MemPlace)) (w : World) (hown : w.ownsMap Tryz.prog 9 R b nn D0) (hmax : Maps.size D0 ≤ maxLen) (hbytes : Maps.size D0 * 16 ≤ 140737488355328) :
    CallsIn Fence.wide 5 Tryz.prog 118 #[.func (.func 162) #[] #[.pointer (some ⟨w.heap.size, 0, none⟩)]] (w.alloc (.cells #[.map (some b)] 149)) fun e w' => ∃ (v : Value) (ss : List (List UInt8)), e = .returned v ∧ ss.Perm (strKeys D0) ∧
      w'.ownsRow (w.alloc (.cells #[.map (some b)] 149)).heap.size 9 1 v ss.length ((ss.mergeSort (fun x y => decide (x ≤ y))).map encStr) ∧ (v = .slice none 0 0 ↔ ss = []) ∧ Below (w.alloc (.cells #[.map (some b)] 149)).heap.size (w.alloc (.cells #[.map (some b)] 149)) w' := by
  have hbl := hown.lt
  have hseq : SeqGives Fence.wide 2 Tryz.prog 162 #[.pointer (some ⟨w.heap.size, 0, none⟩)] encStr (fun ss => ss.Perm (strKeys D0)) (Maps.size D0) (w.alloc (.cells #[.map (some b)] 149)) :=
    AnyZ.keys_gives (ρ := Tryz.keysQ_ren) { Tryz.keysQ with } Fence.wide _ trivial rfl (by omega) w.heap.size b nn D0 _ (by simp) (by simp) (by
      obtain ⟨es, clock, hb, Ft, hs, hD⟩ := hown
      exact ⟨es, clock, (Below.heap_alloc _ _ b hbl).trans hb, Ft, hs, hD⟩)
  exact AnyZ.sorted_in Tryz.sortedS Fence.wide 5 trivial trivial trivial trivial rfl (by omega) (sortsS _) (enters_of Tryz.func156 (by kernel_rfl) rfl) 162 #[.pointer (some ⟨w.heap.size, 0, none⟩)] trivial (enters_of Tryz.func162 (by kernel_rfl) rfl) _ _ hmax hbytes _ hseq

theorem sortedQ_any (b : Nat) (m : List (Key × Value)) (w : World) (h : SMap Tryz.prog 9 w b m) (hl : m.length * 16 ≤ 140737488355328) :
    Calls Tryz.prog 118 #[.func (.func 162) #[] #[.pointer (some ⟨w.heap.size, 0, none⟩)]] (w.alloc (.cells #[.map (some b)] 149)) (SortedOut (m.map (·.1)) (w.alloc (.cells #[.map (some b)] 149))) := by
  have hsz : Maps.size (kvD m) = m.length := by simp [kvD, Maps.size]
  have hk : strKeys (kvD m) = m.map (·.1) := by simp [kvD, strKeys, strOf]
  have hs : (m.map (·.1)).Pairwise fun a b => bytesBefore a b = true := by rw [List.pairwise_map]; exact SMap.sorted (Maps.string_keyed strT) h
  refine ((callsIn_wide (n := 5)).1 (sortedQ_own b _ (kvD m) Rv w h (by rw [hsz]; unfold maxLen; omega) (by rw [hsz]; exact hl))).mono fun e w' hq => ?_
  obtain ⟨v, ss, rfl, hp, hrow, hnil, hb⟩ := hq
  rw [hk] at hp
  rw [sortedKeys hs hp, hp.length_eq] at hrow
  exact ⟨v, rfl, hrow, hnil.trans ⟨fun e => by rw [e] at hp; exact hp.nil_eq.symm, fun e => by rw [e] at hp; exact hp.eq_nil⟩, hb⟩


theorem qlist_any (w : World) (bb bm : Nat) (m : List (Key × Value)) (hB : BookAt w bb bm m) (hl : m.length * 16 ≤ 140737488355328) :
    Calls Tryz.prog 68 #[.pointer (some ⟨bb, 0, none⟩)] w (SortedOut (m.map (·.1)) w) := by
  have C1 := Lib.hid (keysQ_any (some bm) w)
  have C2 := Lib.hid (sortedQ_any bm m w hB.2 hl)
  have hbk : w.cell? ⟨bb, 0, none⟩ = some (.map (some bm)) := cell_of_row _ _ _ _ _ _ hB.1
  clear hB
  go_enter Tryz.func68, Tryz.ntmps68
  go_wp2_with fail
  refine C1.out.mono ?_
  rintro e w1 ⟨rfl, rfl⟩
  clear C1
  go_wp2_with fail
  refine C2.out.mono ?_
  rintro e w2 ⟨v, rfl, hrow, hnil, hE⟩
  have hfin : SortedOut (m.map (·.1)) w (.returned v) w2 := ⟨v, rfl, ownsRow_base_a hrow (by simp), hnil, (Ext.alloc w _).trans hE⟩
  have HFIN := Lib.hid hfin
  clear C2 hrow hnil hE hfin
  go_wp2
  go_ret
  exact HFIN.out
end Go.Proofs.YtamolbegmkngdaaGreatDoor
