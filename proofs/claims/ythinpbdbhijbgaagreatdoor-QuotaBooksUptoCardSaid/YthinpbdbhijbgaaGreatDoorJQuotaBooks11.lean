/- The walk of arborref07's Below. The walk of the law's Texts at two lists of the same texts. The walks of arborlaw10's own, no, laid, sameTexts. A region that draws its order, its operations turning memory and making values: an invariant that knows which of them are done, and what they yielded. The walk of arborref07's Take. The walks of arborref03's Name and arborref07's Kids. -/
import Derived.Test.YthinpbdbhijbgaaGreatDoorJQuotaBooks9
import Derived.Test.YthinpbdbhijbgaaGreatDoorJQuotaBooks10
import Derived.BigQuiet
import Derived.Test.YthinpbdbhijbgaaGreatDoorJQuotaBooks8
import Derived.Great.BuildSlice
namespace Go.Proofs.YthinpbdbhijbgaaGreatDoor
open Go.RowKit Go.Sort
set_option maxHeartbeats 4000000
set_option maxRecDepth 100000

/-- What of a list is under a path that is there. -/
def belB (M : List (Key × Nd)) (s : ByteArray) (x : Key × Nd) : Bool := (mget M s.data.toList).isSome && und x.2.path s
def belF (M : List (Key × Nd)) (s : ByteArray) (k : Nat) : List (Key × Nd) := (M.take k).filter (belB M s)
theorem belF_zero (M : List (Key × Nd)) (s : ByteArray) : belF M s 0 = [] := by simp [belF]
theorem belF_succ (M : List (Key × Nd)) (s : ByteArray) (k : Nat) (hk : k < M.length) : belF M s (k + 1) = belF M s k ++ if belB M s M[k] = true then [M[k]] else [] := by
  unfold belF
  rw [List.take_succ_eq_append_getElem hk, List.filter_append]
  congr 1
  by_cases h : belB M s M[k] = true
  · rw [if_pos h, List.filter_cons_of_pos h]; rfl
  · rw [if_neg h, List.filter_cons_of_neg h]; rfl
theorem belF_le (M : List (Key × Nd)) (s : ByteArray) (k : Nat) : (belF M s k).length ≤ k := by
  unfold belF
  refine Nat.le_trans (List.length_filter_le _ _) ?_
  rw [List.length_take]; omega
theorem belF_all {M : List (Key × Nd)} (hM : MOk M) (s : ByteArray) : nds (belF M s M.length) = nodesOf M (UndL M s) := by
  unfold belF
  rw [List.take_length]
  unfold UndL
  by_cases hg : (mget M s.data.toList).isSome = true
  · rw [if_pos hg]
    unfold undK nodesOf nds
    rw [List.map_map]
    have e : M.filter (belB M s) = M.filter fun x => und x.2.path s := List.filter_congr fun x _ => by unfold belB; rw [hg, Bool.true_and]
    rw [e]
    refine List.map_congr_left fun x hx => ?_
    simp only [Function.comp]
    rw [mget_of_mem hM.sorted (List.mem_filter.1 hx).1]; rfl
  · rw [if_neg hg]
    have e : M.filter (belB M s) = [] := List.filter_eq_nil_iff.2 fun x _ => by
      unfold belB
      cases h : (mget M s.data.toList).isSome with
      | true => exact absurd h hg
      | false => simp
    rw [e]; rfl

/-- A row of the call's own that shows these nodes. -/
def NodesOut (L : List Nd) (w : World) (e : Ending) (w' : World) : Prop := ∃ v, e = .returned v ∧ OwnN w.heap.size L v w' ∧ Ext w w'

theorem belB_there {M : List (Key × Nd)} {s : ByteArray} {y : Nd} (hg : mget M s.data.toList = some y) (x : Key × Nd) : belB M s x = und x.2.path s := by unfold belB; rw [hg]; rfl
theorem belB_none {M : List (Key × Nd)} {s : ByteArray} (hg : mget M s.data.toList = none) (x : Key × Nd) : belB M s x = false := by unfold belB; rw [hg]; rfl

theorem rbelow_any (w : World) (b : Nat) (M : List (Key × Nd)) (hR : RT w b (nds M)) (hM : MOk M) (s : ByteArray) (hs : s.size ≤ 9223372036854775800) (hl : M.length * 168 ≤ 140737488355328) :
    Calls Tryz.prog 87 #[.pointer (some ⟨b, 0, none⟩), .string s] w (NodesOut (nodesOf M (UndL M s)) w) := by
  have hR0 := hR
  obtain ⟨a, cap, vs, hb, hlc, hcm, hS, hrows, _⟩ := hR
  have hcb : w.cell? ⟨b, 0, none⟩ = some (.slice a (nds M).length cap) := cell_of_row _ _ _ _ _ _ hb
  have hbl := (Array.getElem?_eq_some_iff.1 hb).1
  rw [nds_length] at hcb
  have hl64 : M.length ≤ 9223372036854775807 := by omega
  have HR := Lib.hid hR0
  have HROWS := Lib.hid hrows
  have HS := Lib.hid hS
  have HM := Lib.hid hM
  have HALL := Lib.hid (belF_all hM s)
  clear hb hrows hS hM hlc hcm hR0
  go_enter Tryz.func87, Tryz.ntmps87
  go_wp2
  go_loopw [5, 6] (fun ov i wr => ∃ k : Nat, k ≤ M.length ∧ i = .int .i64 k ∧ Hid (OwnN w.heap.size (nds (belF M s k)) ov wr) ∧ Ext w wr) (fun _ i _ => M.length - (intOf i).toNat)
  case atStart => exact ⟨0, Nat.zero_le _, rfl, by unfold Hid; rw [belF_zero]; exact OwnN.nil _ _, Ext.refl _⟩
  case round =>
    obtain ⟨k, hk, rfl, HO, hE⟩ := hrel
    have hcr : wr.cell? ⟨b, 0, none⟩ = some (.slice a M.length cap) := (hE.cell (p := ⟨b, 0, none⟩) hbl).trans hcb
    by_cases hlt : k < M.length
    · have hMk : (nds M)[k]? = some M[k].2 := by unfold nds; rw [List.getElem?_map, List.getElem?_eq_getElem hlt]; rfl
      obtain ⟨bl, off, da, dc, aa, ac, ea, hSb, hc, hD, hA, _⟩ := HROWS.out.row hMk
      subst ea
      have hfit := (right_fit (HM.out.right M[k] (List.getElem_mem hlt))).1
      have hvp := right_vpath (HM.out.right M[k] (List.getElem_mem hlt))
      have hsucc := belF_succ M s k hlt
      have hle := belF_le M s (k + 1)
      have hle0 := belF_le M s k
      have hbT := fun (y : Nd) (hg : mget M s.data.toList = some y) => belB_there hg M[k]
      have hbN := fun (hg : mget M s.data.toList = none) => belB_none hg M[k]
      have hndc : ∀ l : List (Key × Nd), nds (l ++ [M[k]]) = nds l ++ [M[k].2] := fun l => by unfold nds; simp
      generalize hxx : M[k] = x at *
      obtain ⟨xk, n⟩ := x
      simp only at *
      have c0 : wr.cell? ⟨bl, off + k * 17, none⟩ = some (.string n.path) := (hE.cell (p := ⟨bl, off + k * 17, none⟩) (HS.out bl hSb).1).trans (hc 0 _ rfl)
      have CG := Lib.hid (rget_any wr b M (HR.out.ext hE) HM.out s hs)
      have HC := Lib.hid hc
      have HD := Lib.hid ((hD.cells fun b hb => (HS.out b hb).1))
      have HA := Lib.hid ((hA.cells fun b hb => (HS.out b hb).1))
      have HFIT := Lib.hid hfit
      have hp64 := hfit.path
      have HB := Lib.hid (HS.out bl hSb)
      have HSUCC := Lib.hid hsucc
      have HNDC := Lib.hid hndc
      have HBT := Lib.hid hbT
      have HBN := Lib.hid hbN
      have HVP := Lib.hid hvp
      have HE := Lib.hid hE
      clear hc hD hA hfit hE hMk hsucc hbT hbN hndc hxx hvp
      go_wp2_with fail
      refine CG.out.mono ?_
      rintro e w2 ⟨v, rfl, hv, hE2⟩
      obtain ⟨ga, gc, ha, hc, rfl, _, _⟩ := hv
      generalize (mget M s.data.toList).getD zeroN = n0
      obtain ⟨W3, hW3⟩ : ∃ W3, W3 = w2.alloc (.cells (ndC n0 (.slice ga n0.data.length gc) (.slice ha n0.acl.length hc)) 44) := ⟨_, rfl⟩
      have HSET := Lib.hid ((setRow_alloc w2 zeroNd (ndC n0 (.slice ga n0.data.length gc) (.slice ha n0.acl.length hc)) 44).trans hW3.symm)
      have HNew := Lib.hid (heap_alloc_new w2 (.cells zeroNd 44))
      have hE2' : Ext wr w2 := hE2
      have hE3 : Ext wr W3 := hE2'.trans (by rw [hW3]; exact Ext.alloc _ _)
      have hcr3 : W3.cell? ⟨b, 0, none⟩ = some (.slice (some ⟨bl, off, none⟩) M.length cap) := (hE3.cell (p := ⟨b, 0, none⟩) (World.block_lt_of_cell? _ _ hcr)).trans hcr
      have c03 : W3.cell? ⟨bl, off + k * 17, none⟩ = some (.string n.path) := (hE3.cell (p := ⟨bl, off + k * 17, none⟩) (World.block_lt_of_cell? _ _ c0)).trans c0
      have HEW3 := Lib.hid (HE.out.trans hE3)
      have HO3 := Lib.hid (HO.out.ext hE3)
      unfold ndC at HSET ⊢
      unfold zeroNd at HSET HNew
      clear CG hE2 hE2' hE3 hW3 hcr c0
      cases hg : mget M s.data.toList with
      | none =>
        have hst : belF M s (k + 1) = belF M s k := by rw [HSUCC.out, HBN.out hg]; simp
        have HST := Lib.hid hst
        clear hst hg
        go_wp2_with (refine wpList_store_row rfl 44 (.tmp 7) (.tmp 26) rfl w2.heap.size _ rfl rfl 44 _ HNew.out sizeNd rfl (cells_node n0 ga ha _ _ gc hc) ?_; rw [HSET.out])
        go_roundw
        case rel => exact ⟨k + 1, by omega, by go_num, by unfold Hid; rw [HST.out]; exact HO3.out, HEW3.out⟩
        case measure => simp [intOf]; omega
      | some y =>
        have hvs : vpath s = true := by
          have := right_vpath (HM.out.at hg).2
          have hk := (HM.out.at hg).1
          unfold keyN at hk
          rwa [← ba_ext hk] at this
        have CU := rund_any n.path s W3 hp64 hs
        rw [hvs, HVP.out, Bool.true_and, Bool.true_and] at CU
        have CU := Lib.hid CU
        have hbt := HBT.out _ hg
        clear hvs
        cases hu : und n.path s with
        | false =>
          rw [hu] at CU hbt
          have hst : belF M s (k + 1) = belF M s k := by rw [HSUCC.out, hbt]; simp
          have HST := Lib.hid hst
          clear hst hg hbt hu
          go_wp2_with (refine wpList_store_row rfl 44 (.tmp 7) (.tmp 26) rfl w2.heap.size _ rfl rfl 44 _ HNew.out sizeNd rfl (cells_node n0 ga ha _ _ gc hc) ?_; rw [HSET.out])
          refine CU.out.mono ?_
          rintro e W4 ⟨rfl, hE4⟩
          have HE4 := Lib.hid (HEW3.out.trans hE4)
          have HO4 := Lib.hid (HO3.out.ext hE4)
          clear CU hE4 hcr3 c03
          go_wp2
          go_roundw
          case rel => exact ⟨k + 1, by omega, by go_num, by unfold Hid; rw [HST.out]; exact HO4.out, HE4.out⟩
          case measure => simp [intOf]; omega
        | true =>
          rw [hu] at CU hbt
          have hst : nds (belF M s (k + 1)) = nds (belF M s k) ++ [n] := by rw [HSUCC.out, hbt, if_pos rfl, HNDC.out]
          have hll : (nds (belF M s k)).length ≤ k := by rw [nds_length]; exact hle0
          have HST := Lib.hid hst
          clear hst hg hbt hu
          go_wp2_with (refine wpList_store_row rfl 44 (.tmp 7) (.tmp 26) rfl w2.heap.size _ rfl rfl 44 _ HNew.out sizeNd rfl (cells_node n0 ga ha _ _ gc hc) ?_; rw [HSET.out])
          refine CU.out.mono ?_
          rintro e W4 ⟨rfl, hE4⟩
          have hE4 : Ext W3 W4 := hE4
          have hE04 := HEW3.out.trans hE4
          have hcr4 : W4.cell? ⟨b, 0, none⟩ = some (.slice (some ⟨bl, off, none⟩) M.length cap) := (hE4.cell (p := ⟨b, 0, none⟩) (World.block_lt_of_cell? _ _ hcr3)).trans hcr3
          have hcw : ∀ j u, (ndC n (.slice da n.data.length dc) (.slice aa n.acl.length ac))[j]? = some u → W4.cell? ((⟨bl, off + k * 17, none⟩ : Addr).add j) = some u := fun j u hj => by
            rw [addr_add, hE04.cell (p := ⟨bl, off + k * 17 + j, none⟩) HB.out.1]
            exact HC.out j u hj
          have CC := Lib.hid (rclone_new n da aa dc ac W4 HFIT.out (HD.out.ext hE04) (HA.out.ext hE04))
          have HC4 := Lib.hid hcw
          have HE4 := Lib.hid hE04
          have HO4 := Lib.hid (HO3.out.ext hE4)
          unfold ndC at HC4
          clear CU hE4 hE04 hcr3 c03 hcw HC HD HA HO3 HO
          go_wp2_with (refine wpList_load_at rfl 44 (.tmp 47) rfl _ rfl _ _ HC4.out Tryz.underlying44 rfl sizeNd ?_)
          refine CC.out.mono ?_
          rintro e W5 ⟨v, rfl, hN, hE5⟩
          have hE5 : Ext W4 W5 := hE5
          obtain ⟨qa, qc, ra, rc, rfl, hQ1, hQ2⟩ := hN
          obtain ⟨ws, hown4, heach4⟩ := HO4.out
          have hzw := HE4.out.size
          have hz5 := hE5.size
          have hlt4 : ∀ g, u5.ownBlock = some g → w.heap.size ≤ g ∧ g < W4.heap.size := fun g hg => hown4.lt g hg
          have hown5 := hown4.kept (grown_of_ext hE5 none) (Classical.em _)
          have heach5 : EachN (NewN w.heap.size u5 W5) W5 ws (nds (belF M s k)) := heach4.imp (fun b hb => ⟨hb.1, Nat.lt_of_lt_of_le hb.2.1 hE5.size, hb.2.2⟩) fun b o u _ hu => cell_ext hE5 b o u hu
          have hnew5 : NdS (NewN w.heap.size u5 W5) W5 (.agg (ndC n (.slice qa n.data.length qc) (.slice ra n.acl.length rc))) n := NdS.imp ⟨qa, qc, ra, rc, rfl, hQ1, hQ2⟩ (fun k hk => ⟨by omega, hk.2, fun e => by have := (hlt4 k e).2; omega⟩) fun _ _ _ _ h => h
          have hs17 : Cells (W5.alloc (.cells (ndC n (.slice qa n.data.length qc) (.slice ra n.acl.length rc)) 44)).heap.size (W5.alloc (.cells (ndC n (.slice qa n.data.length qc) (.slice ra n.acl.length rc)) 44)) (some ⟨W5.heap.size, 0, none⟩) (ndC n (.slice qa n.data.length qc) (.slice ra n.acl.length rc)).toList := fun j u hj => by
            refine ⟨_, 0, rfl, by simp, ?_⟩
            rw [Nat.zero_add, cell_of_row _ _ _ _ _ _ (heap_alloc_new W5 _)]
            simpa using hj
          have hsrc : Src Tryz.prog 17 50 (.slice (some ⟨W5.heap.size, 0, none⟩) 1 1) 1 (ndC n (.slice qa n.data.length qc) (.slice ra n.acl.length rc)).toList (W5.alloc (.cells (ndC n (.slice qa n.data.length qc) (.slice ra n.acl.length rc)) 44)) :=
            hs17.src Tryz.underlying50 1 1 (by simp [ndC]) (fun u hu => by
              have := cells_node n qa ra n.data.length n.acl.length qc rc
              rw [← Array.all_toList] at this
              exact List.all_eq_true.1 this u hu)
          obtain ⟨i0, hi, hz0, hz1', hz2⟩ := info_parts infoNd
          have hownA := hown5.alloc (.cells (ndC n (.slice qa n.data.length qc) (.slice ra n.acl.length rc)) 44)
          have HE5 := Lib.hid (HE4.out.trans hE5)
          have HEA := Lib.hid heach5
          have HNW := Lib.hid hnew5
          have HO5 := Lib.hid hown5
          unfold ndC at hownA hsrc
          clear CC hE5 hQ1 hQ2 hown4 heach4 hlt4 hown5 heach5 hnew5 hs17 HC4 hcr4 HO4
          unfold ndC
          go_wp2_with (at_builtin; refine wpList_append_src _ rfl (.tmp 41) (.tmp 50) 50 50 rfl w.heap.size 44 i0 (.agg zeroNd) 17 168 Tryz.underlying50 hi hz0 hz1' hz2 rfl (by decide) _ (nds (belF M s k)).length _ rfl hownA _ 1 _ rfl hsrc ?c1 ?c2 ?c3 ?_)
          case c1 => unfold maxLen; omega
          case c2 => omega
          case c3 => first | omega | (simp; omega)
          intro v' w6 hown6 hg6 _ ho6
          rw [show [Value.string n.path, .slice qa n.data.length qc, .slice ra n.acl.length rc, .int .i64 n.owner, .int .i64 n.czxid, .int .i64 n.mzxid, .int .i64 n.pzxid, .int .i64 n.azxid, .int .i64 n.qzxid, .int .i64 n.ctime, .int .i64 n.mtime, .int .i32 n.version, .int .i32 n.creates, .int .i32 n.aversion, .bool n.has, .int .i64 n.count, .int .i64 n.bytes] = (ndC n (.slice qa n.data.length qc) (.slice ra n.acl.length rc)).toList from rfl] at hown6
          have hstep := OwnN.step HEA.out HNW.out hown6 hg6 ho6
          have hkeep := OwnN.keep HE5.out (Nat.le_refl _) HO5.out hg6
          rw [← HST.out] at hstep
          have HSTEP := Lib.hid hstep
          have HKEEP := Lib.hid hkeep
          clear hown6 hg6 ho6 hstep hkeep hownA hsrc
          go_wp2
          go_roundw
          case rel => exact ⟨k + 1, by omega, by go_num, HSTEP.out, HKEEP.out⟩
          case measure => simp [intOf]; omega
    · obtain rfl : k = M.length := by omega
      have hfin : NodesOut (nodesOf M (UndL M s)) w (.returned u5) wr := ⟨_, rfl, by rw [← HALL.out]; exact HO.out, hE⟩
      have HFIN := Lib.hid hfin
      clear hfin hE hcb HROWS HO
      go_wp2
      go_ret
      exact HFIN.out
end Go.Proofs.YthinpbdbhijbgaaGreatDoor
namespace Go.Proofs.YthinpbdbhijbgaaGreatDoor
open Go.RowKit Go.Sort
set_option maxHeartbeats 4000000
set_option maxRecDepth 100000

/-- A slice that shows these texts. -/
def StrsAt (B : Nat) (w : World) (a : Option Addr) (L : List ByteArray) : Prop := ∀ i s, L[i]? = some s → ∃ b off, a = some ⟨b, off, none⟩ ∧ b < B ∧ w.cell? ⟨b, off + i, none⟩ = some (.string s)
theorem StrsAt.ext {w w' : World} {a : Option Addr} {L : List ByteArray} (h : StrsAt w.heap.size w a L) (hE : Ext w w') : StrsAt w'.heap.size w' a L := fun i s hi => by
  obtain ⟨b, off, e, hb, hc⟩ := h i s hi
  exact ⟨b, off, e, Nat.lt_of_lt_of_le hb hE.size, (hE.cell (p := ⟨b, off + i, none⟩) hb).trans hc⟩
theorem StrsAt.of_own {w : World} {base : Nat} {v : Value} {ks : List Key} (h : w.ownsRow base 9 1 v ks.length (ks.map encStr)) : ∃ a c, v = .slice a ks.length c ∧ ks.length ≤ c ∧ StrsAt w.heap.size w a (ks.map fun k => ⟨k.toArray⟩) := by
  have h2 := h.2
  obtain ⟨a, c, rfl, hc⟩ := ownsRow_cells h
  refine ⟨a, c, rfl, ?_, fun i s hi => ?_⟩
  · rcases h2 with ⟨e, h0⟩ | ⟨g, cap, cur, e, _, _, hl, _⟩
    · omega
    · cases e; exact hl
  · rw [List.getElem?_map, Option.map_eq_some_iff] at hi
    obtain ⟨k, hk, rfl⟩ := hi
    obtain ⟨b, off, rfl, hb, hcc⟩ := hc i (encStr k) (by rw [List.getElem?_map, hk]; rfl)
    exact ⟨b, off, rfl, hb, hcc⟩

end Go.Proofs.YthinpbdbhijbgaaGreatDoor
namespace Go.Proofs.YthinpbdbhijbgaaGreatDoor
open Go.RowKit Go.Sort
set_option maxHeartbeats 4000000
set_option maxRecDepth 100000

theorem OwnN.nds {L : List Nd} {base : Nat} {v : Value} {w : World} (h : OwnN base L v w) : ∃ a c, v = .slice a L.length c ∧ NdsAt w.heap.size w a L := by
  obtain ⟨a, c, vs, rfl, _, _, hr, _⟩ := h.rows
  exact ⟨a, c, rfl, hr.nds fun k hk => hk.2⟩

theorem own10_any (L : List Nd) (a : Option Addr) (c : Nat) (w : World) (hL : NdsAt w.heap.size w a L) (hf : ∀ n ∈ L, Fit n) (hl : L.length * 168 ≤ 140737488355328) :
    Calls Tryz.prog 38 #[.slice a L.length c] w (NodesOut L w) := by
  have HL := Lib.hid hL
  have HF := Lib.hid hf
  have hl64 : L.length ≤ 9223372036854775807 := by omega
  clear hL hf
  go_enter Tryz.func38, Tryz.ntmps38
  go_wp2
  go_loopw [3, 4] (fun ov i wr => ∃ k : Nat, k ≤ L.length ∧ i = .int .i64 k ∧ Hid (OwnN w.heap.size (L.take k) ov wr) ∧ Ext w wr) (fun _ i _ => L.length - (intOf i).toNat)
  case atStart => exact ⟨0, Nat.zero_le _, rfl, OwnN.nil _ _, Ext.refl _⟩
  case round =>
    obtain ⟨k, hk, rfl, HO, hE⟩ := hrel
    by_cases hlt : k < L.length
    · obtain ⟨b1, o1, v1, rfl, hb1, hv1, hc1⟩ := HL.out k L[k] (List.getElem?_eq_getElem hlt)
      have hfit := HF.out L[k] (List.getElem_mem hlt)
      have htk : L.take (k + 1) = L.take k ++ [L[k]] := List.take_succ_eq_append_getElem hlt
      generalize L[k] = n at *
      obtain ⟨da, dc, aa, ac, rfl, hD, hAc⟩ := hv1
      have hcw : ∀ j u, (ndC n (.slice da n.data.length dc) (.slice aa n.acl.length ac))[j]? = some u → wr.cell? ((⟨b1, o1 + k * 17, none⟩ : Addr).add j) = some u := fun j u hj => by
        rw [addr_add, hE.cell (p := ⟨b1, o1 + k * 17 + j, none⟩) hb1]; exact hc1 j u hj
      have CC := Lib.hid (rclone_new n da aa dc ac wr hfit (hD.ext hE) (hAc.ext hE))
      have HC := Lib.hid hcw
      have HE := Lib.hid hE
      have HTK := Lib.hid htk
      have hzr := hE.size
      have hll : ((L.take k).length + 1) * 168 ≤ 140737488355328 := by rw [List.length_take]; omega
      unfold ndC at HC
      clear hcw hc1 hD hAc hE htk hfit
      go_wp2_with (refine wpList_load_at rfl 44 (.tmp 14) rfl _ rfl _ _ HC.out Tryz.underlying44 rfl sizeNd ?_)
      refine CC.out.mono ?_
      rintro e W5 ⟨v, rfl, hN, hE5⟩
      have HE5 := Lib.hid hE5
      have HN := Lib.hid hN
      obtain ⟨qa, qc, ra, rc, rfl, _, _⟩ := hN
      unfold ndC at HN ⊢
      clear hE5 CC HC
      go_wp2_with (at_builtin; refine wpList_append_nd rfl (.tmp 11) (.tmp 17) rfl w.heap.size (L.take k) _ HO.out HE5.out (by omega) n _ HN.out hll rfl rfl ?_)
      intro v' W6 hO6 hE6
      have HO6 := Lib.hid hO6
      have HE6 := Lib.hid (hE6 w (HE.out.trans HE5.out) (Nat.le_refl _))
      clear hO6 hE6
      go_wp2
      go_roundw
      case rel => exact ⟨k + 1, by omega, by go_num, by unfold Hid; rw [HTK.out]; exact HO6.out, HE6.out⟩
      case measure => simp [intOf]; omega
    · obtain rfl : k = L.length := by omega
      rw [List.take_length] at HO
      have hfin : NodesOut L w (.returned u3) wr := ⟨_, rfl, HO.out, hE⟩
      have HFIN := Lib.hid hfin
      clear hfin hE HO
      go_wp2
      go_ret
      exact HFIN.out

theorem no10_any (x : Int) (w : World) : Calls Tryz.prog 10 #[.int .i64 x] w fun e w' => e = .returned (.int .i64 x) ∧ w = w' := by
  go_enter Tryz.func10, Tryz.ntmps10
  go_wp2
  go_ret
  exact ⟨rfl, rfl⟩

theorem sameTexts_self (L : List ByteArray) (a b : Option Addr) (c d : Nat) (w : World) (hA : StrsAt w.heap.size w a L) (hB : StrsAt w.heap.size w b L) (hl : L.length ≤ 9223372036854775807) :
    Calls Tryz.prog 62 #[.slice a L.length c, .slice b L.length d] w fun e w' => e = .returned (.bool true) ∧ Ext w w' := by
  have HA := Lib.hid hA
  have HB := Lib.hid hB
  clear hA hB
  go_enter Tryz.func62, Tryz.ntmps62
  go_wp2
  go_loopw [5] (fun i wr => ∃ k : Nat, k ≤ L.length ∧ i = .int .i64 k ∧ Ext w wr) (fun i _ => L.length - (intOf i).toNat)
  case atStart => exact ⟨0, Nat.zero_le _, rfl, Ext.refl _⟩
  case round =>
    obtain ⟨k, hk, rfl, hE⟩ := hrel
    by_cases hlt : k < L.length
    · obtain ⟨b1, o1, rfl, hb1, hc1⟩ := HA.out k L[k] (List.getElem?_eq_getElem hlt)
      obtain ⟨b2, o2, rfl, hb2, hc2⟩ := HB.out k L[k] (List.getElem?_eq_getElem hlt)
      generalize L[k] = n at *
      have c1 := (hE.cell (p := ⟨b1, o1 + k, none⟩) hb1).trans hc1
      have c2 := (hE.cell (p := ⟨b2, o2 + k, none⟩) hb2).trans hc2
      have HE := Lib.hid hE
      clear hE hc1 hc2
      go_wp2
      go_quiet (fail)
      go_wp2
      go_roundw
      case rel => exact ⟨k + 1, by omega, by go_num, HE.out.trans' (below_drewN (Below.refl _ _) _)⟩
      case measure => simp [intOf]; omega
    · obtain rfl : k = L.length := by omega
      have HE := Lib.hid hE
      clear hE
      go_wp2
      go_ret
      exact ⟨rfl, HE.out⟩
end Go.Proofs.YthinpbdbhijbgaaGreatDoor
namespace Go.Proofs.YthinpbdbhijbgaaGreatDoor
open Go.RowKit
section
variable {P : Program} {ops : Array Oper} {Q : Exit → Act → World → Prop} {a0 : Act} {w0 : World}

/-- What the operations yielded. -/
def valsOf (ops : Array Oper) (a : Act) (k : Nat) : Value := match ops[k]? with
  | some o => valOf o a
  | none => undef
def updV (vals : Nat → Value) (i : Nat) (v : Value) (k : Nat) : Value := if k = i then v else vals k
theorem updV_same (vals : Nat → Value) (i : Nat) (v : Value) : updV vals i v i = v := by unfold updV; rw [if_pos rfl]
theorem updV_other (vals : Nat → Value) {i k : Nat} (v : Value) (h : k ≠ i) : updV vals i v k = vals k := by unfold updV; rw [if_neg h]
theorem valsOf_eval {a : Act} (j : Nat) (d : Tmp) {p : Oper} (hp : ops[j]? = some p) (hd : p.dst = some d) : a.eval (.tmp d) = valsOf ops a j := by
  unfold valsOf
  rw [hp]
  show _ = valOf p a
  unfold valOf
  rw [hd]
  simp [Act.eval]

/-- An operation's duty; d: which are done. -/
def DutyG (P : Program) (ops : Array Oper) (Q : Exit → Act → World → Prop) (G : (Nat → Bool) → (Nat → Value) → World → Prop) (a0 : Act) (i : Nat) (o : Oper) : Prop :=
  ∀ (d : Nat → Bool) a w, d i = false → (∀ f k j, reachB ops f k j = true → d k = true → d j = true) → (∀ e ∈ o.after.toList, Region.binds .any e = true → d e.on = true) → G d (valsOf ops a) w → Framed ops a0 a →
    o.wp P a w (fun a' w' => ∃ v, a' = a.put o.dst v ∧ G (fun k => d k || k == i) (updV (valsOf ops a) i (if o.dst.isSome = true then v else undef)) w') Q
def DutiesG (P : Program) (ops : Array Oper) (Q : Exit → Act → World → Prop) (G : (Nat → Bool) → (Nat → Value) → World → Prop) (a0 : Act) : Nat → List Oper → Prop
  | _, [] => True
  | i, o :: l => DutyG P ops Q G a0 i o ∧ DutiesG P ops Q G a0 (i + 1) l
theorem DutiesG.at {G : (Nat → Bool) → (Nat → Value) → World → Prop} : ∀ {l : List Oper} {k : Nat}, DutiesG P ops Q G a0 k l → ∀ i o, l[i]? = some o → DutyG P ops Q G a0 (k + i) o
  | [], _, _, i, o, h => by simp at h
  | q :: l, k, hd, 0, o, h => by simp at h; subst h; exact hd.1
  | q :: l, k, hd, i + 1, o, h => by
    have := DutiesG.at (k := k + 1) hd.2 i o (by simpa using h)
    rwa [show k + 1 + i = k + (i + 1) from by omega] at this

theorem region_gen (m : Nat) (G : (Nat → Bool) → (Nat → Value) → World → Prop) (hG0 : ∀ vals, G (fun _ => false) vals w0.drew)
    (hchk : (dstsOk ops && aheadB ops && (ops.toList.all fun o => o.guard.isNone && o.dst.all fun d => decide (d < m))) = true) (hsz : a0.tmps.size = m)
    (hd : DutiesG P ops Q G a0 0 ops.toList)
    (hend : ∀ us d w, (∀ i, i < ops.size → d i = true) → us.length = ops.toList.length → G d (fun k => us.getD k undef) w → Q .normal (filled ops.toList us a0) w) :
    RegionP P ops Q a0 w0 := by
  simp only [Bool.and_eq_true] at hchk
  obtain ⟨⟨hdst, hacy⟩, hall⟩ := hchk
  have hin : ∀ o ∈ ops.toList, ∀ d, o.dst = some d → d < a0.tmps.size := fun o ho d hd => by
    have := List.all_eq_true.1 hall o ho
    simp only [Bool.and_eq_true] at this
    have h2 := this.2
    rw [hd] at h2
    rw [hsz]; simpa using h2
  have hng : ∀ o ∈ ops.toList, o.guard = none := fun o ho => by
    have := List.all_eq_true.1 hall o ho
    simp only [Bool.and_eq_true] at this
    simpa using this.1
  have hdn : (ops.toList.filterMap (·.dst)).Nodup := by simpa [dstsOk] using hdst
  unfold RegionP
  refine wpAny_inv (fun l a w => l.size = ops.size ∧ G (fun k => l.getD k false) (valsOf ops a) w ∧ Framed ops a0 a ∧ Closed ops l) (fun _ _ _ h => h.1) ?_ ?_ _ _ _ _ ?_ ?_
  · rintro l a w i ⟨hs, hE, hF, hC⟩ hi
    obtain ⟨hlt, hu, hpre⟩ := (ready_iff hs).1 hi
    have ho : ops[i]? = some ops[i] := Array.getElem?_eq_getElem hlt
    have hol : ops.toList[i]? = some ops[i] := by simp
    have hmem : ops[i] ∈ ops.toList := by simp
    have hduty := hd.at i ops[i] hol
    rw [Nat.zero_add] at hduty
    have hgo := hduty (fun k => l.getD k false) a w hu (fun f k j h hk => hC.reach f k j h hk) (fun e he hb => hpre e he hb) hE hF
    unfold wpOpP
    rw [ho]
    simp only []
    rw [if_pos (by unfold Region.wanted; rw [hng _ hmem])]
    refine Oper.wp_mono (fun a' w' h => ?_) hgo
    obtain ⟨v, rfl, hG'⟩ := h
    have hgp : (fun k => (l.setIfInBounds i true).getD k false) = fun k => l.getD k false || k == i := by
      funext k
      by_cases e : k = i
      · subst e
        rw [getD_set_same (by omega)]; simp
      · rw [getD_set_other e]
        have : (k == i) = false := by simpa using e
        rw [this, Bool.or_false]
    have hvp : valsOf ops (a.put ops[i].dst v) = updV (valsOf ops a) i (if ops[i].dst.isSome = true then v else undef) := by
      funext k
      by_cases e : k = i
      · subst e
        rw [updV_same]
        unfold valsOf
        rw [ho]
        show valOf ops[k] _ = _
        cases hq : ops[k].dst with
        | none => unfold valOf; rw [hq]; rfl
        | some t =>
          rw [← hq, valOf_put_same (fun d hd => by rw [hF.2.1]; exact hin _ hmem d hd) (fun h => by rw [hq] at h; cases h), hq]
          rfl
      · rw [updV_other _ _ e]
        unfold valsOf
        cases hk : ops[k]? with
        | none => rfl
        | some o =>
          exact valOf_put_other fun d hd h => e (dst_inj ops.toList hdn k i o ops[i] d (by simpa using hk) hol hd h)
    refine ⟨by simpa using hs, by rw [hgp, hvp]; exact hG', framed_put hF hmem v, fun j o hj hlj e he hb => ?_⟩
    by_cases hei : e.on = i
    · rw [hei]; exact getD_set_same (by omega)
    · rw [getD_set_other hei]
      by_cases hji : j = i
      · subst hji
        rw [ho] at hj
        obtain rfl := Option.some.inj hj
        exact hpre e he hb
      · rw [getD_set_other hji] at hlj
        exact hC j o hj hlj e he hb
  · rintro l a w ⟨hs, hE, hF, _⟩ hr
    have hdone : ∀ i, i < ops.size → l.getD i false = true := fun i hi => ready_none hs hacy hr (i + 1) i (by omega) hi
    rw [framed_filled hF ops.toList (fun _ h => h) (fun _ h => .inl h) hin]
    refine hend _ _ w hdone (by simp) ?_
    have : (fun k => (ops.toList.map fun o => valOf o a).getD k undef) = valsOf ops a := by
      funext k
      unfold valsOf
      rw [List.getD_eq_getElem?_getD, List.getElem?_map, Array.getElem?_toList]
      cases ops[k]? <;> rfl
    rw [this]
    exact hE
  · have hf : ∀ i, (Array.replicate ops.size false).getD i false = false := fun i => by
      rw [Array.getD_eq_getD_getElem?, Array.getElem?_replicate]; split <;> rfl
    refine ⟨by simp, by simp only [hf]; exact hG0 _, ⟨rfl, rfl, fun _ _ => rfl⟩, ?_⟩
    intro i o _ h
    rw [hf] at h; cases h
  · unfold unlisted
    exact Nat.le_trans (List.count_le_length) (by simp)

/-- What the operations of a list with values told in advance yielded. -/
def ToldV (cs : List (Option Value)) (d : Nat → Bool) (vals : Nat → Value) : Prop := ∀ j v, cs[j]? = some (some v) → d j = true → vals j = v
theorem ToldV.none (cs : List (Option Value)) (vals : Nat → Value) : ToldV cs (fun _ => false) vals := fun _ _ _ h => by cases h
theorem ToldV.put {cs : List (Option Value)} {d : Nat → Bool} {vals : Nat → Value} (h : ToldV cs d vals) (i : Nat) (v : Value) (hv : ∀ u, cs[i]? = some (some u) → v = u) : ToldV cs (fun k => d k || k == i) (updV vals i v) := fun j u hj hd => by
  by_cases e : j = i
  · subst e; rw [updV_same]; exact hv u hj
  · have : (j == i) = false := by simpa using e
    simp only [this, Bool.or_false] at hd
    rw [updV_other _ _ e]
    exact h j u hj hd
end
end Go.Proofs.YthinpbdbhijbgaaGreatDoor
namespace Go.Proofs.YthinpbdbhijbgaaGreatDoor
open Go.RowKit
set_option maxHeartbeats 4000000
set_option maxRecDepth 100000

section
variable {P : Program} {ops : Array Oper} {Q : Exit → Act → World → Prop} {a0 : Act}
/-- An operation that only reads, whose value is told in advance. -/
theorem dutyG_val {cs : List (Option Value)} {H : (Nat → Bool) → (Nat → Value) → World → Prop} {i : Nat} {o : Oper} {v : Value} (hv : cs[i]? = some (some v)) (hds : o.dst.isSome = true)
    (hH : ∀ d vals W W', d i = false → (∀ f k j, reachB ops f k j = true → d k = true → d j = true) → H d vals W → Ext W W' → H (fun k => d k || k == i) (updV vals i v) W')
    (h : ∀ d a W, d i = false → (∀ f k j, reachB ops f k j = true → d k = true → d j = true) → H d (valsOf ops a) W → (∀ j t p u, ops[j]? = some p → p.dst = some t → (∃ e ∈ o.after.toList, e.on = j ∧ Region.binds .any e = true) → cs[j]? = some (some u) → a.eval (.tmp t) = u) → Framed ops a0 a →
      o.wp P a W (fun a' W' => a' = a.put o.dst v ∧ Ext W W') Q) : DutyG P ops Q (fun d vals w => ToldV cs d vals ∧ H d vals w) a0 i o := by
  intro d a W hdi hcl hpre hG hF
  refine Oper.wp_mono (fun a' W' hh => ?_) (h d a W hdi hcl hG.2 (fun j t p u hp hd he hu => ?_) hF)
  · obtain ⟨rfl, hE⟩ := hh
    refine ⟨v, rfl, ?_⟩
    rw [if_pos hds]
    exact ⟨hG.1.put i v fun u hu => by rw [hv] at hu; exact Option.some.inj (Option.some.inj hu), hH d _ W W' hdi hcl hG.2 hE⟩
  · obtain ⟨e, hem, rfl, heb⟩ := he
    rw [valsOf_eval e.on t hp hd]
    exact hG.1 _ _ hu (hpre e hem heb)
end

theorem told_eval {cs : List (Option Value)} {ops : Array Oper} {a : Act} {d : Nat → Bool} (_ : ToldV cs d (valsOf ops a)) (j : Nat) (t : Tmp) {p : Oper} (hp : ops[j]? = some p) (hd : p.dst = some t) : a.eval (.tmp t) = valsOf ops a j := valsOf_eval j t hp hd
/-- What holds while Take goes on; d: which operations are done. -/
def TkH (w : World) (i r : Nat) (x1 x2 : List Value) (Fin : World → Prop) (d : Nat → Bool) (vals : Nat → Value) (W : World) : Prop :=
  if d 19 = true then Fin W else Ext w W ∧ (if d 16 = true then W.ownsRow w.heap.size 44 17 (vals 16) (i + r) (x1 ++ x2) else if d 8 = true then W.ownsRow w.heap.size 44 17 (vals 8) i x1 else if d 1 = true then W.ownsRow w.heap.size 44 17 (vals 1) 0 [] else True)
theorem TkH.read {w : World} {i r : Nat} {x1 x2 : List Value} {Fin : World → Prop} {d : Nat → Bool} {vals : Nat → Value} {W W' : World} {j : Nat} {v : Value} (h : TkH w i r x1 x2 Fin d vals W) (h19 : d 19 = false) (hE : Ext W W') (hj : (j != 19 && j != 16 && j != 8 && j != 1) = true) : TkH w i r x1 x2 Fin (fun k => d k || k == j) (updV vals j v) W' := by
  simp only [Bool.and_eq_true, bne_iff_ne, ne_eq] at hj
  obtain ⟨⟨⟨j1, j2⟩, j3⟩, j4⟩ := hj
  have e19 : (d 19 || (19 : Nat) == j) = false := by rw [h19, Bool.false_or]; simpa using fun e => j1 e.symm
  have e16 : (d 16 || (16 : Nat) == j) = d 16 := by rw [show ((16 : Nat) == j) = false by simpa using fun e => j2 e.symm, Bool.or_false]
  have e8 : (d 8 || (8 : Nat) == j) = d 8 := by rw [show ((8 : Nat) == j) = false by simpa using fun e => j3 e.symm, Bool.or_false]
  have e1 : (d 1 || (1 : Nat) == j) = d 1 := by rw [show ((1 : Nat) == j) = false by simpa using fun e => j4 e.symm, Bool.or_false]
  unfold TkH at h ⊢
  simp only [h19, Bool.false_eq_true, if_false] at h
  simp only [e19, e16, e8, e1, Bool.false_eq_true, if_false]
  rw [updV_other _ _ (fun e => j2 e.symm), updV_other _ _ (fun e => j3 e.symm), updV_other _ _ (fun e => j4 e.symm)]
  refine ⟨h.1.trans hE, ?_⟩
  have hk : ∀ (v : Value) (n : Nat) (xs : List Value), W.ownsRow w.heap.size 44 17 v n xs → W'.ownsRow w.heap.size 44 17 v n xs := fun v n xs hx => World.ownsRow.kept hx (grown_of_ext hE none) (Classical.em _)
  have h2 := h.2
  split
  · rename_i e; rw [if_pos e] at h2; exact hk _ _ _ h2
  · rename_i e; rw [if_neg e] at h2
    split
    · rename_i e; rw [if_pos e] at h2; exact hk _ _ _ h2
    · rename_i e; rw [if_neg e] at h2
      split
      · rename_i e; rw [if_pos e] at h2; exact hk _ _ _ h2
      · trivial

theorem TkH.ext {w : World} {i r : Nat} {x1 x2 : List Value} {Fin : World → Prop} {d : Nat → Bool} {vals : Nat → Value} {W : World} (h : TkH w i r x1 x2 Fin d vals W) (h19 : d 19 = false) : Ext w W := by
  unfold TkH at h
  simp only [h19, Bool.false_eq_true, if_false] at h
  exact h.1
theorem ext_grownT {w W W' : World} {e : TypeId} {size n : Nat} {v : Value} {xs : List Value} (hE : Ext w W) (hg : W.grownBy W' v.ownBlock) (hown : W.ownsRow w.heap.size e size v n xs) : Ext w W' :=
  hE.trans' ⟨hg.os, hg.tape, hg.output, hg.size, fun k hk => hg.block k (Nat.lt_of_lt_of_le hk hE.size) (fun e => by have := (hown.lt k e.symm).1; omega)⟩
theorem ex_buildSlice0 {P : Program} {o : Oper} {a : Act} {W : World} {t e : TypeId} (ho : o.op = .buildSlice t 0 #[]) (hu : P.underlying t = some (.slice e)) {ie : TypeInfo} (hie : P.info? e = some ie) : (execOp a.eval o).run P W = .ok (.value (.slice (some ⟨W.heap.size, 0, none⟩) 0 0)) (W.alloc (.cells #[] e)) := by
  unfold execOp
  simp only [ho, Sem.run_bind]
  simp [Instr.buildSlice, run_underlying hu, sizeOf, typeInfo, hie, Instr.fill, newRow]
  congr 2
  apply Array.eq_empty_of_size_eq_zero
  simp
theorem filled_defers (l : List Oper) (us : List Value) (a0 : Act) : (filled l us a0).defers = a0.defers := by
  unfold filled
  generalize l.zip us = z
  induction z generalizing a0 with
  | nil => rfl
  | cons x r ih => rw [List.foldl_cons, ih, put_defers]

set_option maxHeartbeats 8000000 in
theorem rtake_s (S : Nat → Prop) (w : World) (b : Nat) (L : List Nd) (i : Nat) (hi : i < L.length) (hR : RTree S w b L) (hl : L.length * 168 ≤ 140737488355328) :
    Calls Tryz.prog 144 #[.pointer (some ⟨b, 0, none⟩), .int .i64 i] w fun e w' => e = .returned (.tuple #[]) ∧ RTree (fun k => S k ∨ (w.heap.size ≤ k ∧ k < w'.heap.size)) w' b (L.take i ++ L.drop (i + 1)) ∧ Chg (· = b) w w' := by
  have hbl := hR.lt
  obtain ⟨a, cap, vs, hb, hlc, hcm, hS, hrows, hpl⟩ := hR
  have hc0 : w.cell? ⟨b, 0, none⟩ = some (.slice a L.length cap) := cell_of_row _ _ _ _ _ _ hb
  obtain ⟨bl, off, rfl⟩ : ∃ bl off, a = some ⟨bl, off, none⟩ := by
    rcases hpl with ⟨_, h0⟩ | ⟨bl, off, h⟩
    · omega
    · exact ⟨bl, off, h⟩
  have hsl1 := fun W => run_slice_to (some ⟨bl, off, none⟩) L.length cap i (fun p hp => ⟨bl, off, (Option.some.inj hp).symm⟩) (by omega) W
  have hsl2 := fun W => run_slice_from bl off L.length cap (i + 1) (by omega) hlc W
  obtain ⟨v3, hv3⟩ : ∃ v3, v3 = Value.slice (some (if cap = i + 1 then ⟨bl, off, none⟩ else ⟨bl, off + (i + 1) * 17, none⟩)) (L.length - (i + 1)) (cap - (i + 1)) := ⟨_, rfl⟩
  simp only [← hv3] at hsl2
  have hrE : ∀ W, Ext w W → RowsOf S W (some ⟨bl, off, none⟩) vs L := fun W hE => hrows.imp (fun _ h => h) fun k hk => hE.block k (hS k hk).1
  have hSW : ∀ W, Ext w W → ∀ k, S k → k < W.heap.size := fun W hE k hk => Nat.lt_of_lt_of_le (hS k hk).1 hE.size
  have hsrc1 : ∀ W, Ext w W → Src Tryz.prog 17 50 (.slice (some ⟨bl, off, none⟩) i cap) i ((vs.take i).flatMap Array.toList) W := fun W hE => (hrE W hE).src_to (by omega) (hSW W hE)
  have hsrc2 : ∀ W, Ext w W → Src Tryz.prog 17 50 v3 (L.length - (i + 1)) ((vs.drop (i + 1)).flatMap Array.toList) W := fun W hE => by
    rw [hv3]
    exact (hrE W hE).src_from (by omega) hlc (hSW W hE)
  obtain ⟨Fin, hFin⟩ : ∃ Fin : World → Prop, Fin = fun W => RTree (fun k => S k ∨ (w.heap.size ≤ k ∧ k < W.heap.size)) W b (L.take i ++ L.drop (i + 1)) ∧ Chg (· = b) w W := ⟨_, rfl⟩
  have hstore : ∀ (W : World) (v : Value), Ext w W → W.ownsRow w.heap.size 44 17 v (i + (L.length - (i + 1))) ((vs.take i).flatMap Array.toList ++ (vs.drop (i + 1)).flatMap Array.toList) → v.oneCell' = true ∧ Fin (W.setRow b #[v]) := fun W v hE hown => by
    have heach : EachN (fun k => S k ∨ (w.heap.size ≤ k ∧ k < W.heap.size)) W (vs.take i ++ vs.drop (i + 1)) (L.take i ++ L.drop (i + 1)) := by
      have h0 : RowsOf (fun k => S k ∨ (w.heap.size ≤ k ∧ k < W.heap.size)) W (some ⟨bl, off, none⟩) vs L := (hrE W hE).imp (fun _ h => .inl h) fun _ _ => rfl
      exact EachN.append (EachN.take ⟨h0.len, h0.each⟩ i) (EachN.drop ⟨h0.len, h0.each⟩ (i + 1))
    rw [← List.flatMap_append] at hown
    have hln : i + (L.length - (i + 1)) = (L.take i ++ L.drop (i + 1)).length := by simp; omega
    obtain ⟨a9, c9, rfl, hc9, hm9, hr9, hp9⟩ := RowsOf.of_own hown hln heach.1 (fun k h1 h2 => .inr ⟨h1, h2⟩) heach.2
    have hbW : W.heap[b]? = some (.cells #[.slice (some ⟨bl, off, none⟩) L.length cap] 53 (0, 0)) := (hE.block b hbl).trans hb
    have hb9 := setRow_heap W b _ #[.slice a9 (i + (L.length - (i + 1))) c9] _ _ hbW
    have hs9 : (W.setRow b #[Value.slice a9 (i + (L.length - (i + 1))) c9]).heap.size = W.heap.size := by simp [World.setRow]
    have hb' : ∀ k, (S k ∨ (w.heap.size ≤ k ∧ k < W.heap.size)) → k < W.heap.size ∧ k ≠ b := fun k hk => by
      rcases hk with hk | hk
      · exact ⟨hSW W hE k hk, (hS k hk).2⟩
      · exact ⟨hk.2, by omega⟩
    refine ⟨rfl, ?_⟩
    rw [hFin]
    rw [hln] at hb9 hc9
    exact ⟨⟨a9, c9, _, by rw [hln]; exact hb9, hc9, hm9, fun k hk => by rw [hs9] at hk ⊢; exact hb' k hk, hr9.imp (fun k hk => by rw [hs9]; exact hk) (fun k hk => setRow_other _ _ _ _ (hb' k hk).2), hp9⟩, (Chg.of_ext (S := (· = b)) hE).trans (Chg.set (S := (· = b)) b W _ rfl) fun _ _ h => h⟩
  obtain ⟨i0, hinf, hz0, hz1', hz2'⟩ := info_parts infoNd
  have hat : ∀ x lo hi mx W, (Instr.sliceAt 50 x lo hi mx).run Tryz.prog W = (Instr.slice 50 x lo hi mx).run Tryz.prog W := fun x lo hi mx W => by simp [Instr.sliceAt, run_underlying Tryz.underlying50]
  have hcE : ∀ W, Ext w W → W.cell? ⟨b, 0, none⟩ = some (.slice (some ⟨bl, off, none⟩) L.length cap) := fun W hE => (hE.cell (p := ⟨b, 0, none⟩) hbl).trans hc0
  have hx1l : ((vs.take i).flatMap Array.toList).length = i * 17 := (hsrc1 w (Ext.refl _)).newsLen
  have HB := Lib.hid hb
  clear hrE hSW hrows hb hpl
  generalize (vs.take i).flatMap Array.toList = l1 at *
  generalize (vs.drop (i + 1)).flatMap Array.toList = l2 at *
  have i64 : ((i : Int) + 1) = ((i + 1 : Nat) : Int) := by omega
  go_enter Tryz.func144, Tryz.ntmps144
  refine wp_region_P (by kernel_rfl) (region_gen 23 (fun d vals W => ToldV [some (.pointer (some ⟨b, 0, none⟩)), none, some (.pointer (some ⟨b, 0, none⟩)), some (.pointer (some ⟨b, 0, none⟩)), some (.pointer (some ⟨b, 0, none⟩)), some (.slice (some ⟨bl, off, none⟩) L.length cap), some (.int .i64 i), some (.slice (some ⟨bl, off, none⟩) i cap), none, some (.pointer (some ⟨b, 0, none⟩)), some (.pointer (some ⟨b, 0, none⟩)), some (.pointer (some ⟨b, 0, none⟩)), some (.slice (some ⟨bl, off, none⟩) L.length cap), some (.int .i64 i), some (.int .i64 ((i + 1 : Nat) : Int)), some v3, none, some (.pointer (some ⟨b, 0, none⟩)), some (.pointer (some ⟨b, 0, none⟩)), none] d vals ∧ TkH w i (L.length - (i + 1)) l1 l2 Fin d vals W) ?g0 (by decide) rfl ?duties ?rest)
  case g0 => exact fun vals => ⟨ToldV.none _ _, by unfold TkH; simp only [Bool.false_eq_true, if_false]; exact ⟨Ext.drew _, trivial⟩⟩
  case rest =>
    intro us d W hdn hl hG
    have h := hG.2
    unfold TkH at h
    rw [if_pos (hdn 19 (by decide)), hFin] at h
    exact ⟨filled_defers _ _ _, _, results_none rfl _ _ _, rfl, h⟩
  case duties =>
    have H19 : ∀ (d : Nat → Bool) (j : Nat) {q : Nat}, d j = false → (d q = true → d j = true) → d q = false := fun d j q h1 h2 => by
      cases hq : d q with
      | false => rfl
      | true => rw [h2 hq] at h1; cases h1
    refine ⟨?_, ?_, ?_, ?_, ?_, ?_, ?_, ?_, ?_, ?_, ?_, ?_, ?_, ?_, ?_, ?_, ?_, ?_, ?_, ?_, trivial⟩
    · refine dutyG_val rfl rfl (fun d vals W W' hdi hcl h hE => TkH.read h (H19 d 0 hdi (fun e => hcl 2 19 0 (by kernel_rfl) e)) hE rfl) fun d a W hdi hcl hH hx hF => ?_
      have hE := TkH.ext hH (H19 d 0 hdi (fun e => hcl 2 19 0 (by kernel_rfl) e))
      have x1 := hF.slot 0 _ (by decide) rfl
      exact wp_value (w' := W) (v := .pointer (some ⟨b, 0, none⟩)) (by simp only [execOp, x1]; simp [go_sem]) ⟨rfl, Ext.refl _⟩
    · intro d a W hdi hcl hpre hG hF
      have h19 : d 19 = false := H19 d 1 hdi (fun e => hcl 2 19 1 (by kernel_rfl) e)
      have h16 : d 16 = false := H19 d 1 hdi (fun e => hcl 2 16 1 (by kernel_rfl) e)
      have h8 : d 8 = false := H19 d 1 hdi (fun e => hcl 2 8 1 (by kernel_rfl) e)
      have hE := TkH.ext hG.2 h19
      refine wp_value (ex_buildSlice0 rfl Tryz.underlying50 hinf) ⟨_, rfl, hG.1.put 1 _ (fun u hu => by cases hu), ?_⟩
      unfold TkH
      simp only [h19, h16, h8, Bool.false_or, beq_self_eq_true, Bool.or_true, if_true, (by decide : ((19 : Nat) == 1) = false), (by decide : ((16 : Nat) == 1) = false), (by decide : ((8 : Nat) == 1) = false), Bool.false_eq_true, if_false, updV_same]
      exact ⟨hE.trans (Ext.alloc _ _), World.ownsRow_made W #[] 0 hE.size (Nat.zero_le _) rfl⟩
    · refine dutyG_val rfl rfl (fun d vals W W' hdi hcl h hE => TkH.read h (H19 d 2 hdi (fun e => hcl 2 19 2 (by kernel_rfl) e)) hE rfl) fun d a W hdi hcl hH hx hF => ?_
      have hE := TkH.ext hH (H19 d 2 hdi (fun e => hcl 2 19 2 (by kernel_rfl) e))
      have x1 := hF.slot 0 _ (by decide) rfl
      exact wp_value (w' := W) (v := .pointer (some ⟨b, 0, none⟩)) (by simp only [execOp, x1]; simp [go_sem]) ⟨rfl, Ext.refl _⟩
    · refine dutyG_val rfl rfl (fun d vals W W' hdi hcl h hE => TkH.read h (H19 d 3 hdi (fun e => hcl 2 19 3 (by kernel_rfl) e)) hE rfl) fun d a W hdi hcl hH hx hF => ?_
      have hE := TkH.ext hH (H19 d 3 hdi (fun e => hcl 2 19 3 (by kernel_rfl) e))
      have x1 := hx 2 6 _ _ rfl rfl ⟨⟨2, .data⟩, by simp, rfl, rfl⟩ rfl
      exact wp_value (ex_nilCheck rfl _ x1) ⟨rfl, Ext.refl _⟩
    · refine dutyG_val rfl rfl (fun d vals W W' hdi hcl h hE => TkH.read h (H19 d 4 hdi (fun e => hcl 2 19 4 (by kernel_rfl) e)) hE rfl) fun d a W hdi hcl hH hx hF => ?_
      have hE := TkH.ext hH (H19 d 4 hdi (fun e => hcl 2 19 4 (by kernel_rfl) e))
      have x1 := hx 3 7 _ _ rfl rfl ⟨⟨3, .data⟩, by simp, rfl, rfl⟩ rfl
      exact wp_value (w' := W) (v := .pointer (some ⟨b, 0, none⟩)) (by simp only [execOp, x1]; simp [go_sem]) ⟨rfl, Ext.refl _⟩
    · refine dutyG_val rfl rfl (fun d vals W W' hdi hcl h hE => TkH.read h (H19 d 5 hdi (fun e => hcl 2 19 5 (by kernel_rfl) e)) hE rfl) fun d a W hdi hcl hH hx hF => ?_
      have hE := TkH.ext hH (H19 d 5 hdi (fun e => hcl 2 19 5 (by kernel_rfl) e))
      have x1 := hx 4 8 _ _ rfl rfl ⟨⟨4, .data⟩, by simp, rfl, rfl⟩ rfl
      exact wp_value (ex_cell rfl _ _ x1 (hcE W hE) rfl Tryz.underlying50) ⟨rfl, Ext.refl _⟩
    · refine dutyG_val rfl rfl (fun d vals W W' hdi hcl h hE => TkH.read h (H19 d 6 hdi (fun e => hcl 2 19 6 (by kernel_rfl) e)) hE rfl) fun d a W hdi hcl hH hx hF => ?_
      have hE := TkH.ext hH (H19 d 6 hdi (fun e => hcl 2 19 6 (by kernel_rfl) e))
      have x1 := hF.slot 1 _ (by decide) rfl
      exact wp_value (w' := W) (v := .int .i64 i) (by simp only [execOp, x1]; simp [go_sem]) ⟨rfl, Ext.refl _⟩
    · refine dutyG_val rfl rfl (fun d vals W W' hdi hcl h hE => TkH.read h (H19 d 7 hdi (fun e => hcl 2 19 7 (by kernel_rfl) e)) hE rfl) fun d a W hdi hcl hH hx hF => ?_
      have hE := TkH.ext hH (H19 d 7 hdi (fun e => hcl 2 19 7 (by kernel_rfl) e))
      have x1 := hx 5 9 _ _ rfl rfl ⟨⟨5, .data⟩, by simp, rfl, rfl⟩ rfl
      have x2 := hx 6 10 _ _ rfl rfl ⟨⟨6, .data⟩, by simp, rfl, rfl⟩ rfl
      exact wp_value (w' := W) (v := .slice (some ⟨bl, off, none⟩) i cap) (by simp only [execOp, x1, x2, Option.map_none, Option.map_some, Sem.run_bind, hat, hsl1, Sem.run_pure, Result.andThen_ok]) ⟨rfl, Ext.refl _⟩
    · intro d a W hdi hcl hpre hG hF
      have h19 : d 19 = false := H19 d 8 hdi (fun e => hcl 2 19 8 (by kernel_rfl) e)
      have h16 : d 16 = false := H19 d 8 hdi (fun e => hcl 2 16 8 (by kernel_rfl) e)
      have h1 : d 1 = true := hpre ⟨1, .data⟩ (by simp) rfl
      have hE := TkH.ext hG.2 h19
      have hown := hG.2
      unfold TkH at hown
      simp only [h19, h16, hdi, h1, if_true, Bool.false_eq_true, if_false] at hown
      have x1 : a.eval (.tmp 5) = _ := told_eval hG.1 1 5 rfl rfl
      have x2 : a.eval (.tmp 11) = .slice (some ⟨bl, off, none⟩) i cap := (valsOf_eval 7 11 rfl rfl).trans (hG.1 7 _ rfl (hpre ⟨7, .data⟩ (by simp) rfl))
      obtain ⟨v', w', hr, h2, h3, _, h5⟩ := run_append_own_src (P := Tryz.prog) W w.heap.size 50 50 50 44 i0 (.agg zeroNd) 17 168 Tryz.underlying50 hinf hz0 hz1' hz2' rfl (by decide) _ 0 [] hown.2 _ i l1 (hsrc1 W hE) (by unfold maxLen at *; omega) (by omega) hE.size
      refine wp_value (ex_append rfl (by rw [x1, x2]; exact hr)) ⟨_, rfl, hG.1.put 8 _ (fun u hu => by cases hu), ?_⟩
      unfold TkH
      simp only [h19, h16, beq_self_eq_true, Bool.or_true, if_true, (by decide : ((19 : Nat) == 8) = false), (by decide : ((16 : Nat) == 8) = false), Bool.false_or, Bool.false_eq_true, if_false]
      rw [if_pos (show (Option.isSome (some 12 : Option Tmp)) = true from rfl), updV_same]
      simp only [List.nil_append, Nat.zero_add] at h2
      exact ⟨ext_grownT hE h3 hown.2, h2⟩
    · refine dutyG_val rfl rfl (fun d vals W W' hdi hcl h hE => TkH.read h (H19 d 9 hdi (fun e => hcl 2 19 9 (by kernel_rfl) e)) hE rfl) fun d a W hdi hcl hH hx hF => ?_
      have hE := TkH.ext hH (H19 d 9 hdi (fun e => hcl 2 19 9 (by kernel_rfl) e))
      have x1 := hF.slot 0 _ (by decide) rfl
      exact wp_value (w' := W) (v := .pointer (some ⟨b, 0, none⟩)) (by simp only [execOp, x1]; simp [go_sem]) ⟨rfl, Ext.refl _⟩
    · refine dutyG_val rfl rfl (fun d vals W W' hdi hcl h hE => TkH.read h (H19 d 10 hdi (fun e => hcl 2 19 10 (by kernel_rfl) e)) hE rfl) fun d a W hdi hcl hH hx hF => ?_
      have hE := TkH.ext hH (H19 d 10 hdi (fun e => hcl 2 19 10 (by kernel_rfl) e))
      have x1 := hx 9 13 _ _ rfl rfl ⟨⟨9, .data⟩, by simp, rfl, rfl⟩ rfl
      exact wp_value (ex_nilCheck rfl _ x1) ⟨rfl, Ext.refl _⟩
    · refine dutyG_val rfl rfl (fun d vals W W' hdi hcl h hE => TkH.read h (H19 d 11 hdi (fun e => hcl 2 19 11 (by kernel_rfl) e)) hE rfl) fun d a W hdi hcl hH hx hF => ?_
      have hE := TkH.ext hH (H19 d 11 hdi (fun e => hcl 2 19 11 (by kernel_rfl) e))
      have x1 := hx 10 14 _ _ rfl rfl ⟨⟨10, .data⟩, by simp, rfl, rfl⟩ rfl
      exact wp_value (w' := W) (v := .pointer (some ⟨b, 0, none⟩)) (by simp only [execOp, x1]; simp [go_sem]) ⟨rfl, Ext.refl _⟩
    · refine dutyG_val rfl rfl (fun d vals W W' hdi hcl h hE => TkH.read h (H19 d 12 hdi (fun e => hcl 2 19 12 (by kernel_rfl) e)) hE rfl) fun d a W hdi hcl hH hx hF => ?_
      have hE := TkH.ext hH (H19 d 12 hdi (fun e => hcl 2 19 12 (by kernel_rfl) e))
      have x1 := hx 11 15 _ _ rfl rfl ⟨⟨11, .data⟩, by simp, rfl, rfl⟩ rfl
      exact wp_value (ex_cell rfl _ _ x1 (hcE W hE) rfl Tryz.underlying50) ⟨rfl, Ext.refl _⟩
    · refine dutyG_val rfl rfl (fun d vals W W' hdi hcl h hE => TkH.read h (H19 d 13 hdi (fun e => hcl 2 19 13 (by kernel_rfl) e)) hE rfl) fun d a W hdi hcl hH hx hF => ?_
      have hE := TkH.ext hH (H19 d 13 hdi (fun e => hcl 2 19 13 (by kernel_rfl) e))
      have x1 := hF.slot 1 _ (by decide) rfl
      exact wp_value (w' := W) (v := .int .i64 i) (by simp only [execOp, x1]; simp [go_sem]) ⟨rfl, Ext.refl _⟩
    · refine dutyG_val rfl rfl (fun d vals W W' hdi hcl h hE => TkH.read h (H19 d 14 hdi (fun e => hcl 2 19 14 (by kernel_rfl) e)) hE rfl) fun d a W hdi hcl hH hx hF => ?_
      have hE := TkH.ext hH (H19 d 14 hdi (fun e => hcl 2 19 14 (by kernel_rfl) e))
      have x1 := hx 13 17 _ _ rfl rfl ⟨⟨13, .data⟩, by simp, rfl, rfl⟩ rfl
      exact wp_value (w' := W) (v := .int .i64 ((i + 1 : Nat) : Int)) (by simp only [execOp, x1]; simp [go_sem]; rw [IntKind.wrap_i64]; omega) ⟨rfl, Ext.refl _⟩
    · refine dutyG_val rfl rfl (fun d vals W W' hdi hcl h hE => TkH.read h (H19 d 15 hdi (fun e => hcl 2 19 15 (by kernel_rfl) e)) hE rfl) fun d a W hdi hcl hH hx hF => ?_
      have hE := TkH.ext hH (H19 d 15 hdi (fun e => hcl 2 19 15 (by kernel_rfl) e))
      have x1 := hx 12 16 _ _ rfl rfl ⟨⟨12, .data⟩, by simp, rfl, rfl⟩ rfl
      have x2 := hx 14 18 _ _ rfl rfl ⟨⟨14, .data⟩, by simp, rfl, rfl⟩ rfl
      exact wp_value (w' := W) (v := v3) (by simp only [execOp, x1, x2, Option.map_none, Option.map_some, Sem.run_bind, hat, hsl2, Sem.run_pure, Result.andThen_ok]) ⟨rfl, Ext.refl _⟩
    · intro d a W hdi hcl hpre hG hF
      have h19 : d 19 = false := H19 d 16 hdi (fun e => hcl 2 19 16 (by kernel_rfl) e)
      have h8 : d 8 = true := hpre ⟨8, .data⟩ (by simp) rfl
      have hE := TkH.ext hG.2 h19
      have hown := hG.2
      unfold TkH at hown
      simp only [h19, hdi, h8, if_true, Bool.false_eq_true, if_false] at hown
      have x1 : a.eval (.tmp 12) = _ := told_eval hG.1 8 12 rfl rfl
      have x2 : a.eval (.tmp 19) = v3 := (valsOf_eval 15 19 rfl rfl).trans (hG.1 15 _ rfl (hpre ⟨15, .data⟩ (by simp) rfl))
      obtain ⟨v', w', hr, h2, h3, _, h5⟩ := run_append_own_src (P := Tryz.prog) W w.heap.size 50 50 50 44 i0 (.agg zeroNd) 17 168 Tryz.underlying50 hinf hz0 hz1' hz2' rfl (by decide) _ i l1 hown.2 _ (L.length - (i + 1)) l2 (hsrc2 W hE) (by unfold maxLen at *; omega) (by omega) hE.size
      refine wp_value (ex_append rfl (by rw [x1, x2]; exact hr)) ⟨_, rfl, hG.1.put 16 _ (fun u hu => by cases hu), ?_⟩
      unfold TkH
      simp only [h19, beq_self_eq_true, Bool.or_true, if_true, (by decide : ((19 : Nat) == 16) = false), Bool.false_or, Bool.false_eq_true, if_false]
      rw [if_pos (show (Option.isSome (some 20 : Option Tmp)) = true from rfl), updV_same]
      exact ⟨ext_grownT hE h3 hown.2, h2⟩
    · refine dutyG_val rfl rfl (fun d vals W W' hdi hcl h hE => TkH.read h (H19 d 17 hdi (fun e => hcl 2 19 17 (by kernel_rfl) e)) hE rfl) fun d a W hdi hcl hH hx hF => ?_
      have hE := TkH.ext hH (H19 d 17 hdi (fun e => hcl 2 19 17 (by kernel_rfl) e))
      have x1 := hx 0 4 _ _ rfl rfl ⟨⟨0, .data⟩, by simp, rfl, rfl⟩ rfl
      exact wp_value (ex_nilCheck rfl _ x1) ⟨rfl, Ext.refl _⟩
    · refine dutyG_val rfl rfl (fun d vals W W' hdi hcl h hE => TkH.read h (H19 d 18 hdi (fun e => hcl 2 19 18 (by kernel_rfl) e)) hE rfl) fun d a W hdi hcl hH hx hF => ?_
      have hE := TkH.ext hH (H19 d 18 hdi (fun e => hcl 2 19 18 (by kernel_rfl) e))
      have x1 := hx 17 21 _ _ rfl rfl ⟨⟨17, .data⟩, by simp, rfl, rfl⟩ rfl
      exact wp_value (w' := W) (v := .pointer (some ⟨b, 0, none⟩)) (by simp only [execOp, x1]; simp [go_sem]) ⟨rfl, Ext.refl _⟩
    · intro d a W hdi hcl hpre hG hF
      have h16 : d 16 = true := hpre ⟨16, .data⟩ (by simp) rfl
      have hE := TkH.ext hG.2 hdi
      have hown := hG.2
      unfold TkH at hown
      simp only [hdi, h16, if_true, Bool.false_eq_true, if_false] at hown
      have x1 : a.eval (.tmp 22) = .pointer (some ⟨b, 0, none⟩) := (valsOf_eval 18 22 rfl rfl).trans (hG.1 18 _ rfl (hpre ⟨18, .data⟩ (by simp) rfl))
      have x2 : a.eval (.tmp 20) = _ := told_eval hG.1 16 20 rfl rfl
      obtain ⟨g1, g2⟩ := hstore W _ hE hown.2
      refine wp_skipped (run_store_one 50 (.tmp 22) (.tmp 20) rfl b _ x1 x2 g1 53 _ ((hE.block b hbl).trans HB.out) infoSl) ⟨undef, rfl, hG.1.put 19 _ (fun u hu => by cases hu), ?_⟩
      unfold TkH
      simp only [beq_self_eq_true, Bool.or_true, if_true]
      exact g2
end Go.Proofs.YthinpbdbhijbgaaGreatDoor
namespace Go.Proofs.YthinpbdbhijbgaaGreatDoor
open Go.RowKit Go.Sort
set_option maxHeartbeats 4000000
set_option maxRecDepth 100000

theorem rname_any (s : ByteArray) (w : World) (hv : vpath s = true) (hs : s.size ≤ 9223372036854775800) : Calls Tryz.prog 153 #[.string s] w fun e w' => e = .returned (.tuple #[.string (nameB s), .int .i64 0]) ∧ Ext w w' := by
  have C1 := rvalid_any s w (by omega)
  rw [hv] at C1
  have R : Hid (nameB s = s.extract (lastS s + 1).toNat s.size) := rfl
  have C1 := Lib.hid C1
  have C2 := fun w => rlast_any s w hv hs
  obtain ⟨i, e, hi, _, _⟩ := lastS_spec hv
  rw [e] at C2 R
  have C2 := Lib.hid C2
  clear hv e
  go_enter Tryz.func153, Tryz.ntmps153
  go_wp2_with fail
  refine C1.out.mono ?_
  rintro e w1 ⟨rfl, hb1⟩
  clear C1
  go_wp2_with fail
  refine (C2.out _).mono ?_
  rintro e w2 ⟨rfl, rfl⟩
  clear C2
  go_wp2
  go_ret2
  exact ⟨by rw [R.out]; rfl, hb1⟩

theorem kids_take (M : List (Key × Nd)) (s : ByteArray) (k : Nat) (hk : k < M.length) : kidsOf (M.take (k + 1)) s = kidsOf (M.take k) s ++ if childOf s M[k].2 = true then [(nameK M[k].2, Value.agg #[])] else [] := by
  unfold kidsOf
  rw [List.take_succ_eq_append_getElem hk, List.filter_append, List.map_append]
  congr 1
  by_cases h : childOf s M[k].2 = true
  · rw [if_pos h, List.filter_cons_of_pos (by simpa using h)]; rfl
  · rw [if_neg h, List.filter_cons_of_neg (by simpa using h)]; rfl

def KidsOut (M : List (Key × Nd)) (s : ByteArray) (w : World) (e : Ending) (w' : World) : Prop :=
  ∃ v, e = .returned v ∧ w'.ownsRow w.heap.size 9 1 v (kidsOf M s).length ((kidsOf M s).map fun x => encStr x.1) ∧ Ext w w'

theorem rkids_any (w : World) (b : Nat) (M : List (Key × Nd)) (hR : RT w b (nds M)) (hM : MOk M) (s : ByteArray) (hl : M.length * 16 ≤ 140737488355328) : Calls Tryz.prog 93 #[.pointer (some ⟨b, 0, none⟩), .string s] w (KidsOut M s w) := by
  obtain ⟨a, cap, vs, hb, hlc, hcm, hS, hrows, _⟩ := hR
  have hcb : w.cell? ⟨b, 0, none⟩ = some (.slice a (nds M).length cap) := cell_of_row _ _ _ _ _ _ hb
  have hbl := (Array.getElem?_eq_some_iff.1 hb).1
  rw [nds_length] at hcb
  have hl64 : M.length ≤ 9223372036854775807 := by omega
  have HROWS := Lib.hid hrows
  have HS := Lib.hid hS
  have HM := Lib.hid hM
  have HKL := Lib.hid (fun k => kids_length (M.take k) s)
  clear hb hrows hS hM hlc hcm
  go_enter Tryz.func93, Tryz.ntmps93
  go_wp2
  go_loopw [5, 6] (fun ov i wr => ∃ (k n : Nat), k ≤ M.length ∧ i = .int .i64 k ∧ Hid (n = (kidsOf (M.take k) s).length) ∧ n ≤ k ∧ wr.ownsRow w.heap.size 9 1 ov n ((kidsOf (M.take k) s).map fun x => encStr x.1) ∧ Ext w wr) (fun _ i _ => M.length - (intOf i).toNat)
  case atStart => exact ⟨0, 0, Nat.zero_le _, rfl, rfl, Nat.le_refl _, World.ownsRow_nil _ _ _ _, Ext.refl _⟩
  case round =>
    obtain ⟨k, q, hk, rfl, HN, hqk, hown, hE⟩ := hrel
    have hcr : wr.cell? ⟨b, 0, none⟩ = some (.slice a M.length cap) := (hE.cell (p := ⟨b, 0, none⟩) hbl).trans hcb
    by_cases hlt : k < M.length
    · have hMk : (nds M)[k]? = some M[k].2 := by unfold nds; rw [List.getElem?_map, List.getElem?_eq_getElem hlt]; rfl
      obtain ⟨bl, off, da, dc, aa, ac, ea, hSb, hc, _⟩ := HROWS.out.row hMk
      subst ea
      have hright := HM.out.right M[k] (List.getElem_mem hlt)
      have hst := kids_take M s k hlt
      have hfit := (right_fit hright).1
      have hv := right_vpath hright
      generalize M[k].2 = n at *
      have c0 : wr.cell? ⟨bl, off + k * 17, none⟩ = some (.string n.path) := (hE.cell (p := ⟨bl, off + k * 17, none⟩) (HS.out bl hSb).1).trans (hc 0 _ rfl)
      have hbS : bl ≠ b := (HS.out bl hSb).2
      have hp64 := hfit.path
      have hroot := root_iff hv
      have HE := Lib.hid hE
      have HOWN := Lib.hid hown
      clear hc hE hMk hown
      by_cases h1 : n.path.size = 1
      · have e2 : n.path.toList = [47] := by rw [ByteArray.toList_eq]; exact hroot.1 h1
        have e1 : (n.path.toList == [47]) = true := by simpa using e2
        have hch : childOf s n = false := by unfold childOf; simp [h1]
        rw [hch] at hst
        have HST := Lib.hid hst
        clear hst hch hroot hright
        go_wp2
        go_roundw
        case rel => exact ⟨k + 1, q, by omega, by go_num, by unfold Hid; rw [HST.out]; simpa using HN.out, by omega, by rw [HST.out]; simpa using HOWN.out, HE.out⟩
        case measure => simp [intOf]; omega
      · have e2 : ¬ n.path.toList = [47] := by rw [ByteArray.toList_eq]; exact fun h => h1 (hroot.2 h)
        have e1 : (n.path.toList == [47]) = false := by simpa using e2
        have CP := rparent_any n.path wr hp64
        rw [show parV n.path = .tuple #[.string (parentB n.path), .int .i64 0] by unfold parV; rw [if_pos ⟨hv, h1⟩]] at CP
        have CP := Lib.hid CP
        by_cases hps : parentB n.path = s
        · have hch : childOf s n = true := childOf_iff.2 ⟨h1, hps⟩
          rw [hch] at hst
          have HST := Lib.hid hst
          have p2 : (parentB n.path).toList = s.toList := by rw [hps]
          have p1 : ((parentB n.path).toList == s.toList) = true := by simpa using p2
          clear hst hch hroot hright
          go_wp2_with fail
          refine CP.out.mono ?_
          rintro e w2 ⟨rfl, hE2⟩
          have hE2 : Ext wr w2 := hE2
          have hz2 := hE2.size
          have hzr := HE.out.size
          have c2 : w2.cell? ⟨bl, off + k * 17, none⟩ = some (.string n.path) := (hE2.cell (p := ⟨bl, off + k * 17, none⟩) (World.block_lt_of_cell? _ _ c0)).trans c0
          have hcr2 : w2.cell? ⟨b, 0, none⟩ = some (.slice (some ⟨bl, off, none⟩) M.length cap) := (hE2.cell (p := ⟨b, 0, none⟩) (World.block_lt_of_cell? _ _ hcr)).trans hcr
          have CN := Lib.hid (rname_any n.path w2 hv hp64)
          have HE2 := Lib.hid (HE.out.trans hE2)
          have HO2 := Lib.hid (HOWN.out.kept (ext_grown hE2 none) (Classical.em _))
          clear hE2 CP c0 hcr hcb HOWN
          go_wp2_with fail
          refine CN.out.mono ?_
          rintro e w3 ⟨rfl, hE3⟩
          have hE3 : Ext w2 w3 := hE3
          have hz3 := hE3.size
          have hrow7 := HO2.out.kept (ext_grown hE3 none) (Classical.em _)
          have hrow8 := hrow7.alloc (.cells #[.string (nameB n.path)] 9)
          have hs1 : Cells (w3.alloc (.cells #[.string (nameB n.path)] 9)).heap.size (w3.alloc (.cells #[.string (nameB n.path)] 9)) (some ⟨w3.heap.size, 0, none⟩) [.string (nameB n.path)] := fun j u hj => by
            refine ⟨_, 0, rfl, by simp, ?_⟩
            rw [Nat.zero_add, cell_of_row _ _ _ _ _ _ (heap_alloc_new w3 _)]
            simpa using hj
          have hsrc : Src Tryz.prog 1 56 (.slice (some ⟨w3.heap.size, 0, none⟩) 1 1) 1 [.string (nameB n.path)] (w3.alloc (.cells #[.string (nameB n.path)] 9)) := hs1.src Tryz.underlying56 1 1 (by simp) (fun u hu => by simp at hu; subst hu; rfl)
          obtain ⟨i0, hi, hz0, hz1', hz2'⟩ := strInfo
          have hE8 : Ext w (w3.alloc (.cells #[.string (nameB n.path)] 9)) := (HE2.out.trans hE3).trans (Ext.alloc _ _)
          have HE8 := Lib.hid hE8
          have HO8 := Lib.hid hrow8
          clear CN hE3 hs1 hE8 hrow7 HO2 c2 hcr2 HE2 HE
          go_wp2_with (at_builtin; refine wpList_append_src _ rfl (.tmp 56) (.tmp 58) 56 56 rfl w.heap.size 9 i0 (.string ⟨#[]⟩) 1 16 Tryz.underlying56 hi hz0 hz1' hz2' rfl (by decide) _ q _ rfl hrow8 _ 1 _ rfl hsrc ?c1 ?c2 ?c3 ?_)
          case c1 => unfold maxLen; omega
          case c2 => omega
          case c3 => simp; omega
          intro v' w9 hown9 hg9 _ ho9
          have hE9 : Ext w w9 := HE8.out.trans' ⟨hg9.os, hg9.tape, hg9.output, hg9.size, fun i hi => hg9.block i (Nat.lt_of_lt_of_le hi HE8.out.size) (fun e => by
            have := (HO8.out.lt i e.symm).1
            omega)⟩
          have hown9' : w9.ownsRow w.heap.size 9 1 v' (q + 1) ((kidsOf (M.take (k + 1)) s).map fun x => encStr x.1) := by
            rw [HST.out]
            simpa [encStr, nameK] using hown9
          have hq9 : q + 1 = (kidsOf (M.take (k + 1)) s).length := by rw [HST.out, HN.out]; simp
          have HO9 := Lib.hid hown9'
          have HE9 := Lib.hid hE9
          have HQ9 := Lib.hid hq9
          clear hown9 hown9' hE9 hg9 ho9 hrow8 hsrc HO8 hq9
          go_wp2
          go_roundw
          case rel => exact ⟨k + 1, q + 1, by omega, by go_num, HQ9.out, by omega, HO9.out, HE9.out⟩
          case measure => simp [intOf]; omega
        · have hch : childOf s n = false := by
            cases h : childOf s n with
            | false => rfl
            | true => exact absurd (childOf_iff.1 h).2 hps
          rw [hch] at hst
          have HST := Lib.hid hst
          have p2 : ¬ (parentB n.path).toList = s.toList := fun h => hps (ba_ext (by rw [← ByteArray.toList_eq, ← ByteArray.toList_eq]; exact h))
          have p1 : ((parentB n.path).toList == s.toList) = false := by simpa using p2
          clear hst hch hroot hright
          go_wp2_with fail
          refine CP.out.mono ?_
          rintro e w2 ⟨rfl, hE2⟩
          have hE2 : Ext wr w2 := hE2
          have HE2 := Lib.hid (HE.out.trans hE2)
          have HO2 := Lib.hid (HOWN.out.kept (ext_grown hE2 none) (Classical.em _))
          clear hE2 CP c0 hcr hcb HOWN
          go_wp2
          go_roundw
          case rel => exact ⟨k + 1, q, by omega, by go_num, by unfold Hid; rw [HST.out]; simpa using HN.out, by omega, by rw [HST.out]; simpa using HO2.out, HE2.out⟩
          case measure => simp [intOf]; omega
    · obtain rfl : k = M.length := by omega
      rw [List.take_length] at hown HN
      have hfin : KidsOut M s w (.returned u5) wr := ⟨_, rfl, by rw [← HN.out]; exact hown, hE⟩
      have HFIN := Lib.hid hfin
      clear hfin hown hE hcb
      go_wp2
      go_ret
      exact HFIN.out
end Go.Proofs.YthinpbdbhijbgaaGreatDoor
