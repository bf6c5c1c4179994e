/- The walks of arborref10's Begin and arborlaw10's same. The walk of a quota book's Exceeds. The ranges of a node's numbers, as it is opened. The law QuotaExceeds, walked. -/
import Derived.Test.YtamolbegmkngdaaGreatDoorJQuotaExceeds1
import Derived.BigQuiet
import Derived.Test.YtamolbegmkngdaaGreatDoorJQuotaMore15
import Derived.Test.YtamolbegmkngdaaGreatDoorJQuotaMore6
import Derived.Test.YtamolbegmkngdaaGreatDoorJQuotaMore16
namespace Go.Proofs.YtamolbegmkngdaaGreatDoor
open Go.RowKit Go.Sort
set_option maxHeartbeats 4000000
set_option maxRecDepth 100000

theorem infoEnt : (Tryz.prog.info? 157).map (fun i => (i.zero, i.size, i.bytes)) = some (some (.agg #[.string ⟨#[]⟩, .int .i64 0, .int .i64 0]), 3, 32) := by kernel_rfl
def entV (M : List (Key × Nd)) (n : Nd) : List Value := [.string n.path, .int .i64 (undK M n.path).length, .int .i64 (bytesK M (undK M n.path))]
theorem flat3 {α : Type} (f : α → List Value) (h3 : ∀ x, (f x).length = 3) : ∀ (L : List α) (i : Nat) (x : α), L[i]? = some x → ∀ j u, (f x)[j]? = some u → (L.flatMap f)[i * 3 + j]? = some u
  | [], i, x, h, _, _, _ => by simp at h
  | y :: L, 0, x, h, j, u, hj => by
    have e : y = x := by simpa using h
    subst e
    have hl := (List.getElem?_eq_some_iff.1 hj).1
    rw [List.flatMap_cons, List.getElem?_append_left (by omega), show 0 * 3 + j = j by omega]; exact hj
  | y :: L, i + 1, x, h, j, u, hj => by
    rw [List.flatMap_cons, List.getElem?_append_right (by rw [h3]; omega), h3, show (i + 1) * 3 + j - 3 = i * 3 + j by omega]
    exact flat3 f h3 L i x (by simpa using h) j u hj
/-- A slice that shows what is used at these nodes. -/
def EntsAt (M : List (Key × Nd)) (B : Nat) (w : World) (a : Option Addr) (L : List Nd) : Prop := ∀ i n, L[i]? = some n → ∃ b off, a = some ⟨b, off, none⟩ ∧ b < B ∧ ∀ j u, (entV M n)[j]? = some u → w.cell? ⟨b, off + i * 3 + j, none⟩ = some u
theorem EntsAt.ext {M : List (Key × Nd)} {w w' : World} {a : Option Addr} {L : List Nd} (h : EntsAt M w.heap.size w a L) (hE : Ext w w') : EntsAt M w'.heap.size w' a L := fun i n hi => by
  obtain ⟨b, off, e, hb, hc⟩ := h i n hi
  exact ⟨b, off, e, Nat.lt_of_lt_of_le hb hE.size, fun j u hj => (hE.cell (p := ⟨b, off + i * 3 + j, none⟩) hb).trans (hc j u hj)⟩
theorem EntsAt.of_own {M : List (Key × Nd)} {w : World} {base : Nat} {v : Value} {L : List Nd} (h : w.ownsRow base 157 3 v L.length (L.flatMap (entV M))) : ∃ a c, v = .slice a L.length c ∧ EntsAt M w.heap.size w a L := by
  obtain ⟨a, c, rfl, hc⟩ := ownsRow_cells h
  refine ⟨a, c, rfl, fun i n hi => ?_⟩
  obtain ⟨b, off, rfl, hb, _⟩ := hc (i * 3 + 0) _ (flat3 (entV M) (fun _ => rfl) L i n hi 0 _ rfl)
  refine ⟨b, off, rfl, hb, fun j u hj => ?_⟩
  obtain ⟨b', off', e, _, hcc⟩ := hc (i * 3 + j) _ (flat3 (entV M) (fun _ => rfl) L i n hi j u hj)
  simp only [Option.some.injEq, Addr.mk.injEq, and_true] at e
  rw [e.1, e.2, Nat.add_assoc]; exact hcc

theorem wpList_append_ent {M : List (Key × Nd)} {ops : Array Oper} {rest : List Oper} {o : Oper} {a : Act} {Q : Exit → Act → World → Prop} {W5 : World} (hgd : o.guard = none) (s x : Operand)
    (ho : o.op = .call { callee := .builtin .append, args := #[s, x], argTypes := #[154, 154] })
    (base n : Nat) (xs : List Value) (ov : Value) (hown : W5.ownsRow base 157 3 ov n xs) (hb : base ≤ W5.heap.size) (t : ByteArray) (c d : Int) (hl : (n + 1) * 32 ≤ 140737488355328)
    (hs : a.eval s = ov) (hx : a.eval x = .slice (some ⟨W5.heap.size, 0, none⟩) 1 1)
    (hK : ∀ v' W6, W6.ownsRow base 157 3 v' (n + 1) (xs ++ [.string t, .int .i64 c, .int .i64 d]) → (∀ w0, Ext w0 W5 → w0.heap.size ≤ base → Ext w0 W6) → wpList Tryz.prog ops Q rest (a.put o.dst v') W6) : wpList Tryz.prog ops Q (o :: rest) a (W5.alloc (.cells #[.string t, .int .i64 c, .int .i64 d] 157)) := by
  have hrow8 := hown.alloc (.cells #[.string t, .int .i64 c, .int .i64 d] 157)
  have hs1 : Cells (W5.alloc (.cells #[.string t, .int .i64 c, .int .i64 d] 157)).heap.size (W5.alloc (.cells #[.string t, .int .i64 c, .int .i64 d] 157)) (some ⟨W5.heap.size, 0, none⟩) [.string t, .int .i64 c, .int .i64 d] := fun j u hj => by
    refine ⟨_, 0, rfl, by simp, ?_⟩
    rw [Nat.zero_add, cell_of_row _ _ _ _ _ _ (heap_alloc_new W5 _)]
    simpa using hj
  have hsrc : Src Tryz.prog 3 154 (.slice (some ⟨W5.heap.size, 0, none⟩) 1 1) 1 [.string t, .int .i64 c, .int .i64 d] (W5.alloc (.cells #[.string t, .int .i64 c, .int .i64 d] 157)) := hs1.src Tryz.underlying154 1 1 (by simp) (fun u hu => by
    simp only [List.mem_cons, List.not_mem_nil, or_false] at hu
    rcases hu with rfl | rfl | rfl <;> rfl)
  obtain ⟨i0, hi, hz0, hz1', hz2'⟩ := info_parts infoEnt
  refine wpList_append_src _ hgd s x 154 154 ho base 157 i0 (.agg #[.string ⟨#[]⟩, .int .i64 0, .int .i64 0]) 3 32 Tryz.underlying154 hi hz0 hz1' hz2' rfl (by decide) ov n xs hs hrow8 _ 1 _ hx hsrc (by unfold maxLen; omega) hl (by simp; omega) ?_
  intro v' w9 hown9 hg9 _ _
  refine hK v' w9 hown9 fun w0 hE0 hb0 => ?_
  have hE8 : Ext w0 (W5.alloc (.cells #[.string t, .int .i64 c, .int .i64 d] 157)) := hE0.trans (Ext.alloc _ _)
  exact hE8.trans' ⟨hg9.os, hg9.tape, hg9.output, hg9.size, fun i hi => hg9.block i (Nat.lt_of_lt_of_le hi hE8.size) (fun e => by
    have := (hown.lt i e.symm).1
    omega)⟩

/-- The nodes with quotas, of the first ones. -/
def begT (L : List Nd) (k : Nat) : List Nd := (L.take k).filter (·.has)
theorem begT_succ (L : List Nd) (k : Nat) (hk : k < L.length) : begT L (k + 1) = begT L k ++ if L[k].has = true then [L[k]] else [] := by
  unfold begT
  rw [List.take_succ_eq_append_getElem hk, List.filter_append]
  congr 1
  by_cases h : L[k].has = true
  · rw [if_pos h, List.filter_cons_of_pos h]; rfl
  · rw [if_neg h, List.filter_cons_of_neg h]; rfl
theorem begT_le (L : List Nd) (k : Nat) : (begT L k).length ≤ k := by
  unfold begT
  refine Nat.le_trans (List.length_filter_le _ _) ?_
  rw [List.length_take]; omega
def begL (M : List (Key × Nd)) : List Nd := (nds M).filter (·.has)
def RBegOut (M : List (Key × Nd)) (w : World) (e : Ending) (w' : World) : Prop := ∃ a c, e = .returned (.slice a (begL M).length c) ∧ EntsAt M w'.heap.size w' a (begL M) ∧ Ext w w'

theorem rbegin_nil (w : World) : Calls Tryz.prog 99 #[.pointer none] w (RBegOut [] w) := by
  have HFIN := Lib.hid (show RBegOut [] w (.returned (.slice none 0 0)) w from ⟨none, 0, rfl, fun i n hi => (by simp [begL, nds] at hi), Ext.refl _⟩)
  go_enter Tryz.func99, Tryz.ntmps99
  go_wp2
  go_loopw [3, 4] (fun lv i wr => lv = .slice none 0 0 ∧ i = .int .i64 0 ∧ wr = w) (fun _ _ _ => 0)
  case atStart => exact ⟨rfl, rfl, rfl⟩
  case round =>
    obtain ⟨rfl, rfl, rfl⟩ := hrel
    go_wp2
    go_ret
    exact HFIN.out

theorem rbegin_any (w : World) (b : Nat) (M : List (Key × Nd)) (hR : RT w b (nds M)) (hM : MOk M) (hl : M.length * 168 ≤ 140737488355328) :
    Calls Tryz.prog 99 #[.pointer (some ⟨b, 0, none⟩)] w (RBegOut M w) := by
  have CW := Lib.hid fun W t (h : Ext w W) (ht : t.size ≤ 9223372036854775800) => rweigh_any W b M (hR.ext h) hM t ht hl
  obtain ⟨a, cap, vs, hb, hlc, hcm, hS, hrows, _⟩ := hR
  have hcb : w.cell? ⟨b, 0, none⟩ = some (.slice a (nds M).length cap) := cell_of_row _ _ _ _ _ _ hb
  have hbl := (Array.getElem?_eq_some_iff.1 hb).1
  have hnl : (nds M).length ≤ 837723144972 := by rw [nds_length]; omega
  have hre : begT (nds M) (nds M).length = begL M := by unfold begT begL; rw [List.take_length]
  have hgt : ∀ n ∈ nds M, mget M n.path.data.toList = some n ∧ n.path.size ≤ 4096 := fun n hn => by
    obtain ⟨x, hx, rfl⟩ := List.mem_map.1 hn
    refine ⟨mget_of_mem hM.sorted (by have := hM.key x hx; unfold keyN at this; rw [← this]; exact hx), (vpath_facts (right_vpath (hM.right x hx))).2.1⟩
  generalize nds M = L at *
  have HROWS := Lib.hid hrows
  have HS := Lib.hid hS
  have HRE := Lib.hid hre
  have HGT := Lib.hid hgt
  clear hb hrows hS hM hlc hcm hre hgt
  go_enter Tryz.func99, Tryz.ntmps99
  go_wp2
  go_loopw [3, 4] (fun lv i wr => ∃ k : Nat, k ≤ L.length ∧ i = .int .i64 k ∧ Hid (wr.ownsRow w.heap.size 157 3 lv (begT L k).length ((begT L k).flatMap (entV M))) ∧ Ext w wr) (fun _ i _ => L.length - (intOf i).toNat)
  case atStart => exact ⟨0, Nat.zero_le _, rfl, World.ownsRow_nil _ _ _ _, Ext.refl _⟩
  case round =>
    obtain ⟨k, hk, rfl, HO, hE⟩ := hrel
    have hcr : wr.cell? ⟨b, 0, none⟩ = some (.slice a L.length cap) := (hE.cell (p := ⟨b, 0, none⟩) hbl).trans hcb
    have hzr := hE.size
    by_cases hlt : k < L.length
    · obtain ⟨bl, off, da, dc, aa, ac, ea, hSb, hc, _⟩ := HROWS.out.row (List.getElem?_eq_getElem hlt)
      subst ea
      have hsucc := begT_succ L k hlt
      have hle := begT_le L k
      obtain ⟨hgn, hsn⟩ := HGT.out L[k] (List.getElem_mem hlt)
      generalize L[k] = n at *
      have c0 : wr.cell? ⟨bl, off + k * 17, none⟩ = some (.string n.path) := (hE.cell (p := ⟨bl, off + k * 17, none⟩) (HS.out bl hSb).1).trans (hc 0 _ rfl)
      have c14 : wr.cell? ⟨bl, off + k * 17 + 14, none⟩ = some (.bool n.has) := (hE.cell (p := ⟨bl, off + k * 17 + 14, none⟩) (HS.out bl hSb).1).trans (hc 14 _ rfl)
      have HSUCC := Lib.hid hsucc
      have CW1 := CW.out wr n.path hE (by omega)
      unfold WeighOut at CW1
      rw [hgn] at CW1
      simp only [Option.isSome_some, if_true] at CW1
      have CW1 := Lib.hid CW1
      have HE := Lib.hid hE
      clear hc hE hsucc hgn
      cases hh : n.has with
      | false =>
        rw [hh] at HSUCC c14
        have hst : begT L (k + 1) = begT L k := by rw [HSUCC.out]; simp
        have HST := Lib.hid hst
        clear hst CW1 hh
        go_wp2
        go_roundw
        case rel => exact ⟨k + 1, by omega, by go_num, by unfold Hid; rw [HST.out]; exact HO.out, HE.out⟩
        case measure => simp [intOf]; omega
      | true =>
        rw [hh] at HSUCC c14
        have hst : begT L (k + 1) = begT L k ++ [n] := by rw [HSUCC.out]; simp
        have HST := Lib.hid hst
        clear hst hh
        have hev : entV M n = [.string n.path, .int .i64 (undK M n.path).length, .int .i64 (bytesK M (undK M n.path))] := rfl
        have HEV := Lib.hid hev
        clear hev
        generalize ((undK M n.path).length : Int) = uc at *
        generalize (bytesK M (undK M n.path) : Int) = ub at *
        go_wp2_with fail
        refine CW1.out.mono ?_
        rintro e w2 ⟨rfl, hE2⟩
        have hE2 : Ext wr w2 := hE2
        have hz2 := hE2.size
        have hO2 := HO.out.kept (grown_of_ext hE2 none) (Classical.em _)
        have hcr2 : w2.cell? ⟨b, 0, none⟩ = some (.slice (some ⟨bl, off, none⟩) L.length cap) := (hE2.cell (p := ⟨b, 0, none⟩) (World.block_lt_of_cell? _ _ hcr)).trans hcr
        have c02 : w2.cell? ⟨bl, off + k * 17, none⟩ = some (.string n.path) := (hE2.cell (p := ⟨bl, off + k * 17, none⟩) (World.block_lt_of_cell? _ _ c0)).trans c0
        have HE2 := Lib.hid (HE.out.trans hE2)
        clear CW1 hE2 hcr c0 c14
        go_wp2_with (at_builtin; refine wpList_append_ent (M := M) rfl (.tmp 44) (.tmp 57) rfl w.heap.size (begT L k).length _ _ hO2 (by omega) n.path uc ub (by omega) rfl rfl ?_)
        intro v' W6 hO6 hE6
        have hO6' : W6.ownsRow w.heap.size 157 3 v' (begT L (k + 1)).length ((begT L (k + 1)).flatMap (entV M)) := by
          rw [HST.out, List.length_append, List.flatMap_append, List.flatMap_singleton, HEV.out]
          exact hO6
        have HO6 := Lib.hid hO6'
        have HE6 := Lib.hid (hE6 w HE2.out (Nat.le_refl _))
        clear hO6 hO6' hE6 hO2 hcr2 c02
        go_wp2
        go_roundw
        case rel => exact ⟨k + 1, by omega, by go_num, HO6.out, HE6.out⟩
        case measure => simp [intOf]; omega
    · obtain rfl : k = L.length := by omega
      rw [HRE.out] at HO
      obtain ⟨oa, oc, rfl, hen⟩ := EntsAt.of_own HO.out
      have HFIN := Lib.hid (show RBegOut M w (.returned (.slice oa (begL M).length oc)) wr from ⟨oa, oc, rfl, hen, hE⟩)
      clear hE HO HROWS hen
      go_wp2
      go_ret
      exact HFIN.out

theorem usedL_keys (M : List (Key × Nd)) : (usedL M).map (·.1) = (begL M).map keyN := by unfold usedL usedP begL; rw [List.map_map]; rfl
theorem used_of {M : List (Key × Nd)} (hM : MOk M) {n : Nd} (h : n ∈ begL M) : mget (usedL M) n.path.data.toList = some (usedV M n) := by
  unfold begL nds at h
  obtain ⟨h1, h2⟩ := List.mem_filter.1 h
  refine mget_of_mem ?_ ?_
  · unfold MSorted usedL usedP
    rw [List.pairwise_map]
    refine List.Pairwise.filter _ ?_
    unfold nds
    rw [List.pairwise_map]
    exact hM.sorted.imp_of_mem fun {a b} ha hb h => by
      show bytesBefore (keyN a.2) (keyN b.2) = true
      rw [← hM.key a ha, ← hM.key b hb]; exact h
  · unfold usedL usedP nds
    exact List.mem_map.2 ⟨n, List.mem_filter.2 ⟨h1, h2⟩, rfl⟩

theorem same10_any (w : World) (bb bm : Nat) (M : List (Key × Nd)) (rv : Value) (hB : BookAt w bb bm (usedL M)) (hM : MOk M) (hl : M.length * 168 ≤ 140737488355328) (hR : ∀ W, Ext w W → Calls Tryz.prog 99 #[rv] W (RBegOut M W)) :
    Calls Tryz.prog 32 #[.pointer (some ⟨bb, 0, none⟩), rv] w fun e w' => e = .returned (.bool true) ∧ Ext w w' := by
  have C1 := Lib.hid (show Calls Tryz.prog 99 #[rv] w fun e w' => ∃ a c, e = .returned (.slice a (begL M).length c) ∧ EntsAt M w'.heap.size w' a (begL M) ∧ Ext w w' from hR w (Ext.refl _))
  have hbl : (begL M).length ≤ M.length := by
    have := List.length_filter_le (fun n : Nd => n.has) (nds M)
    rw [nds_length] at this; exact this
  have hul : (usedL M).length = (begL M).length := by
    have := congrArg List.length (usedL_keys M)
    rwa [List.length_map, List.length_map] at this
  have C2 := Lib.hid fun W (h : Ext w W) => (show Calls Tryz.prog 68 #[.pointer (some ⟨bb, 0, none⟩)] W fun e w' => ∃ a c, e = .returned (.slice a (begL M).length c) ∧ StrsAt w'.heap.size w' a ((begL M).map (·.path)) ∧ Ext W w' from by
    refine (qlist_any W bb bm (usedL M) (hB.ext h) (by omega)).mono ?_
    rintro e w' ⟨v, rfl, hrow, _, hE⟩
    rw [usedL_keys] at hrow
    obtain ⟨a, c, rfl, _, hs⟩ := StrsAt.of_own hrow
    rw [List.length_map]
    refine ⟨a, c, rfl, ?_, hE⟩
    rw [List.map_map] at hs
    have e : (begL M).map ((fun k : Key => (⟨k.toArray⟩ : ByteArray)) ∘ keyN) = (begL M).map (·.path) := List.map_congr_left fun n _ => by simp [keyN]
    rw [e] at hs
    exact hs)
  have CU := Lib.hid fun W (n : Nd) (h : Ext w W) (hn : n ∈ begL M) => (show Calls Tryz.prog 67 #[.pointer (some ⟨bb, 0, none⟩), .string n.path] W fun e w' => e = .returned (.tuple #[.agg #[.int .i64 (undK M n.path).length, .int .i64 (bytesK M (undK M n.path))], .bool true]) ∧ Ext W w' from by
    have hn' := hn
    unfold begL nds at hn'
    obtain ⟨x, hx, rfl⟩ := List.mem_map.1 (List.mem_filter.1 hn').1
    have hps := (vpath_facts (right_vpath (hM.right x hx))).2.1
    have := qused_any W bb bm (usedL M) (hB.ext h) (usedP_pairs _ _) x.2.path (by unfold maxLen; omega)
    unfold usedAt at this
    rw [used_of hM hn] at this
    exact this)
  have hent : ∀ n : Nd, entV M n = [.string n.path, .int .i64 (undK M n.path).length, .int .i64 (bytesK M (undK M n.path))] := fun _ => rfl
  have HENT := Lib.hid hent
  generalize begL M = L at *
  clear hR hB hM hent hul
  go_enter Tryz.func32, Tryz.ntmps32
  go_wp2_with fail
  refine C1.out.mono ?_
  rintro e W1 ⟨ea, ec, rfl, hen, hE1⟩
  have hE1 : Ext w W1 := hE1
  have HEN := Lib.hid hen
  have HE1 := Lib.hid hE1
  have CL := Lib.hid (C2.out W1 hE1)
  clear C1 C2 hen hE1
  go_wp2_with fail
  refine CL.out.mono ?_
  rintro e W2 ⟨sa, sc, rfl, hst, hE2⟩
  have hE2 : Ext W1 W2 := hE2
  have HST := Lib.hid hst
  have HEN2 := Lib.hid (HEN.out.ext hE2)
  have HE2 := Lib.hid (HE1.out.trans hE2)
  clear CL HEN hst hE2
  go_wp2
  go_loopw [7] (fun i wr => ∃ k : Nat, k ≤ L.length ∧ i = .int .i64 k ∧ Ext W2 wr) (fun i _ => L.length - (intOf i).toNat)
  case atStart => exact ⟨0, Nat.zero_le _, rfl, Ext.refl _⟩
  case round =>
    obtain ⟨k, hk, rfl, hE⟩ := hrel
    by_cases hlt : k < L.length
    · obtain ⟨b1, o1, rfl, hb1, hc1⟩ := HST.out k L[k].path (by rw [List.getElem?_map, List.getElem?_eq_getElem hlt]; rfl)
      obtain ⟨b2, o2, rfl, hb2, hc2⟩ := HEN2.out k L[k] (List.getElem?_eq_getElem hlt)
      have hmem := List.getElem_mem hlt
      generalize L[k] = n at *
      have CU1 := Lib.hid (CU.out wr n (HE2.out.trans hE) hmem)
      have s0 := (hE.cell (p := ⟨b1, o1 + k, none⟩) hb1).trans hc1
      have e0 := (hE.cell (p := ⟨b2, o2 + k * 3, none⟩) hb2).trans (hc2 0 _ (by rw [HENT.out]; rfl))
      have e1 := (hE.cell (p := ⟨b2, o2 + k * 3 + 1, none⟩) hb2).trans (hc2 1 _ (by rw [HENT.out]; rfl))
      have e2 := (hE.cell (p := ⟨b2, o2 + k * 3 + 2, none⟩) hb2).trans (hc2 2 _ (by rw [HENT.out]; rfl))
      have HE := Lib.hid hE
      generalize ((undK M n.path).length : Int) = uc at *
      generalize (bytesK M (undK M n.path) : Int) = ub at *
      clear hE hc1 hc2 hmem
      go_wp2_with fail
      refine CU1.out.mono ?_
      rintro e w3 ⟨rfl, hE3⟩
      have hE3 : Ext wr w3 := hE3
      obtain ⟨X3, hX3⟩ : ∃ X3, X3 = w3.alloc (.cells #[.int .i64 uc, .int .i64 ub] 110) := ⟨_, rfl⟩
      have HSET := Lib.hid ((setRow_alloc w3 zeroUsed #[.int .i64 uc, .int .i64 ub] 110).trans hX3.symm)
      have HNEW := Lib.hid (heap_alloc_new w3 (.cells zeroUsed 110))
      have hEX : Ext wr X3 := hE3.trans (by rw [hX3]; exact Ext.alloc _ _)
      have hb3 : X3.heap[w3.heap.size]? = some (.cells #[.int .i64 uc, .int .i64 ub] 110 (0, 0)) := by rw [hX3]; exact heap_alloc_new w3 _
      have u0 : X3.cell? ⟨w3.heap.size, 0, none⟩ = some (.int .i64 uc) := cell_of_row _ _ _ _ _ _ hb3
      have u1 : X3.cell? ⟨w3.heap.size, 1, none⟩ = some (.int .i64 ub) := cell_of_row _ _ _ _ _ _ hb3
      have q0 := (hEX.cell (p := ⟨b1, o1 + k, none⟩) (World.block_lt_of_cell? _ _ s0)).trans s0
      have q1 := (hEX.cell (p := ⟨b2, o2 + k * 3, none⟩) (World.block_lt_of_cell? _ _ e0)).trans e0
      have q2 := (hEX.cell (p := ⟨b2, o2 + k * 3 + 1, none⟩) (World.block_lt_of_cell? _ _ e1)).trans e1
      have q3 := (hEX.cell (p := ⟨b2, o2 + k * 3 + 2, none⟩) (World.block_lt_of_cell? _ _ e2)).trans e2
      have HE3 := Lib.hid (HE.out.trans hEX)
      unfold zeroUsed at HSET HNEW
      clear CU1 hE3 hX3 hEX hb3 s0 e0 e1 e2
      go_wp2_with (refine wpList_store_row rfl 110 (.tmp 8) (.tmp 33) rfl w3.heap.size _ rfl rfl 110 _ HNEW.out sizeUsed rfl (by simp [Value.oneCell']) ?_; rw [HSET.out])
      go_quiet (fail)
      go_wp2
      go_roundw
      case rel => exact ⟨k + 1, by omega, by go_num, HE3.out.trans' (below_drewN (Below.refl _ _) _)⟩
      case measure => simp [intOf]; omega
    · obtain rfl : k = L.length := by omega
      have HFIN : Hid (Ext w wr) := HE2.out.trans hE
      clear hE
      go_wp2
      go_ret
      exact ⟨rfl, HFIN.out⟩
end Go.Proofs.YtamolbegmkngdaaGreatDoor
namespace Go.Proofs.YtamolbegmkngdaaGreatDoor
open Go.RowKit Go.Sort
set_option maxHeartbeats 4000000
set_option maxRecDepth 100000

theorem qexceeds_b (pv : Value) (M : List (Key × Nd)) (w : World) (hM : MOk M) (hG : GetsM pv M w) (s : ByteArray) (hs : s.size ≤ 9223372036854775800) (dn db : Int) (x : Nat) (uc ub : Nd → Int)
    (hU : ∀ W n, Ext w W → n ∈ overL M s → Calls Tryz.prog 98 #[.string n.path, .pointer (some ⟨x, 0, none⟩)] W fun e w' => e = .returned (.agg #[.int .i64 (uc n), .int .i64 (ub n)]) ∧ Ext W w') :
    Calls Tryz.prog 84 #[pv, .string s, .int .i64 dn, .int .i64 db, .func (.func 98) #[] #[.pointer (some ⟨x, 0, none⟩)]] w (ExcOut (fun n => passB n.count (uc n) dn || passB n.bytes (ub n) db) (overL M s) w) := by
  have C1 := Lib.hid (qover_any pv M w hM hG s hs)
  have hle := overL_le M s
  have HU := Lib.hid hU
  clear hG hU
  generalize overL M s = L at *
  generalize hPP : (fun n : Nd => passB n.count (uc n) dn || passB n.bytes (ub n) db) = PP
  have HPP := Lib.hid (fun n => (congrFun hPP n).symm)
  clear hPP
  go_enter Tryz.func84, Tryz.ntmps84
  go_wp2_with fail
  refine C1.out.mono ?_
  rintro e W1 ⟨v, rfl, hown, hE1⟩
  obtain ⟨a, c, vs, rfl, _, _, hrows, _⟩ := hown.rows
  have HROWS := Lib.hid hrows
  have HE1 := Lib.hid hE1
  have hz1 := hE1.size
  clear C1 hown hrows hE1
  go_wp2
  go_loopw [19] (fun i wr => ∃ k : Nat, k ≤ L.length ∧ i = .int .i64 k ∧ Hid (L.find? PP = (L.drop k).find? PP) ∧ Ext W1 wr) (fun i _ => L.length - (intOf i).toNat)
  case atStart => exact ⟨0, Nat.zero_le _, rfl, rfl, Ext.refl _⟩
  case round =>
    obtain ⟨k, hk, rfl, HF, hE⟩ := hrel
    by_cases hlt : k < L.length
    · obtain ⟨bl, off, da, dc, aa, ac, ea, hSb, hc, hD, hA, _⟩ := HROWS.out.row (List.getElem?_eq_getElem hlt)
      subst ea
      have hskip := find_skip (P := PP) hlt
      have hhit := find_hit (P := PP) hlt
      have hmem := List.getElem_mem hlt
      have hP := HPP.out L[k]
      generalize L[k] = n at *
      have hcw : ∀ j u, (ndC n (.slice da n.data.length dc) (.slice aa n.acl.length ac))[j]? = some u → wr.cell? ((⟨bl, off + k * 17, none⟩ : Addr).add j) = some u := fun j u hj => by
        rw [addr_add, hE.cell (p := ⟨bl, off + k * 17 + j, none⟩) hSb.2]; exact hc j u hj
      obtain ⟨X1, hX1⟩ : ∃ X1, X1 = wr.alloc (.cells (ndC n (.slice da n.data.length dc) (.slice aa n.acl.length ac)) 47) := ⟨_, rfl⟩
      have HSET1 := Lib.hid ((setRow_alloc wr zeroNd (ndC n (.slice da n.data.length dc) (.slice aa n.acl.length ac)) 47).trans hX1.symm)
      have HNEW1 := Lib.hid (heap_alloc_new wr (.cells zeroNd 47))
      have hEX1 : Ext wr X1 := by rw [hX1]; exact Ext.alloc _ _
      have hb1 : X1.heap[wr.heap.size]? = some (.cells (ndC n (.slice da n.data.length dc) (.slice aa n.acl.length ac)) 47 (0, 0)) := by rw [hX1]; exact heap_alloc_new wr _
      have hp : X1.cell? ⟨wr.heap.size, 0, none⟩ = some (.string n.path) := cell_of_row _ _ _ _ _ _ hb1
      have HE := Lib.hid (hE.trans hEX1)
      have CU := Lib.hid (HU.out X1 n (HE1.out.trans HE.out) hmem)
      have HC := Lib.hid hcw
      have HB1 := Lib.hid hb1
      have HHIT := Lib.hid hhit
      have HSKIP := Lib.hid hskip
      have HP := Lib.hid hP
      unfold ndC at HC HSET1
      unfold zeroNd at HSET1 HNEW1
      clear hcw hc hD hA hE hX1 hEX1 hb1 hskip hhit hmem hP
      go_wp2_with (first | (refine wpList_load_at rfl 47 (.tmp 21) rfl _ rfl _ _ HC.out Tryz.underlying47 rfl sizeNd ?_) | (refine wpList_store_row rfl 47 (.tmp 13) (.tmp 22) rfl wr.heap.size _ rfl rfl 47 _ HNEW1.out sizeNd rfl (cells_node n da aa _ _ dc ac) ?_; rw [HSET1.out]))
      refine CU.out.mono ?_
      rintro e X2 ⟨rfl, hE2⟩
      have hE2 : Ext X1 X2 := hE2
      obtain ⟨X3, hX3⟩ : ∃ X3, X3 = X2.alloc (.cells #[.int .i64 (uc n), .int .i64 (ub n)] 110) := ⟨_, rfl⟩
      have HSET2 := Lib.hid ((setRow_alloc X2 zeroUsed #[.int .i64 (uc n), .int .i64 (ub n)] 110).trans hX3.symm)
      have HNEW2 := Lib.hid (heap_alloc_new X2 (.cells zeroUsed 110))
      have hE3 : Ext X1 X3 := hE2.trans (by rw [hX3]; exact Ext.alloc _ _)
      have hb3 : X3.heap[X2.heap.size]? = some (.cells #[.int .i64 (uc n), .int .i64 (ub n)] 110 (0, 0)) := by rw [hX3]; exact heap_alloc_new X2 _
      have hbn : X3.heap[wr.heap.size]? = some (.cells (ndC n (.slice da n.data.length dc) (.slice aa n.acl.length ac)) 47 (0, 0)) := (hE3.block wr.heap.size (Array.getElem?_eq_some_iff.1 HB1.out).1).trans HB1.out
      have u0 : X3.cell? ⟨X2.heap.size, 0, none⟩ = some (.int .i64 (uc n)) := cell_of_row _ _ _ _ _ _ hb3
      have u1 : X3.cell? ⟨X2.heap.size, 1, none⟩ = some (.int .i64 (ub n)) := cell_of_row _ _ _ _ _ _ hb3
      have n0 : X3.cell? ⟨wr.heap.size, 0, none⟩ = some (.string n.path) := cell_of_row _ _ _ _ _ _ hbn
      have n15 : X3.cell? ⟨wr.heap.size, 15, none⟩ = some (.int .i64 n.count) := cell_of_row _ _ _ _ _ _ hbn
      have n16 : X3.cell? ⟨wr.heap.size, 16, none⟩ = some (.int .i64 n.bytes) := cell_of_row _ _ _ _ _ _ hbn
      have CP1 := Lib.hid (passes_any n.count (uc n) dn X3)
      have CP2 := Lib.hid (passes_any n.bytes (ub n) db X3)
      have HE3 := Lib.hid (HE.out.trans hE3)
      unfold zeroUsed at HSET2 HNEW2
      clear CU hE2 hX3 hE3 hb3 hbn hp HB1 HC HSET1 HNEW1
      have hfin : PP n = true → ExcOut PP L w (.returned (.tuple #[.string n.path, .bool true])) X3 := fun h => ⟨by rw [HF.out, HHIT.out h], HE1.out.trans HE3.out⟩
      have HFIN := Lib.hid hfin
      clear hfin
      cases h1 : passB n.count (uc n) dn with
      | true =>
        rw [h1] at CP1 HP
        have HX := Lib.hid (HFIN.out (by rw [HP.out]; rfl))
        clear h1 HFIN CP2
        go_wp2_with (refine wpList_store_row rfl 110 (.tmp 14) (.tmp 26) rfl X2.heap.size _ rfl rfl 110 _ HNEW2.out sizeUsed rfl (by simp [Value.oneCell']) ?_; rw [HSET2.out])
        refine CP1.out.mono ?_
        rintro e X4 ⟨rfl, rfl⟩
        clear CP1
        go_wp2
        go_ret2
        exact HX.out
      | false =>
        rw [h1] at CP1 HP
        cases h2 : passB n.bytes (ub n) db with
        | true =>
          rw [h2] at CP2 HP
          have HX := Lib.hid (HFIN.out (by rw [HP.out]; rfl))
          clear h1 h2 HFIN
          go_wp2_with (refine wpList_store_row rfl 110 (.tmp 14) (.tmp 26) rfl X2.heap.size _ rfl rfl 110 _ HNEW2.out sizeUsed rfl (by simp [Value.oneCell']) ?_; rw [HSET2.out])
          refine CP1.out.mono ?_
          rintro e X4 ⟨rfl, rfl⟩
          clear CP1
          go_wp2_with fail
          refine CP2.out.mono ?_
          rintro e X5 ⟨rfl, rfl⟩
          clear CP2
          go_wp2
          go_ret2
          exact HX.out
        | false =>
          rw [h2] at CP2 HP
          have hf := HF.out.trans (HSKIP.out (by rw [HP.out]; rfl))
          have HF2 := Lib.hid hf
          clear h1 h2 HFIN hf
          go_wp2_with (refine wpList_store_row rfl 110 (.tmp 14) (.tmp 26) rfl X2.heap.size _ rfl rfl 110 _ HNEW2.out sizeUsed rfl (by simp [Value.oneCell']) ?_; rw [HSET2.out])
          refine CP1.out.mono ?_
          rintro e X4 ⟨rfl, rfl⟩
          clear CP1
          go_wp2_with fail
          refine CP2.out.mono ?_
          rintro e X5 ⟨rfl, rfl⟩
          clear CP2 u0 u1 n0 n15 n16
          go_wp2
          go_roundw
          case rel => exact ⟨k + 1, by omega, by go_num, HF2.out, HE3.out⟩
          case measure => simp [intOf]; omega
    · obtain rfl : k = L.length := by omega
      have hfin : ExcOut PP L w (.returned (.tuple #[.string ⟨#[]⟩, .bool false])) wr := ⟨by rw [HF.out, List.drop_length]; rfl, HE1.out.trans hE⟩
      have HFIN := Lib.hid hfin
      clear hfin hE
      go_wp2
      go_ret2
      exact HFIN.out


theorem qbex1_any (x bb bm : Nat) (m : List (Key × Value)) (q : ByteArray) (c b : Int) (w : World) (hx : w.cell? ⟨x, 0, none⟩ = some (.pointer (some ⟨bb, 0, none⟩))) (hB : BookAt w bb bm m) (hv : Pairs m) (hq : q.size ≤ maxLen) (hcb : usedAt m q = .agg #[.int .i64 c, .int .i64 b]) :
    Calls Tryz.prog 98 #[.string q, .pointer (some ⟨x, 0, none⟩)] w fun e w' => e = .returned (.agg #[.int .i64 c, .int .i64 b]) ∧ Ext w w' := by
  obtain ⟨W1, hW1⟩ : ∃ W1, W1 = w.alloc (.cells zeroUsed 110) := ⟨_, rfl⟩
  have hE1 : Ext w W1 := by rw [hW1]; exact Ext.alloc _ _
  have hr1 : W1.heap[w.heap.size]? = some (.cells zeroUsed 110 (0, 0)) := by rw [hW1]; exact heap_alloc_new w _
  have hx1 : (w.alloc (.cells zeroUsed 110)).cell? ⟨x, 0, none⟩ = some (.pointer (some ⟨bb, 0, none⟩)) := by rw [← hW1]; exact (hE1.cell (p := ⟨x, 0, none⟩) (World.block_lt_of_cell? _ _ hx)).trans hx
  have CU := qused_any W1 bb bm m (hB.ext hE1) hv q hq
  rw [hcb] at CU
  have CU := Lib.hid CU
  generalize (mget m q.data.toList).isSome = th at *
  have HW1 := Lib.hid hW1
  have HR1 := Lib.hid hr1
  have HE1 := Lib.hid hE1
  unfold zeroUsed at HW1 hx1
  clear hW1 hr1 hE1 hx hB hcb
  go_enter Tryz.func98, Tryz.ntmps98
  go_wp2_with fail
  rw [← HW1.out]
  refine CU.out.mono ?_
  rintro e W2 ⟨rfl, hE2⟩
  have hE2 : Ext W1 W2 := hE2
  obtain ⟨X3, hX3⟩ : ∃ X3, X3 = W2.alloc (.cells #[.int .i64 c, .int .i64 b] 110) := ⟨_, rfl⟩
  have HSET := Lib.hid ((setRow_alloc W2 zeroUsed #[.int .i64 c, .int .i64 b] 110).trans hX3.symm)
  have HNEW := Lib.hid (heap_alloc_new W2 (.cells zeroUsed 110))
  have hEX : Ext W1 X3 := hE2.trans (by rw [hX3]; exact Ext.alloc _ _)
  have hb3 : X3.heap[W2.heap.size]? = some (.cells #[.int .i64 c, .int .i64 b] 110 (0, 0)) := by rw [hX3]; exact heap_alloc_new W2 _
  have hr3 := (hEX.block w.heap.size (Array.getElem?_eq_some_iff.1 HR1.out).1).trans HR1.out
  have hr4 := setRow_heap X3 w.heap.size _ #[.int .i64 c, .int .i64 b] 110 (0, 0) hr3
  have hE4 : Ext w (X3.setRow w.heap.size #[.int .i64 c, .int .i64 b]) := (HE1.out.trans hEX).trans' ⟨rfl, rfl, rfl, by simp [World.setRow], fun k hk => setRow_other _ _ _ _ (by omega)⟩
  have HB3 := Lib.hid hb3
  have HR3 := Lib.hid hr3
  have HR4 := Lib.hid hr4
  have HE4 := Lib.hid hE4
  unfold zeroUsed at HSET HNEW HR3
  clear CU hE2 hX3 hEX hb3 hr3 hr4 hE4 HW1 hx1
  go_wp2_with (first | (refine wpList_store_row rfl 110 (.tmp 4) (.tmp 10) rfl W2.heap.size _ rfl rfl 110 _ HNEW.out sizeUsed rfl (by simp [Value.oneCell']) ?_; rw [HSET.out]) | (refine wpList_load_row rfl 110 (.tmp 4) rfl W2.heap.size rfl 110 _ (0, 0) _ HB3.out Tryz.underlying110 rfl sizeUsed ?_) | (refine wpList_store_row rfl 110 (.tmp 3) (.tmp 12) rfl w.heap.size _ rfl rfl 110 _ HR3.out sizeUsed rfl (by simp [Value.oneCell']) ?_))
  refine bodyPost_ret (v := .agg #[.int .i64 c, .int .i64 b]) ?_ rfl ⟨rfl, HE4.out⟩
  exact results_cell_row (p := 3) (ty := 110) rfl _ _ w.heap.size 110 #[.int .i64 c, .int .i64 b] (0, 0) _ rfl HR4.out Tryz.underlying110 rfl sizeUsed

theorem qbExceeds_any (pv : Value) (M : List (Key × Nd)) (w : World) (bb bm : Nat) (m : List (Key × Value)) (hB : BookAt w bb bm m) (hv : Pairs m) (uc ub : Nd → Int) (hu : ∀ s n, n ∈ overL M s → usedAt m n.path = .agg #[.int .i64 (uc n), .int .i64 (ub n)]) (hM : MOk M) (hG : GetsM pv M w) (s : ByteArray) (hs : s.size ≤ 9223372036854775800) (dn db : Int) :
    Calls Tryz.prog 31 #[.pointer (some ⟨bb, 0, none⟩), pv, .string s, .int .i64 dn, .int .i64 db] w (ExcOut (fun n => passB n.count (uc n) dn || passB n.bytes (ub n) db) (overL M s) w) := by
  obtain ⟨W1, hW1⟩ : ∃ W1, W1 = w.alloc (.cells #[.pointer (some ⟨bb, 0, none⟩)] 57) := ⟨_, rfl⟩
  have hE1 : Ext w W1 := by rw [hW1]; exact Ext.alloc _ _
  have hx : W1.cell? ⟨w.heap.size, 0, none⟩ = some (.pointer (some ⟨bb, 0, none⟩)) := by rw [hW1]; exact cell_of_row _ _ _ _ _ _ (heap_alloc_new w _)
  have C := qexceeds_b pv M W1 hM (fun W t h1 h2 => hG W t (hE1.trans h1) h2) s hs dn db w.heap.size uc ub (fun W n h hn => by
    have hf := (overL_fit hM hn).path
    exact qbex1_any w.heap.size bb bm m n.path (uc n) (ub n) W ((h.cell (p := ⟨w.heap.size, 0, none⟩) (World.block_lt_of_cell? _ _ hx)).trans hx) ((hB.ext hE1).ext h) hv (by unfold maxLen; omega) (hu s n hn))
  generalize (fun n : Nd => passB n.count (uc n) dn || passB n.bytes (ub n) db) = PP at *
  have HW1 := Lib.hid hW1
  have HE1 := Lib.hid hE1
  unfold ExcOut at C ⊢
  clear hG hB hu hx hW1 hE1
  cases hf : (overL M s).find? PP with
  | none =>
    rw [hf] at C
    have C := Lib.hid C
    clear hf
    go_enter Tryz.func31, Tryz.ntmps31
    go_wp2_with fail
    rw [← HW1.out]
    refine C.out.mono ?_
    rintro e W2 ⟨rfl, hE2⟩
    have HFIN : Hid (Ext w W2) := HE1.out.trans hE2
    clear C hE2 HW1
    go_wp2
    go_ret2
    exact ⟨rfl, HFIN.out⟩
  | some n =>
    rw [hf] at C
    have C := Lib.hid C
    clear hf
    go_enter Tryz.func31, Tryz.ntmps31
    go_wp2_with fail
    rw [← HW1.out]
    refine C.out.mono ?_
    rintro e W2 ⟨rfl, hE2⟩
    have HFIN : Hid (Ext w W2) := HE1.out.trans hE2
    clear C hE2 HW1
    go_wp2
    go_ret2
    exact ⟨rfl, HFIN.out⟩
end Go.Proofs.YtamolbegmkngdaaGreatDoor
namespace Go.Proofs.YtamolbegmkngdaaGreatDoor
open Go.ChangeShapes Go.WideShapes Go.ChangeAt Go.RowKit Go.Deep
set_option maxHeartbeats 2000000
set_option maxRecDepth 100000

/-- A node's numbers are what their types hold. -/
def Ir (n : Nd) : Prop := (∀ z ∈ [n.owner, n.czxid, n.mzxid, n.pzxid, n.azxid, n.qzxid, n.ctime, n.mtime, n.count, n.bytes], (Lit.int .i64 z).wf = true) ∧ ∀ z ∈ [n.version, n.creates, n.aversion], (Lit.int .i32 z).wf = true
theorem wf_i64 {z : Int} (h : (Lit.int .i64 z).wf = true) : -9223372036854775808 ≤ z ∧ z ≤ 9223372036854775807 := by
  simp [Lit.wf, IntKind.wrap] at h
  first | omega | exact h | (have := h; unfold wrap64 at this; omega)

section
variable {H : Type} {enc : TypeId × Value → H} {w : World} {fuel : Nat}
theorem node_rng {n : Nd} {da aa : Option Addr} {dc ac : Nat} {x : DataW H × List MemPlace} (h : DataW.trod enc Tryz.prog w 0 (fun _ => true) true fuel 47 (ndC n (.slice da n.data.length dc) (.slice aa n.acl.length ac)).toList = some x) : Ir n := by
  obtain ⟨xs, m, _, rfl, hl, hn, hf⟩ := DataW.trod_struct Tryz.underlying47 h
  match xs, hn with
  | [x0, x1, x2, x3, x4, x5, x6, x7, x8, x9, x10, x11, x12, x13, x14], _ =>
    have f3 := hf 3 _ rfl
    have f4 := hf 4 _ rfl
    have f5 := hf 5 _ rfl
    have f6 := hf 6 _ rfl
    have f7 := hf 7 _ rfl
    have f8 := hf 8 _ rfl
    have f9 := hf 9 _ rfl
    have f10 := hf 10 _ rfl
    have f11 := hf 11 _ rfl
    have f12 := hf 12 _ rfl
    have f13 := hf 13 _ rfl
    have f14 := hf 14 _ rfl
    clear hf h
    unfold ndC at f3 f4 f5 f6 f7 f8 f9 f10 f11 f12 f13 f14
    simp [Tryz.cells_str, Tryz.cells_u8s, Tryz.cells_acls, Tryz.cells_i64, Tryz.cells_i32, Tryz.cells_quota] at f3 f4 f5 f6 f7 f8 f9 f10 f11 f12 f13 f14
    obtain ⟨z3, e3, _, r3⟩ := DataW.trod_int Tryz.underlying2 f3
    obtain ⟨z4, e4, _, r4⟩ := DataW.trod_int Tryz.underlying2 f4
    obtain ⟨z5, e5, _, r5⟩ := DataW.trod_int Tryz.underlying2 f5
    obtain ⟨z6, e6, _, r6⟩ := DataW.trod_int Tryz.underlying2 f6
    obtain ⟨z7, e7, _, r7⟩ := DataW.trod_int Tryz.underlying2 f7
    obtain ⟨z8, e8, _, r8⟩ := DataW.trod_int Tryz.underlying2 f8
    obtain ⟨z9, e9, _, r9⟩ := DataW.trod_int Tryz.underlying2 f9
    obtain ⟨z10, e10, _, r10⟩ := DataW.trod_int Tryz.underlying2 f10
    obtain ⟨z11, e11, _, r11⟩ := DataW.trod_int Tryz.underlying21 f11
    obtain ⟨z12, e12, _, r12⟩ := DataW.trod_int Tryz.underlying21 f12
    obtain ⟨z13, e13, _, r13⟩ := DataW.trod_int Tryz.underlying21 f13
    obtain ⟨q0, q1, q2, m2, _, _, g0, g1, g2⟩ := trod_struct3 Tryz.underlying45 f14
    simp only [Tryz.cells_bool, Tryz.cells_i64, List.drop_succ_cons, List.drop_zero, List.take_succ_cons, List.take_zero] at g0 g1 g2
    obtain ⟨z15, e15, _, r15⟩ := DataW.trod_int Tryz.underlying2 g1
    obtain ⟨z16, e16, _, r16⟩ := DataW.trod_int Tryz.underlying2 g2
    simp only [List.cons.injEq, and_true, Value.int.injEq, true_and] at e3 e4 e5 e6 e7 e8 e9 e10 e11 e12 e13 e15 e16
    subst e3 e4 e5 e6 e7 e8 e9 e10 e11 e12 e13 e15 e16
    refine ⟨fun z hz => ?_, fun z hz => ?_⟩
    · simp only [List.mem_cons, List.not_mem_nil, or_false] at hz
      rcases hz with rfl | rfl | rfl | rfl | rfl | rfl | rfl | rfl | rfl | rfl <;> assumption
    · simp only [List.mem_cons, List.not_mem_nil, or_false] at hz
      rcases hz with rfl | rfl | rfl <;> assumption

/-- A slice of nodes, opened. -/
theorem open_nodes_r {v : Value} {x : DataW H × List MemPlace} (h : DataW.trod enc Tryz.prog w 0 (fun _ => true) true fuel 22 [v] = some x) (hz : Light 22 x.1) :
    ∃ (l : List Nd) (a : Option Addr) (cap : Nat), v = .slice a l.length cap ∧ l.length * 168 ≤ 140737488355328 ∧ (∀ n ∈ l, Fit n ∧ Ir n) ∧ NdsAt w.heap.size w a l ∧ l.length ≤ cap := by
  rcases open_slice Tryz.underlying22 h with ⟨hcs, rfl⟩ | ⟨a, len, cap, m, n, D, Pl, hcs, _, hl, hm, hmm, rfl, hx⟩
  · simp only [List.cons.injEq, and_true] at hcs
    subst hcs
    exact ⟨[], none, 0, rfl, by simp, by simp, fun i n h => (by simp at h), by simp⟩
  · simp only [List.cons.injEq, and_true] at hcs
    subst hcs
    simp only [if_true] at hmm
    subst hmm
    have hw := light_len Tryz.underlying22 hz
    rw [Tryz.bytes_node] at hw
    simp only [List.length_map, List.length_range] at hw
    obtain ⟨X, hX⟩ := choose_lt (n := len) (p := fun i (n : Nd) => ∃ v, NdV w.heap.size w v n ∧ (∀ r u, v.cells[r]? = some u → w.cell? ((a.add (i * 17)).add r) = some u) ∧ (Fit n ∧ Ir n) ∧ v.cells[0]? ≠ none) fun i hi => by
      obtain ⟨cs', h1, h2⟩ := hx i (by omega)
      obtain ⟨n, da, aa, dc, ac, rfl, hf, hD, hA⟩ := open_node h2 (light_elem Tryz.underlying22 hz (List.mem_map.2 ⟨i, List.mem_range.2 hi, rfl⟩))
      rw [Tryz.cells_node] at h1
      obtain ⟨_, _, h3⟩ := World.cells?_some h1
      refine ⟨n, _, ⟨da, dc, aa, ac, rfl, hD, hA⟩, fun r u hr => ?_, ⟨hf, node_rng h2⟩, fun h => by cases h⟩
      have hr' : (ndC n (.slice da n.data.length dc) (.slice aa n.acl.length ac))[r]? = some u := hr
      rw [h3 r (by have := (Array.getElem?_eq_some_iff.1 hr').1; simpa [ndC] using this)]
      simpa using hr'
    refine ⟨(List.range len).map X, some a, m, by simp, by simp; omega, fun x hx' => ?_, fun j n hj => ?_, by simp; omega⟩
    · obtain ⟨i, hi, rfl⟩ := List.mem_map.1 hx'
      obtain ⟨_, _, _, h, _⟩ := hX i (List.mem_range.1 hi)
      exact h
    · simp only [List.getElem?_map] at hj
      by_cases hi : j < len
      · rw [List.getElem?_range hi] at hj
        simp only [Option.map_some, Option.some.injEq] at hj
        subst hj
        obtain ⟨v, hv, hc, _, _⟩ := hX j hi
        obtain ⟨_, _, hc00, _, h0⟩ := hX 0 (by omega)
        obtain ⟨u0, hu0⟩ := Option.ne_none_iff_exists'.1 h0
        have hc0 := hc00 0 _ hu0
        have hsp := World.cell?_spot hc0
        have hlt := World.block_lt_of_cell? _ _ hc0
        obtain ⟨b, off, sp⟩ := a
        obtain rfl : sp = none := by simpa [Addr.add] using hsp
        refine ⟨b, off, v, rfl, by simpa [Addr.add] using hlt, hv, fun r u hr => ?_⟩
        have := hc r u hr
        rw [add_plain, add_plain] at this
        rw [← this]
      · rw [List.getElem?_eq_none (by simp; omega)] at hj
        simp at hj
end
end Go.Proofs.YtamolbegmkngdaaGreatDoor
namespace Go.Proofs.YtamolbegmkngdaaGreatDoor
open Go.RowKit Go.Sort
set_option maxHeartbeats 8000000
set_option maxRecDepth 100000

theorem find_congr {P Q : Nd → Bool} : ∀ {L : List Nd}, (∀ x ∈ L, P x = Q x) → L.find? P = L.find? Q
  | [], _ => rfl
  | x :: L, h => by
    rw [List.find?_cons, List.find?_cons, h x (List.mem_cons_self ..), find_congr fun y hy => h y (List.mem_cons_of_mem _ hy)]
theorem exc_congr {P Q : Nd → Bool} {L : List Nd} (h : ∀ x ∈ L, P x = Q x) {w w' : World} {e : Ending} (h2 : ExcOut P L w e w') : ExcOut Q L w e w' := by
  unfold ExcOut at h2 ⊢
  rw [← find_congr h]; exact h2
theorem AllsM.nil (w : World) (ga : Nat) : AllsM (.pointer none) [] w ga := fun W _ _ => by
  refine (tall_nil W).mono ?_
  rintro e W1 ⟨bw, btb, rfl, hcw, hE1⟩
  exact ⟨bw, btb, rfl, told_tells_nil (fun _ k => k ≠ ga) W1 bw btb 122 #[.pointer none] #[] hcw (enters_of Tryz.func122 (by kernel_rfl) rfl)
    (fun W _ => (show Calls Tryz.prog 122 #[.pointer none] W _ from (sorted_nil W).mono fun e w' h => by obtain ⟨rfl, rfl⟩ := h; exact ⟨rfl, Ext.refl _⟩)), hE1⟩

/-- What laid hands back, in all that layer 10 asks of it. -/
structure Both (pv rv : Value) (M : List (Key × Nd)) (w : World) : Prop where
  ptr : ∃ po, pv = .pointer po
  ok : MOk M
  gets : GetsM pv M w
  weighs : WeighsM pv M w
  alls : ∀ ga, w.heap.size ≤ ga → AllsM pv M w ga
  over : ∀ W s, Ext w W → s.size ≤ 9223372036854775800 → Calls Tryz.prog 30 #[rv, .string s] W (TextsOut ((overL M s).map (·.path)) W)
  exc : ∀ W s dn db, Ext w W → s.size ≤ 9223372036854775800 → Calls Tryz.prog 27 #[rv, .string s, .int .i64 dn, .int .i64 db] W (ExcOut (rpassB M dn db) (overL M s) W)
  beg : ∀ W, Ext w W → Calls Tryz.prog 99 #[rv] W (RBegOut M W)
theorem overL_nil (s : ByteArray) : overL [] s = [] := by
  unfold overL
  split
  · rw [List.flatMap_eq_nil_iff]
    intro q _
    rfl
  · rfl
theorem laid_both {L : List Nd} {w w' : World} {e : Ending} (hl : L.length * 168 ≤ 140737488355328) (h : LaidOut L w e w') : ∃ pv rv M, e = .returned (.tuple #[pv, rv, .bool true]) ∧ Both pv rv M w' ∧ (∀ x ∈ M, x.2 ∈ L) ∧ M.length ≤ L.length ∧ Ext w w' := by
  unfold LaidOut at h
  cases hfr : fromN L with
  | error x =>
    rw [hfr] at h
    obtain ⟨rfl, hE⟩ := h
    refine ⟨_, _, [], rfl, ⟨⟨_, rfl⟩, MOk.nil, GetsM.nil _, WeighsM.nil _ _, fun ga _ => AllsM.nil _ _, fun W s _ _ => ?_, fun W s dn db _ _ => ?_, fun W _ => rbegin_nil W⟩, fun x hx => by simp at hx, Nat.zero_le _, hE⟩
    · rw [overL_nil]; exact rover_nil s W
    · rw [overL_nil]
      exact (rExceeds_nil s dn db W).mono fun e w' h => h
  | ok M =>
    rw [hfr] at h
    obtain ⟨bt, br, rfl, hT, hR, _, hE⟩ := h
    have hml := hT.len
    have hok := hT.ok
    refine ⟨_, _, M, rfl, ⟨⟨_, rfl⟩, hok, GetsM.of_tree hT, WeighsM.of_tree hT (fromN_clo hok hfr) (by omega), fun ga hga => AllsM.of_tree hT (by omega) ga hga, fun W s h hs => rover_any W br M (hR.ext h) hok s hs (by omega), fun W s dn db h hs => rExceeds_any W br M (hR.ext h) hok s hs (by omega) dn db, fun W h => rbegin_any W br M (hR.ext h) hok (by omega)⟩, ?_, hml, hE⟩
    intro x hx
    unfold fromN at hfr
    cases hf : fromL L 0 [] with
    | error e => rw [hf] at hfr; cases hfr
    | ok M1 =>
      rw [hf] at hfr
      simp only at hfr
      split at hfr
      · cases hfr
      cases hp : parL M1 L 0 with
      | error e => rw [hp] at hfr; cases hfr
      | ok u =>
        rw [hp] at hfr
        simp only [Except.ok.injEq] at hfr
        subst hfr
        rcases fromL_mem L 0 [] M1 hf x hx with h | h
        · simp at h
        · exact h
theorem Both.ext {pv rv : Value} {M : List (Key × Nd)} {w w' : World} (h : Both pv rv M w) (hE : Ext w w') : Both pv rv M w' :=
  ⟨h.ptr, h.ok, fun W t h1 h2 => h.gets W t (hE.trans h1) h2, fun W n h1 h2 => h.weighs W n (hE.trans h1) h2, fun ga hga W h1 h2 => h.alls ga (Nat.le_trans hE.size hga) W (hE.trans h1) h2, fun W s h1 h2 => h.over W s (hE.trans h1) h2, fun W s dn db h1 h2 => h.exc W s dn db (hE.trans h1) h2, fun W h1 => h.beg W (hE.trans h1)⟩

theorem rpass_over {M : List (Key × Nd)} (hM : MOk M) (hl : M.length * 168 ≤ 140737488355328) (hir : ∀ x ∈ M, Ir x.2) {dn db : Int} (h1 : dn ≤ 9223372036854775807) (h2 : db ≤ 9223372036854775807) {s : ByteArray} : ∀ n ∈ overL M s, rpassB M dn db n = overB M dn db n := fun n hn => by
  have hg := (overL_there hM hn).1
  have hi := hir _ (mget_some_mem hg)
  have hc := wf_i64 (hi.1 n.count (by simp))
  have hb := wf_i64 (hi.1 n.bytes (by simp))
  have hu := undK_length_le M n.path
  have hk := bytesK_le hM (undK M n.path)
  unfold rpassB overB
  rw [above_pass (by omega) (by omega) h1 hc.1 hc.2, above_pass (by omega) (by omega) h2 hb.1 hb.2]

theorem qexc_walk (L : List Nd) (a : Option Addr) (c : Nat) (s : ByteArray) (dn db : Int) (w : World) (hT : Tabs w) (hL : NdsAt w.heap.size w a L) (hf : ∀ n ∈ L, Fit n ∧ Ir n) (hl : L.length * 168 ≤ 140737488355328) (hs : s.size ≤ 9223372036854775800) (hdn : dn ≤ 9223372036854775807) (hdb : db ≤ 9223372036854775807) :
    Calls Tryz.prog 6 #[.slice a L.length c, .string s, .int .i64 dn, .int .i64 db] w fun e w' => e = .returned (.bool true) ∧ Below w.heap.size w w' := by
  have hsz := hT.size
  have C1 := Lib.hid (laid10_any L a c w hT hL (fun n hn => (hf n hn).1) hl)
  have HT := Lib.hid hT
  have HF := Lib.hid hf
  clear hL hf hT
  go_enter Tryz.func6, Tryz.ntmps6
  go_wp2_with fail
  refine C1.out.mono ?_
  intro e W1 hout
  obtain ⟨pv, rv, M, rfl, hB, hML, hlen, hE1⟩ := laid_both hl hout
  obtain ⟨po, rfl⟩ := hB.ptr
  have hMl : M.length * 168 ≤ 140737488355328 := by omega
  have hpo := fun s => rpass_over (s := s) hB.ok hMl (fun x hx => (HF.out _ (hML x hx)).2) hdn hdb
  have C2 := Lib.hid (live10_any W1 (HT.out.below hE1 hsz))
  have hfo : ∀ x y, (overL M s).find? (overB M x y) = firstO M s x y := fun _ _ => rfl
  have CE := Lib.hid fun W (h : Ext W1 W) => (qExceeds_any _ ⟨_, rfl⟩ M W hB.ok (hB.ext h).gets (hB.ext h).weighs s hs dn db).mono fun e w' h => exc_out h
  have CR := Lib.hid fun W (h : Ext W1 W) => (hB.exc W s dn db h hs).mono fun e w' h => exc_out (exc_congr (hpo s) h)
  have CB := Lib.hid fun W (h : Ext W1 W) => qbegin_any _ ⟨_, rfl⟩ M W hB.ok (hB.ext h).alls (hB.ext h).weighs hMl
  have CO := Lib.hid fun W (h : Ext W1 W) => (qOver_any _ M W hB.ok (hB.ext h).gets s hs).mono fun e w' h => texts_out h
  have CP := Lib.hid fun W (h : Ext W1 W) => (hB.over W s h hs).mono fun e w' h => texts_out h
  have hbu : ∀ s n, n ∈ overL M s → usedAt (usedL M) n.path = .agg #[.int .i64 (undK M n.path).length, .int .i64 (bytesK M (undK M n.path))] := fun s n hn => by
    obtain ⟨h1, h2, _⟩ := overL_there hB.ok hn
    unfold usedAt
    rw [used_of hB.ok (show n ∈ begL M from List.mem_filter.2 ⟨List.mem_map.2 ⟨_, mget_some_mem h1, rfl⟩, h2⟩)]
    rfl
  have CX := Lib.hid fun W bb bm (h : Ext W1 W) (hk : BookAt W bb bm (usedL M)) => (show Calls Tryz.prog 31 #[.pointer (some ⟨bb, 0, none⟩), .pointer po, .string s, .int .i64 dn, .int .i64 db] W (ExcOut (overB M dn db) (overL M s) W) from
    qbExceeds_any _ M W bb bm (usedL M) hk (usedP_pairs _ _) _ _ hbu hB.ok (hB.ext h).gets s hs dn db).mono fun e w' h => exc_out h
  have CS := Lib.hid fun W bb bm (h : Ext W1 W) (hk : BookAt W bb bm (usedL M)) => same10_any W bb bm M rv hk hB.ok hMl (hB.ext h).beg
  have hle := overL_le M s
  have HE1 := Lib.hid hE1
  clear hout C1 hE1 hB hML hpo hbu hfo
  generalize hp1 : excP ((overL M s).find? (overB M dn db)) = p1 at *
  generalize hb1 : ((overL M s).find? (overB M dn db)).isSome = b1 at *
  generalize hLL : (overL M s).map (·.path) = LP at *
  have hLPl : LP.length ≤ 4096 := by rw [← hLL, List.length_map]; exact hle
  clear hp1 hb1 hLL hle
  have hpp : (p1.toList != p1.toList) = false := by simp
  have hbb : (b1 != b1) = false := by cases b1 <;> rfl
  have hbe : (b1 == b1) = true := by cases b1 <;> rfl
  go_wp2_with fail
  refine C2.out.mono ?_
  rintro e W2 ⟨rfl, hE2⟩
  have hE2 : Ext W1 W2 := hE2
  have C3 := Lib.hid (CE.out W2 hE2)
  have HE2 := Lib.hid hE2
  clear C2 hE2 CE
  go_wp2_with fail
  refine C3.out.mono ?_
  rintro e W3 ⟨rfl, hE3⟩
  have HE3 := Lib.hid (HE2.out.trans hE3)
  have C4 := Lib.hid (CR.out W3 HE3.out)
  clear C3 hE3 CR
  go_wp2_with fail
  refine C4.out.mono ?_
  rintro e W4 ⟨rfl, hE4⟩
  have HE4 := Lib.hid (HE3.out.trans hE4)
  have C5 := Lib.hid (CB.out W4 HE4.out)
  clear C4 hE4 CB
  go_wp2_with fail
  refine C5.out.mono ?_
  rintro e W5 ⟨bb, bm, rfl, hbk, _, _, hE5⟩
  have hE5 : Ext W4 W5 := hE5
  have HE5 := Lib.hid (HE4.out.trans hE5)
  have HBK := Lib.hid hbk
  have C6 := Lib.hid (CO.out W5 HE5.out)
  clear C5 hE5 hbk CO
  go_wp2_with fail
  refine C6.out.mono ?_
  rintro e W6 ⟨oa, oc, rfl, hst, hE6⟩
  have hE6 : Ext W5 W6 := hE6
  have HST := Lib.hid hst
  have HK6 := Lib.hid hE6
  have HE6 := Lib.hid (HE5.out.trans hE6)
  have C7 := Lib.hid (CP.out W6 HE6.out)
  clear C6 hE6 hst CP
  go_wp2_with fail
  refine C7.out.mono ?_
  rintro e W7 ⟨ra, rc, rfl, hst, hE7⟩
  have hE7 : Ext W6 W7 := hE7
  have HK7 := Lib.hid (HK6.out.trans hE7)
  have HE7 := Lib.hid (HE6.out.trans hE7)
  have C8 := Lib.hid (sameTexts_self LP oa ra oc rc W7 (HST.out.ext hE7) hst (by omega))
  clear C7 hE7 hst HST
  go_wp2_with fail
  refine C8.out.mono ?_
  rintro e W8 ⟨rfl, hE8⟩
  have hE8 : Ext W7 W8 := hE8
  have HK8 := Lib.hid (HK7.out.trans hE8)
  have HE8 := Lib.hid (HE7.out.trans hE8)
  have C9 := Lib.hid (CX.out W8 bb bm HE8.out (HBK.out.ext HK8.out))
  clear C8 hE8 CX
  go_wp2_with fail
  refine C9.out.mono ?_
  rintro e W9 ⟨rfl, hE9⟩
  have hE9 : Ext W8 W9 := hE9
  have HE9 := Lib.hid (HE8.out.trans hE9)
  have C10 := Lib.hid (CS.out W9 bb bm HE9.out (HBK.out.ext (HK8.out.trans hE9)))
  clear C9 hE9 CS
  go_wp2_with fail
  refine C10.out.mono ?_
  rintro e W10 ⟨rfl, hE10⟩
  have HFIN : Hid (Ext w W10) := HE1.out.trans (HE9.out.trans hE10)
  clear C10 hE10
  go_wp2
  go_ret
  exact ⟨rfl, HFIN.out⟩
end Go.Proofs.YtamolbegmkngdaaGreatDoor
