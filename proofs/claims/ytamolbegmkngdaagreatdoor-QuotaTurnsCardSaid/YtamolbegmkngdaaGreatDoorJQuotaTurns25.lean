/- The walks of arborref10's Begin and arborlaw10's same. The law QuotaTurns, walked. -/
import Derived.Test.YtamolbegmkngdaaGreatDoorJQuotaTurns24
import Derived.BigQuiet
import Derived.Test.YtamolbegmkngdaaGreatDoorJQuotaTurns22
import Derived.Test.YtamolbegmkngdaaGreatDoorJQuotaTurns23
namespace Go.Proofs.YtamolbegmkngdaaGreatDoor
open Go.RowKit Go.Sort
set_option maxHeartbeats 4000000
set_option maxRecDepth 100000

theorem infoEnt : (Tryz.prog.info? 157).map (fun i => (i.zero, i.size, i.bytes)) = some (some (.agg #[.string ⟨#[]⟩, .int .i64 0, .int .i64 0]), 3, 32) := by kernel_rfl
def entV (M : List (Key × Nd)) (n : Nd) : List Value := [.string n.path, .int .i64 (undK M n.path).length, .int .i64 (bytesK M (undK M n.path))]
theorem flat3 {α : Type} (f : α → List Value) (h3 : ∀ x, (f x).length = 3) : ∀ (L : List α) (i : Nat) (x : α), L[i]? = some x → ∀ j u, (f x)[j]? = some u → (L.flatMap f)[i * 3 + j]? = some u
  | [], i, x, h, _, _, _ => by simp at h
  | y :: L, 0, x, h, j, u, hj => by
    have e : y = x := by simpa using h
    subst e
    have hl := (List.getElem?_eq_some_iff.1 hj).1
    rw [List.flatMap_cons, List.getElem?_append_left (by omega), show 0 * 3 + j = j by omega]; exact hj
  | y :: L, i + 1, x, h, j, u, hj => by
    rw [List.flatMap_cons, List.getElem?_append_right (by rw [h3]; omega), h3, show (i + 1) * 3 + j - 3 = i * 3 + j by omega]
    exact flat3 f h3 L i x (by simpa using h) j u hj
/-- A slice that shows what is used at these nodes. -/
def EntsAt (M : List (Key × Nd)) (B : Nat) (w : World) (a : Option Addr) (L : List Nd) : Prop := ∀ i n, L[i]? = some n → ∃ b off, a = some ⟨b, off, none⟩ ∧ b < B ∧ ∀ j u, (entV M n)[j]? = some u → w.cell? ⟨b, off + i * 3 + j, none⟩ = some u
theorem EntsAt.ext {M : List (Key × Nd)} {w w' : World} {a : Option Addr} {L : List Nd} (h : EntsAt M w.heap.size w a L) (hE : Ext w w') : EntsAt M w'.heap.size w' a L := fun i n hi => by
  obtain ⟨b, off, e, hb, hc⟩ := h i n hi
  exact ⟨b, off, e, Nat.lt_of_lt_of_le hb hE.size, fun j u hj => (hE.cell (p := ⟨b, off + i * 3 + j, none⟩) hb).trans (hc j u hj)⟩
theorem EntsAt.of_own {M : List (Key × Nd)} {w : World} {base : Nat} {v : Value} {L : List Nd} (h : w.ownsRow base 157 3 v L.length (L.flatMap (entV M))) : ∃ a c, v = .slice a L.length c ∧ EntsAt M w.heap.size w a L := by
  obtain ⟨a, c, rfl, hc⟩ := ownsRow_cells h
  refine ⟨a, c, rfl, fun i n hi => ?_⟩
  obtain ⟨b, off, rfl, hb, _⟩ := hc (i * 3 + 0) _ (flat3 (entV M) (fun _ => rfl) L i n hi 0 _ rfl)
  refine ⟨b, off, rfl, hb, fun j u hj => ?_⟩
  obtain ⟨b', off', e, _, hcc⟩ := hc (i * 3 + j) _ (flat3 (entV M) (fun _ => rfl) L i n hi j u hj)
  simp only [Option.some.injEq, Addr.mk.injEq, and_true] at e
  rw [e.1, e.2, Nat.add_assoc]; exact hcc

theorem wpList_append_ent {M : List (Key × Nd)} {ops : Array Oper} {rest : List Oper} {o : Oper} {a : Act} {Q : Exit → Act → World → Prop} {W5 : World} (hgd : o.guard = none) (s x : Operand)
    (ho : o.op = .call { callee := .builtin .append, args := #[s, x], argTypes := #[154, 154] })
    (base n : Nat) (xs : List Value) (ov : Value) (hown : W5.ownsRow base 157 3 ov n xs) (hb : base ≤ W5.heap.size) (t : ByteArray) (c d : Int) (hl : (n + 1) * 32 ≤ 140737488355328)
    (hs : a.eval s = ov) (hx : a.eval x = .slice (some ⟨W5.heap.size, 0, none⟩) 1 1)
    (hK : ∀ v' W6, W6.ownsRow base 157 3 v' (n + 1) (xs ++ [.string t, .int .i64 c, .int .i64 d]) → (∀ w0, Ext w0 W5 → w0.heap.size ≤ base → Ext w0 W6) → wpList Tryz.prog ops Q rest (a.put o.dst v') W6) : wpList Tryz.prog ops Q (o :: rest) a (W5.alloc (.cells #[.string t, .int .i64 c, .int .i64 d] 157)) := by
  have hrow8 := hown.alloc (.cells #[.string t, .int .i64 c, .int .i64 d] 157)
  have hs1 : Cells (W5.alloc (.cells #[.string t, .int .i64 c, .int .i64 d] 157)).heap.size (W5.alloc (.cells #[.string t, .int .i64 c, .int .i64 d] 157)) (some ⟨W5.heap.size, 0, none⟩) [.string t, .int .i64 c, .int .i64 d] := fun j u hj => by
    refine ⟨_, 0, rfl, by simp, ?_⟩
    rw [Nat.zero_add, cell_of_row _ _ _ _ _ _ (heap_alloc_new W5 _)]
    simpa using hj
  have hsrc : Src Tryz.prog 3 154 (.slice (some ⟨W5.heap.size, 0, none⟩) 1 1) 1 [.string t, .int .i64 c, .int .i64 d] (W5.alloc (.cells #[.string t, .int .i64 c, .int .i64 d] 157)) := hs1.src Tryz.underlying154 1 1 (by simp) (fun u hu => by
    simp only [List.mem_cons, List.not_mem_nil, or_false] at hu
    rcases hu with rfl | rfl | rfl <;> rfl)
  obtain ⟨i0, hi, hz0, hz1', hz2'⟩ := info_parts infoEnt
  refine wpList_append_src _ hgd s x 154 154 ho base 157 i0 (.agg #[.string ⟨#[]⟩, .int .i64 0, .int .i64 0]) 3 32 Tryz.underlying154 hi hz0 hz1' hz2' rfl (by decide) ov n xs hs hrow8 _ 1 _ hx hsrc (by unfold maxLen; omega) hl (by simp; omega) ?_
  intro v' w9 hown9 hg9 _ _
  refine hK v' w9 hown9 fun w0 hE0 hb0 => ?_
  have hE8 : Ext w0 (W5.alloc (.cells #[.string t, .int .i64 c, .int .i64 d] 157)) := hE0.trans (Ext.alloc _ _)
  exact hE8.trans' ⟨hg9.os, hg9.tape, hg9.output, hg9.size, fun i hi => hg9.block i (Nat.lt_of_lt_of_le hi hE8.size) (fun e => by
    have := (hown.lt i e.symm).1
    omega)⟩

/-- The nodes with quotas, of the first ones. -/
def begT (L : List Nd) (k : Nat) : List Nd := (L.take k).filter (·.has)
theorem begT_succ (L : List Nd) (k : Nat) (hk : k < L.length) : begT L (k + 1) = begT L k ++ if L[k].has = true then [L[k]] else [] := by
  unfold begT
  rw [List.take_succ_eq_append_getElem hk, List.filter_append]
  congr 1
  by_cases h : L[k].has = true
  · rw [if_pos h, List.filter_cons_of_pos h]; rfl
  · rw [if_neg h, List.filter_cons_of_neg h]; rfl
theorem begT_le (L : List Nd) (k : Nat) : (begT L k).length ≤ k := by
  unfold begT
  refine Nat.le_trans (List.length_filter_le _ _) ?_
  rw [List.length_take]; omega
def begL (M : List (Key × Nd)) : List Nd := (nds M).filter (·.has)
def RBegOut (M : List (Key × Nd)) (w : World) (e : Ending) (w' : World) : Prop := ∃ a c, e = .returned (.slice a (begL M).length c) ∧ EntsAt M w'.heap.size w' a (begL M) ∧ Ext w w'

theorem rbegin_nil (w : World) : Calls Tryz.prog 99 #[.pointer none] w (RBegOut [] w) := by
  have HFIN := Lib.hid (show RBegOut [] w (.returned (.slice none 0 0)) w from ⟨none, 0, rfl, fun i n hi => (by simp [begL, nds] at hi), Ext.refl _⟩)
  go_enter Tryz.func99, Tryz.ntmps99
  go_wp2
  go_loopw [3, 4] (fun lv i wr => lv = .slice none 0 0 ∧ i = .int .i64 0 ∧ wr = w) (fun _ _ _ => 0)
  case atStart => exact ⟨rfl, rfl, rfl⟩
  case round =>
    obtain ⟨rfl, rfl, rfl⟩ := hrel
    go_wp2
    go_ret
    exact HFIN.out

theorem rbegin_any (w : World) (b : Nat) (M : List (Key × Nd)) (hR : RT w b (nds M)) (hM : MOk M) (hl : M.length * 168 ≤ 140737488355328) :
    Calls Tryz.prog 99 #[.pointer (some ⟨b, 0, none⟩)] w (RBegOut M w) := by
  have CW := Lib.hid fun W t (h : Ext w W) (ht : t.size ≤ 9223372036854775800) => rweigh_any W b M (hR.ext h) hM t ht hl
  obtain ⟨a, cap, vs, hb, hlc, hcm, hS, hrows, _⟩ := hR
  have hcb : w.cell? ⟨b, 0, none⟩ = some (.slice a (nds M).length cap) := cell_of_row _ _ _ _ _ _ hb
  have hbl := (Array.getElem?_eq_some_iff.1 hb).1
  have hnl : (nds M).length ≤ 837723144972 := by rw [nds_length]; omega
  have hre : begT (nds M) (nds M).length = begL M := by unfold begT begL; rw [List.take_length]
  have hgt : ∀ n ∈ nds M, mget M n.path.data.toList = some n ∧ n.path.size ≤ 4096 := fun n hn => by
    obtain ⟨x, hx, rfl⟩ := List.mem_map.1 hn
    refine ⟨mget_of_mem hM.sorted (by have := hM.key x hx; unfold keyN at this; rw [← this]; exact hx), (vpath_facts (right_vpath (hM.right x hx))).2.1⟩
  generalize nds M = L at *
  have HROWS := Lib.hid hrows
  have HS := Lib.hid hS
  have HRE := Lib.hid hre
  have HGT := Lib.hid hgt
  clear hb hrows hS hM hlc hcm hre hgt
  go_enter Tryz.func99, Tryz.ntmps99
  go_wp2
  go_loopw [3, 4] (fun lv i wr => ∃ k : Nat, k ≤ L.length ∧ i = .int .i64 k ∧ Hid (wr.ownsRow w.heap.size 157 3 lv (begT L k).length ((begT L k).flatMap (entV M))) ∧ Ext w wr) (fun _ i _ => L.length - (intOf i).toNat)
  case atStart => exact ⟨0, Nat.zero_le _, rfl, World.ownsRow_nil _ _ _ _, Ext.refl _⟩
  case round =>
    obtain ⟨k, hk, rfl, HO, hE⟩ := hrel
    have hcr : wr.cell? ⟨b, 0, none⟩ = some (.slice a L.length cap) := (hE.cell (p := ⟨b, 0, none⟩) hbl).trans hcb
    have hzr := hE.size
    by_cases hlt : k < L.length
    · obtain ⟨bl, off, da, dc, aa, ac, ea, hSb, hc, _⟩ := HROWS.out.row (List.getElem?_eq_getElem hlt)
      subst ea
      have hsucc := begT_succ L k hlt
      have hle := begT_le L k
      obtain ⟨hgn, hsn⟩ := HGT.out L[k] (List.getElem_mem hlt)
      generalize L[k] = n at *
      have c0 : wr.cell? ⟨bl, off + k * 17, none⟩ = some (.string n.path) := (hE.cell (p := ⟨bl, off + k * 17, none⟩) (HS.out bl hSb).1).trans (hc 0 _ rfl)
      have c14 : wr.cell? ⟨bl, off + k * 17 + 14, none⟩ = some (.bool n.has) := (hE.cell (p := ⟨bl, off + k * 17 + 14, none⟩) (HS.out bl hSb).1).trans (hc 14 _ rfl)
      have HSUCC := Lib.hid hsucc
      have CW1 := CW.out wr n.path hE (by omega)
      unfold WeighOut at CW1
      rw [hgn] at CW1
      simp only [Option.isSome_some, if_true] at CW1
      have CW1 := Lib.hid CW1
      have HE := Lib.hid hE
      clear hc hE hsucc hgn
      cases hh : n.has with
      | false =>
        rw [hh] at HSUCC c14
        have hst : begT L (k + 1) = begT L k := by rw [HSUCC.out]; simp
        have HST := Lib.hid hst
        clear hst CW1 hh
        go_wp2
        go_roundw
        case rel => exact ⟨k + 1, by omega, by go_num, by unfold Hid; rw [HST.out]; exact HO.out, HE.out⟩
        case measure => simp [intOf]; omega
      | true =>
        rw [hh] at HSUCC c14
        have hst : begT L (k + 1) = begT L k ++ [n] := by rw [HSUCC.out]; simp
        have HST := Lib.hid hst
        clear hst hh
        have hev : entV M n = [.string n.path, .int .i64 (undK M n.path).length, .int .i64 (bytesK M (undK M n.path))] := rfl
        have HEV := Lib.hid hev
        clear hev
        generalize ((undK M n.path).length : Int) = uc at *
        generalize (bytesK M (undK M n.path) : Int) = ub at *
        go_wp2_with fail
        refine CW1.out.mono ?_
        rintro e w2 ⟨rfl, hE2⟩
        have hE2 : Ext wr w2 := hE2
        have hz2 := hE2.size
        have hO2 := HO.out.kept (grown_of_ext hE2 none) (Classical.em _)
        have hcr2 : w2.cell? ⟨b, 0, none⟩ = some (.slice (some ⟨bl, off, none⟩) L.length cap) := (hE2.cell (p := ⟨b, 0, none⟩) (World.block_lt_of_cell? _ _ hcr)).trans hcr
        have c02 : w2.cell? ⟨bl, off + k * 17, none⟩ = some (.string n.path) := (hE2.cell (p := ⟨bl, off + k * 17, none⟩) (World.block_lt_of_cell? _ _ c0)).trans c0
        have HE2 := Lib.hid (HE.out.trans hE2)
        clear CW1 hE2 hcr c0 c14
        go_wp2_with (at_builtin; refine wpList_append_ent (M := M) rfl (.tmp 44) (.tmp 57) rfl w.heap.size (begT L k).length _ _ hO2 (by omega) n.path uc ub (by omega) rfl rfl ?_)
        intro v' W6 hO6 hE6
        have hO6' : W6.ownsRow w.heap.size 157 3 v' (begT L (k + 1)).length ((begT L (k + 1)).flatMap (entV M)) := by
          rw [HST.out, List.length_append, List.flatMap_append, List.flatMap_singleton, HEV.out]
          exact hO6
        have HO6 := Lib.hid hO6'
        have HE6 := Lib.hid (hE6 w HE2.out (Nat.le_refl _))
        clear hO6 hO6' hE6 hO2 hcr2 c02
        go_wp2
        go_roundw
        case rel => exact ⟨k + 1, by omega, by go_num, HO6.out, HE6.out⟩
        case measure => simp [intOf]; omega
    · obtain rfl : k = L.length := by omega
      rw [HRE.out] at HO
      obtain ⟨oa, oc, rfl, hen⟩ := EntsAt.of_own HO.out
      have HFIN := Lib.hid (show RBegOut M w (.returned (.slice oa (begL M).length oc)) wr from ⟨oa, oc, rfl, hen, hE⟩)
      clear hE HO HROWS hen
      go_wp2
      go_ret
      exact HFIN.out

theorem usedL_keys (M : List (Key × Nd)) : (usedL M).map (·.1) = (begL M).map keyN := by unfold usedL usedP begL; rw [List.map_map]; rfl
theorem used_of {M : List (Key × Nd)} (hM : MOk M) {n : Nd} (h : n ∈ begL M) : mget (usedL M) n.path.data.toList = some (usedV M n) := by
  unfold begL nds at h
  obtain ⟨h1, h2⟩ := List.mem_filter.1 h
  refine mget_of_mem ?_ ?_
  · unfold MSorted usedL usedP
    rw [List.pairwise_map]
    refine List.Pairwise.filter _ ?_
    unfold nds
    rw [List.pairwise_map]
    exact hM.sorted.imp_of_mem fun {a b} ha hb h => by
      show bytesBefore (keyN a.2) (keyN b.2) = true
      rw [← hM.key a ha, ← hM.key b hb]; exact h
  · unfold usedL usedP nds
    exact List.mem_map.2 ⟨n, List.mem_filter.2 ⟨h1, h2⟩, rfl⟩

theorem same10_any (w : World) (bb bm : Nat) (M : List (Key × Nd)) (rv : Value) (hB : BookAt w bb bm (usedL M)) (hM : MOk M) (hl : M.length * 168 ≤ 140737488355328) (hR : ∀ W, Ext w W → Calls Tryz.prog 99 #[rv] W (RBegOut M W)) :
    Calls Tryz.prog 32 #[.pointer (some ⟨bb, 0, none⟩), rv] w fun e w' => e = .returned (.bool true) ∧ Ext w w' := by
  have C1 := Lib.hid (show Calls Tryz.prog 99 #[rv] w fun e w' => ∃ a c, e = .returned (.slice a (begL M).length c) ∧ EntsAt M w'.heap.size w' a (begL M) ∧ Ext w w' from hR w (Ext.refl _))
  have hbl : (begL M).length ≤ M.length := by
    have := List.length_filter_le (fun n : Nd => n.has) (nds M)
    rw [nds_length] at this; exact this
  have hul : (usedL M).length = (begL M).length := by
    have := congrArg List.length (usedL_keys M)
    rwa [List.length_map, List.length_map] at this
  have C2 := Lib.hid fun W (h : Ext w W) => (show Calls Tryz.prog 68 #[.pointer (some ⟨bb, 0, none⟩)] W fun e w' => ∃ a c, e = .returned (.slice a (begL M).length c) ∧ StrsAt w'.heap.size w' a ((begL M).map (·.path)) ∧ Ext W w' from by
    refine (qlist_any W bb bm (usedL M) (hB.ext h) (by omega)).mono ?_
    rintro e w' ⟨v, rfl, hrow, _, hE⟩
    rw [usedL_keys] at hrow
    obtain ⟨a, c, rfl, _, hs⟩ := StrsAt.of_own hrow
    rw [List.length_map]
    refine ⟨a, c, rfl, ?_, hE⟩
    rw [List.map_map] at hs
    have e : (begL M).map ((fun k : Key => (⟨k.toArray⟩ : ByteArray)) ∘ keyN) = (begL M).map (·.path) := List.map_congr_left fun n _ => by simp [keyN]
    rw [e] at hs
    exact hs)
  have CU := Lib.hid fun W (n : Nd) (h : Ext w W) (hn : n ∈ begL M) => (show Calls Tryz.prog 67 #[.pointer (some ⟨bb, 0, none⟩), .string n.path] W fun e w' => e = .returned (.tuple #[.agg #[.int .i64 (undK M n.path).length, .int .i64 (bytesK M (undK M n.path))], .bool true]) ∧ Ext W w' from by
    have hn' := hn
    unfold begL nds at hn'
    obtain ⟨x, hx, rfl⟩ := List.mem_map.1 (List.mem_filter.1 hn').1
    have hps := (vpath_facts (right_vpath (hM.right x hx))).2.1
    have := qused_any W bb bm (usedL M) (hB.ext h) (usedP_pairs _ _) x.2.path (by unfold maxLen; omega)
    unfold usedAt at this
    rw [used_of hM hn] at this
    exact this)
  have hent : ∀ n : Nd, entV M n = [.string n.path, .int .i64 (undK M n.path).length, .int .i64 (bytesK M (undK M n.path))] := fun _ => rfl
  have HENT := Lib.hid hent
  generalize begL M = L at *
  clear hR hB hM hent hul
  go_enter Tryz.func32, Tryz.ntmps32
  go_wp2_with fail
  refine C1.out.mono ?_
  rintro e W1 ⟨ea, ec, rfl, hen, hE1⟩
  have hE1 : Ext w W1 := hE1
  have HEN := Lib.hid hen
  have HE1 := Lib.hid hE1
  have CL := Lib.hid (C2.out W1 hE1)
  clear C1 C2 hen hE1
  go_wp2_with fail
  refine CL.out.mono ?_
  rintro e W2 ⟨sa, sc, rfl, hst, hE2⟩
  have hE2 : Ext W1 W2 := hE2
  have HST := Lib.hid hst
  have HEN2 := Lib.hid (HEN.out.ext hE2)
  have HE2 := Lib.hid (HE1.out.trans hE2)
  clear CL HEN hst hE2
  go_wp2
  go_loopw [7] (fun i wr => ∃ k : Nat, k ≤ L.length ∧ i = .int .i64 k ∧ Ext W2 wr) (fun i _ => L.length - (intOf i).toNat)
  case atStart => exact ⟨0, Nat.zero_le _, rfl, Ext.refl _⟩
  case round =>
    obtain ⟨k, hk, rfl, hE⟩ := hrel
    by_cases hlt : k < L.length
    · obtain ⟨b1, o1, rfl, hb1, hc1⟩ := HST.out k L[k].path (by rw [List.getElem?_map, List.getElem?_eq_getElem hlt]; rfl)
      obtain ⟨b2, o2, rfl, hb2, hc2⟩ := HEN2.out k L[k] (List.getElem?_eq_getElem hlt)
      have hmem := List.getElem_mem hlt
      generalize L[k] = n at *
      have CU1 := Lib.hid (CU.out wr n (HE2.out.trans hE) hmem)
      have s0 := (hE.cell (p := ⟨b1, o1 + k, none⟩) hb1).trans hc1
      have e0 := (hE.cell (p := ⟨b2, o2 + k * 3, none⟩) hb2).trans (hc2 0 _ (by rw [HENT.out]; rfl))
      have e1 := (hE.cell (p := ⟨b2, o2 + k * 3 + 1, none⟩) hb2).trans (hc2 1 _ (by rw [HENT.out]; rfl))
      have e2 := (hE.cell (p := ⟨b2, o2 + k * 3 + 2, none⟩) hb2).trans (hc2 2 _ (by rw [HENT.out]; rfl))
      have HE := Lib.hid hE
      generalize ((undK M n.path).length : Int) = uc at *
      generalize (bytesK M (undK M n.path) : Int) = ub at *
      clear hE hc1 hc2 hmem
      go_wp2_with fail
      refine CU1.out.mono ?_
      rintro e w3 ⟨rfl, hE3⟩
      have hE3 : Ext wr w3 := hE3
      obtain ⟨X3, hX3⟩ : ∃ X3, X3 = w3.alloc (.cells #[.int .i64 uc, .int .i64 ub] 110) := ⟨_, rfl⟩
      have HSET := Lib.hid ((setRow_alloc w3 zeroUsed #[.int .i64 uc, .int .i64 ub] 110).trans hX3.symm)
      have HNEW := Lib.hid (heap_alloc_new w3 (.cells zeroUsed 110))
      have hEX : Ext wr X3 := hE3.trans (by rw [hX3]; exact Ext.alloc _ _)
      have hb3 : X3.heap[w3.heap.size]? = some (.cells #[.int .i64 uc, .int .i64 ub] 110 (0, 0)) := by rw [hX3]; exact heap_alloc_new w3 _
      have u0 : X3.cell? ⟨w3.heap.size, 0, none⟩ = some (.int .i64 uc) := cell_of_row _ _ _ _ _ _ hb3
      have u1 : X3.cell? ⟨w3.heap.size, 1, none⟩ = some (.int .i64 ub) := cell_of_row _ _ _ _ _ _ hb3
      have q0 := (hEX.cell (p := ⟨b1, o1 + k, none⟩) (World.block_lt_of_cell? _ _ s0)).trans s0
      have q1 := (hEX.cell (p := ⟨b2, o2 + k * 3, none⟩) (World.block_lt_of_cell? _ _ e0)).trans e0
      have q2 := (hEX.cell (p := ⟨b2, o2 + k * 3 + 1, none⟩) (World.block_lt_of_cell? _ _ e1)).trans e1
      have q3 := (hEX.cell (p := ⟨b2, o2 + k * 3 + 2, none⟩) (World.block_lt_of_cell? _ _ e2)).trans e2
      have HE3 := Lib.hid (HE.out.trans hEX)
      unfold zeroUsed at HSET HNEW
      clear CU1 hE3 hX3 hEX hb3 s0 e0 e1 e2
      go_wp2_with (refine wpList_store_row rfl 110 (.tmp 8) (.tmp 33) rfl w3.heap.size _ rfl rfl 110 _ HNEW.out sizeUsed rfl (by simp [Value.oneCell']) ?_; rw [HSET.out])
      go_quiet (fail)
      go_wp2
      go_roundw
      case rel => exact ⟨k + 1, by omega, by go_num, HE3.out.trans' (below_drewN (Below.refl _ _) _)⟩
      case measure => simp [intOf]; omega
    · obtain rfl : k = L.length := by omega
      have HFIN : Hid (Ext w wr) := HE2.out.trans hE
      clear hE
      go_wp2
      go_ret
      exact ⟨rfl, HFIN.out⟩
end Go.Proofs.YtamolbegmkngdaaGreatDoor
namespace Go.Proofs.YtamolbegmkngdaaGreatDoor
open Go.RowKit Go.Sort
set_option maxHeartbeats 8000000
set_option maxRecDepth 100000

/-- What is used at a tree's quotas, as numbers. -/
def usedU (M : List (Key × Nd)) : Bk := ((nds M).filter (·.has)).map fun n => (keyN n, (((undK M n.path).length : Nat) : Int), ((bytesK M (undK M n.path) : Nat) : Int))
theorem usedU_book (M : List (Key × Nd)) : usedL M = bookV (usedU M) := by
  unfold usedL usedP usedU bookV
  rw [List.map_map]
  rfl
theorem usedU_len (M : List (Key × Nd)) : (usedU M).length ≤ M.length := by
  unfold usedU
  rw [List.length_map]
  have := List.length_filter_le (fun n : Nd => n.has) (nds M)
  rw [nds_length] at this
  exact this
theorem setJ_true (P I : List (Key × Nd)) (wv : ByteArray → Int × Int) (U : Bk) : SetJ P I wv U (fun _ _ => True) (fun _ _ => True) (fun _ _ => True) :=
  ⟨trivial, fun _ _ _ _ _ _ _ => trivial, fun _ _ _ _ => trivial, fun _ _ _ _ _ _ _ => trivial, fun _ _ _ _ => trivial, fun _ _ _ _ _ _ _ => trivial⟩
def QNil (w : World) (e : Ending) (w' : World) : Prop := ∃ bb bm, e = .returned (.pointer (some ⟨bb, 0, none⟩)) ∧ BookAt w' bb bm [] ∧ Ext w w'
theorem qbegin_nil (w : World) : Calls Tryz.prog 28 #[.pointer none] w (QNil w) :=
  (qbegin_any (.pointer none) ⟨_, rfl⟩ [] w MOk.nil (fun ga _ => allsM_nil0 w ga) (WeighsM.nil _ w) (by simp)).mono fun e w' ⟨bb, bm, h1, h2, _, _, h3⟩ => ⟨bb, bm, h1, h2, h3⟩
theorem qOver_nil (s : ByteArray) (hs : s.size ≤ 9223372036854775800) (w : World) : Calls Tryz.prog 20 #[.pointer none, .string s] w fun e w' => ∃ a c, e = .returned (.slice a 0 c) ∧ Ext w w' :=
  (qOver_any (.pointer none) [] w MOk.nil (GetsM.nil w) s hs).mono fun e w' h => by
    obtain ⟨a, c, h1, _, h2⟩ := texts_out h
    rw [overL_nil0] at h1
    exact ⟨a, c, h1, h2⟩
def OwnO (L : List Nd) (w : World) (e : Ending) (w' : World) : Prop := ∃ a c, e = .returned (.slice a L.length c) ∧ NdsAt w'.heap.size w' a L ∧ Ext w w'
theorem own10_o (L : List Nd) (a : Option Addr) (c : Nat) (w : World) (hL : NdsAt w.heap.size w a L) (hf : ∀ n ∈ L, Fit n) (hl : L.length * 168 ≤ 140737488355328) : Calls Tryz.prog 65 #[.slice a L.length c] w (OwnO L w) :=
  (own10_any L a c w hL hf hl).mono fun e w' ⟨v, h1, h2, h3⟩ => by
    obtain ⟨a', c', rfl, hN⟩ := h2.nds
    exact ⟨a', c', h1, hN, h3⟩

theorem qturns_walk (L : List Nd) (a : Option Addr) (c : Nat) (old now : List Nd) (oa na : Option Addr) (oc nc : Nat) (w : World) (hT : Tabs w) (hL : NdsAt w.heap.size w a L) (hf : ∀ n ∈ L, Fit n) (hl : L.length * 168 ≤ 140737488355328)
    (hO : NdsAt w.heap.size w oa old) (hfO : ∀ n ∈ old, Fit n) (hlO : old.length * 168 ≤ 140737488355328) (hN : NdsAt w.heap.size w na now) (hfN : ∀ n ∈ now, Fit n) (hlN : now.length * 168 ≤ 140737488355328) :
    Calls Tryz.prog 11 #[.slice a L.length c, .slice oa old.length oc, .slice na now.length nc] w fun e w' => e = .returned (.bool true) ∧ Below w.heap.size w w' := by
  have hsz := hT.size
  have C1 := Lib.hid (laid10_any L a c w hT hL hf hl)
  have HT := Lib.hid hT
  have HO := Lib.hid hO
  have HN := Lib.hid hN
  have HFO := Lib.hid hfO
  have HFN := Lib.hid hfN
  clear hL hf hT hO hN hfO hfN
  go_enter Tryz.func11, Tryz.ntmps11
  go_wp2_with fail
  refine C1.out.mono ?_
  intro e W1 hout
  unfold LaidOut at hout
  cases hfr : fromN L with
  | error x =>
    rw [hfr] at hout
    obtain ⟨rfl, hE1⟩ := hout
    have hE1 : Ext w W1 := hE1
    have C2 := Lib.hid (live10_any W1 (HT.out.below hE1 hsz))
    have HE1 := Lib.hid hE1
    clear C1 hE1 hfr
    go_wp2_with fail
    refine C2.out.mono ?_
    rintro e W2 ⟨rfl, hE2⟩
    have HE2 := Lib.hid (HE1.out.trans hE2)
    have C3 := Lib.hid (own10_o old oa oc W2 (HO.out.ext HE2.out) HFO.out hlO)
    clear C2 hE2
    go_wp2_with fail
    refine C3.out.mono ?_
    rintro e W3 ⟨a1, c1, rfl, _, hE3⟩
    have HE3 := Lib.hid (HE2.out.trans hE3)
    have C4 := Lib.hid (own10_o now na nc W3 (HN.out.ext HE3.out) HFN.out hlN)
    clear C3 hE3
    go_wp2_with fail
    refine C4.out.mono ?_
    rintro e W4 ⟨a2, c2, rfl, _, hE4⟩
    have HE4 := Lib.hid (HE3.out.trans hE4)
    have C5 := Lib.hid (qturn_nilb none a1 a2 old.length now.length c1 c2 W4)
    have C6 := Lib.hid (no10_any 2 W4)
    have C7 := Lib.hid (qbegin_nil W4)
    clear C4 hE4
    go_wp2_with fail
    refine C5.out.mono ?_
    rintro e W4' ⟨rfl, rfl⟩
    go_wp2_with fail
    refine C6.out.mono ?_
    rintro e W4' ⟨rfl, rfl⟩
    go_wp2_with fail
    refine C7.out.mono ?_
    rintro e W5 ⟨bb, bm, rfl, _, hE5⟩
    have HE5 := Lib.hid (HE4.out.trans hE5)
    have C8 := Lib.hid (own10_o old oa oc W5 (HO.out.ext HE5.out) HFO.out hlO)
    clear C5 C6 C7 hE5
    go_wp2_with fail
    refine C8.out.mono ?_
    rintro e W6 ⟨a3, c3, rfl, _, hE6⟩
    have HE6 := Lib.hid (HE5.out.trans hE6)
    have C9 := Lib.hid (own10_o now na nc W6 (HN.out.ext HE6.out) HFN.out hlN)
    clear C8 hE6
    go_wp2_with fail
    refine C9.out.mono ?_
    rintro e W7 ⟨a4, c4, rfl, _, hE7⟩
    have HE7 := Lib.hid (HE6.out.trans hE7)
    have C10 := Lib.hid (qturn_nilt bb a3 a4 old.length now.length c3 c4 W7)
    have C11 := Lib.hid (no10_any 2 W7)
    clear C9 hE7
    go_wp2_with fail
    refine C10.out.mono ?_
    rintro e W7' ⟨rfl, rfl⟩
    go_wp2_with fail
    refine C11.out.mono ?_
    rintro e W7' ⟨rfl, rfl⟩
    go_wp2
    go_ret
    exact ⟨rfl, HE7.out⟩
  | ok M =>
    rw [hfr] at hout
    obtain ⟨bt, br, rfl, hT1, hR1, hbr, hE1⟩ := hout
    have hE1 : Ext w W1 := hE1
    have hml := hT1.len
    have hok := hT1.ok
    have hclo := fromN_clo hok hfr
    have C2 := Lib.hid (live10_any W1 (HT.out.below hE1 hsz))
    have HE1 := Lib.hid hE1
    have HT1 := Lib.hid hT1
    have HR1 := Lib.hid hR1
    have HOK := Lib.hid hok
    have HCLO := Lib.hid hclo
    have hz1 := hE1.size
    have hMl : M.length * 168 ≤ 140737488355328 := by omega
    clear C1 hE1 hfr hT1 hR1 hok hclo
    go_wp2_with fail
    refine C2.out.mono ?_
    rintro e W2 ⟨rfl, hE2⟩
    have hE2 : Ext W1 W2 := hE2
    have HF2 := Lib.hid hE2
    have HE2 := Lib.hid (HE1.out.trans hE2)
    have C3 := Lib.hid (own10_o old oa oc W2 (HO.out.ext HE2.out) HFO.out hlO)
    clear C2 hE2
    go_wp2_with fail
    refine C3.out.mono ?_
    rintro e W3 ⟨a1, c1, rfl, _, hE3⟩
    have hE3 : Ext W2 W3 := hE3
    have HF3 := Lib.hid (HF2.out.trans hE3)
    have HE3 := Lib.hid (HE2.out.trans hE3)
    have C4 := Lib.hid (own10_o now na nc W3 (HN.out.ext HE3.out) HFN.out hlN)
    clear C3 hE3
    go_wp2_with fail
    refine C4.out.mono ?_
    rintro e W4 ⟨a2, c2, rfl, _, hE4⟩
    have hE4 : Ext W3 W4 := hE4
    have HF4 := Lib.hid (HF3.out.trans hE4)
    have HE4 := Lib.hid (HE3.out.trans hE4)
    have hT4 := HT1.out.ext HF4.out
    have C5 := Lib.hid (qturn_nilb (some ⟨bt, 0, none⟩) a1 a2 old.length now.length c1 c2 W4)
    have C6 := Lib.hid (no10_any 2 W4)
    have C7 := Lib.hid (qbegin_any (.pointer (some ⟨bt, 0, none⟩)) ⟨_, rfl⟩ M W4 HOK.out (fun ga hga => AllsM.of_tree hT4 hMl ga hga) (WeighsM.of_tree hT4 HCLO.out hMl) hMl)
    clear C4 hE4 hT4
    go_wp2_with fail
    refine C5.out.mono ?_
    rintro e W4' ⟨rfl, rfl⟩
    go_wp2_with fail
    refine C6.out.mono ?_
    rintro e W4' ⟨rfl, rfl⟩
    go_wp2_with fail
    refine C7.out.mono ?_
    rintro e W5 ⟨bb, bm, rfl, _, _, _, hE5⟩
    have hE5 : Ext W4 W5 := hE5
    have HF5 := Lib.hid (HF4.out.trans hE5)
    have HE5 := Lib.hid (HE4.out.trans hE5)
    have C8 := Lib.hid (own10_o old oa oc W5 (HO.out.ext HE5.out) HFO.out hlO)
    clear C5 C6 C7 hE5
    go_wp2_with fail
    refine C8.out.mono ?_
    rintro e W6 ⟨a3, c3, rfl, _, hE6⟩
    have hE6 : Ext W5 W6 := hE6
    have HF6 := Lib.hid (HF5.out.trans hE6)
    have HE6 := Lib.hid (HE5.out.trans hE6)
    have C9 := Lib.hid (own10_o now na nc W6 (HN.out.ext HE6.out) HFN.out hlN)
    clear C8 hE6
    go_wp2_with fail
    refine C9.out.mono ?_
    rintro e W7 ⟨a4, c4, rfl, _, hE7⟩
    have hE7 : Ext W6 W7 := hE7
    have HF7 := Lib.hid (HF6.out.trans hE7)
    have HE7 := Lib.hid (HE6.out.trans hE7)
    have hT7 := HT1.out.ext HF7.out
    have C10 := Lib.hid (qturn_nilt bb a3 a4 old.length now.length c3 c4 W7)
    have C11 := Lib.hid (no10_any 2 W7)
    have C12 := Lib.hid (qbegin_any (.pointer (some ⟨bt, 0, none⟩)) ⟨_, rfl⟩ M W7 HOK.out (fun ga hga => AllsM.of_tree hT7 hMl ga hga) (WeighsM.of_tree hT7 HCLO.out hMl) hMl)
    clear C9 hE7 hT7
    go_wp2_with fail
    refine C10.out.mono ?_
    rintro e W7' ⟨rfl, rfl⟩
    go_wp2_with fail
    refine C11.out.mono ?_
    rintro e W7' ⟨rfl, rfl⟩
    go_wp2_with fail
    refine C12.out.mono ?_
    rintro e W8 ⟨kb, km, rfl, hK8, hkb, hkm, hE8⟩
    have hE8 : Ext W7 W8 := hE8
    have HF8 := Lib.hid (HF7.out.trans hE8)
    have HE8 := Lib.hid (HE7.out.trans hE8)
    have HK8 := Lib.hid hK8
    have hz78 := hE8.size
    have hkm2 : W7.heap.size ≤ km := hkm
    have HG8 := Lib.hid hE8
    have hz7 := HF7.out.size
    have C13 := Lib.hid (own10_o old oa oc W8 (HO.out.ext HE8.out) HFO.out hlO)
    clear C10 C11 C12 hE8 hK8
    go_wp2_with fail
    refine C13.out.mono ?_
    rintro e W9 ⟨a5, c5, rfl, hO9, hE9⟩
    have hE9 : Ext W8 W9 := hE9
    have HF9 := Lib.hid (HF8.out.trans hE9)
    have HE9 := Lib.hid (HE8.out.trans hE9)
    have HK9 := Lib.hid (HK8.out.ext hE9)
    have HG9 := Lib.hid (HG8.out.trans hE9)
    have HO9 := Lib.hid hO9
    have C14 := Lib.hid (own10_o now na nc W9 (HN.out.ext HE9.out) HFN.out hlN)
    clear C13 hE9 hO9
    go_wp2_with fail
    refine C14.out.mono ?_
    rintro e W10 ⟨a6, c6, rfl, hN10, hE10⟩
    have hE10 : Ext W9 W10 := hE10
    have HF10 := Lib.hid (HF9.out.trans hE10)
    have HE10 := Lib.hid (HE9.out.trans hE10)
    have HG10 := Lib.hid (HG9.out.trans hE10)
    have hK10 := HK9.out.ext hE10
    have HK10 := Lib.hid hK10
    rw [usedU_book] at hK10
    have hul := usedU_len M
    have C15 := Lib.hid (qturn_any _ bt kb km L.length M (usedU M) old now a5 a6 c5 c6 W10 (HT1.out.ext HF10.out) HCLO.out hMl hK10 (fun h => by have := h.2.1; omega) (HO9.out.ext hE10) hN10 HFO.out HFN.out hlO hlN (by omega) (J1 := fun _ _ => True) (J2 := fun _ _ => True) (J3 := fun _ _ => True) fun _ => setJ_true _ _ _ _)
    clear C14 hE10 hN10 hK10 hul
    go_wp2_with fail
    refine C15.out.mono ?_
    rintro e W11 ⟨rfl, hcase⟩
    -- Behind the turn all is as it was when the book was begun.
    have hG11 : Ext W7 W11 := by
      rcases hcase with ⟨_, h⟩ | ⟨_, h, _⟩
      · exact HG10.out.trans h
      · exact Below.trans HG10.out (h.below (fun k (hk : k = km) => by rw [hk]; exact hkm2) (by have := HG10.out.size; omega))
    have hE11 : Ext w W11 := HE7.out.trans hG11
    have hF11 : Ext W1 W11 := HF7.out.trans hG11
    have hsame : turnP M old now = 0 ∨ BookAt W11 kb km (usedL M) := by
      rcases hcase with ⟨_, h⟩ | ⟨h, _, _⟩
      · exact .inr (HK10.out.ext h)
      · exact .inl (turnP_yes h)
    have C16 := Lib.hid (no10_any (turnP M old now) W11)
    have C17 := Lib.hid (rturn_any br M old now oa na oc nc W11 (HR1.out.ext hF11) HOK.out (HO.out.ext hE11) (HN.out.ext hE11) HFO.out HFN.out hlO hlN)
    have HE11 := Lib.hid hE11
    have HF11 := Lib.hid hF11
    have HSAME := Lib.hid hsame
    generalize turnP M old now = tp at *
    clear C15 hG11 hE11 hF11 hsame hcase
    go_wp2_with fail
    refine C16.out.mono ?_
    rintro e W11' ⟨rfl, rfl⟩
    go_wp2_with fail
    refine C17.out.mono ?_
    rintro e W12 ⟨rfl, hE12⟩
    have hE12 : Ext W11 W12 := hE12
    have HE12 := Lib.hid hE12
    have C18 := Lib.hid (qused_nil ⟨#[47]⟩ W12)
    have ht1 : (tp != tp) = false := by simp
    clear C16 C17 hE12
    go_wp2_with fail
    refine C18.out.mono ?_
    rintro e W13 ⟨rfl, hE13⟩
    have hE13 : Ext W12 W13 := hE13
    obtain ⟨W14, hW14⟩ : ∃ W14, W14 = W13.alloc (.cells zeroUsed 110) := ⟨_, rfl⟩
    have hE14 : Ext W13 W14 := by rw [hW14]; exact Ext.alloc _ _
    have hb14 : W14.heap[W13.heap.size]? = some (.cells zeroUsed 110 (0, 0)) := by rw [hW14]; exact heap_alloc_new W13 _
    have HSET := Lib.hid ((setRow_alloc W13 zeroUsed zeroUsed 110).trans hW14.symm)
    have HNEW := Lib.hid (heap_alloc_new W13 (.cells zeroUsed 110))
    have HE14 := Lib.hid (HE12.out.trans (hE13.trans hE14))
    have HB14 := Lib.hid hb14
    have C19 := Lib.hid (qbex_nil ⟨#[47]⟩ (by decide) 1 1 W14)
    unfold zeroUsed at HSET HNEW ⊢
    clear C18 hE13 hE14 hb14 hW14
    go_wp2_with (refine wpList_store_row rfl 110 (.tmp 13) (.tmp 70) rfl W13.heap.size _ rfl rfl 110 _ HNEW.out sizeUsed rfl (by simp [Value.oneCell']) ?_; rw [HSET.out])
    refine C19.out.mono ?_
    rintro e W15 ⟨rfl, hE15⟩
    have hE15 : Ext W14 W15 := hE15
    have hu0 : W15.cell? ⟨W13.heap.size, 0, none⟩ = some (.int .i64 0) := cell_of_row _ _ _ _ _ _ ((hE15.block _ (Array.getElem?_eq_some_iff.1 HB14.out).1).trans HB14.out)
    have HE15 := Lib.hid (HE14.out.trans hE15)
    have C20 := Lib.hid (qlist_nil W15)
    have C21 := Lib.hid (qbegin_nil W15)
    clear C19 hE15 HB14
    go_wp2_with fail
    refine C20.out.mono ?_
    rintro e W15' ⟨rfl, rfl⟩
    go_wp2_with fail
    refine C21.out.mono ?_
    rintro e W16 ⟨nb, nm, rfl, hBn, hE16⟩
    have hE16 : Ext W15 W16 := hE16
    have HE16 := Lib.hid (HE15.out.trans hE16)
    have C22 := Lib.hid (qequal_nil nb nm W16 hBn)
    clear C20 C21 hE16 hBn hu0
    go_wp2_with fail
    refine C22.out.mono ?_
    rintro e W17 ⟨rfl, hE17⟩
    have hE17 : Ext W16 W17 := hE17
    have HE17 := Lib.hid (HE16.out.trans hE17)
    have C23 := Lib.hid (qOver_nil ⟨#[47]⟩ (by decide) W17)
    clear C22 hE17
    go_wp2_with fail
    refine C23.out.mono ?_
    rintro e W18 ⟨va, vc, rfl, hE18⟩
    have hE18 : Ext W17 W18 := hE18
    have HE18 := Lib.hid (HE17.out.trans hE18)
    have C24 := Lib.hid (no10_any tp W18)
    have hpost : Ext w W18 := HE11.out.trans HE18.out
    have HPOST := Lib.hid hpost
    clear C23 hE18 hpost
    go_wp2_with fail
    refine C24.out.mono ?_
    rintro e W18' ⟨rfl, rfl⟩
    rcases HSAME.out with h0 | hB
    · subst h0
      clear C24
      go_wp2
      go_ret
      exact ⟨rfl, HPOST.out⟩
    · have C25 := Lib.hid (same10_any W18 kb km M (.pointer (some ⟨br, 0, none⟩)) (hB.ext HE18.out) HOK.out hMl fun W hW => rbegin_any W br M (HR1.out.ext (HF11.out.trans (HE18.out.trans hW))) HOK.out hMl)
      clear C24 hB
      by_cases h0 : tp = 0
      · subst h0
        go_wp2
        go_ret
        exact ⟨rfl, HPOST.out⟩
      · have h1 : (tp == 0) = false := by simpa using h0
        have h2 : decide (tp = 0) = false := by simpa using h0
        go_wp2_with fail
        refine C25.out.mono ?_
        rintro e W19 ⟨rfl, hE19⟩
        have HFIN : Hid (Ext w W19) := HPOST.out.trans hE19
        clear C25 hE19
        go_wp2
        go_ret
        exact ⟨rfl, HFIN.out⟩
theorem qturns_row (L : List Nd) (a : Option Addr) (c : Nat) (old : List Nd) (oa : Option Addr) (oc : Nat) (now : List Nd) (na : Option Addr) (nc : Nat) (w : World) (hT : Tabs w) (hL : NdsAt w.heap.size w a L) (hf : ∀ n ∈ L, Fit n) (hl : L.length * 168 ≤ 140737488355328)
    (hO : NdsAt w.heap.size w oa old) (hfO : ∀ n ∈ old, Fit n) (hlO : old.length * 168 ≤ 140737488355328) (hN : NdsAt w.heap.size w na now) (hfN : ∀ n ∈ now, Fit n) (hlN : now.length * 168 ≤ 140737488355328) :
    Calls Tryz.prog 11 #[.slice a L.length c, .slice oa old.length oc, .slice na now.length nc] w fun e w' => e = .returned (.bool true) ∧ Below w.heap.size w w' :=
  qturns_walk L a c old now oa na oc nc w hT hL hf hl hO hfO hlO hN hfN hlN
end Go.Proofs.YtamolbegmkngdaaGreatDoor
