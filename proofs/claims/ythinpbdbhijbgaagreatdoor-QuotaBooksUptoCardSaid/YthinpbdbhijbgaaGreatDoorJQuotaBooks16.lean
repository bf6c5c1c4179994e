/- The walk of a quota book's shift: nodes and bytes more over a path. The walk of the reference's twice: does a path come twice? The walk of package quota's paired: nodes by their paths. -/
import Derived.Test.YthinpbdbhijbgaaGreatDoorJQuotaBooks14
import Derived.Test.YthinpbdbhijbgaaGreatDoorJQuotaBooks15
import Derived.Test.YthinpbdbhijbgaaGreatDoorJQuotaBooks5
import Derived.Test.YthinpbdbhijbgaaGreatDoorJQuotaBooks8
import Derived.Deep.AppendSrc
import Derived.BigQuiet
import Derived.Test.YthinpbdbhijbgaaGreatDoorJQuotaBooks13
import Derived.Test.YthinpbdbhijbgaaGreatDoorJQuotaBooks4
namespace Go.Proofs.YthinpbdbhijbgaaGreatDoor
open Go.RowKit Go.Sort
set_option maxHeartbeats 4000000
set_option maxRecDepth 100000

/-- A book's numbers: nodes and bytes by paths. -/
abbrev Bk := List (Key × (Int × Int))
def usedW (u : Int × Int) : Value := .agg #[.int .i64 u.1, .int .i64 u.2]
def bookV (U : Bk) : List (Key × Value) := U.map fun x => (x.1, usedW x.2)
theorem bookV_get (U : Bk) (k : Key) : mget (bookV U) k = (mget U k).map usedW := mget_map usedW U k
theorem bookV_put (U : Bk) (k : Key) (u : Int × Int) : mput (bookV U) k (usedW u) = bookV (mput U k u) := (mput_map usedW U k u).symm
theorem bookV_del (U : Bk) (k : Key) : mdel (bookV U) k = bookV (mdel U k) := (mdel_map usedW U k).symm
theorem bookV_len (U : Bk) : (bookV U).length = U.length := List.length_map _
theorem bookV_sorted {U : Bk} (h : MSorted (bookV U)) : MSorted U := by
  unfold MSorted bookV at h
  rw [List.pairwise_map] at h
  exact h
theorem BookAt.sorted {w : World} {bb bm : Nat} {U : Bk} (h : BookAt w bb bm (bookV U)) : MSorted U := bookV_sorted (SMap.sorted (Maps.string_keyed strT) h.2)

/-- One place of a shift. -/
def stepS (U : Bk) (k : Key) (dn db : Int) : Bk := match mget U k with
  | some u => mput U k (wrap64 (u.1 + dn), wrap64 (u.2 + db))
  | none => U
def shiftM (U : Bk) (L : List ByteArray) (dn db : Int) : Bk := L.foldl (fun U p => stepS U p.data.toList dn db) U
theorem shiftM_take (U : Bk) (L : List ByteArray) (dn db : Int) (k : Nat) (hk : k < L.length) : shiftM U (L.take (k + 1)) dn db = stepS (shiftM U (L.take k) dn db) L[k].data.toList dn db := by
  unfold shiftM
  rw [List.take_succ_eq_append_getElem hk, List.foldl_append]; rfl
theorem stepS_sorted {U : Bk} (h : MSorted U) (k : Key) (dn db : Int) : MSorted (stepS U k dn db) := by
  unfold stepS
  split
  · exact mput_sorted h _ _
  · exact h
theorem stepS_len {U : Bk} (h : MSorted U) (k : Key) (dn db : Int) : (stepS U k dn db).length = U.length := by
  unfold stepS
  split
  · rename_i u hu
    have h1 := congrArg List.length (mdel_back h hu)
    rw [mins_length] at h1
    unfold mput
    rw [mins_length]; omega
  · rfl
theorem shiftM_spec (dn db : Int) : ∀ (L : List ByteArray) (U : Bk), MSorted U → MSorted (shiftM U L dn db) ∧ (shiftM U L dn db).length = U.length
  | [], U, h => ⟨h, rfl⟩
  | p :: L, U, h => by
    obtain ⟨h1, h2⟩ := shiftM_spec dn db L (stepS U p.data.toList dn db) (stepS_sorted h _ _ _)
    exact ⟨h1, h2.trans (stepS_len h _ _ _)⟩

/-- The places of a shift: the path's line, or the path alone. -/
def lineA (s : ByteArray) : List ByteArray := if vpath s = true then lineL s else [s]

theorem BookAt.mod {w w' : World} {bb bm : Nat} {m m' : List (Key × Value)} (h : BookAt w bb bm m) (hM : Mod (· = bm) w w') (hS : SMap Tryz.prog 9 w' bm m') : BookAt w' bb bm m' := ⟨hM.cells h.1, hS⟩

theorem shift_loop_pre (s : ByteArray) (w w1 : World) (v : Value) (hs : s.size ≤ 9223372036854775800) (hv : if vpath s = true then w1.ownsRow w.heap.size 9 1 v (upL s).length ((upL s).reverse.map .string) else v = .slice none 0 0) :
    ∃ n, n + 1 = (lineA s).length ∧ w1.ownsRow w.heap.size 9 1 v n (((lineA s).take n).map .string) ∧ (lineA s).take n ++ [s] = lineA s ∧ (n + 1) * 16 ≤ 140737488355328 ∧ ∀ q ∈ lineA s, q.size ≤ 9223372036854775800 := by
  unfold lineA
  by_cases h : vpath s = true
  · rw [if_pos h] at hv ⊢
    have hlen := lineL_length h
    have hll : (lineL s).length = (upL s).length + 1 := by unfold lineL; simp
    have e : lineL s = (upL s).reverse ++ [s] := by unfold lineL; rfl
    refine ⟨(upL s).length, hll.symm, ?_, ?_, by omega, fun q hq => by have := lineL_size h hq; omega⟩
    · rw [e, List.take_left' (by simp)]
      exact hv
    · rw [e, List.take_left' (by simp)]
  · rw [if_neg h] at hv ⊢
    subst hv
    exact ⟨0, rfl, World.ownsRow_nil _ _ _ _, rfl, by omega, fun q hq => by simp at hq; subst hq; exact hs⟩

def ShiftOut (bb bm : Nat) (U' : Bk) (w : World) (e : Ending) (w' : World) : Prop := e = .returned (.tuple #[]) ∧ BookAt w' bb bm (bookV U') ∧ Mod (· = bm) w w'

theorem qshift_any (bb bm : Nat) (U : Bk) (w : World) (hB : BookAt w bb bm (bookV U)) (hl : U.length < maxLen) (s : ByteArray) (hs : s.size ≤ 9223372036854775800) (dn db : Int) :
    Calls Tryz.prog 158 #[.pointer (some ⟨bb, 0, none⟩), .string s, .int .i64 dn, .int .i64 db] w (ShiftOut bb bm (shiftM U (lineA s) dn db) w) := by
  have C1 := Lib.hid (above_any s w hs)
  have HB := Lib.hid hB
  have hsrt := hB.sorted
  have hne : bb ≠ bm := fun e => by
    obtain ⟨es, c, h⟩ := hB.2.isMap
    rw [← e, hB.1] at h
    cases h
  have hbl : bb < w.heap.size := (Array.getElem?_eq_some_iff.1 hB.1).1
  have hml : bm < w.heap.size := hB.2.lt
  clear hB
  go_enter Tryz.func158, Tryz.ntmps158
  go_wp2_with fail
  refine C1.out.mono ?_
  rintro e w1 ⟨v, rfl, hv, hE1⟩
  generalize hER : (if vpath s = true then (0 : Int) else 30) = er at *
  clear hER
  obtain ⟨n, hn, hown, hap, hn16, hsz⟩ := shift_loop_pre s w w1 v hs hv
  have hz1 := hE1.size
  have HE1 := Lib.hid hE1
  have HN := Lib.hid hn
  have hap2 : ((lineA s).take n).map Value.string ++ [.string s] = (lineA s).map Value.string := by
    conv => rhs; rw [← hap]
    rw [List.map_append]; rfl
  generalize ((lineA s).take n).map Value.string = xs at *
  have HAP := Lib.hid hap2
  have HSZ := Lib.hid hsz
  clear hE1 hv C1 hn hap hap2 hsz
  go_wp2_with (at_builtin; refine wpList_append_s rfl (.tmp 19) (.tmp 21) rfl w.heap.size n _ _ hown hz1 s hn16 rfl rfl ?_)
  intro v2 W2 hO2 hE2
  have hE2 := hE2 w HE1.out (Nat.le_refl _)
  have hO2' : W2.ownsRow w.heap.size 9 1 v2 ((lineA s).map fun p => p.data.toList).length (((lineA s).map fun p => p.data.toList).map encStr) := by
    have e : ((lineA s).map fun p => p.data.toList).map encStr = xs ++ [.string s] := by
      rw [List.map_map, HAP.out]
      exact List.map_congr_left fun p _ => encStr_data p
    rw [e, List.length_map, ← HN.out]
    exact hO2
  obtain ⟨sa, sc, rfl, _, hstr⟩ := StrsAt.of_own hO2'
  have hstr2 : StrsAt W2.heap.size W2 sa (lineA s) := by
    have e : ((lineA s).map fun p => p.data.toList).map (fun k => (⟨k.toArray⟩ : ByteArray)) = lineA s := by
      rw [List.map_map]
      exact (List.map_congr_left fun p _ => by simp).trans (List.map_id _)
    rw [e] at hstr; exact hstr
  rw [List.length_map]
  have HSTR := Lib.hid hstr2
  have HE2 := Lib.hid hE2
  have hb2 : BookAt W2 bb bm (bookV (shiftM U ((lineA s).take 0) dn db)) := by rw [List.take_zero]; exact HB.out.ext hE2
  have HB2 := Lib.hid hb2
  have hLl : (lineA s).length ≤ 8796093022208 := by have := HN.out; omega
  generalize lineA s = L at *
  clear hO2 hO2' hstr hstr2 hE2 hown hb2 hn16 HN HAP
  go_wp2
  go_loopw [24] (fun i wr => ∃ k : Nat, k ≤ L.length ∧ i = .int .i64 k ∧ Hid (BookAt wr bb bm (bookV (shiftM U (L.take k) dn db))) ∧ Hid (Mod (· = bm) W2 wr)) (fun i _ => L.length - (intOf i).toNat)
  case atStart => exact ⟨0, Nat.zero_le _, rfl, HB2.out, Mod.refl _ _⟩
  case round =>
    obtain ⟨k, hk, rfl, HK, HM⟩ := hrel
    clear HB2
    by_cases hlt : k < L.length
    · obtain ⟨b, off, rfl, hb, hc⟩ := HSTR.out k L[k] (List.getElem?_eq_getElem hlt)
      have hq := HSZ.out L[k] (List.getElem_mem hlt)
      have htk := shiftM_take U L dn db k hlt
      have hcr := HM.out.cell hc
      have hsp := shiftM_spec dn db (L.take k) U hsrt
      generalize L[k] = p at *
      have hps : p.size ≤ maxLen := by unfold maxLen; omega
      have HTK := Lib.hid htk
      clear htk hc
      generalize shiftM U (L.take k) dn db = V at *
      have hlk := SMap.look_ok (e := 107) HK.out.2 strT Tryz.underlying163 (z := .agg zeroUsed) (by kernel_rfl) hps
      have hmz := HM.out.size
      rw [bookV_get] at hlk
      have hbk : wr.cell? ⟨bb, 0, none⟩ = some (.map (some bm)) := cell_of_row _ _ _ _ _ _ HK.out.1
      cases hg : mget V p.data.toList with
      | none =>
        rw [hg] at hlk
        simp only [Option.map_none, Option.getD_none, Option.isSome_none] at hlk
        have hst : stepS V p.data.toList dn db = V := by unfold stepS; rw [hg]
        have hB3 : BookAt (wr.alloc (.cells #[.int .i64 0, .int .i64 0] 107)) bb bm (bookV (shiftM U (L.take (k + 1)) dn db)) := by rw [HTK.out, hst]; exact HK.out.ext (Ext.alloc _ _)
        have hM3 : Mod (· = bm) W2 (wr.alloc (.cells #[.int .i64 0, .int .i64 0] 107)) := HM.out.trans (Mod.of_ext (Ext.alloc _ _))
        have HB3 := Lib.hid hB3
        have HM3 := Lib.hid hM3
        have HSET := Lib.hid (setRow_alloc wr zeroUsed #[.int .i64 0, .int .i64 0] 107)
        have HNEW := Lib.hid (heap_alloc_new wr (.cells zeroUsed 107))
        unfold zeroUsed at HSET HNEW hlk
        clear hB3 hM3 hst hg HK HM HTK
        go_wp2_with (refine wpList_store_row rfl 107 (.tmp 12) (.tmp 35) rfl wr.heap.size _ rfl rfl 107 _ HNEW.out sizeUsed rfl (by simp [Value.oneCell']) ?_; rw [HSET.out])
        go_roundw
        case rel => exact ⟨k + 1, by omega, by go_num, HB3.out, HM3.out⟩
        case measure => simp [intOf]; omega
      | some u =>
        obtain ⟨c, d⟩ := u
        rw [hg] at hlk
        simp only [Option.map_some, Option.getD_some, Option.isSome_some, usedW] at hlk
        have hst : stepS V p.data.toList dn db = mput V p.data.toList (wrap64 (c + dn), wrap64 (d + db)) := by unfold stepS; rw [hg]
        obtain ⟨W3, hW3⟩ : ∃ W3, W3 = wr.alloc (.cells #[.int .i64 c, .int .i64 d] 107) := ⟨_, rfl⟩
        have hE3 : Ext wr W3 := by rw [hW3]; exact Ext.alloc _ _
        have hb3 : W3.heap[wr.heap.size]? = some (.cells #[.int .i64 c, .int .i64 d] 107 (0, 0)) := by rw [hW3]; exact heap_alloc_new wr _
        have hB3 := HK.out.ext hE3
        have hM3 := HM.out.trans (Mod.of_ext hE3)
        have hc0 : W3.cell? ⟨wr.heap.size, 0, none⟩ = some (.int .i64 c) := cell_of_row _ _ _ _ _ _ hb3
        have hc1 : W3.cell? ⟨wr.heap.size, 1, none⟩ = some (.int .i64 d) := cell_of_row _ _ _ _ _ _ hb3
        have hbk3 : W3.cell? ⟨bb, 0, none⟩ = some (.map (some bm)) := cell_of_row _ _ _ _ _ _ hB3.1
        have HB3 := Lib.hid hB3
        have HM3 := Lib.hid hM3
        have HST := Lib.hid (HTK.out.trans hst)
        have HSET := Lib.hid ((setRow_alloc wr zeroUsed #[.int .i64 c, .int .i64 d] 107).trans hW3.symm)
        have HNEW := Lib.hid (heap_alloc_new wr (.cells zeroUsed 107))
        have hVl : (bookV V).length < maxLen := by rw [bookV_len, hsp.2]; exact hl
        unfold zeroUsed at HSET HNEW
        clear hB3 hM3 hst hg HK HM HTK hW3 hE3 hb3
        go_wp2_with (refine wpList_store_row rfl 107 (.tmp 12) (.tmp 35) rfl wr.heap.size _ rfl rfl 107 _ HNEW.out sizeUsed rfl (by simp [Value.oneCell']) ?_; rw [HSET.out])
        refine wp_region_P (by kernel_rfl) (region_sp_last 53 [.val (.pointer (some ⟨bb, 0, none⟩)), .val (.pointer (some ⟨bb, 0, none⟩)), .val (.pointer (some ⟨bb, 0, none⟩)), .val (.map (some bm)), .val (.string p), .val (.pointer (some ⟨wr.heap.size, 0, none⟩)), .val (.int .i64 c), .val (.int .i64 dn), .val (.int .i64 (wrap64 (c + dn))), .val (.pointer (some ⟨wr.heap.size, 1, none⟩)), .val (.int .i64 d), .val (.int .i64 db), .val (.int .i64 (wrap64 (d + db))), .val (.agg #[.int .i64 (wrap64 (c + dn)), .int .i64 (wrap64 (d + db))])] trivial 14 _ rfl rfl rfl rfl rfl (by decide) rfl ?duties ?last)
        case duties =>
          refine ⟨?_, ?_, ?_, ?_, ?_, ?_, ?_, ?_, ?_, ?_, ?_, ?_, ?_, ?_, trivial⟩
          · refine duty_free rfl fun a w' hE hF hA => ?_
            have x1 := hF.slot 0 _ (by decide) rfl
            exact wp_value (w' := w') (v := .pointer (some ⟨bb, 0, none⟩)) (by simp only [execOp, x1]; simp [go_sem]) ⟨_, rfl, rfl, Ext.refl _⟩
          · refine duty_free rfl fun a w' hE hF hA => ?_
            have x1 := hA.pick 0 38 (.pointer (some ⟨bb, 0, none⟩)) rfl rfl ⟨⟨0, .data⟩, by simp, rfl, rfl⟩ (fun u h => h)
            exact wp_value (ex_nilCheck rfl _ x1) ⟨_, rfl, rfl, Ext.refl _⟩
          · refine duty_free rfl fun a w' hE hF hA => ?_
            have x1 := hA.pick 1 39 (.pointer (some ⟨bb, 0, none⟩)) rfl rfl ⟨⟨1, .data⟩, by simp, rfl, rfl⟩ (fun u h => h)
            exact wp_value (w' := w') (v := .pointer (some ⟨bb, 0, none⟩)) (by simp only [execOp, x1]; simp [go_sem]) ⟨_, rfl, rfl, Ext.refl _⟩
          · refine duty_free rfl fun a w' hE hF hA => ?_
            have x1 := hA.pick 2 40 (.pointer (some ⟨bb, 0, none⟩)) rfl rfl ⟨⟨2, .data⟩, by simp, rfl, rfl⟩ (fun u h => h)
            exact wp_value (ex_cell rfl _ _ x1 ((hE.cell (World.block_lt_of_cell? _ _ hbk3)).trans hbk3) rfl Tryz.underlying163) ⟨_, rfl, rfl, Ext.refl _⟩
          · refine duty_free rfl fun a w' hE hF hA => ?_
            have x1 := hF.slot 11 _ (by decide) rfl
            exact wp_value (w' := w') (v := .string p) (by simp only [execOp, x1]; simp [go_sem]) ⟨_, rfl, rfl, Ext.refl _⟩
          · refine duty_free rfl fun a w' hE hF hA => ?_
            have x1 := hF.slot 12 _ (by decide) rfl
            exact wp_value (w' := w') (v := .pointer (some ⟨wr.heap.size, 0, none⟩)) (by simp only [execOp, x1]; simp [go_sem]) ⟨_, rfl, rfl, Ext.refl _⟩
          · refine duty_free rfl fun a w' hE hF hA => ?_
            have x1 := hA.pick 5 43 (.pointer (some ⟨wr.heap.size, 0, none⟩)) rfl rfl ⟨⟨5, .data⟩, by simp, rfl, rfl⟩ (fun u h => h)
            exact wp_value (ex_cell rfl _ _ x1 ((hE.cell (World.block_lt_of_cell? _ _ hc0)).trans hc0) rfl Tryz.underlying2) ⟨_, rfl, rfl, Ext.refl _⟩
          · refine duty_free rfl fun a w' hE hF hA => ?_
            have x1 := hF.slot 2 _ (by decide) rfl
            exact wp_value (w' := w') (v := .int .i64 dn) (by simp only [execOp, x1]; simp [go_sem]) ⟨_, rfl, rfl, Ext.refl _⟩
          · refine duty_free rfl fun a w' hE hF hA => ?_
            have x1 := hA.pick 6 44 (.int .i64 c) rfl rfl ⟨⟨6, .data⟩, by simp, rfl, rfl⟩ (fun u h => h)
            have x2 := hA.pick 7 45 (.int .i64 dn) rfl rfl ⟨⟨7, .data⟩, by simp, rfl, rfl⟩ (fun u h => h)
            exact wp_value (w' := w') (v := .int .i64 (wrap64 (c + dn))) (by simp only [execOp, x1, x2]; simp [go_sem]; rw [IntKind.wrap_i64]; unfold wrap64; omega) ⟨_, rfl, rfl, Ext.refl _⟩
          · refine duty_free rfl fun a w' hE hF hA => ?_
            have x1 := hF.slot 12 _ (by decide) rfl
            exact wp_value (w' := w') (v := .pointer (some ⟨wr.heap.size, 1, none⟩)) (by simp only [execOp, x1]; simp [go_sem]) ⟨_, rfl, rfl, Ext.refl _⟩
          · refine duty_free rfl fun a w' hE hF hA => ?_
            have x1 := hA.pick 9 47 (.pointer (some ⟨wr.heap.size, 1, none⟩)) rfl rfl ⟨⟨9, .data⟩, by simp, rfl, rfl⟩ (fun u h => h)
            exact wp_value (ex_cell rfl _ _ x1 ((hE.cell (World.block_lt_of_cell? _ _ hc1)).trans hc1) rfl Tryz.underlying2) ⟨_, rfl, rfl, Ext.refl _⟩
          · refine duty_free rfl fun a w' hE hF hA => ?_
            have x1 := hF.slot 3 _ (by decide) rfl
            exact wp_value (w' := w') (v := .int .i64 db) (by simp only [execOp, x1]; simp [go_sem]) ⟨_, rfl, rfl, Ext.refl _⟩
          · refine duty_free rfl fun a w' hE hF hA => ?_
            have x1 := hA.pick 10 48 (.int .i64 d) rfl rfl ⟨⟨10, .data⟩, by simp, rfl, rfl⟩ (fun u h => h)
            have x2 := hA.pick 11 49 (.int .i64 db) rfl rfl ⟨⟨11, .data⟩, by simp, rfl, rfl⟩ (fun u h => h)
            exact wp_value (w' := w') (v := .int .i64 (wrap64 (d + db))) (by simp only [execOp, x1, x2]; simp [go_sem]; rw [IntKind.wrap_i64]; unfold wrap64; omega) ⟨_, rfl, rfl, Ext.refl _⟩
          · refine duty_free rfl fun a w' hE hF hA => ?_
            have x1 := hA.pick 8 46 (.int .i64 (wrap64 (c + dn))) rfl rfl ⟨⟨8, .data⟩, by simp, rfl, rfl⟩ (fun u h => h)
            have x2 := hA.pick 12 50 (.int .i64 (wrap64 (d + db))) rfl rfl ⟨⟨12, .data⟩, by simp, rfl, rfl⟩ (fun u h => h)
            exact wp_value (w' := w') (v := .agg #[.int .i64 (wrap64 (c + dn)), .int .i64 (wrap64 (d + db))]) (by simp only [execOp, List.map_toArray, List.map_cons, List.map_nil, x1, x2]; kernel_rfl) ⟨_, rfl, rfl, Ext.refl _⟩
        case last =>
          intro W8 hE8
          simp only [forS]
          have hB8 := HB3.out.ext hE8
          have hM8 := HM3.out.trans (Mod.of_ext hE8)
          have HB8 := Lib.hid hB8
          have HM8 := Lib.hid hM8
          clear hE8 hB8 hM8 HB3 HM3
          simp only [filled, List.take_succ_cons, List.take_zero, List.zip_cons_cons, List.zip_nil_left, List.foldl_cons, List.foldl_nil, Act.put, List.setIfInBounds_toArray, List.set_cons_succ, List.set_cons_zero]
          refine oper_put (.tmp 41) (.tmp 42) (.tmp 51) 163 rfl 9 107 strT Tryz.underlying163 bm (bookV V) HB8.out.2 hVl rfl p hps rfl _ rfl ?_
          intro W9 hS9 hT9
          have hMod : Mod (· = bm) W8 W9 := Mod.turned hT9 rfl
          have hB9 : BookAt W9 bb bm (bookV (shiftM U (L.take (k + 1)) dn db)) := by
            rw [HST.out, ← bookV_put]
            exact HB8.out.mod hMod hS9
          have hM9 := HM8.out.trans hMod
          have HB9 := Lib.hid hB9
          have HM9 := Lib.hid hM9
          clear hMod hB9 hM9 hS9 hT9 HB8 HM8 HST HSET HNEW
          simp only [Exit.inBlock, Exit.then, Act.put]
          rename_i hK
          refine hK _ _ ?_
          clear hK
          go_wp2
          go_roundw
          case rel => exact ⟨k + 1, by omega, by go_num, HB9.out, HM9.out⟩
          case measure => simp [intOf]; omega
    · obtain rfl : k = L.length := by omega
      rw [List.take_length] at HK
      have hfin : ShiftOut bb bm (shiftM U L dn db) w (.returned (.tuple #[])) wr := ⟨rfl, HK.out, (Mod.of_ext HE2.out).trans HM.out⟩
      have HFIN := Lib.hid hfin
      clear hfin HK HM
      go_wp2
      exact ⟨rfl, _, results_none rfl _ _ _, HFIN.out⟩
end Go.Proofs.YthinpbdbhijbgaaGreatDoor
namespace Go.Proofs.YthinpbdbhijbgaaGreatDoor
open Go.RowKit Go.Sort
set_option maxHeartbeats 4000000
set_option maxRecDepth 100000

/-- Does a path come twice? -/
def dupB (L : List Nd) : Bool := decide (¬ (L.map (·.path)).Nodup)
theorem dup_hit {L : List Nd} {i k : Nat} (hi : i < L.length) (hk : k < i) (h : (L[k]'(by omega)).path = L[i].path) : dupB L = true := by
  unfold dupB
  rw [decide_eq_true_eq]
  intro hn
  have := List.pairwise_iff_getElem.1 hn k i (by simp; omega) (by simpa using hi) hk
  simp only [List.getElem_map] at this
  exact this h
theorem dup_none {L : List Nd} (h : ∀ (i k : Nat) (hi : i < L.length) (hk : k < i), (L[k]'(by omega)).path ≠ L[i].path) : dupB L = false := by
  unfold dupB
  rw [decide_eq_false_iff_not, Decidable.not_not]
  refine List.pairwise_iff_getElem.2 fun k i hk hi hki => ?_
  simp only [List.getElem_map]
  exact h i k (by simpa using hi) hki

theorem twice_any (L : List Nd) (a : Option Addr) (c : Nat) (w : World) (hL : NdsAt w.heap.size w a L) (hl : L.length * 168 ≤ 140737488355328) :
    Calls Tryz.prog 104 #[.slice a L.length c] w fun e w' => e = .returned (.bool (dupB L)) ∧ Ext w w' := by
  have HL := Lib.hid hL
  have hhit := fun (i k : Nat) (hi : i < L.length) (hk : k < i) => dup_hit (L := L) hi hk
  have hnone := dup_none (L := L)
  generalize dupB L = db at *
  have HHIT := Lib.hid hhit
  have HNONE := Lib.hid hnone
  clear hL hhit hnone
  go_enter Tryz.func104, Tryz.ntmps104
  go_wp2
  go_loopw [3] (fun i wr => ∃ k : Nat, k ≤ L.length ∧ i = .int .i64 k ∧ Hid (∀ (i j : Nat) (hi : i < L.length) (hj : j < i), i < k → (L[j]'(by omega)).path ≠ L[i].path) ∧ Ext w wr) (fun i _ => L.length - (intOf i).toNat)
  case atStart => exact ⟨0, Nat.zero_le _, rfl, fun i j hi hj h => by omega, Ext.refl _⟩
  case round =>
    obtain ⟨k, hk, rfl, HN, hE⟩ := hrel
    have HE := Lib.hid hE
    clear hE
    by_cases hlt : k < L.length
    · go_wp2
      go_loopw [4] (fun i wi => ∃ j : Nat, j ≤ k ∧ i = .int .i64 j ∧ Hid (∀ (m : Nat) (hm : m < j) (hmk : m < L.length), L[m].path ≠ L[k].path) ∧ Ext w wi) (fun i _ => k - (intOf i).toNat)
      case atStart => exact ⟨0, Nat.zero_le _, rfl, fun m hm => by omega, HE.out⟩
      case round =>
        obtain ⟨j, hj, rfl, HM, hE⟩ := hrel
        by_cases hjk : j < k
        · have hjl : j < L.length := by omega
          obtain ⟨b1, o1, v1, ea1, hb1, hv1, hc1⟩ := HL.out j L[j] (List.getElem?_eq_getElem hjl)
          obtain ⟨b2, o2, v2, ea2, hb2, hv2, hc2⟩ := HL.out k L[k] (List.getElem?_eq_getElem hlt)
          rw [ea1] at ea2
          cases ea2
          subst ea1
          obtain ⟨da1, dc1, aa1, ac1, rfl, _, _⟩ := hv1
          obtain ⟨da2, dc2, aa2, ac2, rfl, _, _⟩ := hv2
          have p1 : w.cell? ⟨b1, o1 + j * 17, none⟩ = some (.string L[j].path) := hc1 0 _ rfl
          have p2 : w.cell? ⟨b1, o1 + k * 17, none⟩ = some (.string L[k].path) := hc2 0 _ rfl
          have c1 := (hE.cell (p := ⟨b1, o1 + j * 17, none⟩) hb1).trans p1
          have c2 := (hE.cell (p := ⟨b1, o1 + k * 17, none⟩) hb1).trans p2
          have hx := HHIT.out k j hlt hjk
          have HE2 := Lib.hid hE
          by_cases he : L[j].path = L[k].path
          · have hdb := hx he
            subst hdb
            rw [he] at c1
            generalize L[k].path = p at *
            have f1 : (p.toList == p.toList) = true := by simp
            clear hc1 hc2 p1 p2 hE hx he HL HM HN HHIT HNONE
            go_wp2
            go_quiet (fail)
            go_wp2
            go_ret
            exact ⟨rfl, HE2.out.trans' (below_drewN (Below.refl _ _) _)⟩
          · have hmm : ∀ (m : Nat) (hm : m < j + 1) (hmk : m < L.length), L[m].path ≠ L[k].path := fun m hm hmk => by
              by_cases hmj : m = j
              · subst hmj; exact he
              · exact HM.out m (by omega) hmk
            have HMM := Lib.hid hmm
            have f1 : (L[j].path.toList == L[k].path.toList) = false := by
              simp only [ByteArray.toList_eq, beq_eq_false_iff_ne, ne_eq]
              exact fun h => he (ba_ext h)
            obtain ⟨p, hp⟩ : ∃ p, p = L[k].path := ⟨_, rfl⟩
            obtain ⟨q, hq⟩ : ∃ q, q = L[j].path := ⟨_, rfl⟩
            rw [← hp] at c2 f1
            rw [← hq] at c1 f1
            clear hp hq
            clear hc1 hc2 p1 p2 hE hx he hmm
            go_wp2
            go_quiet (fail)
            go_wp2
            go_roundw
            case rel => exact ⟨j + 1, by omega, by go_num, HMM.out, HE2.out.trans' (below_drewN (Below.refl _ _) _)⟩
            case measure => simp [intOf]; omega
        · obtain rfl : j = k := by omega
          have hnn : ∀ (i m : Nat) (hi : i < L.length) (hm : m < i), i < j + 1 → (L[m]'(by omega)).path ≠ L[i].path := fun i m hi hm h => by
            by_cases hij : i = j
            · subst hij; exact HM.out m hm (by omega)
            · exact HN.out i m hi hm (by omega)
          have HNN := Lib.hid hnn
          have HE2 := Lib.hid hE
          clear hE hnn
          go_wp2
          go_roundw
          case rel => exact ⟨j + 1, by omega, by go_num, HNN.out, HE2.out⟩
          case measure => simp [intOf]; omega
    · obtain rfl : k = L.length := by omega
      have hdb := HNONE.out fun i j hi hj => HN.out i j hi hj hi
      subst hdb
      go_wp2
      go_ret
      exact ⟨rfl, HE.out⟩
end Go.Proofs.YthinpbdbhijbgaaGreatDoor
namespace Go.Proofs.YthinpbdbhijbgaaGreatDoor
open Go.RowKit Go.Sort
set_option maxHeartbeats 4000000
set_option maxRecDepth 100000

/-- Nodes by their paths: the last one of a path stays. -/
def pairM (L : List Nd) : List (Key × Nd) := L.foldl (fun M n => mput M (keyN n) n) []
theorem pairM_snoc (L : List Nd) (n : Nd) : pairM (L ++ [n]) = mput (pairM L) (keyN n) n := by unfold pairM; rw [List.foldl_append]; rfl
theorem pairM_take {L : List Nd} {k : Nat} (hk : k < L.length) : pairM (L.take (k + 1)) = mput (pairM (L.take k)) (keyN L[k]) L[k] := by
  rw [List.take_succ_eq_append_getElem hk, pairM_snoc]
theorem pairM_sorted (L : List Nd) : MSorted (pairM L) := by
  have key : ∀ (l : List Nd) (M : List (Key × Nd)), MSorted M → MSorted (l.foldl (fun M n => mput M (keyN n) n) M) := by
    intro l
    induction l with
    | nil => exact fun M h => h
    | cons n l ih => exact fun M h => ih _ (mput_sorted h _ _)
  exact key L [] List.Pairwise.nil
theorem pairM_mem (L : List Nd) : ∀ x ∈ pairM L, x.2 ∈ L ∧ x.1 = keyN x.2 := by
  have key : ∀ (l : List Nd) (M : List (Key × Nd)) (x : Key × Nd), x ∈ l.foldl (fun M n => mput M (keyN n) n) M → x ∈ M ∨ (x.2 ∈ l ∧ x.1 = keyN x.2) := by
    intro l
    induction l with
    | nil => exact fun M x h => .inl h
    | cons n l ih =>
      intro M x h
      rcases ih _ x h with h1 | ⟨h1, h2⟩
      · rcases mem_mput.1 h1 with rfl | ⟨h3, _⟩
        · exact .inr ⟨List.mem_cons_self .., rfl⟩
        · exact .inl h3
      · exact .inr ⟨List.mem_cons_of_mem _ h1, h2⟩
  intro x hx
  rcases key L [] x hx with h | h
  · simp at h
  · exact h
theorem pairM_there {L : List Nd} {n : Nd} (hn : n ∈ L) : mget (pairM L) (keyN n) ≠ none := by
  have key : ∀ (l : List Nd) (M : List (Key × Nd)) (k : Key), MSorted M → (mget M k ≠ none ∨ ∃ m ∈ l, keyN m = k) → mget (l.foldl (fun M n => mput M (keyN n) n) M) k ≠ none := by
    intro l
    induction l with
    | nil =>
      rintro M k _ (h | ⟨m, hm, _⟩)
      · exact h
      · simp at hm
    | cons a l ih =>
      intro M k hM h
      refine ih _ k (mput_sorted hM _ _) ?_
      by_cases e : keyN a = k
      · refine .inl ?_
        rw [← e, mget_of_mem (mput_sorted hM _ _) (mem_mput.2 (.inl rfl))]
        simp
      · rcases h with h | ⟨m, hm, he⟩
        · refine .inl ?_
          obtain ⟨v, hv⟩ := Option.ne_none_iff_exists'.1 h
          rw [mget_of_mem (mput_sorted hM _ _) (mem_mput.2 (.inr ⟨mget_some_mem hv, fun e2 => e e2.symm⟩))]
          simp
        · rcases List.mem_cons.1 hm with rfl | hm
          · exact absurd he e
          · exact .inr ⟨m, hm, he⟩
  exact key L [] _ List.Pairwise.nil (.inr ⟨n, hn, rfl⟩)
theorem pair_hit {L : List Nd} {k : Nat} (hk : k < L.length) (h : mget (pairM (L.take k)) (keyN L[k]) ≠ none) : dupB L = true := by
  obtain ⟨v, hv⟩ := Option.ne_none_iff_exists'.1 h
  obtain ⟨h1, h2⟩ := pairM_mem _ _ (mget_some_mem hv)
  obtain ⟨j, hj, ej⟩ := List.getElem_of_mem h1
  have hjk : j < k := by simp at hj; omega
  refine dup_hit hk hjk ?_
  have e : L[j] = v := by
    have h3 := ej
    rw [List.getElem_take] at h3
    exact h3
  rw [e]
  exact (keyN_inj h2).symm
theorem pair_none {L : List Nd} (h : ∀ (k : Nat) (hk : k < L.length), mget (pairM (L.take k)) (keyN L[k]) = none) : dupB L = false := by
  refine dup_none fun i k hi hk e => ?_
  have hm : (L[k]'(by omega)) ∈ L.take i := by
    rw [List.mem_iff_getElem]
    exact ⟨k, by simp; omega, by rw [List.getElem_take]⟩
  have := pairM_there hm
  have e2 : keyN (L[k]'(by omega)) = keyN L[i] := by unfold keyN; rw [e]
  rw [e2] at this
  exact this (h i hi)

/-- A map of nodes in memory. -/
def PairAt (S : Nat → Prop) (w : World) (bm : Nat) (M : List (Key × Nd)) : Prop := ∃ m, SMap Tryz.prog 9 w bm m ∧ Rel2 (fun n v => NdS S w v n) M m
theorem PairAt.ext {S : Nat → Prop} {w w' : World} {bm : Nat} {M : List (Key × Nd)} (h : PairAt S w bm M) (hE : Ext w w') : PairAt S w' bm M := by
  obtain ⟨m, h1, h2⟩ := h
  exact ⟨m, h1.keep (hE.block bm h1.lt), h2.imp fun _ _ _ hv => hv.imp (fun _ h => h) fun b o u _ hu => (hE.cell (p := ⟨b, o, none⟩) (World.block_lt_of_cell? _ _ hu)).trans hu⟩
theorem PairAt.look {S : Nat → Prop} {w : World} {bm : Nat} {M : List (Key × Nd)} (h : PairAt S w bm M) (s : ByteArray) (hs : s.size ≤ maxLen) :
    ∃ v, NdS S w v ((mget M s.data.toList).getD zeroN) ∧ (Instr.lookup 120 (.map (some bm)) (.string s) true).run Tryz.prog w = .ok (.tuple #[v, .bool (mget M s.data.toList).isSome]) w ∧
      (Instr.lookup 120 (.map (some bm)) (.string s) false).run Tryz.prog w = .ok v w := by
  obtain ⟨mm, hm, hr⟩ := h
  have q1 := SMap.look_ok (e := 44) hm strT Tryz.underlying120 (z := .agg zeroNd) (by kernel_rfl) hs
  have q2 := SMap.look (e := 44) hm strT Tryz.underlying120 (z := .agg zeroNd) (by kernel_rfl) hs
  rcases hr.get s.data.toList with ⟨h1, h2⟩ | ⟨y, v, h1, h2, h3⟩
  · rw [h2] at q1 q2
    rw [h1]
    exact ⟨.agg zeroNd, zeroN_nds S w, q1, q2⟩
  · rw [h2] at q1 q2
    rw [h1]
    exact ⟨v, h3, q1, q2⟩

def PairOut (L : List Nd) (w : World) (e : Ending) (w' : World) : Prop :=
  Ext w w' ∧ ((dupB L = true ∧ e = .returned (.tuple #[.map none, .bool false])) ∨ (dupB L = false ∧ ∃ bm, e = .returned (.tuple #[.map (some bm), .bool true]) ∧ w.heap.size ≤ bm ∧ PairAt (fun k => k < w.heap.size) w' bm (pairM L)))

theorem paired_any (L : List Nd) (a : Option Addr) (c : Nat) (w : World) (hL : NdsAt w.heap.size w a L) (hl : L.length * 168 ≤ 140737488355328) (hs : ∀ n ∈ L, n.path.size ≤ 9223372036854775800) :
    Calls Tryz.prog 102 #[.slice a L.length c] w (PairOut L w) := by
  have HL := Lib.hid hL
  have HS := Lib.hid hs
  have hhit := fun (k : Nat) (hk : k < L.length) => pair_hit (L := L) hk
  have hnone := pair_none (L := L)
  have HHIT := Lib.hid hhit
  have HNONE := Lib.hid hnone
  have hm0 : PairAt (fun k => k < w.heap.size) (w.alloc (.map #[] 0)) w.heap.size (pairM (L.take 0)) := ⟨[], SMap.made _ _ w, by rw [List.take_zero]; exact .nil⟩
  have HM0 := Lib.hid hm0
  have HE0 := Lib.hid (Ext.alloc w (.map #[] 0))
  have hmm := @run_makeMap Tryz.prog
  clear hL hhit hnone hs hm0
  go_enter Tryz.func102, Tryz.ntmps102
  go_wp2
  go_loopw [12] (fun i wr => ∃ k : Nat, k ≤ L.length ∧ i = .int .i64 k ∧ Hid (∀ (j : Nat) (hj : j < L.length), j < k → mget (pairM (L.take j)) (keyN L[j]) = none) ∧ Hid (PairAt (fun k => k < w.heap.size) wr w.heap.size (pairM (L.take k))) ∧ Ext w wr) (fun i _ => L.length - (intOf i).toNat)
  case atStart => exact ⟨0, Nat.zero_le _, rfl, fun j hj h => by omega, HM0.out, HE0.out⟩
  case round =>
    obtain ⟨k, hk, rfl, HN, HP, hE⟩ := hrel
    clear HM0 HE0
    by_cases hlt : k < L.length
    · obtain ⟨b, off, vv, rfl, hb, hv, hc⟩ := HL.out k L[k] (List.getElem?_eq_getElem hlt)
      have hps := HS.out L[k] (List.getElem_mem hlt)
      have hit := HHIT.out k hlt
      have hstep := pairM_take hlt
      have hnn : mget (pairM (L.take k)) (keyN L[k]) = none → ∀ (j : Nat) (hj : j < L.length), j < k + 1 → mget (pairM (L.take j)) (keyN L[j]) = none := fun h0 j hj hlt' => by
        by_cases e : j = k
        · subst e; exact h0
        · exact HN.out j hj (by omega)
      have HIT := Lib.hid hit
      have HST := Lib.hid hstep
      have HNN := Lib.hid hnn
      clear hit hstep hnn
      generalize L[k] = n at *
      obtain ⟨da, dc, aa, ac, rfl, hD, hA⟩ := hv
      have hcw : ∀ j u, (ndC n (.slice da n.data.length dc) (.slice aa n.acl.length ac))[j]? = some u → wr.cell? ((⟨b, off + k * 17, none⟩ : Addr).add j) = some u := fun j u hj => by
        rw [addr_add, hE.cell (p := ⟨b, off + k * 17 + j, none⟩) hb]; exact hc j u hj
      obtain ⟨W2, hW2⟩ : ∃ W2, W2 = wr.alloc (.cells (ndC n (.slice da n.data.length dc) (.slice aa n.acl.length ac)) 44) := ⟨_, rfl⟩
      have hE2 : Ext wr W2 := by rw [hW2]; exact Ext.alloc _ _
      have hb2 : W2.heap[wr.heap.size]? = some (.cells (ndC n (.slice da n.data.length dc) (.slice aa n.acl.length ac)) 44 (0, 0)) := by rw [hW2]; exact heap_alloc_new wr _
      have hz2 : W2.heap.size = wr.heap.size + 1 := by rw [hW2]; simp
      have hP2 := HP.out.ext hE2
      obtain ⟨u, hu, hq, _⟩ := hP2.look n.path (by unfold maxLen; omega)
      obtain ⟨d1, e1, a1, f1, X3, e0, hset3, hbx3, hEX3, _, _⟩ := box_node hu fun k hk => by have := hE.size; omega
      subst e0
      have hpc : W2.cell? ⟨wr.heap.size, 0, none⟩ = some (.string n.path) := cell_of_row _ _ _ _ _ _ hb2
      generalize hy : (mget (pairM (L.take k)) n.path.data.toList).getD zeroN = y at *
      have HSET := Lib.hid ((setRow_alloc wr zeroNd (ndC n (.slice da n.data.length dc) (.slice aa n.acl.length ac)) 44).trans hW2.symm)
      have HNEW := Lib.hid (heap_alloc_new wr (.cells zeroNd 44))
      have HSET3 := Lib.hid hset3
      have HNEW3 := Lib.hid (heap_alloc_new W2 (.cells zeroNd 44))
      have hE3 : Ext w X3 := (hE.trans hE2).trans hEX3
      have hb3 := (hEX3.block wr.heap.size (by omega)).trans hb2
      have hpc3 : X3.cell? ⟨wr.heap.size, 0, none⟩ = some (.string n.path) := cell_of_row _ _ _ _ _ _ hb3
      have HB3 := Lib.hid hb3
      have HC := Lib.hid hcw
      have HE3 := Lib.hid hE3
      have hzw := hE.size
      have hP3 := hP2.ext hEX3
      have hnd : NdS (fun k => k < w.heap.size) X3 (.agg (ndC n (.slice da n.data.length dc) (.slice aa n.acl.length ac))) n := ⟨da, dc, aa, ac, rfl, (show CellsS (fun k => k < w.heap.size) w da (n.data.map u8v) from fun j u hj => hD j u hj).imp (fun _ h => h) fun b o u hb hu => (hE3.cell (p := ⟨b, o, none⟩) hb).trans hu, (show CellsS (fun k => k < w.heap.size) w aa (acCs n.acl) from fun j u hj => hA j u hj).imp (fun _ h => h) fun b o u hb hu => (hE3.cell (p := ⟨b, o, none⟩) hb).trans hu⟩
      have HP3 := Lib.hid hP3
      have HND := Lib.hid hnd
      unfold ndC at HC HSET HSET3 HB3
      unfold zeroNd at HSET HNEW HSET3 HNEW3
      have hz23 : wr.heap.size < W2.heap.size := by omega
      clear hz2
      have hps2 : n.path.size ≤ maxLen := by unfold maxLen; omega
      cases hg : mget (pairM (L.take k)) n.path.data.toList with
      | some y0 =>
        rw [hg] at hq
        simp only [Option.isSome_some] at hq
        have hd : dupB L = true := HIT.out (by rw [show keyN n = n.path.data.toList from rfl, hg]; simp)
        have hfin : PairOut L w (.returned (.tuple #[.map none, .bool false])) X3 := ⟨hE3, .inl ⟨hd, rfl⟩⟩
        have HFIN := Lib.hid hfin
        unfold ndC at hq
        clear hfin hd hcw hc hD hA hW2 hE2 hb2 hP2 hu hset3 hbx3 hEX3 hE3 hb3 hP3 hnd hE hg hy HP HN hb HB3
        go_wp2_with (first | (refine wpList_load_at rfl 44 (.tmp 14) rfl _ rfl _ _ HC.out Tryz.underlying44 rfl sizeNd ?_) | (refine wpList_store_row rfl 44 (.tmp 6) (.tmp 15) rfl wr.heap.size _ rfl rfl 44 _ HNEW.out sizeNd rfl (cells_node n da aa _ _ dc ac) ?_; rw [HSET.out]) | (refine wpList_store_row rfl 44 (.tmp 7) (.tmp 21) rfl W2.heap.size _ rfl rfl 44 _ HNEW3.out sizeNd rfl (cells_node y d1 a1 _ _ e1 f1) ?_; rw [HSET3.out]))
        go_ret2
        exact HFIN.out
      | none =>
        rw [hg] at hq
        simp only [Option.isSome_none] at hq
        have HN2 := Lib.hid (HNN.out hg)
        obtain ⟨m, hm3, hr3⟩ := hP3
        have hml : m.length < maxLen := by
          have h1 := hr3.length
          have h2 : (pairM (L.take k)).length ≤ k := by
            have key : ∀ (l : List Nd) (M : List (Key × Nd)), (l.foldl (fun M n => mput M (keyN n) n) M).length ≤ M.length + l.length := by
              intro l
              induction l with
              | nil => exact fun M => Nat.le_refl _
              | cons n l ih =>
                intro M
                have h3 := ih (mput M (keyN n) n)
                have h4 : (mput M (keyN n) n).length ≤ M.length + 1 := by
                  unfold mput
                  rw [mins_length]
                  exact Nat.succ_le_succ (List.length_filter_le _ _)
                show (List.foldl (fun M n => mput M (keyN n) n) (mput M (keyN n) n) l).length ≤ _
                rw [List.length_cons]
                omega
            have h3 := key (L.take k) []
            have h4 : (L.take k).length ≤ k := by simp; omega
            have h5 : ([] : List (Key × Nd)).length = 0 := rfl
            unfold pairM
            omega
          unfold maxLen; omega
        have HR3 := Lib.hid hr3
        unfold ndC at hq
        clear hcw hc hD hA hW2 hE2 hb2 hP2 hu hset3 hbx3 hEX3 hE3 hb3 hnd hE hg hy HP HN hb hr3 HP3
        go_wp2_with (first | (refine wpList_load_at rfl 44 (.tmp 14) rfl _ rfl _ _ HC.out Tryz.underlying44 rfl sizeNd ?_) | (refine wpList_store_row rfl 44 (.tmp 6) (.tmp 15) rfl wr.heap.size _ rfl rfl 44 _ HNEW.out sizeNd rfl (cells_node n da aa _ _ dc ac) ?_; rw [HSET.out]) | (refine wpList_store_row rfl 44 (.tmp 7) (.tmp 21) rfl W2.heap.size _ rfl rfl 44 _ HNEW3.out sizeNd rfl (cells_node y d1 a1 _ _ e1 f1) ?_; rw [HSET3.out]) | (refine wpList_load_row rfl 44 (.tmp 6) rfl wr.heap.size rfl 44 _ (0, 0) _ HB3.out Tryz.underlying44 rfl sizeNd ?_) | (at_mapUpdate; refine wpList_put _ rfl _ _ _ 120 rfl 9 44 strT Tryz.underlying120 w.heap.size _ hm3 hml rfl n.path hps2 rfl _ rfl ?_; intro w6 hs6 ht6))
        have hE6 : Ext w w6 := HE3.out.trans' ⟨by obtain ⟨es, cl, es', cl', _, rfl⟩ := ht6; rfl, by obtain ⟨es, cl, es', cl', _, rfl⟩ := ht6; rfl, by obtain ⟨es, cl, es', cl', _, rfl⟩ := ht6; rfl, Nat.le_of_eq (turned_size ht6).symm, fun k hk => turned_other ht6 (by omega)⟩
        have hrel : PairAt (fun k => k < w.heap.size) w6 w.heap.size (pairM (L.take (k + 1))) := by
          rw [HST.out]
          exact ⟨_, hs6, (HR3.out.mput (keyN n) HND.out).imp fun _ _ _ hv => hv.imp (fun _ h => h) fun b o u (hb : b < w.heap.size) hu => (World.cell?_of_block (turned_other ht6 (show b ≠ w.heap.size by omega))).trans hu⟩
        have HREL := Lib.hid hrel
        have HE6 := Lib.hid hE6
        clear hrel hE6 hs6 ht6 hm3 HR3
        go_wp2
        go_roundw
        case rel => exact ⟨k + 1, by omega, by go_num, HN2.out, HREL.out, HE6.out⟩
        case measure => simp [intOf]; omega
    · obtain rfl : k = L.length := by omega
      have hd : dupB L = false := HNONE.out fun k hk => HN.out k hk hk
      have hfin : PairOut L w (.returned (.tuple #[.map (some w.heap.size), .bool true])) wr := ⟨hE, .inr ⟨hd, _, rfl, Nat.le_refl _, by have := HP.out; rwa [List.take_length] at this⟩⟩
      have HFIN := Lib.hid hfin
      clear hfin hd hE
      go_wp2
      go_ret2
      exact HFIN.out
end Go.Proofs.YthinpbdbhijbgaaGreatDoor
