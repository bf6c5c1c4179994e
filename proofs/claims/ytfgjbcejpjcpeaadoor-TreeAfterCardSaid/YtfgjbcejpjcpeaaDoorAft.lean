/- The law TreeAfter, walked. -/
import Derived.Test.YtfgjbcejpjcpeaaDoorAfter
import Derived.Test.YtfgjbcejpjcpeaaDoorWk
namespace Go.Proofs.YtfgjbcejpjcpeaaDoor
open Go.RowKit Go.Sort
set_option maxHeartbeats 4000000
set_option maxRecDepth 100000

theorem find_sorted {M : List (Key × Nd)} (h : MSorted M) (s : Key) (k : Nat) (hk : k < M.length) (hlo : ∀ i (hi : i < k), bytesBefore s (M[i]'(by omega)).1 = false) (hhi : bytesBefore s M[k].1 = true) : M.find? (fun x => bytesBefore s x.1) = some M[k] :=
  List.find?_eq_some_iff_getElem.2 ⟨hhi, k, hk, rfl, fun j hj => by rw [hlo j hj]; rfl⟩

/-- The path that the law stands at. -/
def atN (M : List (Key × Nd)) : Nat → ByteArray
  | 0 => ⟨#[]⟩
  | k + 1 => ((M.map (·.2.path))[k]?).getD ⟨#[]⟩

theorem atN_succ (M : List (Key × Nd)) (k : Nat) (hk : k < M.length) : atN M (k + 1) = M[k].2.path := by
  show ((M.map (·.2.path))[k]?).getD ⟨#[]⟩ = _
  rw [List.getElem?_map, List.getElem?_eq_getElem hk]; rfl

theorem after_at {M : List (Key × Nd)} (hM : MOk M) (k : Nat) (hk : k < M.length) : afterN M (atN M k) = some M[k] := by
  have hs := hM.sorted
  cases k with
  | zero =>
    refine find_sorted hs _ 0 hk (fun i hi => by omega) ?_
    have h1 := (vpath_facts (right_vpath (hM.right _ (List.getElem_mem hk)))).1
    have h2 := hM.key _ (List.getElem_mem hk)
    rw [h2]
    unfold keyN
    rw [← size_list] at h1
    show bytesBefore [] _ = true
    cases hq : M[0].2.path.data.toList with
    | nil => rw [hq] at h1; simp at h1
    | cons a l => rfl
  | succ k =>
    have e : (atN M (k + 1)).data.toList = (M[k]'(by omega)).1 := by
      rw [atN_succ M k (by omega)]
      exact (hM.key _ (List.getElem_mem _)).symm
    have hp := List.pairwise_iff_getElem.1 hs
    unfold afterN
    rw [e]
    refine find_sorted hs _ (k + 1) hk (fun i hi => ?_) (hp k (k + 1) (by omega) hk (by omega))
    by_cases hik : i = k
    · subst hik; exact WideAt.bytes_irrefl _
    · have := hp i k (by omega) (by omega) (by omega)
      cases hb : bytesBefore (M[k]'(by omega)).1 (M[i]'(by omega)).1 with
      | false => rfl
      | true => have h3 := WideShapes.bytes_trans _ _ _ this hb; rw [WideAt.bytes_irrefl] at h3; cases h3

theorem after_end {M : List (Key × Nd)} (hM : MOk M) : afterN M (atN M M.length) = none ∨ M = [] := by
  cases hl : M.length with
  | zero => exact .inr (List.eq_nil_of_length_eq_zero hl)
  | succ k =>
    left
    have e : (atN M (k + 1)).data.toList = (M[k]'(by omega)).1 := by
      rw [atN_succ M k (by omega)]
      exact (hM.key _ (List.getElem_mem _)).symm
    have hp := List.pairwise_iff_getElem.1 hM.sorted
    unfold afterN
    rw [e]
    refine List.find?_eq_none.2 fun x hx => ?_
    obtain ⟨i, hi, rfl⟩ := List.getElem_of_mem hx
    by_cases hik : i = k
    · subst hik; rw [WideAt.bytes_irrefl]; simp
    · have := hp i k hi (by omega) (by omega)
      cases hb : bytesBefore (M[k]'(by omega)).1 M[i].1 with
      | false => simp
      | true => have h3 := WideShapes.bytes_trans _ _ _ this hb; rw [WideAt.bytes_irrefl] at h3; cases h3

theorem atN_size {M : List (Key × Nd)} (hM : MOk M) (k : Nat) : (atN M k).size ≤ maxLen := by
  cases k with
  | zero => show (⟨#[]⟩ : ByteArray).size ≤ maxLen; unfold maxLen; decide
  | succ k =>
    show (((M.map fun x : Key × Nd => x.2.path)[k]?).getD (⟨#[]⟩ : ByteArray)).size ≤ maxLen
    rw [List.getElem?_map]
    cases hq : M[k]? with
    | none => unfold maxLen; decide
    | some x =>
      have := (vpath_facts (right_vpath (hM.right x (List.mem_of_getElem? hq)))).2.1
      show x.2.path.size ≤ maxLen
      unfold maxLen; omega

theorem aft_walk (L : List Nd) (a : Option Addr) (c : Nat) (w : World) (hT : Tabs w) (hL : NdsAt w.heap.size w a L) (hf : ∀ n ∈ L, Fit n) (hl : L.length * 168 ≤ 140737488355328) :
    Calls Tryd.prog 4 #[.slice a L.length c] w fun e w' => e = .returned (.bool true) ∧ Below w.heap.size w w' := by
  have hsz := hT.size
  have C1 := Lib.hid (alive_any w hT)
  have HL := Lib.hid hL
  have HF := Lib.hid hf
  have HT := Lib.hid hT
  clear hL hf hT
  go_enter Tryd.func4, Tryd.ntmps4
  go_wp2_with fail
  refine C1.out.mono ?_
  rintro e W1 ⟨rfl, hE1⟩
  have C2 := Lib.hid (from_any L a c W1 (HT.out.below hE1 hsz) (HL.out.ext hE1) HF.out (by omega))
  have HE1 := Lib.hid hE1
  have hz1 := hE1.size
  clear hE1 C1 HL HT
  go_wp2_with fail
  refine C2.out.mono ?_
  intro e W2 hout
  unfold FromOut at hout
  cases hfr : fromN L with
  | error x =>
    obtain ⟨i, x⟩ := x
    rw [hfr] at hout
    obtain ⟨rfl, hE2⟩ := hout
    have hx : x ≠ 0 := fromN_err hfr
    have hx1 : (x == 0) = false := by simpa using hx
    have hx2 : decide (x = 0) = false := by simpa using hx
    have HFIN := Lib.hid (HE1.out.trans hE2)
    clear C2 hE2 hfr
    go_wp2
    go_ret
    exact ⟨rfl, HFIN.out⟩
  | ok M =>
    rw [hfr] at hout
    obtain ⟨bt, rfl, hT2, hE2⟩ := hout
    have hok := hT2.ok
    have hML := hT2.len
    have hB2 : Below w.heap.size w W2 := HE1.out.trans hE2
    have hkl : ∀ k ∈ M.map (·.1), k.length ≤ maxLen := fun k hk => by
      obtain ⟨x, hx, rfl⟩ := List.mem_map.1 hk
      rw [hok.key x hx]
      unfold keyN
      rw [size_list]
      have := (vpath_facts (right_vpath (hok.right x hx))).2.1
      unfold maxLen; omega
    have C3 := lall_any _ W2 bt M _ hT2 L.length (by unfold maxLen; omega) (by omega) hkl
    rw [nodesOf_vals hok.sorted, List.take_of_length_le (by simp; omega)] at C3
    have HT2 := Lib.hid hT2
    have HB2 := Lib.hid hB2
    have HOK := Lib.hid hok
    have C3 := Lib.hid C3
    have HROOT := Lib.hid (fromN_root hfr)
    clear hT2 hB2 hok hE2 hkl hfr C2
    go_wp2_with fail
    refine C3.out.mono ?_
    rintro e W4 ⟨v, vs, rfl, hvl, hrow, hvn, hE4⟩
    simp only [List.length_map] at hvl hrow
    obtain ⟨la, lc, rfl, hrows⟩ := ownsRow_from hrow
    have hE4 : Ext W2 W4 := hE4
    have HT4 := Lib.hid (HT2.out.ext hE4)
    have HB4 := Lib.hid (HB2.out.trans (hE4.mono HB2.out.size))
    have HVN := Lib.hid hvn
    have HROWS := Lib.hid hrows
    clear hrow hvn hrows C3 hE4
    go_wp2_with fail
    go_loopw [7, 8] (fun s i wr => ∃ k : Nat, k ≤ M.length ∧ i = .int .i64 k ∧ s = .string (atN M k) ∧ Ext W4 wr) (fun _ i _ => M.length - (intOf i).toNat)
    case atStart => exact ⟨0, Nat.zero_le _, rfl, rfl, Ext.refl _⟩
    case round =>
      obtain ⟨k, hkM, rfl, rfl, hE⟩ := hrel
      have hTr := HT4.out.ext hE
      by_cases hk : k < M.length
      · have C4 := after_any _ wr bt M _ hTr (atN M k)
        have hat := after_at HOK.out k hk
        have HATE := Lib.hid (show atN M (k + 1) = (M[k]'hk).2.path by
          exact atN_succ M k hk)
        have hok1 := HOK.out.right _ (List.getElem_mem hk)
        have hvk : vs[k]? = some (vs[k]'(by omega)) := List.getElem?_eq_getElem (by omega)
        obtain ⟨n', hn', db, dd, ab, ad, e', hDb, hAb⟩ := HVN.out k _ hvk
        simp only [List.getElem?_map, List.getElem?_eq_getElem hk, Option.map_some, Option.some.injEq] at hn'
        subst hn'
        simp only [Value.agg.injEq] at e'
        rw [e'] at hvk
        have hv17 : ∀ x ∈ vs, x.size = 17 := fun x hx => by
          obtain ⟨i, hi, ei⟩ := List.getElem_of_mem hx
          obtain ⟨n2, _, da2, dc2, aa2, ac2, e2, _⟩ := HVN.out i x (by rw [List.getElem?_eq_getElem hi, ei])
          simp only [Value.agg.injEq] at e2
          rw [e2]; rfl
        have hfl := flat17 vs k _ hv17 hvk
        unfold AfterOut at C4
        rw [hat] at C4
        simp only [Option.isSome_some, Option.map_some, Option.getD_some] at C4
        have HC4 := Lib.hid C4
        generalize (M[k]'hk).2 = n at *
        have hfit := (right_fit hok1).1
        obtain ⟨rb, ro, rfl, _, _, _⟩ := HROWS.out (k * 17 + 0) _ (hfl 0 (.string n.path) rfl)
        have hrow4 : ∀ j u, (ndC n (.slice db n.data.length dd) (.slice ab n.acl.length ad))[j]? = some u → W4.cell? ((⟨rb, ro + k * 17, none⟩ : Addr).add j) = some u := fun j u hj => by
          obtain ⟨g', off', e3, h1, h2, h3⟩ := HROWS.out (k * 17 + j) u (hfl j u hj)
          simp only [Option.some.injEq, Addr.mk.injEq, and_true] at e3
          obtain ⟨rfl, rfl⟩ := e3
          rw [addr_add, Nat.add_assoc]
          exact h3
        have HROW4 := Lib.hid hrow4
        have HDb := Lib.hid hDb
        have HAb := Lib.hid hAb
        have HE := Lib.hid hE
        clear hrow4 hDb hAb hfl hvk e' hTr hat C4 hE HROWS
        go_wp2_with fail
        refine HC4.out.mono ?_
        rintro e W5 ⟨v, rfl, hv, hE5⟩
        obtain ⟨da, dc, aa, ac, rfl, hDa, hAa⟩ := hv
        have hE5 : Ext wr W5 := hE5
        obtain ⟨W6, hW6⟩ : ∃ W6, W6 = W5.alloc (.cells (ndC n (.slice da n.data.length dc) (.slice aa n.acl.length ac)) 37) := ⟨_, rfl⟩
        have hE6 : Ext W5 W6 := by rw [hW6]; exact Ext.alloc _ _
        have HSET := Lib.hid ((setRow_alloc W5 zeroNd (ndC n (.slice da n.data.length dc) (.slice aa n.acl.length ac)) 37).trans hW6.symm)
        have HNew := Lib.hid (heap_alloc_new W5 (.cells zeroNd 37))
        have hbl : W6.heap[W5.heap.size]? = some (.cells (ndC n (.slice da n.data.length dc) (.slice aa n.acl.length ac)) 37 (0, 0)) := by rw [hW6]; exact heap_alloc_new _ _
        have hE46 : Ext W4 W6 := (HE.out.trans hE5).trans hE6
        have hDW := ((hDa.cells fun b hb => hb.2).ext hE6)
        have hAW := ((hAa.cells fun b hb => hb.2).ext hE6)
        have hDB := ((HDb.out.cells fun b hb => hb).ext hE46)
        have hAB := ((HAb.out.cells fun b hb => hb).ext hE46)
        have hrow : ∀ j u, (ndC n (.slice db n.data.length dd) (.slice ab n.acl.length ad))[j]? = some u → W6.cell? ((⟨rb, ro + k * 17, none⟩ : Addr).add j) = some u := fun j u hj => by
          have h0 := HROW4.out j u hj
          exact (hE46.cell (World.block_lt_of_cell? _ _ h0)).trans h0
        have HBL := Lib.hid hbl
        have HE46 := Lib.hid hE46
        have HDW := Lib.hid hDW
        have HAW := Lib.hid hAW
        have HDB := Lib.hid hDB
        have HAB := Lib.hid hAB
        have HROW := Lib.hid hrow
        unfold ndC at HSET
        unfold zeroNd at HSET HNew
        clear hDa hAa hDW hAW hDB hAB hrow hE46 hE6 hE5 hW6 hbl HROW4 HC4
        unfold ndC
        go_wp2_with (refine wpList_store_row rfl 37 (.tmp 9) (.tmp 39) rfl W5.heap.size _ rfl rfl 37 _ HNew.out sizeNd rfl (cells_node n da aa _ _ dc ac) ?_; rw [HSET.out])
        have hbl := HBL.out
        have hrow := HROW.out
        have hDW := HDW.out
        have hAW := HAW.out
        have hDB := HDB.out
        have hAB := HAB.out
        refine wp_region_P (by kernel_rfl) (region_vals 69 [.bool true, .bool false, .bool false, .agg (ndC n (.slice da n.data.length dc) (.slice aa n.acl.length ac)), .slice (some ⟨rb, ro, none⟩) M.length lc, .int .i64 k, .pointer (some ⟨rb, ro + k * 17, none⟩), .agg (ndC n (.slice db n.data.length dd) (.slice ab n.acl.length ad)), .bool true, .bool false, .bool false] rfl (by decide) rfl ?duties ?rest)
        case duties =>
            refine ⟨?_, ?_, ?_, ?_, ?_, ?_, ?_, ?_, ?_, ?_, ?_, trivial⟩
            · refine duty_free rfl fun a w' hE hF hA => ?_
              have x1 := hF.slot 10 _ (by decide) rfl
              exact wp_value (w' := w') (v := .bool true) (by simp only [execOp, x1]; simp [go_sem]) ⟨_, rfl, rfl, Ext.refl _⟩
            · refine duty_free rfl fun a w' hE hF hA => ?_
              have x1 := hA.val 0 41 rfl rfl ⟨⟨0, .data⟩, by simp, rfl, rfl⟩ rfl
              exact wp_value (w' := w') (v := .bool false) (by simp only [execOp, x1]; simp [go_sem]) ⟨_, rfl, rfl, Ext.refl _⟩
            · refine duty_free rfl fun a w' hE hF hA => ?_
              exact wp_value (ex_move rfl) ⟨_, rfl, hA.slot 1 42 rfl rfl ⟨⟨1, .data⟩, by simp, rfl, rfl⟩, Ext.refl _⟩
            · refine duty_yes rfl (p := _) rfl (d := 43) rfl (show 43 < 69 by decide) ⟨⟨2, .guard⟩, by simp, rfl, rfl⟩ (fun v w h => (Option.some.inj h).symm) fun a w' hE hF hA => ?_
              have x1 := hF.slot 9 _ (by decide) rfl
              exact wp_value (ex_load_row rfl _ x1 37 _ (0, 0) _ ((hE.block _ (Array.getElem?_eq_some_iff.1 hbl).1).trans hbl) Tryd.underlying37 rfl sizeNd) ⟨_, rfl, rfl, Ext.refl _⟩
            · refine duty_yes rfl (p := _) rfl (d := 43) rfl (show 43 < 69 by decide) ⟨⟨2, .guard⟩, by simp, rfl, rfl⟩ (fun v w h => (Option.some.inj h).symm) fun a w' hE hF hA => ?_
              have x1 := hF.slot 6 _ (by decide) rfl
              exact wp_value (w' := w') (v := .slice (some ⟨rb, ro, none⟩) M.length lc) (by simp only [execOp, x1]; simp [go_sem]) ⟨_, rfl, rfl, Ext.refl _⟩
            · refine duty_yes rfl (p := _) rfl (d := 43) rfl (show 43 < 69 by decide) ⟨⟨2, .guard⟩, by simp, rfl, rfl⟩ (fun v w h => (Option.some.inj h).symm) fun a w' hE hF hA => ?_
              have x1 := hF.slot 8 _ (by decide) rfl
              exact wp_value (w' := w') (v := .int .i64 k) (by simp only [execOp, x1]; simp [go_sem]) ⟨_, rfl, rfl, Ext.refl _⟩
            · refine duty_yes rfl (p := _) rfl (d := 43) rfl (show 43 < 69 by decide) ⟨⟨2, .guard⟩, by simp, rfl, rfl⟩ (fun v w h => (Option.some.inj h).symm) fun a w' hE hF hA => ?_
              have x1 := hA.val 4 45 rfl rfl ⟨⟨4, .data⟩, by simp, rfl, rfl⟩ rfl
              have x2 := hA.val 5 46 rfl rfl ⟨⟨5, .data⟩, by simp, rfl, rfl⟩ rfl
              exact wp_value (w' := w') (v := .pointer (some ⟨rb, ro + k * 17, none⟩)) (by simp only [execOp, x1, x2]; simp [go_sem, hk]) ⟨_, rfl, rfl, Ext.refl _⟩
            · refine duty_yes rfl (p := _) rfl (d := 43) rfl (show 43 < 69 by decide) ⟨⟨2, .guard⟩, by simp, rfl, rfl⟩ (fun v w h => (Option.some.inj h).symm) fun a w' hE hF hA => ?_
              have x1 := hA.val 6 47 rfl rfl ⟨⟨6, .data⟩, by simp, rfl, rfl⟩ rfl
              exact wp_value (ex_load_at rfl _ x1 (ndC n (.slice db n.data.length dd) (.slice ab n.acl.length ad)) (fun j u hj => ((hE.cell (World.block_lt_of_cell? _ _ (hrow j u hj))).trans (hrow j u hj))) Tryd.underlying37 rfl sizeNd) ⟨_, rfl, rfl, Ext.refl _⟩
            · refine duty_yes rfl (p := _) rfl (d := 43) rfl (show 43 < 69 by decide) ⟨⟨2, .guard⟩, by simp, rfl, rfl⟩ (fun v w h => (Option.some.inj h).symm) fun a w' hE hF hA => ?_
              have x1 := hA.val 3 44 rfl rfl ⟨⟨3, .data⟩, by simp, rfl, rfl⟩ rfl
              have x2 := hA.val 7 48 rfl rfl ⟨⟨7, .data⟩, by simp, rfl, rfl⟩ rfl
              refine wp_enter (ex_call rfl (enters_f Tryd.func14 (by kernel_rfl) rfl)) (by simp only [List.map_toArray, List.map_cons, List.map_nil, x1, x2]; exact rsame_self n da aa db ab dc ac dd ad w' hfit (hDW.ext hE) (hAW.ext hE) (hDB.ext hE) (hAB.ext hE)) ?_
              rintro e w4 ⟨rfl, hb⟩
              exact ⟨_, rfl, _, rfl, rfl, hb⟩
            · refine duty_yes rfl (p := _) rfl (d := 43) rfl (show 43 < 69 by decide) ⟨⟨2, .guard⟩, by simp, rfl, rfl⟩ (fun v w h => (Option.some.inj h).symm) fun a w' hE hF hA => ?_
              have x1 := hA.val 8 49 rfl rfl ⟨⟨8, .data⟩, by simp, rfl, rfl⟩ rfl
              exact wp_value (w' := w') (v := .bool false) (by simp only [execOp, x1]; simp [go_sem]) ⟨_, rfl, rfl, Ext.refl _⟩
            · refine duty_free rfl fun a w' hE hF hA => ?_
              have x1 := hA.val 2 43 rfl rfl ⟨⟨2, .data⟩, by simp, rfl, rfl⟩ rfl
              exact wp_value (ex_pick rfl x1) ⟨_, rfl, hA.slot 9 50 rfl rfl ⟨⟨9, .data⟩, by simp, rfl, rfl⟩, Ext.refl _⟩
        case rest =>
          intro W8 hE8
          have hbl8 := (hE8.block _ (Array.getElem?_eq_some_iff.1 hbl).1).trans hbl
          have hpn : W8.cell? ⟨W5.heap.size, 0, none⟩ = some (.string n.path) := cell_of_row _ _ _ _ _ _ hbl8
          have HE8 := Lib.hid (HE46.out.trans hE8)
          clear hbl hrow hDW hAW hDB hAB hbl8 hE8 HBL HROW HDW HAW HDB HAB HSET HNew
          simp only [filled, List.zip_cons_cons, List.zip_nil_left, List.foldl_cons, List.foldl_nil, Act.put, List.setIfInBounds_toArray, List.set_cons_succ, List.set_cons_zero, Exit.then]
          rename_i hK
          refine hK _ _ ?_
          go_wp2
          go_roundw
          case rel => exact ⟨k + 1, by omega, by go_num, by rw [HATE.out], HE8.out⟩
          case measure => simp [intOf]; omega
      · obtain rfl : k = M.length := by omega
        have C5 := after_any _ wr bt M _ hTr (atN M M.length)
        have hne : M ≠ [] := fun e => HROOT.out (by rw [e]; rfl)
        have hat := (after_end HOK.out).resolve_right hne
        unfold AfterOut at C5
        rw [hat] at C5
        simp only [Option.isSome_none, Option.map_none, Option.getD_none] at C5
        have HC5 := Lib.hid C5
        have HTr := Lib.hid hTr
        have HE := Lib.hid (HB4.out.trans (hE.mono HB4.out.size))
        clear C5 hTr hat hne hE HT2 HB2 HT4 HB4 HVN HROWS
        go_wp2_with fail
        refine HC5.out.mono ?_
        rintro e W5 ⟨v, rfl, hv, hE5⟩
        obtain ⟨da, dc, aa, ac, rfl, hDa, hAa⟩ := hv
        have hE5 : Ext wr W5 := hE5
        obtain ⟨W6, hW6⟩ : ∃ W6, W6 = W5.alloc (.cells (ndC zeroN (.slice da zeroN.data.length dc) (.slice aa zeroN.acl.length ac)) 37) := ⟨_, rfl⟩
        have hE6 : Ext W5 W6 := by rw [hW6]; exact Ext.alloc _ _
        have HSET := Lib.hid ((setRow_alloc W5 zeroNd (ndC zeroN (.slice da zeroN.data.length dc) (.slice aa zeroN.acl.length ac)) 37).trans hW6.symm)
        have HNew := Lib.hid (heap_alloc_new W5 (.cells zeroNd 37))
        have C6 := Lib.hid (tcount_any _ W6 bt M _ (HTr.out.ext (hE5.trans hE6)))
        have HB6 := Lib.hid (HE.out.trans ((hE5.trans hE6).mono HE.out.size))
        generalize zeroN = n at *
        unfold ndC at HSET ⊢
        unfold zeroNd at HSET HNew
        clear hDa hAa hE6 hE5 hW6 HC5 HE HTr
        go_wp2_with (refine wpList_store_row rfl 37 (.tmp 11) (.tmp 58) rfl W5.heap.size _ rfl rfl 37 _ HNew.out sizeNd rfl (cells_node n da aa _ _ dc ac) ?_; rw [HSET.out])
        refine C6.out.mono ?_
        rintro e W7 ⟨rfl, rfl⟩
        go_wp2
        go_ret
        exact ⟨by simp, HB6.out⟩
end Go.Proofs.YtfgjbcejpjcpeaaDoor
