/- The law TreeWalks, walked. -/
import Derived.Test.YtfgjbcejpjcpeaaDoorWk
namespace Go.Proofs.YtfgjbcejpjcpeaaDoor
open Go.RowKit Go.Sort
set_option maxHeartbeats 20000000
set_option maxRecDepth 100000
attribute [local go_sem] Oper.semAt_some

theorem walks_walk (L : List Nd) (a : Option Addr) (c : Nat) (stop : Int) (w : World) (hT : Tabs w) (hL : NdsAt w.heap.size w a L) (hf : ∀ n ∈ L, Fit n) (hl : L.length * 168 ≤ 140737488355328) :
    Calls Tryd.prog 3 #[.slice a L.length c, .int .i64 stop] w fun e w' => e = .returned (.bool true) ∧ Below w.heap.size w w' := by
  have hsz := hT.size
  obtain ⟨W0, hW0⟩ : ∃ W0, W0 = (w.alloc (.cells #[.int .i64 stop] 3)).alloc (.cells #[.bool false] 4) := ⟨_, rfl⟩
  have hE0 : Ext w W0 := by rw [hW0]; exact (Ext.alloc w _).trans (Ext.alloc _ _)
  have hz0 : W0.heap.size = w.heap.size + 1 + 1 := by rw [hW0]; simp
  have hst0 : W0.heap[w.heap.size]? = some (.cells #[.int .i64 stop] 3 (0, 0)) := by rw [hW0]; exact (heap_alloc_old _ _ (by simp)).trans (heap_alloc_new w _)
  have hre0 : W0.heap[w.heap.size + 1]? = some (.cells #[.bool false] 4 (0, 0)) := by
    rw [hW0]
    have := heap_alloc_new (w.alloc (.cells #[.int .i64 stop] 3)) (.cells #[.bool false] 4)
    rwa [World.size_alloc] at this
  have C1 := alive_any W0 (hT.below hE0 hsz)
  have HW0 := Lib.hid hW0
  have HE0 := Lib.hid hE0
  have HST := Lib.hid hst0
  have HRE := Lib.hid hre0
  have HL := Lib.hid hL
  have HF := Lib.hid hf
  have HT := Lib.hid hT
  have C1 := Lib.hid C1
  clear hW0 hE0 hst0 hre0 hL hf hT
  refine (callsIn_wide (n := 6)).1 (callsIn_of_wp_marks Tryd.func3 rfl trivial ?_)
  simp only [Tryd.ntmps3, List.size_toArray, List.length_cons, List.length_nil, Nat.reduceAdd, Nat.reduceSub, Array.replicate_succ, Array.replicate_zero, List.push_toArray, List.append_toArray, List.nil_append, List.cons_append]
  gi_wp2_with fail
  rw [← HW0.out]
  refine ⟨trivial, (callsIn_wide.2 C1.out).mono ?_⟩
  rintro e W1 ⟨rfl, hE1⟩
  have hEw1 := HE0.out.trans hE1
  have C2 := from_any L a c W1 (HT.out.below hEw1 hsz) (HL.out.ext hEw1) HF.out (by omega)
  have C2 := Lib.hid C2
  have HE1 := Lib.hid hE1
  have hz1 := hE1.size
  clear hEw1 hE1 C1 HL HT
  gi_wp2_with fail
  refine ⟨trivial, (callsIn_wide.2 C2.out).mono ?_⟩
  intro e W2 hout
  unfold FromOut at hout
  cases hfr : fromN L with
  | error x =>
    obtain ⟨i, x⟩ := x
    rw [hfr] at hout
    obtain ⟨rfl, hE2⟩ := hout
    have hx : x ≠ 0 := fromN_err hfr
    have hx1 : (x == 0) = false := by simpa using hx
    have hx2 : decide (x = 0) = false := by simpa using hx
    have hre2 : W2.heap[w.heap.size + 1]? = some (.cells #[.bool false] 4 (0, 0)) := (hE2.block _ (by omega)).trans ((HE1.out.block _ (by omega)).trans HRE.out)
    have HRE3 := Lib.hid ((heap_alloc_old W2 (.cells #[.pointer none] 24) (Array.getElem?_eq_some_iff.1 hre2).1).trans hre2)
    have hfin : Below w.heap.size w ((W2.alloc (.cells #[.pointer none] 24)).setRow (w.heap.size + 1) #[.bool true]) := by
      have h3 : Below w.heap.size w (W2.alloc (.cells #[.pointer none] 24)) := ((HE0.out.trans HE1.out).trans hE2).trans (Ext.alloc _ _)
      exact h3.trans ⟨rfl, rfl, rfl, by simp, fun k hk => setRow_other _ _ _ _ (by omega)⟩
    have HFIN := Lib.hid hfin
    clear C2 hfin
    gi_wp2_with (refine wpListIn_skipped (fun _ => trivial) rfl (fun c h => by cases h) (run_store_one 4 (.tmp 4) (.tmp 26) rfl (w.heap.size + 1) (.bool true) rfl rfl rfl 4 (.bool false) HRE3.out infoBool) ?_)
    exact ⟨_, results_cell_bool rfl _ _ (w.heap.size + 1) (.bool true) rfl (cell_of_row _ _ _ _ _ _ (setRow_heap _ _ _ _ _ _ HRE3.out)) Tryd.underlying4, rfl, HFIN.out⟩
  | ok M =>
    rw [hfr] at hout
    obtain ⟨bt, rfl, hT2, hE2⟩ := hout
    have hroot := fromN_root hfr
    have hok := hT2.ok
    have hML := hT2.len
    obtain ⟨hM0, hM1⟩ := root_first hok hroot
    have hB2 : Below w.heap.size w W2 := (HE0.out.trans HE1.out).trans hE2
    have hz2 := hE2.size
    obtain ⟨W3, hW3⟩ : ∃ W3, W3 = W2.alloc (.cells #[.pointer (some ⟨bt, 0, none⟩)] 24) := ⟨_, rfl⟩
    have hE3 : Ext W2 W3 := by rw [hW3]; exact Ext.alloc _ _
    have hz3 : W3.heap.size = W2.heap.size + 1 := by rw [hW3]; simp
    have hbt3 : W3.heap[W2.heap.size]? = some (.cells #[.pointer (some ⟨bt, 0, none⟩)] 24 (0, 0)) := by rw [hW3]; exact heap_alloc_new _ _
    have hT3 := hT2.ext hE3
    have hkl : ∀ k ∈ M.map (·.1), k.length ≤ maxLen := fun k hk => by
      obtain ⟨x, hx, rfl⟩ := List.mem_map.1 hk
      rw [hok.key x hx]
      unfold keyN
      rw [size_list]
      have := (vpath_facts (right_vpath (hok.right x hx))).2.1
      unfold maxLen; omega
    have C3 := lall_any _ W3 bt M _ hT3 L.length (by unfold maxLen; omega) (by omega) hkl
    rw [nodesOf_vals hok.sorted, List.take_of_length_le (by simp; omega)] at C3
    have hcb3 : W3.cell? ⟨W2.heap.size, 0, none⟩ = some (.pointer (some ⟨bt, 0, none⟩)) := cell_of_row _ _ _ _ _ _ hbt3
    have HW3 := Lib.hid hW3
    have HT3 := Lib.hid hT3
    have HE3 := Lib.hid hE3
    have HB2 := Lib.hid hB2
    have HOK := Lib.hid hok
    have HROOT := Lib.hid hroot
    have HE2 := Lib.hid hE2
    have C3 := Lib.hid C3
    have HKL := Lib.hid hkl
    have HM1 := Lib.hid hM1
    have HFR := Lib.hid hfr
    have HBT3 := Lib.hid hbt3
    clear hT2 hW3 hE3 hB2 hok hroot hE2 hT3 hkl hM1 hfr hbt3 C2
    gi_wp2_with fail
    rw [← HW3.out]
    gi_wp2_with fail
    refine ⟨trivial, (callsIn_wide.2 C3.out).mono ?_⟩
    rintro e W4 ⟨v, vs, rfl, hvl, hrow, hvn, hE4⟩
    simp only [List.length_map] at hvl hrow
    obtain ⟨la, lc, rfl, hrows⟩ := ownsRow_from hrow
    have hE4 : Ext W3 W4 := hE4
    obtain ⟨W5, hW5⟩ : ∃ W5, W5 = W4.alloc (.cells #[.slice la M.length lc] 22) := ⟨_, rfl⟩
    have hE5 : Ext W4 W5 := by rw [hW5]; exact Ext.alloc _ _
    have hz4 := hE4.size
    have hz5 : W5.heap.size = W4.heap.size + 1 := by rw [hW5]; simp
    have hl5 : W5.heap[W4.heap.size]? = some (.cells #[.slice la M.length lc] 22 (0, 0)) := by rw [hW5]; exact heap_alloc_new _ _
    have hE35 := hE4.trans hE5
    have hcb5 : W5.cell? ⟨W2.heap.size, 0, none⟩ = some (.pointer (some ⟨bt, 0, none⟩)) := (hE35.cell (p := ⟨W2.heap.size, 0, none⟩) (show W2.heap.size < W3.heap.size by omega)).trans hcb3
    rw [hW5] at hcb5
    have HW5 := Lib.hid hW5
    have HE4 := Lib.hid hE4
    have HE5 := Lib.hid hE5
    have HL5 := Lib.hid hl5
    have HVN := Lib.hid hvn
    have HROWS := Lib.hid hrows
    have HE35 := Lib.hid hE35
    clear hE4 hW5 hE5 hl5 hvn hrows hrow C3 hE35 hcb3
    gi_wp2_with fail
    rw [← HW5.out]
    refine ⟨trivial, (callsIn_wide.2 (tall_any bt W5)).mono ?_⟩
    rintro e W6 ⟨bw, btb, rfl, hcw, hct, hE6⟩
    have hbwl := World.block_lt_of_cell? _ _ hcw
    have hbtl := World.block_lt_of_cell? _ _ hct
    have hnn := told_not_nil #[.pointer (some ⟨bw, 0, none⟩), .pointer (some ⟨btb, 0, none⟩)] W6
    obtain ⟨W7, hW7⟩ : ∃ W7, W7 = W6.alloc (.cells #[.int .i64 0] 3) := ⟨_, rfl⟩
    have hE7 : Ext W6 W7 := by rw [hW7]; exact Ext.alloc _ _
    have hz6 := hE6.size
    have hz7a : W7.heap.size ≤ W6.heap.size + 1 := by rw [hW7]; simp
    have hz7b : W6.heap.size + 1 ≤ W7.heap.size := by rw [hW7]; simp
    have hat7 : W7.heap[W6.heap.size]? = some (.cells #[.int .i64 0] 3 (0, 0)) := by rw [hW7]; exact heap_alloc_new _ _
    have hT7 := HT3.out.ext ((HE35.out.trans hE6).trans hE7)
    have hE27 : Ext W2 W7 := ((HE3.out.trans HE35.out).trans hE6).trans hE7
    have hbt7 := (((HE35.out.trans hE6).trans hE7).block _ (by omega)).trans HBT3.out
    have hl7 := ((hE6.trans hE7).block _ (by omega)).trans HL5.out
    have hcw7 := (hE7.cell (p := ⟨bw, 0, none⟩) (World.block_lt_of_cell? _ _ hcw)).trans hcw
    have hct7 := (hE7.cell (p := ⟨btb, 0, none⟩) (World.block_lt_of_cell? _ _ hct)).trans hct
    have hB7 := HB2.out.trans (hE27.mono (by omega))
    have hst7 : W7.heap[w.heap.size]? = some (.cells #[.int .i64 stop] 3 (0, 0)) := ((HE1.out.trans (HE2.out.trans hE27)).block _ (by omega)).trans HST.out
    have hre7 : W7.heap[w.heap.size + 1]? = some (.cells #[.bool false] 4 (0, 0)) := ((HE1.out.trans (HE2.out.trans hE27)).block _ (by omega)).trans HRE.out
    have HW7 := Lib.hid hW7
    have HAT7 := Lib.hid hat7
    have HT7 := Lib.hid hT7
    have HBT7 := Lib.hid hbt7
    have HL7 := Lib.hid hl7
    have HCW := Lib.hid hcw7
    have HCT := Lib.hid hct7
    have HB7 := Lib.hid hB7
    have HST7 := Lib.hid hst7
    have HRE7 := Lib.hid hre7
    clear hW7 hE7 hat7 hT7 hbt7 hl7 hcw7 hct7 hB7 hst7 hre7 hcw hct hcb5
    have HE47 := Lib.hid ((HE5.out.trans (show Ext W5 W6 from hE6)).trans (show Ext W6 W7 by rw [HW7.out]; exact Ext.alloc _ _))
    have hnoga : ∀ k, W1.heap.size ≤ k ∧ k < W2.heap.size → k ≠ W6.heap.size := fun k hk => by omega
    have TT := told_tells (fun _ k => k ≠ W6.heap.size) _ W7 bt M L.length HT7.out hnoga bw btb 46 #[.pointer (some ⟨bt, 0, none⟩)] #[] HCW.out HCT.out (enters_of Tryd.func46 (by kernel_rfl) rfl) (M.map (·.1))
      (fun W hW => by simpa using tsorted_any _ W bt M L.length (HT7.out.ext hW) (by omega)) (by simp; omega) HKL.out
    rw [nodesOf_vals HOK.out.sorted] at TT
    have TT := Lib.hid TT
    clear hE6
    gi_wp2_with fail
    rw [← HW7.out]
    refine wpIn_tells_nd (Safe := fun _ k => k ≠ W6.heap.size) (by omega) (gf := 66) (lb := #[.pointer (some ⟨bw, 0, none⟩), .pointer (some ⟨btb, 0, none⟩)]) rfl (enters_of Tryd.func66 (by kernel_rfl) rfl) TT.out (show 36 < 97 by decide) (show 11 < 97 by decide) (by decide)
      (WalkI (fun k => W1.heap.size ≤ k ∧ k < W2.heap.size) bt W6.heap.size L.length M w W7 stop) (WalkX (fun k => W1.heap.size ≤ k ∧ k < W2.heap.size) bt W6.heap.size L.length M w W7 stop) (fun _ _ _ _ h => h) ?hI ?hIx ?h0 ?body ?done ?stop
    case hI =>
      rintro pre X Y ⟨hs, m, hC, hm⟩ hTn
      exact ⟨⟨hs, m, hC.turn hTn (fun k hk => by omega) (by omega), hm⟩, fun k hk => by have := hC.size; omega⟩
    case hIx =>
      rintro c pre X Y ⟨hc, hs, m, hC, hm⟩ hTn
      exact ⟨hc, hs, m, hC.turn hTn (fun k hk => by omega) (by omega), hm⟩
    case h0 =>
      exact ⟨fun h => by simpa using h, M.length, ⟨hM0, Nat.le_refl _, by rw [List.take_length]; exact HT7.out, HAT7.out, fun _ _ _ _ h _ => h, Nat.le_refl _, HB7.out⟩, fun h => absurd rfl h⟩
    case body =>
      rintro l pre n da dc aa ac bl W hl0 hrec ⟨rest, hSp⟩ ⟨hs, m, hC, hm⟩ hG hbl
      clear C1 C2
      simp only [List.setIfInBounds_toArray, List.set_cons_succ, List.set_cons_zero]
      have hlen := congrArg List.length hSp
      simp only [List.length_append, List.length_map, List.length_cons, List.length_nil] at hlen
      have hk : pre.length < M.length := by omega
      have hn : M[pre.length].2 = n := by
        have := congrArg (·[pre.length]?) hSp
        simp [hk] at this
        exact this.symm
      have hkc : ∀ (b o : Nat) u, W7.cell? ⟨b, o, none⟩ = some u → b ≠ W6.heap.size → W.cell? ⟨b, o, none⟩ = some u := fun b o u hu hb => by
        obtain ⟨c', e', f', hk'⟩ := cell_cells hu
        rw [World.cell?_of_block ((hC.cells b c' e' f' hk' hb).trans hk'.symm)]
        exact hu
      have hvk : vs[pre.length]? = some (vs[pre.length]'(by omega)) := List.getElem?_eq_getElem (by omega)
      obtain ⟨n', hn', db, dd, ab, ad, e', hDb, hAb⟩ := HVN.out pre.length _ hvk
      simp only [List.getElem?_map, List.getElem?_eq_getElem hk, Option.map_some, Option.some.injEq] at hn'
      rw [hn] at hn'
      subst hn'
      simp only [Value.agg.injEq] at e'
      rw [e'] at hvk
      have hv17 : ∀ x ∈ vs, x.size = 17 := fun x hx => by
        obtain ⟨i, hi, ei⟩ := List.getElem_of_mem hx
        obtain ⟨n2, _, da2, dc2, aa2, ac2, e2, _⟩ := HVN.out i x (by rw [List.getElem?_eq_getElem hi, ei])
        simp only [Value.agg.injEq] at e2
        rw [e2]; rfl
      have hfl := flat17 vs pre.length _ hv17 hvk
      obtain ⟨rb, ro, rfl, _, _, _⟩ := HROWS.out (pre.length * 17 + 0) _ (hfl 0 (.string n.path) rfl)
      have hpath : ∀ kk (h : kk < M.length), W7.cell? ⟨rb, ro + kk * 17, none⟩ = some (.string (M[kk]'h).2.path) ∧ rb ≠ W6.heap.size := fun kk h => by
        have hkv : vs[kk]? = some (vs[kk]'(by omega)) := List.getElem?_eq_getElem (by omega)
        obtain ⟨n2, hn2, d1, d2, d3, d4, e2, _⟩ := HVN.out kk _ hkv
        simp only [List.getElem?_map, List.getElem?_eq_getElem h, Option.map_some, Option.some.injEq] at hn2
        simp only [Value.agg.injEq] at e2
        rw [e2] at hkv
        obtain ⟨g', off', e3, h1, h2, h3⟩ := HROWS.out (kk * 17 + 0) (.string n2.path) (flat17 vs kk _ hv17 hkv 0 _ rfl)
        simp only [Option.some.injEq, Addr.mk.injEq, and_true] at e3
        obtain ⟨rfl, rfl⟩ := e3
        rw [hn2]
        exact ⟨(HE47.out.cell (p := ⟨rb, ro + (kk * 17 + 0), none⟩) h2).trans h3, by omega⟩
      have HPATH := Lib.hid hpath
      clear hpath
      have hrow : ∀ j u, (ndC n (.slice db n.data.length dd) (.slice ab n.acl.length ad))[j]? = some u → W.cell? ((⟨rb, ro + pre.length * 17, none⟩ : Addr).add j) = some u := fun j u hj => by
        obtain ⟨g', off', e3, h1, h2, h3⟩ := HROWS.out (pre.length * 17 + j) u (hfl j u hj)
        simp only [Option.some.injEq, Addr.mk.injEq, and_true] at e3
        obtain ⟨rfl, rfl⟩ := e3
        rw [addr_add, Nat.add_assoc]
        exact hkc _ _ _ ((HE47.out.cell (p := ⟨rb, ro + (pre.length * 17 + j), none⟩) h2).trans h3) (by omega)
      obtain ⟨hDW, hAW⟩ := nds_parts hG
      have hDW := hDW.cells fun b hb => hb.2
      have hAW := hAW.cells fun b hb => hb.2
      have hkb : ∀ (b o : Nat) u, b < W4.heap.size → W4.cell? ⟨b, o, none⟩ = some u → W.cell? ⟨b, o, none⟩ = some u := fun b o u hb hu =>
        hkc _ _ _ ((HE47.out.cell (p := ⟨b, o, none⟩) hb).trans hu) (by omega)
      have hz4W : W4.heap.size ≤ W.heap.size := by have := hC.size; omega
      have hDB := (hDb.imp (fun _ h => h) hkb).cells fun b hb => Nat.lt_of_lt_of_le hb hz4W
      have hAB := (hAb.imp (fun _ h => h) hkb).cells fun b hb => Nat.lt_of_lt_of_le hb hz4W
      have hfit : Fit n := by rw [← hn]; exact (right_fit (HOK.out.right _ (List.getElem_mem hk))).1
      have hlW : W.cell? ⟨W4.heap.size, 0, none⟩ = some (.slice (some ⟨rb, ro, none⟩) M.length lc) := hkc _ _ _ (cell_of_row _ _ _ _ _ _ HL7.out) (by omega)
      have hatW : W.cell? ⟨W6.heap.size, 0, none⟩ = some (.int .i64 pre.length) := cell_of_row _ _ _ _ _ _ hC.box
      refine wpIn_block ?_
      refine wpIn_seq_k ?_
      intro K1 hK1
      refine wpIn_seq_k ?_
      intro K2 hK2
      refine wpIn_region_P l (by kernel_rfl) (by rfl) (region_vals 97 [.int .i64 pre.length, .slice (some ⟨rb, ro, none⟩) M.length lc, .int .i64 M.length, .bool false, .bool false, .agg (ndC n (.slice da n.data.length dc) (.slice aa n.acl.length ac)), .slice (some ⟨rb, ro, none⟩) M.length lc, .int .i64 pre.length, .pointer (some ⟨rb, ro + pre.length * 17, none⟩), .agg (ndC n (.slice db n.data.length dd) (.slice ab n.acl.length ad)), .bool true, .bool false, .bool false] rfl (by decide) rfl ?duties ?rest)
      case duties =>
        refine ⟨?_, ?_, ?_, ?_, ?_, ?_, ?_, ?_, ?_, ?_, ?_, ?_, ?_, trivial⟩
        · refine duty_free rfl fun a w' hE hF hA => ?_
          exact wp_value (ex_cell rfl _ _ (hF.slot 10 _ (by decide) rfl) ((hE.cell (p := ⟨W6.heap.size, 0, none⟩) (World.block_lt_of_cell? _ _ hatW)).trans hatW) rfl Tryd.underlying3) ⟨_, rfl, rfl, Ext.refl _⟩
        · refine duty_free rfl fun a w' hE hF hA => ?_
          exact wp_value (ex_cell rfl _ _ (hF.slot 8 _ (by decide) rfl) ((hE.cell (p := ⟨W4.heap.size, 0, none⟩) (World.block_lt_of_cell? _ _ hlW)).trans hlW) rfl Tryd.underlying22) ⟨_, rfl, rfl, Ext.refl _⟩
        · refine duty_free rfl fun a w' hE hF hA => ?_
          have x1 := hA.val 1 38 rfl rfl ⟨⟨1, .data⟩, by simp, rfl, rfl⟩ rfl
          exact wp_value (w' := w') (v := .int .i64 M.length) (by simp only [execOp, resolve, x1, List.map_toArray, List.map_cons, List.map_nil]; simp [go_sem, invoke, builtin, Builtin.len_]) ⟨_, rfl, rfl, Ext.refl _⟩
        · refine duty_free rfl fun a w' hE hF hA => ?_
          have x1 := hA.val 0 37 rfl rfl ⟨⟨0, .data⟩, by simp, rfl, rfl⟩ rfl
          have x2 := hA.val 2 39 rfl rfl ⟨⟨2, .data⟩, by simp, rfl, rfl⟩ rfl
          exact wp_value (w' := w') (v := .bool false) (by simp only [execOp, x1, x2]; simp [go_sem, hk]) ⟨_, rfl, rfl, Ext.refl _⟩
        · refine duty_free rfl fun a w' hE hF hA => ?_
          exact wp_value (ex_move rfl) ⟨_, rfl, hA.slot 3 40 rfl rfl ⟨⟨3, .data⟩, by simp, rfl, rfl⟩, Ext.refl _⟩
        · refine duty_yes rfl (p := _) rfl (d := 41) rfl (show 41 < 97 by decide) ⟨⟨4, .guard⟩, by simp, rfl, rfl⟩ (fun v w h => (Option.some.inj h).symm) fun a w' hE hF hA => ?_
          exact wp_value (ex_load_row rfl bl (hF.slot 11 _ (by decide) rfl) 37 _ (0, 0) _ ((hE.block bl (Array.getElem?_eq_some_iff.1 hbl).1).trans hbl) Tryd.underlying37 rfl sizeNd) ⟨_, rfl, rfl, Ext.refl _⟩
        · refine duty_yes rfl (p := _) rfl (d := 41) rfl (show 41 < 97 by decide) ⟨⟨4, .guard⟩, by simp, rfl, rfl⟩ (fun v w h => (Option.some.inj h).symm) fun a w' hE hF hA => ?_
          exact wp_value (ex_cell rfl _ _ (hF.slot 8 _ (by decide) rfl) ((hE.cell (p := ⟨W4.heap.size, 0, none⟩) (World.block_lt_of_cell? _ _ hlW)).trans hlW) rfl Tryd.underlying22) ⟨_, rfl, rfl, Ext.refl _⟩
        · refine duty_yes rfl (p := _) rfl (d := 41) rfl (show 41 < 97 by decide) ⟨⟨4, .guard⟩, by simp, rfl, rfl⟩ (fun v w h => (Option.some.inj h).symm) fun a w' hE hF hA => ?_
          exact wp_value (ex_cell rfl _ _ (hF.slot 10 _ (by decide) rfl) ((hE.cell (p := ⟨W6.heap.size, 0, none⟩) (World.block_lt_of_cell? _ _ hatW)).trans hatW) rfl Tryd.underlying3) ⟨_, rfl, rfl, Ext.refl _⟩
        · refine duty_yes rfl (p := _) rfl (d := 41) rfl (show 41 < 97 by decide) ⟨⟨4, .guard⟩, by simp, rfl, rfl⟩ (fun v w h => (Option.some.inj h).symm) fun a w' hE hF hA => ?_
          have x1 := hA.val 6 43 rfl rfl ⟨⟨6, .data⟩, by simp, rfl, rfl⟩ rfl
          have x2 := hA.val 7 44 rfl rfl ⟨⟨7, .data⟩, by simp, rfl, rfl⟩ rfl
          exact wp_value (w' := w') (v := .pointer (some ⟨rb, ro + pre.length * 17, none⟩)) (by simp only [execOp, x1, x2]; simp [go_sem, hk]) ⟨_, rfl, rfl, Ext.refl _⟩
        · refine duty_yes rfl (p := _) rfl (d := 41) rfl (show 41 < 97 by decide) ⟨⟨4, .guard⟩, by simp, rfl, rfl⟩ (fun v w h => (Option.some.inj h).symm) fun a w' hE hF hA => ?_
          have x1 := hA.val 8 45 rfl rfl ⟨⟨8, .data⟩, by simp, rfl, rfl⟩ rfl
          exact wp_value (ex_load_at rfl _ x1 (ndC n (.slice db n.data.length dd) (.slice ab n.acl.length ad)) (fun j u hj => ((hE.cell (p := (⟨rb, ro + pre.length * 17, none⟩ : Addr).add j) (World.block_lt_of_cell? _ _ (hrow j u hj))).trans (hrow j u hj))) Tryd.underlying37 rfl sizeNd) ⟨_, rfl, rfl, Ext.refl _⟩
        · refine duty_yes rfl (p := _) rfl (d := 41) rfl (show 41 < 97 by decide) ⟨⟨4, .guard⟩, by simp, rfl, rfl⟩ (fun v w h => (Option.some.inj h).symm) fun a w' hE hF hA => ?_
          have x1 := hA.val 5 42 rfl rfl ⟨⟨5, .data⟩, by simp, rfl, rfl⟩ rfl
          have x2 := hA.val 9 46 rfl rfl ⟨⟨9, .data⟩, by simp, rfl, rfl⟩ rfl
          refine wp_enter (ex_call rfl (enters_f Tryd.func14 (by kernel_rfl) rfl)) (by simp only [List.map_toArray, List.map_cons, List.map_nil, x1, x2]; exact rsame_self n da aa db ab dc ac dd ad w' hfit (hDW.ext hE) (hAW.ext hE) (hDB.ext hE) (hAB.ext hE)) ?_
          rintro e w4 ⟨rfl, hb⟩
          exact ⟨_, rfl, _, rfl, rfl, hb⟩
        · refine duty_yes rfl (p := _) rfl (d := 41) rfl (show 41 < 97 by decide) ⟨⟨4, .guard⟩, by simp, rfl, rfl⟩ (fun v w h => (Option.some.inj h).symm) fun a w' hE hF hA => ?_
          have x1 := hA.val 10 47 rfl rfl ⟨⟨10, .data⟩, by simp, rfl, rfl⟩ rfl
          exact wp_value (w' := w') (v := .bool false) (by simp only [execOp, x1]; simp [go_sem]) ⟨_, rfl, rfl, Ext.refl _⟩
        · refine duty_free rfl fun a w' hE hF hA => ?_
          have x1 := hA.val 4 41 rfl rfl ⟨⟨4, .data⟩, by simp, rfl, rfl⟩ rfl
          exact wp_value (ex_pick rfl x1) ⟨_, rfl, hA.slot 11 48 rfl rfl ⟨⟨11, .data⟩, by simp, rfl, rfl⟩, Ext.refl _⟩
      case rest =>
        intro W8 hE8
        simp only [Exit.then, filled, List.zip_cons_cons, List.zip_nil_left, List.foldl_cons, List.foldl_nil, Act.put]
        go_simp
        refine hK2 _ _ ?_
        have hC8 := hC.ext hE8 (fun k hk => by omega) (by omega)
        have hKp8 : Kp W7.heap.size W6.heap.size W W8 := Kp.ext hE8
        have hC9 : WalkC _ _ _ _ _ _ _ _ (pre.length + 1) _ := hC8.bump (fun k hk => by omega) (by omega)
        have hKp9 := hKp8.trans (Kp.set (B := W7.heap.size) (ga := W6.heap.size) W8 #[.int .i64 ((pre.length + 1 : Nat) : Int)] (by omega))
        have hat8 : W8.cell? ⟨W6.heap.size, 0, none⟩ = some (.int .i64 pre.length) := cell_of_row _ _ _ _ _ _ hC8.box
        obtain ⟨W9, hW9⟩ : ∃ W9, W9 = W8.setRow W6.heap.size #[.int .i64 ((pre.length + 1 : Nat) : Int)] := ⟨_, rfl⟩
        rw [← hW9] at hC9 hKp9
        have hst9 : W9.cell? ⟨w.heap.size, 0, none⟩ = some (.int .i64 stop) := hC9.cell (cell_of_row _ _ _ _ _ _ HST7.out) (by omega)
        have hat9 : W9.cell? ⟨W6.heap.size, 0, none⟩ = some (.int .i64 ((pre.length + 1 : Nat) : Int)) := cell_of_row _ _ _ _ _ _ hC9.box
        have hl9 : W9.cell? ⟨W4.heap.size, 0, none⟩ = some (.slice (some ⟨rb, ro, none⟩) M.length lc) := hC9.cell (cell_of_row _ _ _ _ _ _ HL7.out) (by omega)
        have HB8 := Lib.hid hC8.box
        have HW9 := Lib.hid hW9
        have HC9 := Lib.hid hC9
        have HK9 := Lib.hid hKp9
        have HG := Lib.hid hG
        clear hW9 hC9 hKp9 hC8 hKp8 hC hE8 hG hlW hatW hDW hAW hDB hAB hfit hrow hkc hkb hfl hvk hDb hAb e' hK2 hbl
        gi_wp2_with (refine wpListIn_skipped (fun _ => trivial) rfl (fun c h => by cases h) (run_store_one 3 (.tmp 10) (.tmp 51) rfl W6.heap.size (.int .i64 ((pre.length + 1 : Nat) : Int)) rfl (by first | rfl | (simp; rfl)) rfl 3 (.int .i64 pre.length) HB8.out infoInt) ?_; rw [← HW9.out])
        · rename_i h0 h1
          have h1' : ((pre.length : Int) + 1) = stop := by simpa using h1
          exact ⟨HK9.out.recs, rfl, by simp; omega, m, by simpa using HC9.out, fun hlt => hm (fun e => by rw [e] at hlt; simp at hlt)⟩
        · rename_i h0 h1
          have hnext : 0 < stop → ((pre.length + 1 : Nat) : Int) < stop := fun h => by
            have := hs h
            have h1' : ¬ ((pre.length : Int) + 1) = stop := by simpa using h1
            omega
          clear h0 h1
          gi_loopw [12] (fun i wr => ∃ (kk m' : Nat), i = .int .i64 kk ∧ kk < M.length ∧ m' ≤ kk + 1 ∧ WalkC (fun k => W1.heap.size ≤ k ∧ k < W2.heap.size) bt W6.heap.size L.length M w W7 m' (pre.length + 1) wr ∧ Kp W7.heap.size W6.heap.size W wr) (fun i _ => (intOf i).toNat)
          case atStart => exact ⟨M.length - 1, m, by congr 1; omega, by omega, by have := HC9.out.le; omega, HC9.out, HK9.out⟩
          case round =>
            obtain ⟨kk, m', rfl, hkk, hmk, hCr, hKr⟩ := hrel
            have HCr := Lib.hid hCr
            have HKr := Lib.hid hKr
            clear hCr hKr hat9 hst9 hl9
            by_cases hpos : 0 < kk
            · have hd1 : decide ((0 : Int) < (kk : Int)) = true := by simpa using hpos
              have hbtr : wr.cell? ⟨W2.heap.size, 0, none⟩ = some (.pointer (some ⟨bt, 0, none⟩)) := HCr.out.cell (cell_of_row _ _ _ _ _ _ HBT7.out) (by omega)
              have hlr : wr.cell? ⟨W4.heap.size, 0, none⟩ = some (.slice (some ⟨rb, ro, none⟩) M.length lc) := HCr.out.cell (cell_of_row _ _ _ _ _ _ HL7.out) (by omega)
              have hpr : wr.cell? ⟨rb, ro + kk * 17, none⟩ = some (.string M[kk].2.path) := HCr.out.cell (HPATH.out kk hkk).1 (HPATH.out kk hkk).2
              obtain ⟨m2, hm1, hm2, hm3⟩ := cut_one HOK.out HROOT.out hpos hkk hmk HCr.out.one
              have hps : M[kk].2.path.size ≤ 9223372036854775800 := by
                have := (vpath_facts (right_vpath (HOK.out.right _ (List.getElem_mem hkk)))).2.1
                omega
              have HBTr := Lib.hid hbtr
              have HLr := Lib.hid hlr
              have HPr := Lib.hid hpr
              clear hbtr hlr hpr
              gi_wp2_with fail
              refine wpIn_region_P l (by kernel_rfl) (by rfl) (region_last_vals 97 [.pointer (some ⟨bt, 0, none⟩), .slice (some ⟨rb, ro, none⟩) M.length lc, .int .i64 kk, .pointer (some ⟨rb, ro + kk * 17, none⟩), .pointer (some ⟨rb, ro + kk * 17, none⟩), .string M[kk].2.path] 6 _ rfl rfl rfl rfl (by decide) rfl ?duties ?last)
              case duties =>
                refine ⟨?_, ?_, ?_, ?_, ?_, ?_, trivial⟩
                · refine duty_free rfl fun a w' hE hF hA => ?_
                  exact wp_value (ex_cell rfl _ _ (hF.slot 5 _ (by decide) rfl) ((hE.cell (p := ⟨W2.heap.size, 0, none⟩) (World.block_lt_of_cell? _ _ HBTr.out)).trans HBTr.out) rfl Tryd.underlying24) ⟨_, rfl, rfl, Ext.refl _⟩
                · refine duty_free rfl fun a w' hE hF hA => ?_
                  exact wp_value (ex_cell rfl _ _ (hF.slot 8 _ (by decide) rfl) ((hE.cell (p := ⟨W4.heap.size, 0, none⟩) (World.block_lt_of_cell? _ _ HLr.out)).trans HLr.out) rfl Tryd.underlying22) ⟨_, rfl, rfl, Ext.refl _⟩
                · refine duty_free rfl fun a w' hE hF hA => ?_
                  exact wp_value (v := .int .i64 kk) ((ex_move rfl).trans (by rw [hF.slot 12 (.int .i64 kk) (by decide) rfl])) ⟨_, rfl, rfl, Ext.refl _⟩
                · refine duty_free rfl fun a w' hE hF hA => ?_
                  have x1 := hA.val 1 67 rfl rfl ⟨⟨1, .data⟩, by simp, rfl, rfl⟩ rfl
                  have x2 := hA.val 2 68 rfl rfl ⟨⟨2, .data⟩, by simp, rfl, rfl⟩ rfl
                  exact wp_value (w' := w') (v := .pointer (some ⟨rb, ro + kk * 17, none⟩)) (by simp only [execOp, x1, x2]; simp [go_sem, hkk]) ⟨_, rfl, rfl, Ext.refl _⟩
                · refine duty_free rfl fun a w' hE hF hA => ?_
                  have x1 := hA.val 3 69 rfl rfl ⟨⟨3, .data⟩, by simp, rfl, rfl⟩ rfl
                  exact wp_value (w' := w') (v := .pointer (some ⟨rb, ro + kk * 17, none⟩)) (by simp only [execOp, x1]; simp [go_sem]) ⟨_, rfl, rfl, Ext.refl _⟩
                · refine duty_free rfl fun a w' hE hF hA => ?_
                  have x1 := hA.val 4 70 rfl rfl ⟨⟨4, .data⟩, by simp, rfl, rfl⟩ rfl
                  exact wp_value (ex_cell rfl _ _ x1 ((hE.cell (p := ⟨rb, ro + kk * 17, none⟩) (World.block_lt_of_cell? _ _ HPr.out)).trans HPr.out) rfl Tryd.underlying9) ⟨_, rfl, rfl, Ext.refl _⟩
              case last =>
                intro a' u W10 hE10 hfr hS
                have hC10 := HCr.out.ext hE10 (fun k hk => by omega) (by omega)
                have hK10 := HKr.out.trans (Kp.ext hE10)
                have CR := rem_to _ W10 bt (M.take m') L.length hC10.tree M[kk].2.path hps (by omega)
                rw [hm3] at CR
                have x1 := hS 0 66 _ (by decide) rfl rfl
                have x2 := hS 5 71 _ (by decide) rfl rfl
                refine wp_enter (ex_call rfl (enters_f Tryd.func15 (by kernel_rfl) rfl)) (by simp only [List.map_toArray, List.map_cons, List.map_nil, x1, x2]; exact CR) ?_
                rintro e W11 ⟨rfl, hT11, hM11⟩
                have hC11 := hC10.rem (fun k hk => by omega) hm1 (by omega) hT11 hM11
                have hK11 := hK10.trans (Kp.mod (ga := W6.heap.size) (B := W7.heap.size) hM11 (fun k hk => by omega))
                have HC11 := Lib.hid hC11
                have HK11 := Lib.hid hK11
                refine ⟨_, rfl, ?_⟩
                clear x1 x2 hS hC10 hK10 CR hC11 hK11 hT11 hM11 HBTr HLr HPr hE10
                subst hfr
                simp only [filled, List.cons_append, List.nil_append, List.zip_cons_cons, List.zip_nil_left, List.foldl_cons, List.foldl_nil, Act.put]
                go_simp
                rename_i hKd
                refine hKd _ _ ?_
                clear hKd
                gi_wp2
                go_roundw
                case rel => exact ⟨kk - 1, m2, by congr 1; omega, by omega, by omega, HC11.out, HK11.out⟩
                case measure => simp [intOf]; omega
            · obtain rfl : kk = 0 := by omega
              obtain rfl : m' = 1 := by have := HCr.out.one; omega
              gi_wp2
              exact ⟨HKr.out.recs, HKr.out.cells, fun h0 => by simpa using hnext h0, 1, by simpa using HCr.out, fun _ => rfl⟩
        · rename_i h0
          have hnext : 0 < stop → ((pre.length + 1 : Nat) : Int) < stop := fun h => by omega
          clear h0
          gi_loopw [12] (fun i wr => ∃ (kk m' : Nat), i = .int .i64 kk ∧ kk < M.length ∧ m' ≤ kk + 1 ∧ WalkC (fun k => W1.heap.size ≤ k ∧ k < W2.heap.size) bt W6.heap.size L.length M w W7 m' (pre.length + 1) wr ∧ Kp W7.heap.size W6.heap.size W wr) (fun i _ => (intOf i).toNat)
          case atStart => exact ⟨M.length - 1, m, by congr 1; omega, by omega, by have := HC9.out.le; omega, HC9.out, HK9.out⟩
          case round =>
            obtain ⟨kk, m', rfl, hkk, hmk, hCr, hKr⟩ := hrel
            have HCr := Lib.hid hCr
            have HKr := Lib.hid hKr
            clear hCr hKr hat9 hst9 hl9
            by_cases hpos : 0 < kk
            · have hd1 : decide ((0 : Int) < (kk : Int)) = true := by simpa using hpos
              have hbtr : wr.cell? ⟨W2.heap.size, 0, none⟩ = some (.pointer (some ⟨bt, 0, none⟩)) := HCr.out.cell (cell_of_row _ _ _ _ _ _ HBT7.out) (by omega)
              have hlr : wr.cell? ⟨W4.heap.size, 0, none⟩ = some (.slice (some ⟨rb, ro, none⟩) M.length lc) := HCr.out.cell (cell_of_row _ _ _ _ _ _ HL7.out) (by omega)
              have hpr : wr.cell? ⟨rb, ro + kk * 17, none⟩ = some (.string M[kk].2.path) := HCr.out.cell (HPATH.out kk hkk).1 (HPATH.out kk hkk).2
              obtain ⟨m2, hm1, hm2, hm3⟩ := cut_one HOK.out HROOT.out hpos hkk hmk HCr.out.one
              have hps : M[kk].2.path.size ≤ 9223372036854775800 := by
                have := (vpath_facts (right_vpath (HOK.out.right _ (List.getElem_mem hkk)))).2.1
                omega
              have HBTr := Lib.hid hbtr
              have HLr := Lib.hid hlr
              have HPr := Lib.hid hpr
              clear hbtr hlr hpr
              gi_wp2_with fail
              refine wpIn_region_P l (by kernel_rfl) (by rfl) (region_last_vals 97 [.pointer (some ⟨bt, 0, none⟩), .slice (some ⟨rb, ro, none⟩) M.length lc, .int .i64 kk, .pointer (some ⟨rb, ro + kk * 17, none⟩), .pointer (some ⟨rb, ro + kk * 17, none⟩), .string M[kk].2.path] 6 _ rfl rfl rfl rfl (by decide) rfl ?duties ?last)
              case duties =>
                refine ⟨?_, ?_, ?_, ?_, ?_, ?_, trivial⟩
                · refine duty_free rfl fun a w' hE hF hA => ?_
                  exact wp_value (ex_cell rfl _ _ (hF.slot 5 _ (by decide) rfl) ((hE.cell (p := ⟨W2.heap.size, 0, none⟩) (World.block_lt_of_cell? _ _ HBTr.out)).trans HBTr.out) rfl Tryd.underlying24) ⟨_, rfl, rfl, Ext.refl _⟩
                · refine duty_free rfl fun a w' hE hF hA => ?_
                  exact wp_value (ex_cell rfl _ _ (hF.slot 8 _ (by decide) rfl) ((hE.cell (p := ⟨W4.heap.size, 0, none⟩) (World.block_lt_of_cell? _ _ HLr.out)).trans HLr.out) rfl Tryd.underlying22) ⟨_, rfl, rfl, Ext.refl _⟩
                · refine duty_free rfl fun a w' hE hF hA => ?_
                  exact wp_value (v := .int .i64 kk) ((ex_move rfl).trans (by rw [hF.slot 12 (.int .i64 kk) (by decide) rfl])) ⟨_, rfl, rfl, Ext.refl _⟩
                · refine duty_free rfl fun a w' hE hF hA => ?_
                  have x1 := hA.val 1 67 rfl rfl ⟨⟨1, .data⟩, by simp, rfl, rfl⟩ rfl
                  have x2 := hA.val 2 68 rfl rfl ⟨⟨2, .data⟩, by simp, rfl, rfl⟩ rfl
                  exact wp_value (w' := w') (v := .pointer (some ⟨rb, ro + kk * 17, none⟩)) (by simp only [execOp, x1, x2]; simp [go_sem, hkk]) ⟨_, rfl, rfl, Ext.refl _⟩
                · refine duty_free rfl fun a w' hE hF hA => ?_
                  have x1 := hA.val 3 69 rfl rfl ⟨⟨3, .data⟩, by simp, rfl, rfl⟩ rfl
                  exact wp_value (w' := w') (v := .pointer (some ⟨rb, ro + kk * 17, none⟩)) (by simp only [execOp, x1]; simp [go_sem]) ⟨_, rfl, rfl, Ext.refl _⟩
                · refine duty_free rfl fun a w' hE hF hA => ?_
                  have x1 := hA.val 4 70 rfl rfl ⟨⟨4, .data⟩, by simp, rfl, rfl⟩ rfl
                  exact wp_value (ex_cell rfl _ _ x1 ((hE.cell (p := ⟨rb, ro + kk * 17, none⟩) (World.block_lt_of_cell? _ _ HPr.out)).trans HPr.out) rfl Tryd.underlying9) ⟨_, rfl, rfl, Ext.refl _⟩
              case last =>
                intro a' u W10 hE10 hfr hS
                have hC10 := HCr.out.ext hE10 (fun k hk => by omega) (by omega)
                have hK10 := HKr.out.trans (Kp.ext hE10)
                have CR := rem_to _ W10 bt (M.take m') L.length hC10.tree M[kk].2.path hps (by omega)
                rw [hm3] at CR
                have x1 := hS 0 66 _ (by decide) rfl rfl
                have x2 := hS 5 71 _ (by decide) rfl rfl
                refine wp_enter (ex_call rfl (enters_f Tryd.func15 (by kernel_rfl) rfl)) (by simp only [List.map_toArray, List.map_cons, List.map_nil, x1, x2]; exact CR) ?_
                rintro e W11 ⟨rfl, hT11, hM11⟩
                have hC11 := hC10.rem (fun k hk => by omega) hm1 (by omega) hT11 hM11
                have hK11 := hK10.trans (Kp.mod (ga := W6.heap.size) (B := W7.heap.size) hM11 (fun k hk => by omega))
                have HC11 := Lib.hid hC11
                have HK11 := Lib.hid hK11
                refine ⟨_, rfl, ?_⟩
                clear x1 x2 hS hC10 hK10 CR hC11 hK11 hT11 hM11 HBTr HLr HPr hE10
                subst hfr
                simp only [filled, List.cons_append, List.nil_append, List.zip_cons_cons, List.zip_nil_left, List.foldl_cons, List.foldl_nil, Act.put]
                go_simp
                rename_i hKd
                refine hKd _ _ ?_
                clear hKd
                gi_wp2
                go_roundw
                case rel => exact ⟨kk - 1, m2, by congr 1; omega, by omega, by omega, HC11.out, HK11.out⟩
                case measure => simp [intOf]; omega
            · obtain rfl : kk = 0 := by omega
              obtain rfl : m' = 1 := by have := HCr.out.one; omega
              gi_wp2
              exact ⟨HKr.out.recs, HKr.out.cells, fun h0 => by simpa using hnext h0, 1, by simpa using HCr.out, fun _ => rfl⟩
    case done =>
      rintro D xs W hD hS ⟨hs, m, hC, hm⟩ hK
      have hxl : xs.length = M.length := by have := congrArg List.length hS; simpa using this
      rw [hxl] at hC
      have hmp : 1 < M.length → m = 1 := fun h => hm (fun e => by rw [e] at hxl; simp at hxl; omega)
      obtain ⟨p, hp⟩ : ∃ p, p = M.length := ⟨_, rfl⟩
      rw [← hp] at hC hmp
      have hpi : ((p : Int) == (M.length : Int)) = true := by rw [hp]; simp
      have hatW : W.cell? ⟨W6.heap.size, 0, none⟩ = some (.int .i64 p) := cell_of_row _ _ _ _ _ _ hC.box
      have hlW : W.cell? ⟨W4.heap.size, 0, none⟩ = some (.slice la M.length lc) := hC.cell (cell_of_row _ _ _ _ _ _ HL7.out) (by omega)
      have hstW : W.cell? ⟨w.heap.size, 0, none⟩ = some (.int .i64 stop) := hC.cell (cell_of_row _ _ _ _ _ _ HST7.out) (by omega)
      have hcsz := hC.size
      have hm1 := hC.one
      have hm2 := hC.le
      obtain ⟨V, hV⟩ : ∃ V, V = W.alloc (.cells #[.int .i64 0] 3) := ⟨_, rfl⟩
      have hEV : Ext W V := by rw [hV]; exact Ext.alloc _ _
      have hVa : V.heap.size ≤ W.heap.size + 1 := by rw [hV]; simp
      have hVb : W.heap.size + 1 ≤ V.heap.size := by rw [hV]; simp
      have hC2 : WalkC (fun k => W1.heap.size ≤ k ∧ k < W2.heap.size) bt W6.heap.size L.length M w W7 m p V := hC.ext hEV (fun k hk => by omega) (by omega)
      have hlf : V.heap[W.heap.size]? = some (.cells #[.int .i64 0] 3 (0, 0)) := by rw [hV]; exact heap_alloc_new _ _
      have hKV := (hEV.block D (Array.getElem?_eq_some_iff.1 hK).1).trans hK
      have hDlt := (Array.getElem?_eq_some_iff.1 hK).1
      have hcwV := hC2.cell HCW.out (show bw ≠ W6.heap.size by omega)
      have hctV := hC2.cell HCT.out (show btb ≠ W6.heap.size by omega)
      have hbtV : V.cell? ⟨W2.heap.size, 0, none⟩ = some (.pointer (some ⟨bt, 0, none⟩)) := hC2.cell (cell_of_row _ _ _ _ _ _ HBT7.out) (by omega)
      have hreV : V.heap[w.heap.size + 1]? = some (.cells #[.bool false] 4 (0, 0)) := hC2.cells _ _ _ _ HRE7.out (by omega)
      have hokt := HOK.out.take m
      have hnog : ∀ k, W1.heap.size ≤ k ∧ k < W2.heap.size → k ≠ W.heap.size := fun k hk => by omega
      have TT2 := told_tells (fun _ k => k ≠ W.heap.size) _ V bt (M.take m) L.length hC2.tree hnog bw btb 46 #[.pointer (some ⟨bt, 0, none⟩)] #[] hcwV hctV (enters_of Tryd.func46 (by kernel_rfl) rfl) ((M.take m).map (·.1))
        (fun Y hY => by simpa using tsorted_any _ Y bt (M.take m) L.length (hC2.tree.ext hY) (by simp; omega)) (by simp; omega) (fun k hk => HKL.out k (by
          obtain ⟨x, hx, rfl⟩ := List.mem_map.1 hk
          exact List.mem_map.2 ⟨x, List.mem_of_mem_take hx, rfl⟩))
      rw [nodesOf_vals hokt.sorted] at TT2
      have TT2 := Lib.hid TT2
      have HV := Lib.hid hV
      have HC2 := Lib.hid hC2
      have HLF := Lib.hid hlf
      have HKV := Lib.hid hKV
      have HBTV := Lib.hid hbtV
      have HREV := Lib.hid hreV
      have HCB := Lib.hid hC2.box
      clear TT hV hC2 hlf hKV hbtV hreV hcwV hctV hC hEV hK C1 C2 C3
      gi_wp2_with fail
      rw [← HV.out]
      refine wpIn_tells_nd (Safe := fun _ k => k ≠ W.heap.size) (by omega) (gf := 66) (lb := #[.pointer (some ⟨bw, 0, none⟩), .pointer (some ⟨btb, 0, none⟩)]) rfl (enters_of Tryd.func66 (by kernel_rfl) rfl) TT2.out (show 83 < 97 by decide) (show 14 < 97 by decide) (by decide)
        (fun pre Y => WalkC (fun k => W1.heap.size ≤ k ∧ k < W2.heap.size) bt W.heap.size L.length M w V m pre.length Y ∧ Y.heap[D]? = some (.deferred (some []))) (fun _ _ _ => False) (fun _ _ _ _ h => h) ?hI2 ?hIx2 ?h02 ?body2 ?done2 ?stop2
      case hI2 =>
        rintro pre X Y ⟨h1, h2⟩ hTn
        exact ⟨⟨h1.turn hTn (fun k hk => by omega) (by omega), hTn.same D _ h2 (.inl (by omega))⟩, fun k hk => by have := h1.size; omega⟩
      case hIx2 => exact fun _ _ _ _ h _ => h
      case h02 => exact ⟨⟨hm1, hm2, HC2.out.tree, HLF.out, fun _ _ _ _ h _ => h, Nat.le_refl _, HC2.out.keep⟩, HKV.out⟩
      case stop2 => exact fun _ _ _ _ _ _ h => h.elim
      case body2 =>
        rintro l pre n da dc aa ac bl Y hl0 hrec ⟨rest, hSp⟩ ⟨hY, hKY⟩ hG hbl
        simp only [List.setIfInBounds_toArray, List.set_cons_succ, List.set_cons_zero]
        have hlen := congrArg List.length hSp
        simp only [List.length_append, List.length_map, List.length_cons, List.length_nil, List.length_take] at hlen
        have hpn : Y.cell? ⟨bl, 0, none⟩ = some (.string n.path) := cell_of_row _ _ _ _ _ _ hbl
        have hatY : Y.cell? ⟨W6.heap.size, 0, none⟩ = some (.int .i64 p) := hY.cell (cell_of_row _ _ _ _ _ _ HCB.out) (by omega)
        have hlfY : Y.cell? ⟨W.heap.size, 0, none⟩ = some (.int .i64 pre.length) := cell_of_row _ _ _ _ _ _ hY.box
        have hpq : n.path = ⟨#[47]⟩ ∨ (n.path ≠ ⟨#[47]⟩ ∧ p ≤ 1) := by
          by_cases hpp : n.path = ⟨#[47]⟩
          · exact .inl hpp
          · refine .inr ⟨hpp, Nat.le_of_not_lt fun h1 => hpp ?_⟩
            have hm := hmp h1
            rw [hm] at hSp hlen
            have h0 : pre.length = 0 := by omega
            have hpe : pre = [] := List.eq_nil_of_length_eq_zero h0
            subst hpe
            have hn : M[0].2 = n := by
              have := congrArg (·[0]?) hSp
              simp [hM0] at this
              exact this.symm
            have hkk := HOK.out.key _ (List.getElem_mem hM0)
            rw [HM1.out, hn] at hkk
            exact ba_ext hkk.symm
        obtain ⟨Y2, hY2⟩ : ∃ Y2, Y2 = Y.setRow W.heap.size #[.int .i64 ((pre.length + 1 : Nat) : Int)] := ⟨_, rfl⟩
        have hC3 : WalkC (fun k => W1.heap.size ≤ k ∧ k < W2.heap.size) bt W.heap.size L.length M w V m (pre.length + 1) Y2 := by rw [hY2]; exact hY.bump (fun k hk => by omega) (by omega)
        have hK3 : Kp V.heap.size W.heap.size Y Y2 := by rw [hY2]; exact Kp.set Y _ (by omega)
        have hKD : Y2.heap[D]? = some (.deferred (some [])) := by rw [hY2]; exact (setRow_other _ _ _ _ (by omega)).trans hKY
        have HBY := Lib.hid hY.box
        have HY2 := Lib.hid hY2
        have HC3 := Lib.hid hC3
        have HK3 := Lib.hid hK3
        have HKD := Lib.hid hKD
        clear hY2 hC3 hK3 hKD hY hKY hG hbl hSp TT2 HV
        rcases hpq with hpp | ⟨hpp, hp1⟩
        · rw [hpp] at hpn
          gi_wp2_with (refine wpListIn_skipped (fun _ => trivial) rfl (fun c h => by cases h) (run_store_one 3 (.tmp 13) (.tmp 92) rfl W.heap.size (.int .i64 ((pre.length + 1 : Nat) : Int)) rfl (by first | rfl | (simp; rfl)) rfl 3 (.int .i64 pre.length) HBY.out infoInt) ?_; rw [← HY2.out])
          exact ⟨HK3.out.recs, HK3.out.cells, by simpa using HC3.out, HKD.out⟩
        · have hd1 : decide ((1 : Int) < (p : Int)) = false := by simp; omega
          gi_wp2_with (refine wpListIn_skipped (fun _ => trivial) rfl (fun c h => by cases h) (run_store_one 3 (.tmp 13) (.tmp 92) rfl W.heap.size (.int .i64 ((pre.length + 1 : Nat) : Int)) rfl (by first | rfl | (simp; rfl)) rfl 3 (.int .i64 pre.length) HBY.out infoInt) ?_; rw [← HY2.out])
          all_goals exact ⟨HK3.out.recs, HK3.out.cells, by simpa using HC3.out, HKD.out⟩
      case done2 =>
        rintro D2 xs Y hD2 hS2 ⟨hY, hKY⟩ hK2
        have hxl : xs.length = m := by have := congrArg List.length hS2; simp at this; omega
        rw [hxl] at hY
        have hmt : (M.take m).length = m := by simp; omega
        have hbtY : Y.cell? ⟨W2.heap.size, 0, none⟩ = some (.pointer (some ⟨bt, 0, none⟩)) := hY.cell HBTV.out (by omega)
        have hlfY : Y.cell? ⟨W.heap.size, 0, none⟩ = some (.int .i64 m) := cell_of_row _ _ _ _ _ _ hY.box
        have hreY : Y.heap[w.heap.size + 1]? = some (.cells #[.bool false] 4 (0, 0)) := hY.cells _ _ _ _ HREV.out (by omega)
        have HY := Lib.hid hY
        have HKY := Lib.hid hKY
        have HK2 := Lib.hid hK2
        have HBTY := Lib.hid hbtY
        have HLFY := Lib.hid hlfY
        have HREY := Lib.hid hreY
        clear hY hKY hK2 hbtY hlfY hreY TT2 HV
        gi_wp2_with fail
        refine (wpIn_wide (n := 6)).2 (wp_region_P (by kernel_rfl) (region_last_e 97 (fun i v _ => [Value.int .i64 m, .pointer (some ⟨bt, 0, none⟩), .int .i64 m, .bool true][i]? = some v) (fun _ _ _ _ h _ => h) (by decide) rfl 4 _ rfl rfl rfl rfl ?duties2 ?last2))
        case duties2 =>
          refine ⟨?_, ?_, ?_, ?_, trivial⟩
          · refine duty_free rfl fun a w' hE hF hA => ?_
            exact wp_value (ex_cell rfl _ _ (hF.slot 13 _ (by decide) rfl) ((hE.cell (p := ⟨W.heap.size, 0, none⟩) (World.block_lt_of_cell? _ _ HLFY.out)).trans HLFY.out) rfl Tryd.underlying3) ⟨_, rfl, rfl, Ext.refl _⟩
          · refine duty_free rfl fun a w' hE hF hA => ?_
            exact wp_value (ex_cell rfl _ _ (hF.slot 5 _ (by decide) rfl) ((hE.cell (p := ⟨W2.heap.size, 0, none⟩) (World.block_lt_of_cell? _ _ HBTY.out)).trans HBTY.out) rfl Tryd.underlying24) ⟨_, rfl, rfl, Ext.refl _⟩
          · refine duty_free rfl fun a w' hE hF hA => ?_
            have x1 := hA.val (vals := [Value.int .i64 m, .pointer (some ⟨bt, 0, none⟩), .int .i64 m, .bool true]) 1 94 rfl rfl ⟨⟨1, .data⟩, by simp, rfl, rfl⟩ rfl
            have CN := tcount_any _ w' bt (M.take m) L.length (HY.out.tree.ext hE)
            rw [hmt] at CN
            refine wp_enter (ex_call rfl (enters_f Tryd.func16 (by kernel_rfl) rfl)) (by simp only [List.map_toArray, List.map_cons, List.map_nil, x1]; exact CN) ?_
            rintro e w4 ⟨rfl, rfl⟩
            exact ⟨_, rfl, _, rfl, rfl, Ext.refl _⟩
          · refine duty_free rfl fun a w' hE hF hA => ?_
            have x1 := hA.val (vals := [Value.int .i64 m, .pointer (some ⟨bt, 0, none⟩), .int .i64 m, .bool true]) 0 93 rfl rfl ⟨⟨0, .data⟩, by simp, rfl, rfl⟩ rfl
            have x2 := hA.val (vals := [Value.int .i64 m, .pointer (some ⟨bt, 0, none⟩), .int .i64 m, .bool true]) 2 95 rfl rfl ⟨⟨2, .data⟩, by simp, rfl, rfl⟩ rfl
            exact wp_value (w' := w') (v := .bool true) (by simp only [execOp, x1, x2]; simp [go_sem]) ⟨_, rfl, rfl, Ext.refl _⟩
        case last2 =>
          intro us Z hEZ hul huv
          obtain ⟨u0, u1, u2, u3, rfl⟩ := us4 us hul
          have e3 : Value.bool true = u3 := Option.some.inj (huv 3 u3 rfl)
          subst e3
          clear huv hul
          have hreZ := (hEZ.block _ (Array.getElem?_eq_some_iff.1 HREY.out).1).trans HREY.out
          have hKZ := (hEZ.block _ (Array.getElem?_eq_some_iff.1 HKY.out).1).trans HKY.out
          have hK2Z := (hEZ.block _ (Array.getElem?_eq_some_iff.1 HK2.out).1).trans HK2.out
          have hBZ : Below w.heap.size w Z := HY.out.keep.trans (hEZ.mono HY.out.keep.size)
          simp only [filled, List.take_succ_cons, List.take_zero, List.zip_cons_cons, List.zip_nil_left, List.foldl_cons, List.foldl_nil, Act.put, List.setIfInBounds_toArray, List.set_cons_succ, List.set_cons_zero]
          have hK2r : (Z.setRow (w.heap.size + 1) #[.bool true]).heap[D2]? = some (.deferred (some [])) := (setRow_other _ _ _ _ (by omega)).trans hK2Z
          have hKr : ((Z.setRow (w.heap.size + 1) #[.bool true]).putObj D2 (.deferred none)).heap[D]? = some (.deferred (some [])) := (World.putObj_heap_other (by omega)).trans ((setRow_other _ _ _ _ (by omega)).trans hKZ)
          have hTT := (Turn.putObj (B := W7.heap.size) (.deferred none) (by omega) hK2r rfl).trans (Turn.putObj (B := W7.heap.size) (.deferred none) hD hKr rfl)
          have hcl := hTT.cell (cell_of_row _ _ 0 _ _ _ (setRow_heap _ _ _ #[.bool true] _ _ hreZ))
          have hBr : Below w.heap.size w (Z.setRow (w.heap.size + 1) #[.bool true]) := hBZ.trans ⟨rfl, rfl, rfl, by simp, fun k hk => setRow_other _ _ _ _ (by omega)⟩
          have hBe := hBr.trans (hTT.below (by omega) hBr.size)
          have HCL := Lib.hid hcl
          have HBE := Lib.hid hBe
          have HK2r := Lib.hid hK2r
          have HKr := Lib.hid hKr
          have HREZ := Lib.hid hreZ
          refine wp_skipped (w' := Z.setRow (w.heap.size + 1) #[.bool true]) (by refine run_store_one 4 (.tmp 4) (.tmp 96) ?_ (w.heap.size + 1) (.bool true) ?_ ?_ ?_ 4 (.bool false) HREZ.out infoBool <;> rfl) ?_
          clear hcl hBe hK2r hKr hreZ hTT hBr hKZ hK2Z hBZ hEZ
          simp only [Exit.then]
          rename_i hKd
          refine hKd _ _ ?_
          gi_wp2
          refine ⟨by simp, .inl ⟨_, _, rfl, run_takeDeferred HK2r.out, by simp, .inl ⟨_, _, rfl, run_takeDeferred HKr.out, ?_⟩⟩⟩
          exact ⟨_, results_cell_bool rfl _ _ (w.heap.size + 1) (.bool true) rfl HCL.out Tryd.underlying4, rfl, HBE.out⟩
    case stop =>
      rintro D cx pre W hD ⟨rest, hS⟩ ⟨rfl, hst, m, hC, hmp⟩ hK
      obtain ⟨p, hp⟩ : ∃ p, p = pre.length := ⟨_, rfl⟩
      rw [← hp] at hC hmp hst
      clear hp hS
      by_cases hq : p = M.length
      · have hpi : ((p : Int) == (M.length : Int)) = true := by rw [hq]; simp
        clear hst
        have hatW : W.cell? ⟨W6.heap.size, 0, none⟩ = some (.int .i64 p) := cell_of_row _ _ _ _ _ _ hC.box
        have hlW : W.cell? ⟨W4.heap.size, 0, none⟩ = some (.slice la M.length lc) := hC.cell (cell_of_row _ _ _ _ _ _ HL7.out) (by omega)
        have hstW : W.cell? ⟨w.heap.size, 0, none⟩ = some (.int .i64 stop) := hC.cell (cell_of_row _ _ _ _ _ _ HST7.out) (by omega)
        have hcsz := hC.size
        have hm1 := hC.one
        have hm2 := hC.le
        obtain ⟨V, hV⟩ : ∃ V, V = W.alloc (.cells #[.int .i64 0] 3) := ⟨_, rfl⟩
        have hEV : Ext W V := by rw [hV]; exact Ext.alloc _ _
        have hVa : V.heap.size ≤ W.heap.size + 1 := by rw [hV]; simp
        have hVb : W.heap.size + 1 ≤ V.heap.size := by rw [hV]; simp
        have hC2 : WalkC (fun k => W1.heap.size ≤ k ∧ k < W2.heap.size) bt W6.heap.size L.length M w W7 m p V := hC.ext hEV (fun k hk => by omega) (by omega)
        have hlf : V.heap[W.heap.size]? = some (.cells #[.int .i64 0] 3 (0, 0)) := by rw [hV]; exact heap_alloc_new _ _
        have hKV := (hEV.block D (Array.getElem?_eq_some_iff.1 hK).1).trans hK
        have hDlt := (Array.getElem?_eq_some_iff.1 hK).1
        have hcwV := hC2.cell HCW.out (show bw ≠ W6.heap.size by omega)
        have hctV := hC2.cell HCT.out (show btb ≠ W6.heap.size by omega)
        have hbtV : V.cell? ⟨W2.heap.size, 0, none⟩ = some (.pointer (some ⟨bt, 0, none⟩)) := hC2.cell (cell_of_row _ _ _ _ _ _ HBT7.out) (by omega)
        have hreV : V.heap[w.heap.size + 1]? = some (.cells #[.bool false] 4 (0, 0)) := hC2.cells _ _ _ _ HRE7.out (by omega)
        have hokt := HOK.out.take m
        have hnog : ∀ k, W1.heap.size ≤ k ∧ k < W2.heap.size → k ≠ W.heap.size := fun k hk => by omega
        have TT2 := told_tells (fun _ k => k ≠ W.heap.size) _ V bt (M.take m) L.length hC2.tree hnog bw btb 46 #[.pointer (some ⟨bt, 0, none⟩)] #[] hcwV hctV (enters_of Tryd.func46 (by kernel_rfl) rfl) ((M.take m).map (·.1))
          (fun Y hY => by simpa using tsorted_any _ Y bt (M.take m) L.length (hC2.tree.ext hY) (by simp; omega)) (by simp; omega) (fun k hk => HKL.out k (by
            obtain ⟨x, hx, rfl⟩ := List.mem_map.1 hk
            exact List.mem_map.2 ⟨x, List.mem_of_mem_take hx, rfl⟩))
        rw [nodesOf_vals hokt.sorted] at TT2
        have TT2 := Lib.hid TT2
        have HV := Lib.hid hV
        have HC2 := Lib.hid hC2
        have HLF := Lib.hid hlf
        have HKV := Lib.hid hKV
        have HBTV := Lib.hid hbtV
        have HREV := Lib.hid hreV
        have HCB := Lib.hid hC2.box
        clear TT hV hC2 hlf hKV hbtV hreV hcwV hctV hC hEV hK C1 C2 C3
        gi_wp2_with fail
        rw [← HV.out]
        refine wpIn_tells_nd (Safe := fun _ k => k ≠ W.heap.size) (by omega) (gf := 66) (lb := #[.pointer (some ⟨bw, 0, none⟩), .pointer (some ⟨btb, 0, none⟩)]) rfl (enters_of Tryd.func66 (by kernel_rfl) rfl) TT2.out (show 83 < 97 by decide) (show 14 < 97 by decide) (by decide)
          (fun pre Y => WalkC (fun k => W1.heap.size ≤ k ∧ k < W2.heap.size) bt W.heap.size L.length M w V m pre.length Y ∧ Y.heap[D]? = some (.deferred (some []))) (fun _ _ _ => False) (fun _ _ _ _ h => h) ?hI2 ?hIx2 ?h02 ?body2 ?done2 ?stop2
        case hI2 =>
          rintro pre X Y ⟨h1, h2⟩ hTn
          exact ⟨⟨h1.turn hTn (fun k hk => by omega) (by omega), hTn.same D _ h2 (.inl (by omega))⟩, fun k hk => by have := h1.size; omega⟩
        case hIx2 => exact fun _ _ _ _ h _ => h
        case h02 => exact ⟨⟨hm1, hm2, HC2.out.tree, HLF.out, fun _ _ _ _ h _ => h, Nat.le_refl _, HC2.out.keep⟩, HKV.out⟩
        case stop2 => exact fun _ _ _ _ _ _ h => h.elim
        case body2 =>
          rintro l pre n da dc aa ac bl Y hl0 hrec ⟨rest, hSp⟩ ⟨hY, hKY⟩ hG hbl
          simp only [List.setIfInBounds_toArray, List.set_cons_succ, List.set_cons_zero]
          have hlen := congrArg List.length hSp
          simp only [List.length_append, List.length_map, List.length_cons, List.length_nil, List.length_take] at hlen
          have hpn : Y.cell? ⟨bl, 0, none⟩ = some (.string n.path) := cell_of_row _ _ _ _ _ _ hbl
          have hatY : Y.cell? ⟨W6.heap.size, 0, none⟩ = some (.int .i64 p) := hY.cell (cell_of_row _ _ _ _ _ _ HCB.out) (by omega)
          have hlfY : Y.cell? ⟨W.heap.size, 0, none⟩ = some (.int .i64 pre.length) := cell_of_row _ _ _ _ _ _ hY.box
          have hpq : n.path = ⟨#[47]⟩ ∨ (n.path ≠ ⟨#[47]⟩ ∧ p ≤ 1) := by
            by_cases hpp : n.path = ⟨#[47]⟩
            · exact .inl hpp
            · refine .inr ⟨hpp, Nat.le_of_not_lt fun h1 => hpp ?_⟩
              have hm := hmp h1
              rw [hm] at hSp hlen
              have h0 : pre.length = 0 := by omega
              have hpe : pre = [] := List.eq_nil_of_length_eq_zero h0
              subst hpe
              have hn : M[0].2 = n := by
                have := congrArg (·[0]?) hSp
                simp [hM0] at this
                exact this.symm
              have hkk := HOK.out.key _ (List.getElem_mem hM0)
              rw [HM1.out, hn] at hkk
              exact ba_ext hkk.symm
          obtain ⟨Y2, hY2⟩ : ∃ Y2, Y2 = Y.setRow W.heap.size #[.int .i64 ((pre.length + 1 : Nat) : Int)] := ⟨_, rfl⟩
          have hC3 : WalkC (fun k => W1.heap.size ≤ k ∧ k < W2.heap.size) bt W.heap.size L.length M w V m (pre.length + 1) Y2 := by rw [hY2]; exact hY.bump (fun k hk => by omega) (by omega)
          have hK3 : Kp V.heap.size W.heap.size Y Y2 := by rw [hY2]; exact Kp.set Y _ (by omega)
          have hKD : Y2.heap[D]? = some (.deferred (some [])) := by rw [hY2]; exact (setRow_other _ _ _ _ (by omega)).trans hKY
          have HBY := Lib.hid hY.box
          have HY2 := Lib.hid hY2
          have HC3 := Lib.hid hC3
          have HK3 := Lib.hid hK3
          have HKD := Lib.hid hKD
          clear hY2 hC3 hK3 hKD hY hKY hG hbl hSp TT2 HV
          rcases hpq with hpp | ⟨hpp, hp1⟩
          · rw [hpp] at hpn
            gi_wp2_with (refine wpListIn_skipped (fun _ => trivial) rfl (fun c h => by cases h) (run_store_one 3 (.tmp 13) (.tmp 92) rfl W.heap.size (.int .i64 ((pre.length + 1 : Nat) : Int)) rfl (by first | rfl | (simp; rfl)) rfl 3 (.int .i64 pre.length) HBY.out infoInt) ?_; rw [← HY2.out])
            exact ⟨HK3.out.recs, HK3.out.cells, by simpa using HC3.out, HKD.out⟩
          · have hd1 : decide ((1 : Int) < (p : Int)) = false := by simp; omega
            gi_wp2_with (refine wpListIn_skipped (fun _ => trivial) rfl (fun c h => by cases h) (run_store_one 3 (.tmp 13) (.tmp 92) rfl W.heap.size (.int .i64 ((pre.length + 1 : Nat) : Int)) rfl (by first | rfl | (simp; rfl)) rfl 3 (.int .i64 pre.length) HBY.out infoInt) ?_; rw [← HY2.out])
            all_goals exact ⟨HK3.out.recs, HK3.out.cells, by simpa using HC3.out, HKD.out⟩
        case done2 =>
          rintro D2 xs Y hD2 hS2 ⟨hY, hKY⟩ hK2
          have hxl : xs.length = m := by have := congrArg List.length hS2; simp at this; omega
          rw [hxl] at hY
          have hmt : (M.take m).length = m := by simp; omega
          have hbtY : Y.cell? ⟨W2.heap.size, 0, none⟩ = some (.pointer (some ⟨bt, 0, none⟩)) := hY.cell HBTV.out (by omega)
          have hlfY : Y.cell? ⟨W.heap.size, 0, none⟩ = some (.int .i64 m) := cell_of_row _ _ _ _ _ _ hY.box
          have hreY : Y.heap[w.heap.size + 1]? = some (.cells #[.bool false] 4 (0, 0)) := hY.cells _ _ _ _ HREV.out (by omega)
          have HY := Lib.hid hY
          have HKY := Lib.hid hKY
          have HK2 := Lib.hid hK2
          have HBTY := Lib.hid hbtY
          have HLFY := Lib.hid hlfY
          have HREY := Lib.hid hreY
          clear hY hKY hK2 hbtY hlfY hreY TT2 HV
          gi_wp2_with fail
          refine (wpIn_wide (n := 6)).2 (wp_region_P (by kernel_rfl) (region_last_e 97 (fun i v _ => [Value.int .i64 m, .pointer (some ⟨bt, 0, none⟩), .int .i64 m, .bool true][i]? = some v) (fun _ _ _ _ h _ => h) (by decide) rfl 4 _ rfl rfl rfl rfl ?duties2 ?last2))
          case duties2 =>
            refine ⟨?_, ?_, ?_, ?_, trivial⟩
            · refine duty_free rfl fun a w' hE hF hA => ?_
              exact wp_value (ex_cell rfl _ _ (hF.slot 13 _ (by decide) rfl) ((hE.cell (p := ⟨W.heap.size, 0, none⟩) (World.block_lt_of_cell? _ _ HLFY.out)).trans HLFY.out) rfl Tryd.underlying3) ⟨_, rfl, rfl, Ext.refl _⟩
            · refine duty_free rfl fun a w' hE hF hA => ?_
              exact wp_value (ex_cell rfl _ _ (hF.slot 5 _ (by decide) rfl) ((hE.cell (p := ⟨W2.heap.size, 0, none⟩) (World.block_lt_of_cell? _ _ HBTY.out)).trans HBTY.out) rfl Tryd.underlying24) ⟨_, rfl, rfl, Ext.refl _⟩
            · refine duty_free rfl fun a w' hE hF hA => ?_
              have x1 := hA.val (vals := [Value.int .i64 m, .pointer (some ⟨bt, 0, none⟩), .int .i64 m, .bool true]) 1 94 rfl rfl ⟨⟨1, .data⟩, by simp, rfl, rfl⟩ rfl
              have CN := tcount_any _ w' bt (M.take m) L.length (HY.out.tree.ext hE)
              rw [hmt] at CN
              refine wp_enter (ex_call rfl (enters_f Tryd.func16 (by kernel_rfl) rfl)) (by simp only [List.map_toArray, List.map_cons, List.map_nil, x1]; exact CN) ?_
              rintro e w4 ⟨rfl, rfl⟩
              exact ⟨_, rfl, _, rfl, rfl, Ext.refl _⟩
            · refine duty_free rfl fun a w' hE hF hA => ?_
              have x1 := hA.val (vals := [Value.int .i64 m, .pointer (some ⟨bt, 0, none⟩), .int .i64 m, .bool true]) 0 93 rfl rfl ⟨⟨0, .data⟩, by simp, rfl, rfl⟩ rfl
              have x2 := hA.val (vals := [Value.int .i64 m, .pointer (some ⟨bt, 0, none⟩), .int .i64 m, .bool true]) 2 95 rfl rfl ⟨⟨2, .data⟩, by simp, rfl, rfl⟩ rfl
              exact wp_value (w' := w') (v := .bool true) (by simp only [execOp, x1, x2]; simp [go_sem]) ⟨_, rfl, rfl, Ext.refl _⟩
          case last2 =>
            intro us Z hEZ hul huv
            obtain ⟨u0, u1, u2, u3, rfl⟩ := us4 us hul
            have e3 : Value.bool true = u3 := Option.some.inj (huv 3 u3 rfl)
            subst e3
            clear huv hul
            have hreZ := (hEZ.block _ (Array.getElem?_eq_some_iff.1 HREY.out).1).trans HREY.out
            have hKZ := (hEZ.block _ (Array.getElem?_eq_some_iff.1 HKY.out).1).trans HKY.out
            have hK2Z := (hEZ.block _ (Array.getElem?_eq_some_iff.1 HK2.out).1).trans HK2.out
            have hBZ : Below w.heap.size w Z := HY.out.keep.trans (hEZ.mono HY.out.keep.size)
            simp only [filled, List.take_succ_cons, List.take_zero, List.zip_cons_cons, List.zip_nil_left, List.foldl_cons, List.foldl_nil, Act.put, List.setIfInBounds_toArray, List.set_cons_succ, List.set_cons_zero]
            have hK2r : (Z.setRow (w.heap.size + 1) #[.bool true]).heap[D2]? = some (.deferred (some [])) := (setRow_other _ _ _ _ (by omega)).trans hK2Z
            have hKr : ((Z.setRow (w.heap.size + 1) #[.bool true]).putObj D2 (.deferred none)).heap[D]? = some (.deferred (some [])) := (World.putObj_heap_other (by omega)).trans ((setRow_other _ _ _ _ (by omega)).trans hKZ)
            have hTT := (Turn.putObj (B := W7.heap.size) (.deferred none) (by omega) hK2r rfl).trans (Turn.putObj (B := W7.heap.size) (.deferred none) hD hKr rfl)
            have hcl := hTT.cell (cell_of_row _ _ 0 _ _ _ (setRow_heap _ _ _ #[.bool true] _ _ hreZ))
            have hBr : Below w.heap.size w (Z.setRow (w.heap.size + 1) #[.bool true]) := hBZ.trans ⟨rfl, rfl, rfl, by simp, fun k hk => setRow_other _ _ _ _ (by omega)⟩
            have hBe := hBr.trans (hTT.below (by omega) hBr.size)
            have HCL := Lib.hid hcl
            have HBE := Lib.hid hBe
            have HK2r := Lib.hid hK2r
            have HKr := Lib.hid hKr
            have HREZ := Lib.hid hreZ
            refine wp_skipped (w' := Z.setRow (w.heap.size + 1) #[.bool true]) (by refine run_store_one 4 (.tmp 4) (.tmp 96) ?_ (w.heap.size + 1) (.bool true) ?_ ?_ ?_ 4 (.bool false) HREZ.out infoBool <;> rfl) ?_
            clear hcl hBe hK2r hKr hreZ hTT hBr hKZ hK2Z hBZ hEZ
            simp only [Exit.then]
            rename_i hKd
            refine hKd _ _ ?_
            gi_wp2
            refine ⟨by simp, .inl ⟨_, _, rfl, run_takeDeferred HK2r.out, by simp, .inl ⟨_, _, rfl, run_takeDeferred HKr.out, ?_⟩⟩⟩
            exact ⟨_, results_cell_bool rfl _ _ (w.heap.size + 1) (.bool true) rfl HCL.out Tryd.underlying4, rfl, HBE.out⟩
      · have hpi : ((p : Int) == (M.length : Int)) = false := by simp; omega
        subst hst
        have hatW : W.cell? ⟨W6.heap.size, 0, none⟩ = some (.int .i64 p) := cell_of_row _ _ _ _ _ _ hC.box
        have hlW : W.cell? ⟨W4.heap.size, 0, none⟩ = some (.slice la M.length lc) := hC.cell (cell_of_row _ _ _ _ _ _ HL7.out) (by omega)
        have hstW : W.cell? ⟨w.heap.size, 0, none⟩ = some (.int .i64 p) := hC.cell (cell_of_row _ _ _ _ _ _ HST7.out) (by omega)
        have hcsz := hC.size
        have hm1 := hC.one
        have hm2 := hC.le
        obtain ⟨V, hV⟩ : ∃ V, V = W.alloc (.cells #[.int .i64 0] 3) := ⟨_, rfl⟩
        have hEV : Ext W V := by rw [hV]; exact Ext.alloc _ _
        have hVa : V.heap.size ≤ W.heap.size + 1 := by rw [hV]; simp
        have hVb : W.heap.size + 1 ≤ V.heap.size := by rw [hV]; simp
        have hC2 : WalkC (fun k => W1.heap.size ≤ k ∧ k < W2.heap.size) bt W6.heap.size L.length M w W7 m p V := hC.ext hEV (fun k hk => by omega) (by omega)
        have hlf : V.heap[W.heap.size]? = some (.cells #[.int .i64 0] 3 (0, 0)) := by rw [hV]; exact heap_alloc_new _ _
        have hKV := (hEV.block D (Array.getElem?_eq_some_iff.1 hK).1).trans hK
        have hDlt := (Array.getElem?_eq_some_iff.1 hK).1
        have hcwV := hC2.cell HCW.out (show bw ≠ W6.heap.size by omega)
        have hctV := hC2.cell HCT.out (show btb ≠ W6.heap.size by omega)
        have hbtV : V.cell? ⟨W2.heap.size, 0, none⟩ = some (.pointer (some ⟨bt, 0, none⟩)) := hC2.cell (cell_of_row _ _ _ _ _ _ HBT7.out) (by omega)
        have hreV : V.heap[w.heap.size + 1]? = some (.cells #[.bool false] 4 (0, 0)) := hC2.cells _ _ _ _ HRE7.out (by omega)
        have hokt := HOK.out.take m
        have hnog : ∀ k, W1.heap.size ≤ k ∧ k < W2.heap.size → k ≠ W.heap.size := fun k hk => by omega
        have TT2 := told_tells (fun _ k => k ≠ W.heap.size) _ V bt (M.take m) L.length hC2.tree hnog bw btb 46 #[.pointer (some ⟨bt, 0, none⟩)] #[] hcwV hctV (enters_of Tryd.func46 (by kernel_rfl) rfl) ((M.take m).map (·.1))
          (fun Y hY => by simpa using tsorted_any _ Y bt (M.take m) L.length (hC2.tree.ext hY) (by simp; omega)) (by simp; omega) (fun k hk => HKL.out k (by
            obtain ⟨x, hx, rfl⟩ := List.mem_map.1 hk
            exact List.mem_map.2 ⟨x, List.mem_of_mem_take hx, rfl⟩))
        rw [nodesOf_vals hokt.sorted] at TT2
        have TT2 := Lib.hid TT2
        have HV := Lib.hid hV
        have HC2 := Lib.hid hC2
        have HLF := Lib.hid hlf
        have HKV := Lib.hid hKV
        have HBTV := Lib.hid hbtV
        have HREV := Lib.hid hreV
        have HCB := Lib.hid hC2.box
        clear TT hV hC2 hlf hKV hbtV hreV hcwV hctV hC hEV hK C1 C2 C3
        gi_wp2_with fail
        rw [← HV.out]
        refine wpIn_tells_nd (Safe := fun _ k => k ≠ W.heap.size) (by omega) (gf := 66) (lb := #[.pointer (some ⟨bw, 0, none⟩), .pointer (some ⟨btb, 0, none⟩)]) rfl (enters_of Tryd.func66 (by kernel_rfl) rfl) TT2.out (show 83 < 97 by decide) (show 14 < 97 by decide) (by decide)
          (fun pre Y => WalkC (fun k => W1.heap.size ≤ k ∧ k < W2.heap.size) bt W.heap.size L.length M w V m pre.length Y ∧ Y.heap[D]? = some (.deferred (some []))) (fun _ _ _ => False) (fun _ _ _ _ h => h) ?hI2 ?hIx2 ?h02 ?body2 ?done2 ?stop2
        case hI2 =>
          rintro pre X Y ⟨h1, h2⟩ hTn
          exact ⟨⟨h1.turn hTn (fun k hk => by omega) (by omega), hTn.same D _ h2 (.inl (by omega))⟩, fun k hk => by have := h1.size; omega⟩
        case hIx2 => exact fun _ _ _ _ h _ => h
        case h02 => exact ⟨⟨hm1, hm2, HC2.out.tree, HLF.out, fun _ _ _ _ h _ => h, Nat.le_refl _, HC2.out.keep⟩, HKV.out⟩
        case stop2 => exact fun _ _ _ _ _ _ h => h.elim
        case body2 =>
          rintro l pre n da dc aa ac bl Y hl0 hrec ⟨rest, hSp⟩ ⟨hY, hKY⟩ hG hbl
          simp only [List.setIfInBounds_toArray, List.set_cons_succ, List.set_cons_zero]
          have hlen := congrArg List.length hSp
          simp only [List.length_append, List.length_map, List.length_cons, List.length_nil, List.length_take] at hlen
          have hpn : Y.cell? ⟨bl, 0, none⟩ = some (.string n.path) := cell_of_row _ _ _ _ _ _ hbl
          have hatY : Y.cell? ⟨W6.heap.size, 0, none⟩ = some (.int .i64 p) := hY.cell (cell_of_row _ _ _ _ _ _ HCB.out) (by omega)
          have hlfY : Y.cell? ⟨W.heap.size, 0, none⟩ = some (.int .i64 pre.length) := cell_of_row _ _ _ _ _ _ hY.box
          have hpq : n.path = ⟨#[47]⟩ ∨ (n.path ≠ ⟨#[47]⟩ ∧ p ≤ 1) := by
            by_cases hpp : n.path = ⟨#[47]⟩
            · exact .inl hpp
            · refine .inr ⟨hpp, Nat.le_of_not_lt fun h1 => hpp ?_⟩
              have hm := hmp h1
              rw [hm] at hSp hlen
              have h0 : pre.length = 0 := by omega
              have hpe : pre = [] := List.eq_nil_of_length_eq_zero h0
              subst hpe
              have hn : M[0].2 = n := by
                have := congrArg (·[0]?) hSp
                simp [hM0] at this
                exact this.symm
              have hkk := HOK.out.key _ (List.getElem_mem hM0)
              rw [HM1.out, hn] at hkk
              exact ba_ext hkk.symm
          obtain ⟨Y2, hY2⟩ : ∃ Y2, Y2 = Y.setRow W.heap.size #[.int .i64 ((pre.length + 1 : Nat) : Int)] := ⟨_, rfl⟩
          have hC3 : WalkC (fun k => W1.heap.size ≤ k ∧ k < W2.heap.size) bt W.heap.size L.length M w V m (pre.length + 1) Y2 := by rw [hY2]; exact hY.bump (fun k hk => by omega) (by omega)
          have hK3 : Kp V.heap.size W.heap.size Y Y2 := by rw [hY2]; exact Kp.set Y _ (by omega)
          have hKD : Y2.heap[D]? = some (.deferred (some [])) := by rw [hY2]; exact (setRow_other _ _ _ _ (by omega)).trans hKY
          have HBY := Lib.hid hY.box
          have HY2 := Lib.hid hY2
          have HC3 := Lib.hid hC3
          have HK3 := Lib.hid hK3
          have HKD := Lib.hid hKD
          clear hY2 hC3 hK3 hKD hY hKY hG hbl hSp TT2 HV
          rcases hpq with hpp | ⟨hpp, hp1⟩
          · rw [hpp] at hpn
            gi_wp2_with (refine wpListIn_skipped (fun _ => trivial) rfl (fun c h => by cases h) (run_store_one 3 (.tmp 13) (.tmp 92) rfl W.heap.size (.int .i64 ((pre.length + 1 : Nat) : Int)) rfl (by first | rfl | (simp; rfl)) rfl 3 (.int .i64 pre.length) HBY.out infoInt) ?_; rw [← HY2.out])
            exact ⟨HK3.out.recs, HK3.out.cells, by simpa using HC3.out, HKD.out⟩
          · have hd1 : decide ((1 : Int) < (p : Int)) = false := by simp; omega
            gi_wp2_with (refine wpListIn_skipped (fun _ => trivial) rfl (fun c h => by cases h) (run_store_one 3 (.tmp 13) (.tmp 92) rfl W.heap.size (.int .i64 ((pre.length + 1 : Nat) : Int)) rfl (by first | rfl | (simp; rfl)) rfl 3 (.int .i64 pre.length) HBY.out infoInt) ?_; rw [← HY2.out])
            all_goals exact ⟨HK3.out.recs, HK3.out.cells, by simpa using HC3.out, HKD.out⟩
        case done2 =>
          rintro D2 xs Y hD2 hS2 ⟨hY, hKY⟩ hK2
          have hxl : xs.length = m := by have := congrArg List.length hS2; simp at this; omega
          rw [hxl] at hY
          have hmt : (M.take m).length = m := by simp; omega
          have hbtY : Y.cell? ⟨W2.heap.size, 0, none⟩ = some (.pointer (some ⟨bt, 0, none⟩)) := hY.cell HBTV.out (by omega)
          have hlfY : Y.cell? ⟨W.heap.size, 0, none⟩ = some (.int .i64 m) := cell_of_row _ _ _ _ _ _ hY.box
          have hreY : Y.heap[w.heap.size + 1]? = some (.cells #[.bool false] 4 (0, 0)) := hY.cells _ _ _ _ HREV.out (by omega)
          have HY := Lib.hid hY
          have HKY := Lib.hid hKY
          have HK2 := Lib.hid hK2
          have HBTY := Lib.hid hbtY
          have HLFY := Lib.hid hlfY
          have HREY := Lib.hid hreY
          clear hY hKY hK2 hbtY hlfY hreY TT2 HV
          gi_wp2_with fail
          refine (wpIn_wide (n := 6)).2 (wp_region_P (by kernel_rfl) (region_last_e 97 (fun i v _ => [Value.int .i64 m, .pointer (some ⟨bt, 0, none⟩), .int .i64 m, .bool true][i]? = some v) (fun _ _ _ _ h _ => h) (by decide) rfl 4 _ rfl rfl rfl rfl ?duties2 ?last2))
          case duties2 =>
            refine ⟨?_, ?_, ?_, ?_, trivial⟩
            · refine duty_free rfl fun a w' hE hF hA => ?_
              exact wp_value (ex_cell rfl _ _ (hF.slot 13 _ (by decide) rfl) ((hE.cell (p := ⟨W.heap.size, 0, none⟩) (World.block_lt_of_cell? _ _ HLFY.out)).trans HLFY.out) rfl Tryd.underlying3) ⟨_, rfl, rfl, Ext.refl _⟩
            · refine duty_free rfl fun a w' hE hF hA => ?_
              exact wp_value (ex_cell rfl _ _ (hF.slot 5 _ (by decide) rfl) ((hE.cell (p := ⟨W2.heap.size, 0, none⟩) (World.block_lt_of_cell? _ _ HBTY.out)).trans HBTY.out) rfl Tryd.underlying24) ⟨_, rfl, rfl, Ext.refl _⟩
            · refine duty_free rfl fun a w' hE hF hA => ?_
              have x1 := hA.val (vals := [Value.int .i64 m, .pointer (some ⟨bt, 0, none⟩), .int .i64 m, .bool true]) 1 94 rfl rfl ⟨⟨1, .data⟩, by simp, rfl, rfl⟩ rfl
              have CN := tcount_any _ w' bt (M.take m) L.length (HY.out.tree.ext hE)
              rw [hmt] at CN
              refine wp_enter (ex_call rfl (enters_f Tryd.func16 (by kernel_rfl) rfl)) (by simp only [List.map_toArray, List.map_cons, List.map_nil, x1]; exact CN) ?_
              rintro e w4 ⟨rfl, rfl⟩
              exact ⟨_, rfl, _, rfl, rfl, Ext.refl _⟩
            · refine duty_free rfl fun a w' hE hF hA => ?_
              have x1 := hA.val (vals := [Value.int .i64 m, .pointer (some ⟨bt, 0, none⟩), .int .i64 m, .bool true]) 0 93 rfl rfl ⟨⟨0, .data⟩, by simp, rfl, rfl⟩ rfl
              have x2 := hA.val (vals := [Value.int .i64 m, .pointer (some ⟨bt, 0, none⟩), .int .i64 m, .bool true]) 2 95 rfl rfl ⟨⟨2, .data⟩, by simp, rfl, rfl⟩ rfl
              exact wp_value (w' := w') (v := .bool true) (by simp only [execOp, x1, x2]; simp [go_sem]) ⟨_, rfl, rfl, Ext.refl _⟩
          case last2 =>
            intro us Z hEZ hul huv
            obtain ⟨u0, u1, u2, u3, rfl⟩ := us4 us hul
            have e3 : Value.bool true = u3 := Option.some.inj (huv 3 u3 rfl)
            subst e3
            clear huv hul
            have hreZ := (hEZ.block _ (Array.getElem?_eq_some_iff.1 HREY.out).1).trans HREY.out
            have hKZ := (hEZ.block _ (Array.getElem?_eq_some_iff.1 HKY.out).1).trans HKY.out
            have hK2Z := (hEZ.block _ (Array.getElem?_eq_some_iff.1 HK2.out).1).trans HK2.out
            have hBZ : Below w.heap.size w Z := HY.out.keep.trans (hEZ.mono HY.out.keep.size)
            simp only [filled, List.take_succ_cons, List.take_zero, List.zip_cons_cons, List.zip_nil_left, List.foldl_cons, List.foldl_nil, Act.put, List.setIfInBounds_toArray, List.set_cons_succ, List.set_cons_zero]
            have hK2r : (Z.setRow (w.heap.size + 1) #[.bool true]).heap[D2]? = some (.deferred (some [])) := (setRow_other _ _ _ _ (by omega)).trans hK2Z
            have hKr : ((Z.setRow (w.heap.size + 1) #[.bool true]).putObj D2 (.deferred none)).heap[D]? = some (.deferred (some [])) := (World.putObj_heap_other (by omega)).trans ((setRow_other _ _ _ _ (by omega)).trans hKZ)
            have hTT := (Turn.putObj (B := W7.heap.size) (.deferred none) (by omega) hK2r rfl).trans (Turn.putObj (B := W7.heap.size) (.deferred none) hD hKr rfl)
            have hcl := hTT.cell (cell_of_row _ _ 0 _ _ _ (setRow_heap _ _ _ #[.bool true] _ _ hreZ))
            have hBr : Below w.heap.size w (Z.setRow (w.heap.size + 1) #[.bool true]) := hBZ.trans ⟨rfl, rfl, rfl, by simp, fun k hk => setRow_other _ _ _ _ (by omega)⟩
            have hBe := hBr.trans (hTT.below (by omega) hBr.size)
            have HCL := Lib.hid hcl
            have HBE := Lib.hid hBe
            have HK2r := Lib.hid hK2r
            have HKr := Lib.hid hKr
            have HREZ := Lib.hid hreZ
            refine wp_skipped (w' := Z.setRow (w.heap.size + 1) #[.bool true]) (by refine run_store_one 4 (.tmp 4) (.tmp 96) ?_ (w.heap.size + 1) (.bool true) ?_ ?_ ?_ 4 (.bool false) HREZ.out infoBool <;> rfl) ?_
            clear hcl hBe hK2r hKr hreZ hTT hBr hKZ hK2Z hBZ hEZ
            simp only [Exit.then]
            rename_i hKd
            refine hKd _ _ ?_
            gi_wp2
            refine ⟨by simp, .inl ⟨_, _, rfl, run_takeDeferred HK2r.out, by simp, .inl ⟨_, _, rfl, run_takeDeferred HKr.out, ?_⟩⟩⟩
            exact ⟨_, results_cell_bool rfl _ _ (w.heap.size + 1) (.bool true) rfl HCL.out Tryd.underlying4, rfl, HBE.out⟩
end Go.Proofs.YtfgjbcejpjcpeaaDoor
