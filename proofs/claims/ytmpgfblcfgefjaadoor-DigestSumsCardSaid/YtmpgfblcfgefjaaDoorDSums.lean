/- The walk of the law DigestSums. -/
import Derived.Test.YtmpgfblcfgefjaaDoorRSame
import Derived.Test.YtmpgfblcfgefjaaDoorRClone
import Derived.Test.YtmpgfblcfgefjaaDoorRNode
import Derived.Test.YtmpgfblcfgefjaaDoorDuty
namespace Go.Proofs.YtmpgfblcfgefjaaDoor
open Go.RowKit
set_option maxHeartbeats 2000000
set_option maxRecDepth 100000

theorem Cells.ext {w w' : World} {a : Option Addr} {xs : List Value} (h : Cells w.heap.size w a xs) (he : Ext w w') : Cells w'.heap.size w' a xs := (h.below he).mono he.size

/-- An append to an empty row: what was there stays. -/
theorem run_append_empty {P : Program} (w : World) (t tx ty e : TypeId) (i : TypeInfo) (z : Value) (size bytes : Nat) (ht : P.underlying t = some (.slice e)) (hi : P.info? e = some i) (hz : i.zero = some z)
    (hsize : i.size = size) (hby : i.bytes = bytes) (hzs : z.cells.size = size) (hsz : 0 < size) (g : Nat)
    (x : Value) (m : Nat) (news : List Value) (hs : Src P size tx x m news w) (h63 : m ≤ maxLen) (hbytes : m * bytes ≤ 140737488355328) :
    ∃ a c w', (Builtin.append_ #[t, tx] ty #[.slice (some ⟨g, 0, none⟩) 0 0, x]).run P w = .ok (.slice a m c) w' ∧ Cells w'.heap.size w' a news ∧ Ext w w' := by
  subst hsize
  subst hby
  by_cases hm : m = 0
  · subst hm
    have hn : news = [] := List.eq_nil_of_length_eq_zero (by simpa using hs.newsLen)
    subst hn
    refine ⟨some ⟨g, 0, none⟩, 0, w, ?_, Cells.nil _ _ _, Ext.refl w⟩
    have h1 := hs.len
    have h2 := hs.cells
    rcases hs.kind with ⟨e', hk⟩ | hk <;> simp [Builtin.append_, run_underlying ht, run_underlying hk, sizeOf, typeInfo, hi, h1, h2, storeCells]
  · have hsmall : m ≤ 9223372036854775807 := by simp only [maxLen] at h63; omega
    have hr := run_append_grow_src (P := P) w t tx ty e i z ht hi hz (some ⟨g, 0, none⟩) 0 0 [] (by simp [Builtin.firstCells, loadCells, loadCellsFrom]) x m news hs (by omega) (by omega) (growslice_fits (by omega) (by simpa using hbytes))
    simp only [Nat.zero_add, List.nil_append] at hr
    refine ⟨_, _, _, hr, fun j u hj => ⟨w.heap.size, 0, rfl, by simp, ?_⟩, (Ext.drew w).trans (Ext.alloc _ _)⟩
    have hh : ∀ o, (w.drew.alloc o).heap[w.heap.size]? = some o := fun o => heap_alloc_new w.drew o
    have hlt := (List.getElem?_eq_some_iff.1 hj).1
    simp only [World.cell?, hh]
    simp [Array.getElem?_append, hlt]
    exact (List.getElem?_eq_some_iff.1 hj).2

theorem ex_append {P : Program} {o : Oper} {a : Act} {w w' : World} {s x : Operand} {t tx : TypeId} {v : Value} (ho : o.op = .call { callee := .builtin .append, args := #[s, x], argTypes := #[t, tx] })
    (h : (Builtin.append_ #[t, tx] o.type #[a.eval s, a.eval x]).run P w = .ok v w') : (execOp a.eval o).run P w = .ok (.value v) w' := by
  unfold execOp
  simp only [ho, resolve, invoke, builtin, Sem.run_bind, Sem.run_pure, Result.andThen_ok, List.map_toArray, List.map_cons, List.map_nil, h]

theorem ex_load_row {P : Program} {o : Oper} {a : Act} {w : World} {ty : TypeId} {x : Operand} (ho : o.op = .load ty x) (g : Nat) (hx : a.eval x = .pointer (some ⟨g, 0, none⟩)) (t : TypeId) (cs : Array Value) (fr : Nat × Nat) (d : TypeDesc) (hg : w.heap[g]? = some (.cells cs t fr))
    (hu : P.underlying ty = some d) (hd : (match d with | .struct _ | .array _ _ => true | _ => false) = true) (hi : (P.info? ty).map (·.size) = some cs.size) : (execOp a.eval o).run P w = .ok (.value (.agg cs)) w := by
  unfold execOp
  simp only [ho, hx, Instr.loadAt, Instr.sureAddr, Sem.run_bind, Sem.run_pure, Result.andThen_ok, run_loadVar_row w g t ty cs fr d hg hu hd hi]

def PhiS (l : List UInt8) (n : Nd) (bv ov nv : Value) : Nat → Value → World → Prop
  | 0, v, _ => ∃ g, v = .slice (some ⟨g, 0, none⟩) 0 0
  | 1, v, _ => v = bv
  | 2, v, w => ∃ a c, v = .slice a l.length c ∧ Cells w.heap.size w a (l.map u8v)
  | 3, v, _ => v = .int .u64 (fnv l)
  | 4, v, _ => v = bv
  | 5, v, _ => v = .int .u64 (fnv l)
  | 6, v, _ => v = .bool true
  | 7, v, _ => v = .bool true
  | 8, v, _ => v = ov
  | 9, v, _ => v = .int .u64 (nodeN n)
  | 10, v, _ => v = nv
  | 11, v, _ => v = .int .u64 (nodeN n)
  | 12, v, _ => v = .bool true
  | 13, v, _ => v = .bool true
  | 14, v, _ => v = .bool true
  | 15, v, _ => v = ov
  | 16, v, _ => v = nv
  | 17, v, _ => v = .bool true
  | 18, v, _ => v = .bool true
  | 19, v, _ => v = .bool true
  | _, _, _ => True
theorem PhiS.stab (l : List UInt8) (n : Nd) (bv ov nv : Value) (i : Nat) (v : Value) (w w' : World) (h : PhiS l n bv ov nv i v w) (he : Ext w w') : PhiS l n bv ov nv i v w' := by
  unfold PhiS at h ⊢
  split at h <;> first | exact h | (obtain ⟨a, c, h1, h2⟩ := h; exact ⟨a, c, h1, h2.ext he⟩)

theorem sums_walk (l : List UInt8) (n : Nd) (ba da aa : Option Addr) (bc dc ac : Nat) (w : World) (hf : Fit n) (hT : Tabs w) (hbl : l.length ≤ 140737488355328) (hb : Cells w.heap.size w ba (l.map u8v)) (hD : Cells w.heap.size w da (n.data.map u8v)) (hA : Cells w.heap.size w aa (acCs n.acl)) :
    Calls Tryd.prog 3 #[.slice ba l.length bc, .agg (ndC n (.slice da n.data.length dc) (.slice aa n.acl.length ac))] w fun e w' => e = .returned (.bool true) ∧ Below w.heap.size w w' := by
  obtain ⟨w1, hw1⟩ : ∃ w1, w1 = w.alloc (.cells (ndC n (.slice da n.data.length dc) (.slice aa n.acl.length ac)) 27) := ⟨_, rfl⟩
  have he1 : Ext w w1 := by rw [hw1]; exact Ext.alloc _ _
  have hn1 : w1.heap[w.heap.size]? = some (.cells (ndC n (.slice da n.data.length dc) (.slice aa n.acl.length ac)) 27 (0, 0)) := by rw [hw1]; exact heap_alloc_new w _
  have CC := rclone_any n da aa dc ac w1 hf (hD.ext he1) (hA.ext he1)
  have HN1 := Lib.hid hn1
  have HW1 := Lib.hid hw1
  rw [hw1] at CC
  have HH := Lib.hid (hw1 ▸ hn1)
  unfold ndC at CC HH HW1 ⊢
  have CC := Lib.hid CC
  clear hn1 hw1
  go_enter Tryd.func3, Tryd.ntmps3
  go_wp2_with (refine wpList_load_row rfl 27 (.tmp 3) rfl w.heap.size rfl 27 _ (0, 0) _ HH.out Tryd.underlying27 rfl sizeNd ?_)
  refine CC.out.mono ?_
  rintro e w2 ⟨v, rfl, ⟨oa, oc, ob, od, rfl, hoD, hoA⟩, hb2⟩
  have hz2 := heap_alloc_new w2 (.cells #[.string ⟨#[]⟩, .slice none 0 0, .slice none 0 0, .int .i64 0, .int .i64 0, .int .i64 0, .int .i64 0, .int .i64 0, .int .i64 0, .int .i64 0, .int .i64 0, .int .i32 0, .int .i32 0, .int .i32 0, .bool false, .int .i64 0, .int .i64 0] 27)
  have HZ2 := Lib.hid hz2
  rw [← HW1.out] at hb2
  have hn2 := (hb2.block w.heap.size (by rw [HW1.out]; simp)).trans HN1.out
  have hs3 := setRow_heap _ w2.heap.size _ (ndC n (.slice oa n.data.length oc) (.slice ob n.acl.length od)) 27 (0, 0) hz2
  have ho3 := fun k => setRow_other (w2.alloc (.cells #[.string ⟨#[]⟩, .slice none 0 0, .slice none 0 0, .int .i64 0, .int .i64 0, .int .i64 0, .int .i64 0, .int .i64 0, .int .i64 0, .int .i64 0, .int .i64 0, .int .i32 0, .int .i32 0, .int .i32 0, .bool false, .int .i64 0, .int .i64 0] 27)) w2.heap.size k (ndC n (.slice oa n.data.length oc) (.slice ob n.acl.length od))
  have hsz3 : ((w2.alloc (.cells #[.string ⟨#[]⟩, .slice none 0 0, .slice none 0 0, .int .i64 0, .int .i64 0, .int .i64 0, .int .i64 0, .int .i64 0, .int .i64 0, .int .i64 0, .int .i64 0, .int .i32 0, .int .i32 0, .int .i32 0, .bool false, .int .i64 0, .int .i64 0] 27)).setRow w2.heap.size (ndC n (.slice oa n.data.length oc) (.slice ob n.acl.length od))).heap.size = w2.heap.size + 1 := by simp [World.setRow]
  have hE3 : Ext w2 ((w2.alloc (.cells #[.string ⟨#[]⟩, .slice none 0 0, .slice none 0 0, .int .i64 0, .int .i64 0, .int .i64 0, .int .i64 0, .int .i64 0, .int .i64 0, .int .i64 0, .int .i64 0, .int .i32 0, .int .i32 0, .int .i32 0, .bool false, .int .i64 0, .int .i64 0] 27)).setRow w2.heap.size (ndC n (.slice oa n.data.length oc) (.slice ob n.acl.length od))) :=
    ⟨rfl, rfl, rfl, by omega, fun k hk => (ho3 k (by omega)).trans (Below.heap_alloc _ _ _ hk)⟩
  have HS3 := Lib.hid hs3
  have HO3 := Lib.hid ho3
  have HSZ := Lib.hid hsz3
  have HN2 := Lib.hid hn2
  clear hz2 hs3 ho3 hsz3 hn2 CC
  go_wp2_with (refine wpList_store_row rfl 27 (.tmp 5) (.tmp 7) rfl w2.heap.size _ rfl rfl 27 _ HZ2.out sizeNd rfl (cells_node n oa ob _ _ oc od) ?_)
  generalize (w2.alloc (.cells #[.string ⟨#[]⟩, .slice none 0 0, .slice none 0 0, .int .i64 0, .int .i64 0, .int .i64 0, .int .i64 0, .int .i64 0, .int .i64 0, .int .i64 0, .int .i64 0, .int .i32 0, .int .i32 0, .int .i32 0, .bool false, .int .i64 0, .int .i64 0] 27)).setRow w2.heap.size (ndC n (.slice oa n.data.length oc) (.slice ob n.acl.length od)) = w3 at HS3 HO3 HSZ hE3 ⊢
  have hE2 : Ext w w2 := he1.trans hb2
  have hEw : Ext w w3 := hE2.trans hE3
  have hb3 := hb.ext hEw
  have hD3 := hD.ext hEw
  have hA3 := hA.ext hEw
  have hoD3 := hoD.ext hE3
  have hoA3 := hoA.ext hE3
  have hT3 := hT.below hEw hT.size
  have hno : w3.heap[w2.heap.size]? = some (.cells (ndC n (.slice oa n.data.length oc) (.slice ob n.acl.length od)) 27 (0, 0)) := HS3.out
  have hnn : w3.heap[w.heap.size]? = some (.cells (ndC n (.slice da n.data.length dc) (.slice aa n.acl.length ac)) 27 (0, 0)) := (hE3.block w.heap.size (Array.getElem?_eq_some_iff.1 HN2.out).1).trans HN2.out
  generalize w2.heap.size = ob3 at hno ⊢
  have hfin : ∀ w', Ext w3 w' → Below w.heap.size w w' := fun w' h => Ext.trans hEw h
  have HFIN := Lib.hid hfin
  clear hfin HS3 HO3 HSZ HN2 HZ2 HH HW1 HN1 hE2 hE3 hEw hb2 he1 hb hD hA hoD hoA hT
  refine wp_region_e 27 (by kernel_rfl) (PhiS l n (.slice ba l.length bc) (.agg (ndC n (.slice oa n.data.length oc) (.slice ob n.acl.length od))) (.agg (ndC n (.slice da n.data.length dc) (.slice aa n.acl.length ac)))) (PhiS.stab _ _ _ _ _) (by decide) rfl ?_ ?fin
  case fin =>
    intro a w' hE hF hP
    have h4 := hP 19 _ rfl
    have hb' := HFIN.out w' hE
    have hd0 := hF.1
    have h4' : a.tmps.getD 4 undef = .bool true := h4
    clear hP hF h4
    rename_i hK
    refine hK a w' ?_
    refine wp_ret ?_
    exact bodyPost_ret (v := .bool true) ((results_tmp rfl _ _ _).trans (by rw [h4'])) hd0 ⟨rfl, hb'⟩
  have hen := fun (f : FuncId) (fn : Func) (c : Code) (hf : Tryd.prog.funcs[f]? = some fn) (hname : (fn.name == "runtime.NumGoroutine") = false) (hb : fn.body = some c) => enters_f hf hname hb
  refine ⟨?_, ?_, ?_, ?_, ?_, ?_, ?_, ?_, ?_, ?_, ?_, ?_, ?_, ?_, ?_, ?_, ?_, ?_, ?_, ?_, trivial⟩
  · refine duty_free rfl fun a w' hE hF hA => ?_
    exact wp_value (w' := w'.alloc (.cells #[] 5)) (v := .slice (some ⟨w'.heap.size, 0, none⟩) 0 0) (by kernel_rfl) ⟨_, rfl, ⟨_, rfl⟩, Ext.alloc _ _⟩
  · refine duty_free rfl fun a w' hE hF hA => ?_
    exact wp_value (ex_move rfl) ⟨_, rfl, hF.slot 0 _ (by decide) rfl, Ext.refl _⟩
  · refine duty_free rfl fun a w' hE hF hA => ?_
    obtain ⟨g, h8⟩ := hA.slot 0 8 rfl rfl ⟨⟨0, .data⟩, by simp, rfl, rfl⟩
    have h9 := hA.slot 1 9 rfl rfl ⟨⟨1, .data⟩, by simp, rfl, rfl⟩
    obtain ⟨i0, hi, hz0, hz1, hz2⟩ := info_parts infoU8
    have hsrc : Src Tryd.prog 1 22 (.slice ba l.length bc) l.length (l.map u8v) w' := (hb3.ext hE).src Tryd.underlying22 _ _ (by simp) (one_u8 _)
    obtain ⟨a', c', w4, hr, hcs, hE'⟩ := run_append_empty w' 22 22 22 5 i0 (.int .u8 0) 1 1 Tryd.underlying22 hi hz0 hz1 hz2 rfl (by decide) g _ _ _ hsrc (by simp only [maxLen]; omega) (by omega)
    exact wp_value (ex_append rfl (by rw [h8, show a.eval (.tmp 9) = _ from h9]; exact hr)) ⟨_, rfl, ⟨a', c', rfl, hcs⟩, hE'⟩
  · refine duty_free rfl fun a w' hE hF hA => ?_
    obtain ⟨a', c', h10, hcs⟩ := hA.slot 2 10 rfl rfl ⟨⟨2, .data⟩, by simp, rfl, rfl⟩
    refine wp_enter (ex_call rfl (hen _ _ _ Tryd.func5 (by kernel_rfl) rfl)) (by simp only [List.map_toArray, List.map_cons, List.map_nil, h10]; exact sum_any a' c' l w' hcs (by omega)) ?_
    rintro e w4 ⟨rfl, rfl⟩
    exact ⟨_, rfl, _, rfl, rfl, Ext.refl _⟩
  · refine duty_free rfl fun a w' hE hF hA => ?_
    exact wp_value (ex_move rfl) ⟨_, rfl, hF.slot 0 _ (by decide) rfl, Ext.refl _⟩
  · refine duty_free rfl fun a w' hE hF hA => ?_
    have h12 := hA.slot 4 12 rfl rfl ⟨⟨4, .data⟩, by simp, rfl, rfl⟩
    refine wp_enter (ex_call rfl (hen _ _ _ Tryd.func6 (by kernel_rfl) rfl)) (by simp only [List.map_toArray, List.map_cons, List.map_nil, show a.eval (.tmp 12) = _ from h12]; exact rsum_any ba bc l w' (hb3.ext hE) (by omega)) ?_
    rintro e w4 ⟨rfl, rfl⟩
    exact ⟨_, rfl, _, rfl, rfl, Ext.refl _⟩
  · refine duty_free rfl fun a w' hE hF hA => ?_
    have x1 : a.eval (.tmp 11) = _ := hA.slot 3 11 rfl rfl ⟨⟨3, .data⟩, by simp, rfl, rfl⟩
    have x2 : a.eval (.tmp 13) = _ := hA.slot 5 13 rfl rfl ⟨⟨5, .data⟩, by simp, rfl, rfl⟩
    exact wp_value (v := .bool true) (by simp only [execOp, x1, x2]; simp [go_sem]) ⟨_, rfl, rfl, Ext.refl _⟩
  · refine duty_free rfl fun a w' hE hF hA => ?_
    exact wp_value (ex_move rfl) ⟨_, rfl, hA.slot 6 14 rfl rfl ⟨⟨6, .data⟩, by simp, rfl, rfl⟩, Ext.refl _⟩
  · refine duty_yes rfl (p := _) rfl (d := 15) rfl (show 15 < 27 by decide) ⟨⟨7, .guard⟩, by simp, rfl, rfl⟩ (fun v w h => h) fun a w' hE hF hA => ?_
    exact wp_value (ex_load_row rfl ob3 (hF.slot 5 _ (by decide) rfl) 27 _ (0, 0) _ ((hE.block ob3 (Array.getElem?_eq_some_iff.1 hno).1).trans hno) Tryd.underlying27 rfl sizeNd) ⟨_, rfl, rfl, Ext.refl _⟩
  · refine duty_yes rfl (p := _) rfl (d := 15) rfl (show 15 < 27 by decide) ⟨⟨7, .guard⟩, by simp, rfl, rfl⟩ (fun v w h => h) fun a w' hE hF hA => ?_
    have x1 : a.eval (.tmp 16) = _ := hA.slot 8 16 rfl rfl ⟨⟨8, .data⟩, by simp, rfl, rfl⟩
    refine wp_enter (ex_call rfl (hen _ _ _ Tryd.func7 (by kernel_rfl) rfl)) (by simp only [List.map_toArray, List.map_cons, List.map_nil, x1]; exact node_any n oa ob oc od w' hf (hT3.below hE hT3.size) (hoD3.ext hE) (hoA3.ext hE)) ?_
    rintro e w4 ⟨rfl, hb4⟩
    exact ⟨_, rfl, _, rfl, rfl, hb4⟩
  · refine duty_yes rfl (p := _) rfl (d := 15) rfl (show 15 < 27 by decide) ⟨⟨7, .guard⟩, by simp, rfl, rfl⟩ (fun v w h => h) fun a w' hE hF hA => ?_
    exact wp_value (ex_load_row rfl w.heap.size (hF.slot 3 _ (by decide) rfl) 27 _ (0, 0) _ ((hE.block w.heap.size (Array.getElem?_eq_some_iff.1 hnn).1).trans hnn) Tryd.underlying27 rfl sizeNd) ⟨_, rfl, rfl, Ext.refl _⟩
  · refine duty_yes rfl (p := _) rfl (d := 15) rfl (show 15 < 27 by decide) ⟨⟨7, .guard⟩, by simp, rfl, rfl⟩ (fun v w h => h) fun a w' hE hF hA => ?_
    have x1 : a.eval (.tmp 18) = _ := hA.slot 10 18 rfl rfl ⟨⟨10, .data⟩, by simp, rfl, rfl⟩
    refine wp_enter (ex_call rfl (hen _ _ _ Tryd.func8 (by kernel_rfl) rfl)) (by simp only [List.map_toArray, List.map_cons, List.map_nil, x1]; exact rnode_any n da aa dc ac w' hf (hT3.below hE hT3.size) (hD3.ext hE) (hA3.ext hE)) ?_
    rintro e w4 ⟨rfl, hb4⟩
    exact ⟨_, rfl, _, rfl, rfl, hb4⟩
  · refine duty_yes rfl (p := _) rfl (d := 15) rfl (show 15 < 27 by decide) ⟨⟨7, .guard⟩, by simp, rfl, rfl⟩ (fun v w h => h) fun a w' hE hF hA => ?_
    have x1 : a.eval (.tmp 17) = _ := hA.slot 9 17 rfl rfl ⟨⟨9, .data⟩, by simp, rfl, rfl⟩
    have x2 : a.eval (.tmp 19) = _ := hA.slot 11 19 rfl rfl ⟨⟨11, .data⟩, by simp, rfl, rfl⟩
    exact wp_value (v := .bool true) (by simp only [execOp, x1, x2]; simp [go_sem]) ⟨_, rfl, rfl, Ext.refl _⟩
  · refine duty_free rfl fun a w' hE hF hA => ?_
    have x1 : a.eval (.tmp 15) = .bool true := hA.slot 7 15 rfl rfl ⟨⟨7, .data⟩, by simp, rfl, rfl⟩
    have x2 : a.eval (.tmp 20) = .bool true := hA.slot 12 20 rfl rfl ⟨⟨12, .data⟩, by simp, rfl, rfl⟩
    exact wp_value (ex_pick rfl x1) ⟨_, rfl, by rw [if_pos rfl]; exact x2, Ext.refl _⟩
  · refine duty_free rfl fun a w' hE hF hA => ?_
    exact wp_value (ex_move rfl) ⟨_, rfl, hA.slot 13 21 rfl rfl ⟨⟨13, .data⟩, by simp, rfl, rfl⟩, Ext.refl _⟩
  · refine duty_yes rfl (p := _) rfl (d := 22) rfl (show 22 < 27 by decide) ⟨⟨14, .guard⟩, by simp, rfl, rfl⟩ (fun v w h => h) fun a w' hE hF hA => ?_
    exact wp_value (ex_load_row rfl ob3 (hF.slot 5 _ (by decide) rfl) 27 _ (0, 0) _ ((hE.block ob3 (Array.getElem?_eq_some_iff.1 hno).1).trans hno) Tryd.underlying27 rfl sizeNd) ⟨_, rfl, rfl, Ext.refl _⟩
  · refine duty_yes rfl (p := _) rfl (d := 22) rfl (show 22 < 27 by decide) ⟨⟨14, .guard⟩, by simp, rfl, rfl⟩ (fun v w h => h) fun a w' hE hF hA => ?_
    exact wp_value (ex_load_row rfl w.heap.size (hF.slot 3 _ (by decide) rfl) 27 _ (0, 0) _ ((hE.block w.heap.size (Array.getElem?_eq_some_iff.1 hnn).1).trans hnn) Tryd.underlying27 rfl sizeNd) ⟨_, rfl, rfl, Ext.refl _⟩
  · refine duty_yes rfl (p := _) rfl (d := 22) rfl (show 22 < 27 by decide) ⟨⟨14, .guard⟩, by simp, rfl, rfl⟩ (fun v w h => h) fun a w' hE hF hA => ?_
    have x1 : a.eval (.tmp 23) = _ := hA.slot 15 23 rfl rfl ⟨⟨15, .data⟩, by simp, rfl, rfl⟩
    have x2 : a.eval (.tmp 24) = _ := hA.slot 16 24 rfl rfl ⟨⟨16, .data⟩, by simp, rfl, rfl⟩
    refine wp_enter (ex_call rfl (hen _ _ _ Tryd.func9 (by kernel_rfl) rfl)) (by simp only [List.map_toArray, List.map_cons, List.map_nil, x1, x2]; exact rsame_self n oa ob da aa oc od dc ac w' hf (hoD3.ext hE) (hoA3.ext hE) (hD3.ext hE) (hA3.ext hE)) ?_
    rintro e w4 ⟨rfl, hb4⟩
    exact ⟨_, rfl, _, rfl, rfl, hb4⟩
  · refine duty_free rfl fun a w' hE hF hA => ?_
    have x1 : a.eval (.tmp 22) = .bool true := hA.slot 14 22 rfl rfl ⟨⟨14, .data⟩, by simp, rfl, rfl⟩
    have x2 : a.eval (.tmp 25) = .bool true := hA.slot 17 25 rfl rfl ⟨⟨17, .data⟩, by simp, rfl, rfl⟩
    exact wp_value (ex_pick rfl x1) ⟨_, rfl, by rw [if_pos rfl]; exact x2, Ext.refl _⟩
  · refine duty_free rfl fun a w' hE hF hA => ?_
    exact wp_value (ex_assign rfl) ⟨_, rfl, hA.slot 18 26 rfl rfl ⟨⟨18, .data⟩, by simp, rfl, rfl⟩, Ext.refl _⟩
end Go.Proofs.YtmpgfblcfgefjaaDoor
