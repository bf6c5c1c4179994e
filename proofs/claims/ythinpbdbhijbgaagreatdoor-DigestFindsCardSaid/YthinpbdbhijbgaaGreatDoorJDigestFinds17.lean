/- The walks of digest.Under and of what it is asked. -/
import Derived.Test.YthinpbdbhijbgaaGreatDoorJDigestFinds16
import Derived.Test.YthinpbdbhijbgaaGreatDoorJDigestFinds8
import Derived.Test.YthinpbdbhijbgaaGreatDoorJDigestFinds4
import Derived.Test.YthinpbdbhijbgaaGreatDoorJDigestFinds9
import Derived.Test.YthinpbdbhijbgaaGreatDoorJDigestFinds7
namespace Go.Proofs.YthinpbdbhijbgaaGreatDoor
open Go.RowKit Go.Sort
set_option maxHeartbeats 8000000
set_option maxRecDepth 100000
attribute [local go_sem] Oper.semAt_some

/-- One node more is summed. -/
def undStep (m : List (Key × Int)) (n : Nd) : List (Key × Int) :=
  if n.path.size = 1 then mput m (keyN n) (IntKind.u64.wrap ((mget m (keyN n)).getD 0 + nodeN n)) else
    mput (mput m (keyN n) (IntKind.u64.wrap ((mget m (keyN n)).getD 0 + nodeN n))) (parentB n.path).data.toList
      (IntKind.u64.wrap ((mget (mput m (keyN n) (IntKind.u64.wrap ((mget m (keyN n)).getD 0 + nodeN n))) (parentB n.path).data.toList).getD 0 + mixN (IntKind.u64.wrap ((mget m (keyN n)).getD 0 + nodeN n)) (nameB n.path)))
def undS (L : List Nd) : List (Key × Int) := L.foldl undStep []
theorem undS_snoc (L : List Nd) (n : Nd) : undS (L ++ [n]) = undStep (undS L) n := by unfold undS; rw [List.foldl_append]; rfl
theorem mput_lenU {α : Type} (M : List (Key × α)) (k : Key) (v : α) : (mput M k v).length ≤ M.length + 1 := by
  unfold mput
  rw [mins_length]
  have : (mdel M k).length ≤ M.length := List.length_filter_le _ _
  omega
theorem undStep_len (m : List (Key × Int)) (n : Nd) : (undStep m n).length ≤ m.length + 2 := by
  unfold undStep
  split
  · have := mput_lenU m (keyN n) (IntKind.u64.wrap ((mget m (keyN n)).getD 0 + nodeN n)); omega
  · have h1 := mput_lenU m (keyN n) (IntKind.u64.wrap ((mget m (keyN n)).getD 0 + nodeN n))
    have h2 := mput_lenU (mput m (keyN n) (IntKind.u64.wrap ((mget m (keyN n)).getD 0 + nodeN n))) (parentB n.path).data.toList (IntKind.u64.wrap ((mget (mput m (keyN n) (IntKind.u64.wrap ((mget m (keyN n)).getD 0 + nodeN n))) (parentB n.path).data.toList).getD 0 + mixN (IntKind.u64.wrap ((mget m (keyN n)).getD 0 + nodeN n)) (nameB n.path)))
    omega
theorem undS_len : ∀ (L : List Nd) (m : List (Key × Int)), (L.foldl undStep m).length ≤ m.length + 2 * L.length
  | [], m => by simp
  | n :: L, m => by
    have h1 := undS_len L (undStep m n)
    have h2 := undStep_len m n
    rw [List.foldl_cons, List.length_cons]; omega
def numM (m : List (Key × Int)) : List (Key × Value) := m.map fun y => (y.1, .int .u64 y.2)
theorem numM_put (m : List (Key × Int)) (k : Key) (v : Int) : numM (mput m k v) = mput (numM m) k (.int .u64 v) := mput_map (fun z => Value.int .u64 z) m k v
theorem numM_get (m : List (Key × Int)) (k : Key) : mget (numM m) k = (mget m k).map fun z => .int .u64 z := mget_map (fun z => Value.int .u64 z) m k
theorem numM_len (m : List (Key × Int)) : (numM m).length = m.length := by unfold numM; simp
theorem numM_look {w : World} {b : Nat} {m : List (Key × Int)} (h : SMap Tryz.prog 9 w b (numM m)) {s : ByteArray} (hs : s.size ≤ maxLen) : (Instr.lookup 192 (.map (some b)) (.string s) false).run Tryz.prog w = .ok (.int .u64 ((mget m s.data.toList).getD 0)) w := by
  have := SMap.look (e := 96) h strT Tryz.underlying192 (z := .int .u64 0) (by kernel_rfl) hs
  rw [this, numM_get]
  cases mget m s.data.toList <;> rfl
theorem ex_look {o : Oper} {a : Act} {w : World} {t : TypeId} {m k : Operand} {b : Bool} (ho : o.op = .lookup t m k b) {v : Value} (h : (Instr.lookup t (a.eval m) (a.eval k) b).run Tryz.prog w = .ok v w) : (execOp a.eval o).run Tryz.prog w = .ok (.value v) w := by
  simp [execOp, ho, h, Result.andThen]

/-- Between two rounds: what the map holds. -/
structure UndI (b : Nat) (w W7 : World) (m : List (Key × Int)) (W : World) : Prop where
  map : SMap Tryz.prog 9 W b (numM m)
  cb : W.heap[b + 1]? = some (.cells #[.map (some b)] 194 (0, 0))
  c3 : W.heap[b + 1 + 1]? = some (.cells #[.pointer (some ⟨b + 1, 0, none⟩)] 94 (0, 0))
  size : W7.heap.size ≤ W.heap.size
  keep : Below w.heap.size w W
section
variable {b : Nat} {w W7 X Y : World} {m : List (Key × Int)}
theorem UndI.turn {B : Nat} (h : UndI b w W7 m X) (hT : Turn B X Y) (hw : w.heap.size ≤ B) : UndI b w W7 m Y := by
  obtain ⟨h0, h1, h2, h3, h4⟩ := h
  refine ⟨?_, hT.cells h1, hT.cells h2, Nat.le_trans h3 hT.size, h4.trans (hT.below hw h4.size)⟩
  obtain ⟨es, c, hb⟩ := h0.isMap
  exact h0.keep ((hT.same b _ hb (.inr rfl)).trans hb.symm)
theorem UndI.ext (h : UndI b w W7 m X) (hE : Ext X Y) : UndI b w W7 m Y := h.turn (Turn.of_ext (B := w.heap.size) hE) (Nat.le_refl _)
theorem UndI.put {k : Key} {v : Int} (h : UndI b w W7 m X) (hS : SMap Tryz.prog 9 Y b (mput (numM m) k (.int .u64 v))) (hM : Mod (· = b) X Y) (hb : w.heap.size ≤ b) : UndI b w W7 (mput m k v) Y :=
  ⟨by rw [numM_put]; exact hS, hM.cells h.cb, hM.cells h.c3, Nat.le_trans h.size hM.size, h.keep.trans (hM.below (fun k hk => by rw [hk]; exact hb) h.keep.size)⟩
end
theorem keepT_ext {B : Nat} {X Y : World} (h : Ext X Y) : KeepsRec B X Y ∧ KeepS TrueS X Y := ⟨KeepsRec.of_ext h, h.size, fun k c e f hk _ => ⟨(h.block _ (Array.getElem?_eq_some_iff.1 hk).1).trans hk, trivial⟩⟩
theorem keepT_mod {B b : Nat} {X Y : World} (h : Mod (· = b) X Y) (hb : b < B) : KeepsRec B X Y ∧ KeepS TrueS X Y := ⟨⟨h.size, fun k o hB hk _ => h.same k o hk (.inl (by show ¬ k = b; omega))⟩, h.size, fun _ _ _ _ hk _ => ⟨h.cells hk, trivial⟩⟩
theorem KeepS.transT {X Y Z : World} (h : KeepS TrueS X Y) (k : KeepS TrueS Y Z) : KeepS TrueS X Z := ⟨Nat.le_trans h.1 k.1, fun i c e f hi _ => ⟨(k.2 i c e f (h.2 i c e f hi trivial).1 trivial).1, trivial⟩⟩
theorem under9_any (S : Nat → Prop) (w : World) (bt : Nat) (M : List (Key × Nd)) (N : Nat) (hT : TreeAt S w bt M N) (hTb : Tabs w) (hks : M.length * 168 ≤ 140737488355328) :
    Calls Tryz.prog 52 #[.pointer (some ⟨bt, 0, none⟩)] w fun e w' => ∃ bb bm, e = .returned (.pointer (some ⟨bb, 0, none⟩)) ∧ w'.heap[bb]? = some (.cells #[.map (some bm)] 194 (0, 0)) ∧ SMap Tryz.prog 9 w' bm (numM (undS (nds M).reverse)) ∧ Ext w w' := by
  obtain ⟨Wa, hWa⟩ : ∃ Wa, Wa = w.alloc (.map #[] 0) := ⟨_, rfl⟩
  obtain ⟨Wb, hWb⟩ : ∃ Wb, Wb = Wa.alloc (.cells #[.map (some w.heap.size)] 194) := ⟨_, rfl⟩
  obtain ⟨Wc, hWc⟩ : ∃ Wc, Wc = Wb.alloc (.cells #[.pointer (some ⟨w.heap.size + 1, 0, none⟩)] 94) := ⟨_, rfl⟩
  have hEa : Ext w Wa := by rw [hWa]; exact Ext.alloc _ _
  have hEb : Ext Wa Wb := by rw [hWb]; exact Ext.alloc _ _
  have hEc : Ext Wb Wc := by rw [hWc]; exact Ext.alloc _ _
  have hza : Wa.heap.size = w.heap.size + 1 := by rw [hWa]; simp
  have hzb : Wb.heap.size = w.heap.size + 1 + 1 := by rw [hWb]; simp [hza]
  have hzc : Wc.heap.size = w.heap.size + 1 + 1 + 1 := by rw [hWc]; simp [hzb]
  have gm : SMap Tryz.prog 9 Wc w.heap.size (numM []) := by
    have : SMap Tryz.prog 9 Wa w.heap.size [] := by rw [hWa]; exact SMap.made _ _ w
    exact this.keep ((hEb.trans hEc).block w.heap.size (by omega))
  have gb : Wc.heap[w.heap.size + 1]? = some (.cells #[.map (some w.heap.size)] 194 (0, 0)) := (hEc.block (w.heap.size + 1) (by omega)).trans (by rw [hWb, ← hza]; exact heap_alloc_new Wa _)
  have g3 : Wc.heap[w.heap.size + 1 + 1]? = some (.cells #[.pointer (some ⟨w.heap.size + 1, 0, none⟩)] 94 (0, 0)) := by rw [hWc, ← hzb]; exact heap_alloc_new Wb _
  have hEw : Ext w Wc := hEa.trans (hEb.trans hEc)
  have C1 := Lib.hid (tall_any bt Wc)
  have hWd : (((w.alloc (.map #[] 0)).alloc (.cells #[.map (some w.heap.size)] 194)).alloc (.cells #[.pointer (some ⟨w.heap.size + 1, 0, none⟩)] 94)) = Wc := by rw [hWc, hWb, hWa]
  have HWD := Lib.hid hWd
  have HT := Lib.hid hT
  have HTB := Lib.hid hTb
  have hszT := hTb.size
  have HEW := Lib.hid hEw
  have HI0 := Lib.hid (show UndI w.heap.size w Wc [] Wc from ⟨gm, gb, g3, Nat.le_refl _, hEw⟩)
  have hzW : w.heap.size + 1 + 1 < Wc.heap.size := by omega
  have hmm := @run_makeMap Tryz.prog
  clear hT hTb gm gb g3 hEw hEa hEb hEc hWd hWa hWb hWc hza hzb hzc
  clear Wa Wb
  refine (callsIn_wide (n := 6)).1 (callsIn_of_wp_marks Tryz.func52 rfl trivial ?_)
  simp only [Tryz.ntmps52, List.size_toArray, List.length_cons, List.length_nil, Nat.reduceAdd, Nat.reduceSub, Array.replicate_succ, Array.replicate_zero, List.push_toArray, List.append_toArray, List.nil_append, List.cons_append]
  gi_wp2_with fail
  rw [HWD.out]
  refine ⟨trivial, (callsIn_wide.2 C1.out).mono ?_⟩
  rintro e W1 ⟨bw, btb, rfl, hcw, hct, hE1⟩
  have hE1 : Ext Wc W1 := hE1
  have hE01 := HEW.out.trans hE1
  have hT1 := HT.out.ext hE01
  have hok := HT.out.ok
  have C2 := Lib.hid (collect_any S W1 bt M N hT1 bw btb hcw hct hks hok.keys_le)
  have HI1 := Lib.hid (HI0.out.ext hE1)
  have HE1 := Lib.hid hE01
  have HOK := Lib.hid hok
  clear C1 HI0 HWD hE1 hE01 hT1 hok hcw hct hmm HT HEW
  gi_wp2_with fail
  refine ⟨trivial, (callsIn_wide.2 C2.out).mono ?_⟩
  rintro e W2 ⟨v, vs, rfl, hvl, hrow, hvs, hE2⟩
  have hE2 : Ext W1 W2 := hE2
  have hN2 : ∃ a c, v = .slice a (nds M).length c ∧ NdsAt W2.heap.size W2 a (nds M) := allOut_nds hvl hrow hvs
  obtain ⟨va, vc, rfl, hN2⟩ := hN2
  have C3 := Lib.hid (backw_any va (nds M).length vc W2)
  have HI2 := Lib.hid (HI1.out.ext hE2)
  have HN2 := Lib.hid hN2
  have HE2 := Lib.hid (HE1.out.trans hE2)
  clear C2 hE2 hN2 hrow hvs hvl HI1 HE1
  gi_wp2_with fail
  refine ⟨trivial, (callsIn_wide.2 C3.out).mono ?_⟩
  rintro e W3 ⟨rfl, hW3⟩
  have hE3 : Ext W2 W3 := by rw [hW3]; exact Ext.alloc _ _
  have hg3 : W3.heap[W2.heap.size]? = some (.cells #[.slice va (nds M).length vc] 50 (0, 0)) := by rw [hW3]; exact heap_alloc_new W2 _
  have hx3 : W3.cell? ⟨W2.heap.size, 0, none⟩ = some (.slice va (nds M).length vc) := cell_of_row _ _ _ _ _ _ hg3
  have hlN : (nds M).length = M.length := nds_length M
  have TT := Lib.hid (back_tells W3 (nds M) va vc W2.heap.size hx3 (HN2.out.ext hE3) (by omega))
  have HI3 := Lib.hid (show UndI w.heap.size w W3 (undS []) W3 from by
    have h := HI2.out.ext hE3
    exact ⟨h.map, h.cb, h.c3, Nat.le_refl _, h.keep⟩)
  have HE3 := Lib.hid (HE2.out.trans hE3)
  have hnn : (binOp .eql 197 (.func (.func 171) #[] #[.pointer (some ⟨W2.heap.size, 0, none⟩)]) .nilFunc).run Tryz.prog W3 = .ok (.bool false) W3 := by kernel_rfl
  have hzW3 : w.heap.size < W3.heap.size := by have := HI2.out.size; have := hE3.size; omega
  clear C3 hE3 hx3 hg3 HI2 HN2 HE2 hW3 hzW
  gi_wp2
  refine wpIn_tells_back (by omega) (gf := 171) (lb := #[.pointer (some ⟨W2.heap.size, 0, none⟩)]) rfl (enters_of Tryz.func171 (by kernel_rfl) rfl) TT.out (show 21 < 64 by decide) (show 6 < 64 by decide) (by decide)
    (fun (pre : List (Int × Value × Nd)) X => UndI w.heap.size w W3 (undS (pre.map fun x => x.2.2)) X) (fun _ _ _ => False) ?hI (fun _ _ _ _ h _ => h) HI3.out ?body ?done (fun _ _ _ _ _ _ h => h.elim)
  case hI => exact fun pre X Y h hT => h.turn hT (by omega)
  case body =>
    rintro l pre z n da dc aa ac bl W hl0 hrec ⟨rest, hSp⟩ hI hG hbl
    simp only [List.setIfInBounds_toArray, List.set_cons_succ, List.set_cons_zero]
    have hp0 : W.cell? ⟨bl, 0, none⟩ = some (.string n.path) := cell_of_row _ _ _ _ _ _ hbl
    have hcb : W.cell? ⟨w.heap.size + 1, 0, none⟩ = some (.map (some w.heap.size)) := cell_of_row _ _ _ _ _ _ hI.cb
    have hc3 : W.cell? ⟨w.heap.size + 1 + 1, 0, none⟩ = some (.pointer (some ⟨w.heap.size + 1, 0, none⟩)) := cell_of_row _ _ _ _ _ _ hI.c3
    have hpre : (pre ++ [(z, Value.agg (ndC n (.slice da n.data.length dc) (.slice aa n.acl.length ac)), n)]).map (·.2.2) = pre.map (·.2.2) ++ [n] := by simp
    have hSp : (pre.map (·.2.2) ++ [n]) ++ rest = (nds M).reverse := by rw [← hpre]; exact hSp
    have hmem : n ∈ nds M := by
      have : n ∈ (nds M).reverse := by rw [← hSp]; simp
      exact List.mem_reverse.1 this
    obtain ⟨x0, hx0, hxe⟩ := List.mem_map.1 hmem
    have hright := HOK.out.right x0 hx0
    have hxe : x0.2 = n := hxe
    rw [hxe] at hright
    have hfit : Fit n := (right_fit hright).1
    have hvp := right_vpath hright
    have hps0 := (vpath_facts hvp).2.1
    have hps : n.path.size ≤ maxLen := by unfold maxLen; omega
    have hml : (undS (pre.map (·.2.2))).length + 2 ≤ 2 * M.length := by
      have h1 := undS_len (pre.map (·.2.2)) []
      have h2 := congrArg List.length hSp
      rw [List.length_reverse, nds_length] at h2
      simp only [List.length_append, List.length_cons, List.length_nil] at h2 h1
      unfold undS
      omega
    have hsn : undS ((pre ++ [(z, Value.agg (ndC n (.slice da n.data.length dc) (.slice aa n.acl.length ac)), n)]).map (·.2.2)) = undStep (undS (pre.map (·.2.2))) n := by rw [hpre, undS_snoc]
    obtain ⟨hDW, hAW⟩ := nds_parts hG
    have hDW := hDW.cells fun b hb => hb.2
    have hAW := hAW.cells fun b hb => hb.2
    have hTW : Tabs W := HTB.out.below hI.keep hszT
    generalize undS (pre.map (·.2.2)) = m at *
    have HLK := Lib.hid (show ∀ w', Ext W w' → (Instr.lookup 192 (.map (some w.heap.size)) (.string n.path) false).run Tryz.prog w' = .ok (.int .u64 ((mget m (keyN n)).getD 0)) w' from fun w' hE => numM_look (hI.map.keep (hE.block _ hI.map.lt)) hps)
    have CN := Lib.hid (fun w' (hE : Ext W w') => node_any n da aa dc ac w' hfit (hTW.below hE hTW.size) (hDW.ext hE) (hAW.ext hE))
    have HI := Lib.hid hI
    have HSN := Lib.hid hsn
    have HVP := Lib.hid hvp
    have HBL := Lib.hid hbl
    generalize hv0 : (mget m (keyN n)).getD 0 = v0 at *
    have HV0 := Lib.hid hv0
    obtain ⟨sv, hsv⟩ : ∃ sv, sv = IntKind.u64.wrap (v0 + nodeN n) := ⟨_, rfl⟩
    have HSV := Lib.hid hsv
    clear hI hSp hmem hx0 hxe hright hpre hsn hG hDW hAW hTW hvp TT HI3 hv0 hsv hfit
    refine wpIn_block ?_
    gi_wp2
    refine wpIn_region_P l (by kernel_rfl) (by rfl) (region_sp 64 [.val (.pointer (some ⟨w.heap.size + 1, 0, none⟩)), .val (.pointer (some ⟨w.heap.size + 1, 0, none⟩)), .val (.pointer (some ⟨w.heap.size + 1, 0, none⟩)), .val (.map (some w.heap.size)), .val (.pointer (some ⟨bl, 0, none⟩)), .val (.string n.path), .val (.int .u64 v0), .val (.agg (ndC n (.slice da n.data.length dc) (.slice aa n.acl.length ac))), .val (.int .u64 (nodeN n)), .val (.int .u64 sv), .val (.int .u64 sv)] ?stay rfl (by decide) rfl ?duties ?rest)
    case duties =>
      refine ⟨?_, ?_, ?_, ?_, ?_, ?_, ?_, ?_, ?_, ?_, ?_, trivial⟩
      · refine duty_free rfl fun a w' hE hF hA => ?_
        have x1 := hF.slot 3 _ (by decide) rfl
        exact wp_value (ex_cell rfl _ _ x1 ((hE.cell (World.block_lt_of_cell? _ _ hc3)).trans hc3) rfl Tryz.underlying94) ⟨_, rfl, rfl, Ext.refl _⟩
      · refine duty_free rfl fun a w' hE hF hA => ?_
        have x1 := hA.pick 0 22 (.pointer (some ⟨w.heap.size + 1, 0, none⟩)) rfl rfl ⟨⟨0, .data⟩, by simp, rfl, rfl⟩ (fun u h => h)
        exact wp_value (ex_nilCheck rfl _ x1) ⟨_, rfl, rfl, Ext.refl _⟩
      · refine duty_free rfl fun a w' hE hF hA => ?_
        have x1 := hA.pick 1 23 (.pointer (some ⟨w.heap.size + 1, 0, none⟩)) rfl rfl ⟨⟨1, .data⟩, by simp, rfl, rfl⟩ (fun u h => h)
        exact wp_value (w' := w') (v := .pointer (some ⟨w.heap.size + 1, 0, none⟩)) (by simp only [execOp, x1]; simp [go_sem]) ⟨_, rfl, rfl, Ext.refl _⟩
      · refine duty_free rfl fun a w' hE hF hA => ?_
        have x1 := hA.pick 2 24 (.pointer (some ⟨w.heap.size + 1, 0, none⟩)) rfl rfl ⟨⟨2, .data⟩, by simp, rfl, rfl⟩ (fun u h => h)
        exact wp_value (ex_cell rfl _ _ x1 ((hE.cell (World.block_lt_of_cell? _ _ hcb)).trans hcb) rfl Tryz.underlying192) ⟨_, rfl, rfl, Ext.refl _⟩
      · refine duty_free rfl fun a w' hE hF hA => ?_
        have x1 := hF.slot 6 _ (by decide) rfl
        exact wp_value (w' := w') (v := .pointer (some ⟨bl, 0, none⟩)) (by simp only [execOp, x1]; simp [go_sem]) ⟨_, rfl, rfl, Ext.refl _⟩
      · refine duty_free rfl fun a w' hE hF hA => ?_
        have x1 := hA.pick 4 26 (.pointer (some ⟨bl, 0, none⟩)) rfl rfl ⟨⟨4, .data⟩, by simp, rfl, rfl⟩ (fun u h => h)
        exact wp_value (ex_cell rfl _ _ x1 ((hE.cell (World.block_lt_of_cell? _ _ hp0)).trans hp0) rfl Tryz.underlying9) ⟨_, rfl, rfl, Ext.refl _⟩
      · refine duty_free rfl fun a w' hE hF hA => ?_
        have x1 := hA.pick 3 25 (.map (some w.heap.size)) rfl rfl ⟨⟨3, .data⟩, by simp, rfl, rfl⟩ (fun u h => h)
        have x2 := hA.pick 5 27 (.string n.path) rfl rfl ⟨⟨5, .data⟩, by simp, rfl, rfl⟩ (fun u h => h)
        exact wp_value (w' := w') (ex_look rfl (by rw [x1, x2]; exact HLK.out w' hE)) ⟨_, rfl, rfl, Ext.refl _⟩
      · refine duty_free rfl fun a w' hE hF hA => ?_
        have x1 := hF.slot 6 _ (by decide) rfl
        exact wp_value (ex_load_row rfl _ x1 44 _ (0, 0) _ ((hE.block _ (Array.getElem?_eq_some_iff.1 hbl).1).trans hbl) Tryz.underlying44 rfl sizeNd) ⟨_, rfl, rfl, Ext.refl _⟩
      · refine duty_free rfl fun a w' hE hF hA => ?_
        have x1 := hA.pick 7 29 (.agg (ndC n (.slice da n.data.length dc) (.slice aa n.acl.length ac))) rfl rfl ⟨⟨7, .data⟩, by simp, rfl, rfl⟩ (fun u h => h)
        refine wp_enter (ex_call rfl (enters_f Tryz.func126 (by kernel_rfl) rfl)) (by simp only [List.map_toArray, List.map_cons, List.map_nil, x1]; exact CN.out _ hE) ?_
        rintro e w4 ⟨rfl, hb⟩
        exact ⟨_, rfl, _, rfl, rfl, hb⟩
      · refine duty_free rfl fun a w' hE hF hA => ?_
        have x1 := hA.pick 6 28 (.int .u64 v0) rfl rfl ⟨⟨6, .data⟩, by simp, rfl, rfl⟩ (fun u h => h)
        have x2 := hA.pick 8 30 (.int .u64 (nodeN n)) rfl rfl ⟨⟨8, .data⟩, by simp, rfl, rfl⟩ (fun u h => h)
        exact wp_value (w' := w') (v := .int .u64 sv) (by rw [HSV.out]; simp only [execOp, x1, x2]; simp [go_sem]) ⟨_, rfl, rfl, Ext.refl _⟩
      · refine duty_free rfl fun a w' hE hF hA => ?_
        have x1 := hA.pick 9 31 (.int .u64 sv) rfl rfl ⟨⟨9, .data⟩, by simp, rfl, rfl⟩ (fun u h => h)
        exact wp_value (w' := w') (ex_assign rfl) ⟨_, rfl, x1, Ext.refl _⟩
    case stay => trivial
    case rest =>
      intro W5 hE5
      simp only [forS]
      have kp0 : W5.cell? ⟨bl, 0, none⟩ = some (.string n.path) := (hE5.cell (World.block_lt_of_cell? _ _ hp0)).trans hp0
      have kcb : W5.cell? ⟨w.heap.size + 1, 0, none⟩ = some (.map (some w.heap.size)) := (hE5.cell (World.block_lt_of_cell? _ _ hcb)).trans hcb
      have kc3 : W5.cell? ⟨w.heap.size + 1 + 1, 0, none⟩ = some (.pointer (some ⟨w.heap.size + 1, 0, none⟩)) := (hE5.cell (World.block_lt_of_cell? _ _ hc3)).trans hc3
      have HI5 := Lib.hid (HI.out.ext hE5)
      have HK5 := Lib.hid (keepT_ext (B := W3.heap.size) hE5)
      clear hE5 hp0 hcb hc3 HLK CN hbl HI
      simp only [filled, List.zip_cons_cons, List.zip_nil_left, List.foldl_cons, List.foldl_nil, Act.put, List.setIfInBounds_toArray, List.set_cons_succ, List.set_cons_zero]
      simp only [Exit.inBlock, Exit.then, Act.put]
      first | (rename_i hK; refine hK _ _ ?_; clear hK) | (rename_i hK _; refine hK _ _ ?_; clear hK) | (rename_i hK _ _; refine hK _ _ ?_; clear hK) | (rename_i hK _ _ _; refine hK _ _ ?_; clear hK)
      gi_wp2
      refine wpIn_region_P l (by kernel_rfl) (by rfl) (region_sp_last 64 [.val (.pointer (some ⟨w.heap.size + 1, 0, none⟩)), .val (.pointer (some ⟨w.heap.size + 1, 0, none⟩)), .val (.pointer (some ⟨w.heap.size + 1, 0, none⟩)), .val (.map (some w.heap.size)), .val (.pointer (some ⟨bl, 0, none⟩)), .val (.string n.path), .val (.int .u64 sv)] trivial 7 _ rfl rfl rfl rfl rfl (by decide) rfl ?duties ?last)
      case duties =>
        refine ⟨?_, ?_, ?_, ?_, ?_, ?_, ?_, trivial⟩
        · refine duty_free rfl fun a w' hE hF hA => ?_
          have x1 := hF.slot 3 _ (by decide) rfl
          exact wp_value (ex_cell rfl _ _ x1 ((hE.cell (World.block_lt_of_cell? _ _ kc3)).trans kc3) rfl Tryz.underlying94) ⟨_, rfl, rfl, Ext.refl _⟩
        · refine duty_free rfl fun a w' hE hF hA => ?_
          have x1 := hA.pick 0 32 (.pointer (some ⟨w.heap.size + 1, 0, none⟩)) rfl rfl ⟨⟨0, .data⟩, by simp, rfl, rfl⟩ (fun u h => h)
          exact wp_value (ex_nilCheck rfl _ x1) ⟨_, rfl, rfl, Ext.refl _⟩
        · refine duty_free rfl fun a w' hE hF hA => ?_
          have x1 := hA.pick 1 33 (.pointer (some ⟨w.heap.size + 1, 0, none⟩)) rfl rfl ⟨⟨1, .data⟩, by simp, rfl, rfl⟩ (fun u h => h)
          exact wp_value (w' := w') (v := .pointer (some ⟨w.heap.size + 1, 0, none⟩)) (by simp only [execOp, x1]; simp [go_sem]) ⟨_, rfl, rfl, Ext.refl _⟩
        · refine duty_free rfl fun a w' hE hF hA => ?_
          have x1 := hA.pick 2 34 (.pointer (some ⟨w.heap.size + 1, 0, none⟩)) rfl rfl ⟨⟨2, .data⟩, by simp, rfl, rfl⟩ (fun u h => h)
          exact wp_value (ex_cell rfl _ _ x1 ((hE.cell (World.block_lt_of_cell? _ _ kcb)).trans kcb) rfl Tryz.underlying192) ⟨_, rfl, rfl, Ext.refl _⟩
        · refine duty_free rfl fun a w' hE hF hA => ?_
          have x1 := hF.slot 6 _ (by decide) rfl
          exact wp_value (w' := w') (v := .pointer (some ⟨bl, 0, none⟩)) (by simp only [execOp, x1]; simp [go_sem]) ⟨_, rfl, rfl, Ext.refl _⟩
        · refine duty_free rfl fun a w' hE hF hA => ?_
          have x1 := hA.pick 4 36 (.pointer (some ⟨bl, 0, none⟩)) rfl rfl ⟨⟨4, .data⟩, by simp, rfl, rfl⟩ (fun u h => h)
          exact wp_value (ex_cell rfl _ _ x1 ((hE.cell (World.block_lt_of_cell? _ _ kp0)).trans kp0) rfl Tryz.underlying9) ⟨_, rfl, rfl, Ext.refl _⟩
        · refine duty_free rfl fun a w' hE hF hA => ?_
          have x1 := hF.slot 7 _ (by decide) rfl
          exact wp_value (w' := w') (ex_move rfl) ⟨_, rfl, x1, Ext.refl _⟩
      case last =>
        intro W8 hE8
        simp only [forS]
        have HI8 := Lib.hid (HI5.out.ext hE8)
        have HK8 := Lib.hid (keepT_ext (B := W3.heap.size) hE8)
        clear hE8 kp0 kcb kc3
        simp only [filled, List.take_succ_cons, List.take_zero, List.zip_cons_cons, List.zip_nil_left, List.foldl_cons, List.foldl_nil, Act.put, List.setIfInBounds_toArray, List.set_cons_succ, List.set_cons_zero]
        refine oper_put (.tmp 35) (.tmp 37) (.tmp 38) 192 rfl 9 96 strT Tryz.underlying192 w.heap.size (numM m) HI8.out.map (by rw [numM_len]; unfold maxLen; omega) rfl n.path hps rfl _ rfl ?_
        intro W9 hS9 hT9
        have hMod : Mod (· = w.heap.size) W8 W9 := Mod.turned hT9 rfl
        have hI9 : UndI w.heap.size w W3 (mput m (keyN n) sv) W9 := HI8.out.put hS9 hMod (Nat.le_refl _)
        have hK9 := keepT_mod (B := W3.heap.size) hMod hzW3
        have hrec9 := HK5.out.1.trans (HK8.out.1.trans hK9.1)
        have hkp9 := HK5.out.2.transT (HK8.out.2.transT hK9.2)
        have hp9 : W9.cell? ⟨bl, 0, none⟩ = some (.string n.path) := cell_of_row _ _ _ _ _ _ (hkp9.2 bl _ _ _ HBL.out trivial).1
        have CP := parent_any n.path W9 (by omega)
        have CNm := fun W => name_any n.path W (by omega)
        have HI9 := Lib.hid hI9
        have HR9 := Lib.hid hrec9
        have HK9 := Lib.hid hkp9
        clear hS9 hT9 hMod hI9 hK9 hrec9 hkp9 HI8 HK8 HK5 HI5
        simp only [Exit.inBlock, Exit.then, Act.put]
        first | (rename_i hK; refine hK _ _ ?_; clear hK) | (rename_i hK _; refine hK _ _ ?_; clear hK) | (rename_i hK _ _; refine hK _ _ ?_; clear hK) | (rename_i hK _ _ _; refine hK _ _ ?_; clear hK)
        by_cases h1 : n.path.size = 1
        · have hpv : parV n.path = .tuple #[.string ⟨#[]⟩, .int .i64 30] := by unfold parV; rw [if_neg (fun h => h.2 h1)]
          rw [hpv] at CP
          have CP := Lib.hid CP
          have HFI := Lib.hid (show undS ((pre ++ [(z, Value.agg (ndC n (.slice da n.data.length dc) (.slice aa n.acl.length ac)), n)]).map (·.2.2)) = mput m (keyN n) sv by rw [HSN.out]; unfold undStep; rw [if_pos h1, HV0.out, ← HSV.out])
          clear hpv CNm
          gi_wp2_with fail
          refine ⟨trivial, (callsIn_wide.2 CP.out).mono ?_⟩
          rintro e X1 ⟨rfl, hX1⟩
          have hX1 : Ext W9 X1 := hX1
          have hk := keepT_ext (B := W3.heap.size) hX1
          have HFIN := Lib.hid (And.intro (HR9.out.trans hk.1) (And.intro (HK9.out.transT hk.2) (show UndI w.heap.size w W3 (undS ((pre ++ [(z, Value.agg (ndC n (.slice da n.data.length dc) (.slice aa n.acl.length ac)), n)]).map (·.2.2))) X1 from by rw [HFI.out]; exact HI9.out.ext hX1)))
          clear CP hX1 hk hp9
          gi_wp2
          exact HFIN.out
        · have hpv : parV n.path = .tuple #[.string (parentB n.path), .int .i64 0] := by unfold parV; rw [if_pos ⟨HVP.out, h1⟩]
          have hnv : namV n.path = .tuple #[.string (nameB n.path), .int .i64 0] := by unfold namV; rw [if_pos HVP.out]
          have hsp := path_split HVP.out h1
          have hnm : (nameB n.path).size ≤ 4096 := by
            have h2 := congrArg List.length hsp.1
            rw [List.length_append, size_list, size_list] at h2
            omega
          have hpp : (parentB n.path).size ≤ maxLen := by have := hsp.2.2.1; unfold maxLen; omega
          rw [hpv] at CP
          rw [hnv] at CNm
          have CP := Lib.hid CP
          have CNm := Lib.hid CNm
          have HFI := Lib.hid (show undS ((pre ++ [(z, Value.agg (ndC n (.slice da n.data.length dc) (.slice aa n.acl.length ac)), n)]).map (·.2.2)) = mput (mput m (keyN n) sv) (parentB n.path).data.toList (IntKind.u64.wrap ((mget (mput m (keyN n) sv) (parentB n.path).data.toList).getD 0 + mixN sv (nameB n.path))) by rw [HSN.out]; unfold undStep; rw [if_neg h1, HV0.out, ← HSV.out])
          have hml1 := mput_lenU m (keyN n) sv
          generalize mput m (keyN n) sv = m1 at *
          clear hpv hnv hsp
          gi_wp2_with fail
          refine ⟨trivial, (callsIn_wide.2 CP.out).mono ?_⟩
          rintro e X1 ⟨rfl, hX1⟩
          have hX1 : Ext W9 X1 := hX1
          have hp10 : X1.cell? ⟨bl, 0, none⟩ = some (.string n.path) := (hX1.cell (World.block_lt_of_cell? _ _ hp9)).trans hp9
          have hk := keepT_ext (B := W3.heap.size) hX1
          have HR10 := Lib.hid (HR9.out.trans hk.1)
          have HK10 := Lib.hid (HK9.out.transT hk.2)
          have HI10 := Lib.hid (HI9.out.ext hX1)
          clear CP hX1 hk hp9 HR9 HK9 HI9
          gi_wp2_with fail
          refine ⟨trivial, (callsIn_wide.2 (CNm.out X1)).mono ?_⟩
          rintro e X2 ⟨rfl, hX2⟩
          have hX2 : Ext X1 X2 := hX2
          have hk := keepT_ext (B := W3.heap.size) hX2
          have HR11 := Lib.hid (HR10.out.trans hk.1)
          have HK11 := Lib.hid (HK10.out.transT hk.2)
          have HI11 := Lib.hid (HI10.out.ext hX2)
          have qcb : X2.cell? ⟨w.heap.size + 1, 0, none⟩ = some (.map (some w.heap.size)) := cell_of_row _ _ _ _ _ _ HI11.out.cb
          have qc3 : X2.cell? ⟨w.heap.size + 1 + 1, 0, none⟩ = some (.pointer (some ⟨w.heap.size + 1, 0, none⟩)) := cell_of_row _ _ _ _ _ _ HI11.out.c3
          generalize hv1 : (mget m1 (parentB n.path).data.toList).getD 0 = v1 at *
          have HLK2 := Lib.hid (show ∀ w', Ext X2 w' → (Instr.lookup 192 (.map (some w.heap.size)) (.string (parentB n.path)) false).run Tryz.prog w' = .ok (.int .u64 v1) w' from fun w' hE => by rw [← hv1]; exact numM_look (HI11.out.map.keep (hE.block _ HI11.out.map.lt)) hpp)
          obtain ⟨sv2, hsv2⟩ : ∃ sv2, sv2 = IntKind.u64.wrap (v1 + mixN sv (nameB n.path)) := ⟨_, rfl⟩
          have HSV2 := Lib.hid hsv2
          clear CNm hX2 hk hp10 HR10 HK10 HI10 hv1 hsv2
          gi_wp2
          refine wpIn_region_P l (by kernel_rfl) (by rfl) (region_sp_last 64 [.val (.pointer (some ⟨w.heap.size + 1, 0, none⟩)), .val (.pointer (some ⟨w.heap.size + 1, 0, none⟩)), .val (.pointer (some ⟨w.heap.size + 1, 0, none⟩)), .val (.map (some w.heap.size)), .val (.string (parentB n.path)), .val (.int .u64 v1), .val (.int .u64 sv), .val (.string (nameB n.path)), .val (.int .u64 (mixN sv (nameB n.path))), .val (.int .u64 sv2)] trivial 10 _ rfl rfl rfl rfl rfl (by decide) rfl ?duties ?last)
          case duties =>
            refine ⟨?_, ?_, ?_, ?_, ?_, ?_, ?_, ?_, ?_, ?_, trivial⟩
            · refine duty_free rfl fun a w' hE hF hA => ?_
              have x1 := hF.slot 3 _ (by decide) rfl
              exact wp_value (ex_cell rfl _ _ x1 ((hE.cell (World.block_lt_of_cell? _ _ qc3)).trans qc3) rfl Tryz.underlying94) ⟨_, rfl, rfl, Ext.refl _⟩
            · refine duty_free rfl fun a w' hE hF hA => ?_
              have x1 := hA.pick 0 53 (.pointer (some ⟨w.heap.size + 1, 0, none⟩)) rfl rfl ⟨⟨0, .data⟩, by simp, rfl, rfl⟩ (fun u h => h)
              exact wp_value (ex_nilCheck rfl _ x1) ⟨_, rfl, rfl, Ext.refl _⟩
            · refine duty_free rfl fun a w' hE hF hA => ?_
              have x1 := hA.pick 1 54 (.pointer (some ⟨w.heap.size + 1, 0, none⟩)) rfl rfl ⟨⟨1, .data⟩, by simp, rfl, rfl⟩ (fun u h => h)
              exact wp_value (w' := w') (v := .pointer (some ⟨w.heap.size + 1, 0, none⟩)) (by simp only [execOp, x1]; simp [go_sem]) ⟨_, rfl, rfl, Ext.refl _⟩
            · refine duty_free rfl fun a w' hE hF hA => ?_
              have x1 := hA.pick 2 55 (.pointer (some ⟨w.heap.size + 1, 0, none⟩)) rfl rfl ⟨⟨2, .data⟩, by simp, rfl, rfl⟩ (fun u h => h)
              exact wp_value (ex_cell rfl _ _ x1 ((hE.cell (World.block_lt_of_cell? _ _ qcb)).trans qcb) rfl Tryz.underlying192) ⟨_, rfl, rfl, Ext.refl _⟩
            · refine duty_free rfl fun a w' hE hF hA => ?_
              have x1 := hF.slot 8 _ (by decide) rfl
              exact wp_value (w' := w') (ex_move rfl) ⟨_, rfl, x1, Ext.refl _⟩
            · refine duty_free rfl fun a w' hE hF hA => ?_
              have x1 := hA.pick 3 56 (.map (some w.heap.size)) rfl rfl ⟨⟨3, .data⟩, by simp, rfl, rfl⟩ (fun u h => h)
              have x2 := hA.pick 4 57 (.string (parentB n.path)) rfl rfl ⟨⟨4, .data⟩, by simp, rfl, rfl⟩ (fun u h => h)
              exact wp_value (w' := w') (ex_look rfl (by rw [x1, x2]; exact HLK2.out w' hE)) ⟨_, rfl, rfl, Ext.refl _⟩
            · refine duty_free rfl fun a w' hE hF hA => ?_
              have x1 := hF.slot 7 _ (by decide) rfl
              exact wp_value (w' := w') (ex_move rfl) ⟨_, rfl, x1, Ext.refl _⟩
            · refine duty_free rfl fun a w' hE hF hA => ?_
              have x1 := hF.slot 10 _ (by decide) rfl
              exact wp_value (w' := w') (ex_move rfl) ⟨_, rfl, x1, Ext.refl _⟩
            · refine duty_free rfl fun a w' hE hF hA => ?_
              have x1 := hA.pick 6 59 (.int .u64 sv) rfl rfl ⟨⟨6, .data⟩, by simp, rfl, rfl⟩ (fun u h => h)
              have x2 := hA.pick 7 60 (.string (nameB n.path)) rfl rfl ⟨⟨7, .data⟩, by simp, rfl, rfl⟩ (fun u h => h)
              refine wp_enter (ex_call rfl (enters_f Tryz.func128 (by kernel_rfl) rfl)) (by simp only [List.map_toArray, List.map_cons, List.map_nil, x1, x2]; exact mixed_any sv (nameB n.path) _ hnm) ?_
              rintro e w4 ⟨rfl, hb⟩
              exact ⟨_, rfl, _, rfl, rfl, hb⟩
            · refine duty_free rfl fun a w' hE hF hA => ?_
              have x1 := hA.pick 5 58 (.int .u64 v1) rfl rfl ⟨⟨5, .data⟩, by simp, rfl, rfl⟩ (fun u h => h)
              have x2 := hA.pick 8 61 (.int .u64 (mixN sv (nameB n.path))) rfl rfl ⟨⟨8, .data⟩, by simp, rfl, rfl⟩ (fun u h => h)
              exact wp_value (w' := w') (v := .int .u64 sv2) (by rw [HSV2.out]; simp only [execOp, x1, x2]; simp [go_sem]) ⟨_, rfl, rfl, Ext.refl _⟩
          case last =>
            intro Y8 hE8
            simp only [forS]
            have HI8 := Lib.hid (HI11.out.ext hE8)
            have HK8 := Lib.hid (keepT_ext (B := W3.heap.size) hE8)
            clear hE8 qcb qc3
            simp only [filled, List.take_succ_cons, List.take_zero, List.zip_cons_cons, List.zip_nil_left, List.foldl_cons, List.foldl_nil, Act.put, List.setIfInBounds_toArray, List.set_cons_succ, List.set_cons_zero]
            refine oper_put (.tmp 56) (.tmp 57) (.tmp 62) 192 rfl 9 96 strT Tryz.underlying192 w.heap.size (numM m1) HI8.out.map (by rw [numM_len]; unfold maxLen; omega) rfl (parentB n.path) hpp rfl _ rfl ?_
            intro Y9 hS9 hT9
            have hMod : Mod (· = w.heap.size) Y8 Y9 := Mod.turned hT9 rfl
            have hI9 : UndI w.heap.size w W3 (mput m1 (parentB n.path).data.toList sv2) Y9 := HI8.out.put hS9 hMod (Nat.le_refl _)
            have hK9 := keepT_mod (B := W3.heap.size) hMod hzW3
            rw [HSV2.out, ← HFI.out] at hI9
            have HFIN := Lib.hid (And.intro (HR11.out.trans (HK8.out.1.trans hK9.1)) (And.intro (HK11.out.transT (HK8.out.2.transT hK9.2)) hI9))
            clear hS9 hT9 hMod hI9 hK9 HI8 HK8
            exact HFIN.out
  case done =>
    rintro D xs W hD hS hI hK
    have hT2 := Turn.putObj (B := W3.heap.size) (.deferred none) hD hK rfl
    have hI2 := hI.turn hT2 (by omega)
    rw [hS] at hI2
    have hc3 : W.cell? ⟨w.heap.size + 1 + 1, 0, none⟩ = some (.pointer (some ⟨w.heap.size + 1, 0, none⟩)) := cell_of_row _ _ _ _ _ _ hI.c3
    have HI2 := Lib.hid hI2
    have HK := Lib.hid hK
    clear hI hI2 hT2 hK hS TT HI3
    gi_wp2
    refine ⟨by simp, .inl ⟨_, _, rfl, run_takeDeferred HK.out, ?_⟩⟩
    refine ⟨_, results_tmp rfl _ _ _, ?_⟩
    exact ⟨_, _, rfl, HI2.out.cb, HI2.out.map, HI2.out.keep⟩

theorem sums_at (bb bm : Nat) (m : List (Key × Int)) (s : ByteArray) (hs : s.size ≤ maxLen) (w : World) (hb : w.heap[bb]? = some (.cells #[.map (some bm)] 194 (0, 0))) (hm : SMap Tryz.prog 9 w bm (numM m)) :
    Calls Tryz.prog 53 #[.pointer (some ⟨bb, 0, none⟩), .string s] w fun e w' => e = .returned (.tuple #[.int .u64 ((mget m s.data.toList).getD 0), .bool (mget m s.data.toList).isSome]) ∧ w = w' := by
  have hc : w.cell? ⟨bb, 0, none⟩ = some (.map (some bm)) := cell_of_row _ _ _ _ _ _ hb
  have hlk := SMap.look_ok (e := 96) hm strT Tryz.underlying192 (z := .int .u64 0) (by kernel_rfl) hs
  rw [numM_get] at hlk
  have hlk2 : (Instr.lookup 192 (.map (some bm)) (.string s) true).run Tryz.prog w = .ok (.tuple #[.int .u64 ((mget m s.data.toList).getD 0), .bool (mget m s.data.toList).isSome]) w := by
    rw [hlk]
    cases mget m s.data.toList <;> rfl
  generalize (mget m s.data.toList).getD 0 = v at *
  generalize (mget m s.data.toList).isSome = b at *
  clear hb hm hlk
  go_enter Tryz.func53, Tryz.ntmps53
  go_wp2
  go_ret2
  exact ⟨rfl, rfl⟩
end Go.Proofs.YthinpbdbhijbgaaGreatDoor
