/- The walk of Put. Plain laws for TreePlays: where a path is taken out of the document's list; what a call makes of the nodes. The walks of arborref07's Add, Put and Remove. The ranges of a node's numbers, as it is opened. Plain laws: what an add, a put, a removal leave as it was: closed, in range, short. No program in sight. The program's tree and the document's, both in one memory: what a call on both leaves. Plain laws: the paths above a path, the quotas over it, the first one that a change is over. No program in sight. A text is appended to a row of the call's own: one law for the walk. -/
import Derived.Test.YthinpbdbhijbgaaGreatDoorJQuotaBooks5
import Derived.Test.YthinpbdbhijbgaaGreatDoorJQuotaBooks6
import Derived.Test.YthinpbdbhijbgaaGreatDoorJQuotaBooks11
import Derived.Test.YthinpbdbhijbgaaGreatDoorJQuotaBooks8
import Derived.Test.YthinpbdbhijbgaaGreatDoorJQuotaBooks10
import Derived.Test.YthinpbdbhijbgaaGreatDoorJQuotaBooks9
namespace Go.Proofs.YthinpbdbhijbgaaGreatDoor
open Go.RowKit
set_option maxHeartbeats 4000000
set_option maxRecDepth 100000

/-- What Put answers, and what it makes of the nodes. -/
def putE (M : List (Key × Nd)) (n : Nd) : Int := if rightN n ≠ 0 then rightN n else if (mget M (keyN n)).isSome = true then 0 else 70
def putM (M : List (Key × Nd)) (n : Nd) : List (Key × Nd) := if putE M n = 0 then mput M (keyN n) n else M

theorem KidsAt.put_same {S : Nat → Prop} {w : World} {bn bk : Nat} {K : List (Key × Nat)} {M : List (Key × Nd)} {N : Nat} (h : KidsAt S w bn bk K M N) (hM : MOk M) {n n0 : Nd} (hn : rightN n = 0) (hg : mget M (keyN n) = some n0) : KidsAt S w bn bk K (mput M (keyN n) n) (N + 1) :=
  ⟨h.map, by have := h.len; omega, fun x hx => by rw [kids_put_same hM hn hg]; exact h.each x hx, h.apart, fun p hp => by rw [kids_put_same hM hn hg]; exact h.rest p hp⟩

theorem tput_any (S : Nat → Prop) (w : World) (bt : Nat) (M : List (Key × Nd)) (N : Nat) (hT : TreeAt S w bt M N) (n : Nd) (da aa : Option Addr) (dc ac : Nat) (hu : Tabs w) (hf : Fit n) (hN : N < 4611686018427387904)
    (hD : Cells w.heap.size w da (n.data.map u8v)) (hA : Cells w.heap.size w aa (acCs n.acl)) :
    Calls Tryz.prog 75 #[.pointer (some ⟨bt, 0, none⟩), .agg (ndC n (.slice da n.data.length dc) (.slice aa n.acl.length ac))] w (TreeTo S w bt (putM M n) (N + 1) (.int .i64 (putE M n))) := by
  obtain ⟨W2, hW2⟩ : ∃ W2, W2 = w.alloc (.cells (ndC n (.slice da n.data.length dc) (.slice aa n.acl.length ac)) 44) := ⟨_, rfl⟩
  have he2 : Ext w W2 := by rw [hW2]; exact Ext.alloc _ _
  have hz2 : W2.heap.size = w.heap.size + 1 := by rw [hW2]; simp
  have hn2 : W2.heap[w.heap.size]? = some (.cells (ndC n (.slice da n.data.length dc) (.slice aa n.acl.length ac)) 44 (0, 0)) := by rw [hW2]; exact heap_alloc_new w _
  have hT2 := hT.ext he2
  have hD2 := hD.ext he2
  have hA2 := hA.ext he2
  have hu2 : Tabs W2 := hu.below he2 hu.size
  have CR := right_any n da aa dc ac W2 hf hu2 hA2
  rw [hW2] at CR
  have HW2 := Lib.hid hW2
  have HN := Lib.hid hn2
  have HTW := Lib.hid hT
  have HNW := Lib.hid (hW2 ▸ hn2)
  unfold ndC at CR HW2 HN HNW ⊢
  have CR := Lib.hid CR
  clear hW2 hn2 hT
  by_cases hr : rightN n = 0
  · have hM := hT2.ok
    have HR := Lib.hid hr
    have hps : n.path.size ≤ maxLen := by
      have := (vpath_facts (right_vpath hr)).2.1
      unfold maxLen; omega
    have hvp := right_vpath hr
    have hvf := vpath_facts hvp
    rw [hr] at CR
    clear hr
    go_enter Tryz.func75, Tryz.ntmps75
    go_wp2_with (refine wpList_load_row rfl 44 (.tmp 3) rfl w.heap.size rfl 44 _ (0, 0) _ HNW.out Tryz.underlying44 rfl sizeNd ?_)
    refine CR.out.mono ?_
    rintro e w3 ⟨rfl, hb3⟩
    rw [← HW2.out] at hb3
    have hE3 : Ext W2 w3 := hb3
    have hT3 := hT2.ext hE3
    have hn3 := (hE3.block w.heap.size (by omega)).trans HN.out
    have hD3 := hD2.ext hE3
    have hA3 := hA2.ext hE3
    have hEw3 := he2.trans hE3
    obtain ⟨bn, bk, K, hd, hNd, hKd⟩ := hT3
    clear CR HW2 HN HNW hb3 hz2 hD2 hA2 hu2 hT2
    go_wp2
    refine there_region _ _ _ _ _ _ _ _ _ _ _ _ 0 3 _ 35 rfl (by decide) (by decide) (by decide) hd hNd w.heap.size n.path _ hn3 rfl hps rfl rfl ?_
    intro v0 v1 v2 v3 v4 v5 v6 v7 v8 v9 v10 w4 hE4
    simp only [Act.put]
    go_simp
    rename_i hK
    refine hK _ _ ?_
    have hEw4 := hEw3.trans hE4
    have hT4 : TreeAt S w4 bt M N := TreeAt.ext ⟨bn, bk, K, hd, hNd, hKd⟩ hE4
    have hD4 := hD3.ext hE4
    have hA4 := hA3.ext hE4
    have hn4 := (hE4.block w.heap.size (Array.getElem?_eq_some_iff.1 hn3).1).trans hn3
    clear hd hNd hKd hn3 hD3 hA3 hEw3
    cases hg : mget M n.path.data.toList with
    | none =>
      have hfin : TreeTo S w bt (putM M n) (N + 1) (.int .i64 (putE M n)) (.returned (.int .i64 70)) w4 := by
        have e : putE M n = 70 := by unfold putE; rw [if_neg (by rw [HR.out]; simp), if_neg (by unfold keyN; rw [hg]; simp)]
        have e2 : putM M n = M := by unfold putM; rw [if_neg (by rw [e]; decide)]
        rw [e, e2]
        exact treeTo_same HTW.out hEw4 (by omega) _
      have HFIN := Lib.hid hfin
      clear hfin hT4 hEw4 hD4 hA4 hn4 hg
      go_wp2
      go_ret
      exact HFIN.out
    | some y =>
      have e : putE M n = 0 := by unfold putE; rw [if_neg (by rw [HR.out]; simp), if_pos (by unfold keyN; rw [hg]; rfl)]
      have e2 : putM M n = mput M (keyN n) n := by unfold putM; rw [if_pos e]
      obtain ⟨bn, bk, K, hd, hNd, hKd⟩ := HTW.out
      obtain ⟨m, hm, hr⟩ := hNd.ex
      have hml : m.length ≤ N := by rw [← hr.length]; exact hNd.len
      have hfit := right_fit HR.out
      have hbt4 : w4.heap[bt]? = some (.cells (treeC bn bk) 123 (0, 0)) := (hEw4.block bt (hd.bound _ hd.st)).trans hd.blk
      have hm4 : SMap Tryz.prog 9 w4 bn m := hm.keep (hEw4.block bn (hd.bound _ hd.sn))
      have HG := Lib.hid hg
      have HEE := Lib.hid (And.intro e e2)
      have hz4 := hEw4.size
      have hbl4 := (Array.getElem?_eq_some_iff.1 hn4).1
      clear hg e e2 hT4
      go_wp2
      have hen := fun (f : FuncId) (fn : Func) (c : Code) (hf : Tryz.prog.funcs[f]? = some fn) (hname : (fn.name == "runtime.NumGoroutine") = false) (hb : fn.body = some c) => enters_f hf hname hb
      refine wp_region_last_e 35 (by kernel_rfl) (PhiL w.heap.size bt bn n (ndC n (.slice da n.data.length dc) (.slice aa n.acl.length ac))) (PhiL.stab _ _ _ _ _) (by decide) rfl 8 _ rfl rfl rfl rfl ?_ ?fin
      · refine ⟨?_, ?_, ?_, ?_, ?_, ?_, ?_, ?_, trivial⟩
        · exact duty_free rfl fun a w' hE hF hA => wp_value (w' := w') (ex_move rfl) ⟨_, rfl, hF.slot 0 _ (by decide) rfl, Ext.refl _⟩
        · refine duty_free rfl fun a w' hE hF hA => ?_
          have x1 : a.eval (.tmp 27) = _ := hA.slot 0 27 rfl rfl ⟨⟨0, .data⟩, by simp, rfl, rfl⟩
          exact wp_value (ex_nilCheck rfl _ x1) ⟨_, rfl, rfl, Ext.refl _⟩
        · refine duty_free rfl fun a w' hE hF hA => ?_
          have x1 : a.eval (.tmp 28) = _ := hA.slot 1 28 rfl rfl ⟨⟨1, .data⟩, by simp, rfl, rfl⟩
          exact wp_value (v := .pointer (some ⟨bt, 0, none⟩)) (w' := w') (by simp only [execOp, x1]; simp [go_sem]) ⟨_, rfl, rfl, Ext.refl _⟩
        · refine duty_free rfl fun a w' hE hF hA => ?_
          have x1 : a.eval (.tmp 29) = _ := hA.slot 2 29 rfl rfl ⟨⟨2, .data⟩, by simp, rfl, rfl⟩
          refine wp_value (ex_cell rfl _ (.map (some bn)) x1 ?_ rfl Tryz.underlying120) ⟨_, rfl, rfl, Ext.refl _⟩
          exact cell_of_row w' bt 0 _ _ _ ((hE.block bt (Array.getElem?_eq_some_iff.1 hbt4).1).trans hbt4)
        · refine duty_free rfl fun a w' hE hF hA => ?_
          have x1 : a.eval (.tmp 3) = _ := hF.slot 3 (.pointer (some ⟨w.heap.size, 0, none⟩)) (by decide) rfl
          exact wp_value (v := .pointer (some ⟨w.heap.size, 0, none⟩)) (w' := w') (by simp only [execOp, x1]; simp [go_sem]) ⟨_, rfl, rfl, Ext.refl _⟩
        · refine duty_free rfl fun a w' hE hF hA => ?_
          have x1 : a.eval (.tmp 31) = _ := hA.slot 4 31 rfl rfl ⟨⟨4, .data⟩, by simp, rfl, rfl⟩
          refine wp_value (ex_cell rfl _ (.string n.path) x1 ?_ rfl Tryz.underlying9) ⟨_, rfl, rfl, Ext.refl _⟩
          exact cell_of_row w' w.heap.size 0 _ _ _ ((hE.block w.heap.size hbl4).trans hn4)
        · refine duty_free rfl fun a w' hE hF hA => ?_
          have x1 : a.eval (.tmp 3) = _ := hF.slot 3 (.pointer (some ⟨w.heap.size, 0, none⟩)) (by decide) rfl
          exact wp_value (ex_load_row rfl w.heap.size x1 44 _ (0, 0) _ ((hE.block w.heap.size hbl4).trans hn4) Tryz.underlying44 rfl sizeNd) ⟨_, rfl, rfl, Ext.refl _⟩
        · refine duty_free rfl fun a w' hE hF hA => ?_
          have x1 : a.eval (.tmp 33) = _ := hA.slot 6 33 rfl rfl ⟨⟨6, .data⟩, by simp, rfl, rfl⟩
          refine wp_enter (ex_call rfl (hen _ _ _ Tryz.func129 (by kernel_rfl) rfl)) (by simp only [List.map_toArray, List.map_cons, List.map_nil, x1]; exact sclone_nd n da aa dc ac w' hfit.1 (hD4.ext hE) (hA4.ext hE)) ?_
          rintro e w5 ⟨v, rfl, hv, hb⟩
          exact ⟨_, rfl, v, rfl, hv.imp (fun b hb' => ⟨by have := hE.size; omega, hb'.2⟩) (fun _ _ _ _ h => h), hb⟩
      case fin =>
        intro us w2 hE hl hP
        have hl' : us.length = 8 := by simpa using hl
        obtain ⟨u0, u1, u2, u3, u4, u5, u6, u7, rfl⟩ := us8 us hl'
        have h3 : u3 = .map (some bn) := hP 3 u3 rfl
        have h5 : u5 = .string n.path := hP 5 u5 rfl
        have h7 : NdS (fun b => w.heap.size < b ∧ b < w2.heap.size) w2 u7 n := hP 7 u7 rfl
        subst h3 h5
        clear hP hl hl' hen
        have hm2 : SMap Tryz.prog 9 w2 bn m := hm4.keep (hE.block bn (by have := hd.bound _ hd.sn; omega))
        have q1 : m.length < maxLen := by unfold maxLen; omega
        have hQ := SMap.store hm2 strT Tryz.underlying120 q1 hps u7
        have hQ1 := hQ.choose_spec
        generalize hQ.choose = w3 at hQ1
        have hrun := hQ1.1
        have hs3 := hQ1.2.1
        have ht3 := hQ1.2.2
        clear hQ1 hQ
        have he2 : Ext w w2 := hEw4.trans hE
        have hNn := lay_nodes hd hNd hm hr he2 HR.out h7 hs3 ht3
        have hKn := lay_kids hd hKd he2 ht3
        have hMod : Mod S w w3 := (Mod.of_ext he2).trans (Mod.turned ht3 hd.sn)
        have hw3 : w.heap.size ≤ w3.heap.size := hMod.size
        have hbl : w3.heap[bt]? = some (.cells (treeC bn bk) 123 (0, 0)) := hMod.cells hd.blk
        have fin : TreeTo S w bt (putM M n) (N + 1) (.int .i64 (putE M n)) (.returned (.int .i64 0)) w3 := by
          rw [HEE.out.1, HEE.out.2]
          exact ⟨rfl, ⟨bn, bk, K, ⟨hbl, .inl hd.st, .inl hd.sn, .inl hd.sk, hd.ne, fun k hk => hk.elim (fun h => Nat.lt_of_lt_of_le (hd.bound k h) hw3) (fun h => h.2)⟩, hNn,
            (hKn.put_same hNd.ok HR.out HG.out).keep rfl (fun _ h => .inl h) (fun _ _ => rfl) (Nat.le_refl _)⟩, hMod⟩
        have FIN := Lib.hid fin
        clear fin hMod hNn hKn hs3 ht3 h7 he2 hbl hm2 hm4 hn4 hD4 hA4 hbt4 hE hr
        simp only [filled, List.take_succ_cons, List.take_zero, List.zip_cons_cons, List.zip_nil_right, List.foldl_cons, List.foldl_nil, Act.put]
        go_simp
        rename_i hK
        refine hK _ _ ?_
        clear hrun
        go_wp2
        go_ret
        exact FIN.out
  · have hne : (rightN n != 0) = true := by simpa using hr
    have e : putE M n = rightN n := by unfold putE; rw [if_pos hr]
    have e2 : putM M n = M := by unfold putM; rw [if_neg (by rw [e]; exact hr)]
    have E1 := Lib.hid e
    have E2 := Lib.hid e2
    clear hr e e2
    go_enter Tryz.func75, Tryz.ntmps75
    go_wp2_with (refine wpList_load_row rfl 44 (.tmp 3) rfl w.heap.size rfl 44 _ (0, 0) _ HNW.out Tryz.underlying44 rfl sizeNd ?_)
    refine CR.out.mono ?_
    rintro e w3 ⟨rfl, hb3⟩
    rw [← HW2.out] at hb3
    have hfin : TreeTo S w bt (putM M n) (N + 1) (.int .i64 (putE M n)) (.returned (.int .i64 (rightN n))) w3 := by
      rw [E1.out, E2.out]
      exact treeTo_same HTW.out (he2.trans hb3) (by omega) _
    have HFIN := Lib.hid hfin
    clear hfin CR hb3 hT2 hD2 hA2 HN HNW HW2 hu2
    go_wp2
    go_ret
    exact HFIN.out
end Go.Proofs.YthinpbdbhijbgaaGreatDoor
namespace Go.Proofs.YthinpbdbhijbgaaGreatDoor
open Go.RowKit
set_option maxHeartbeats 1000000

theorem rfind_take' : ∀ {M : List (Key × Nd)}, MSorted M → (∀ x ∈ M, x.1 = keyN x.2) → ∀ s : ByteArray, (mget M s.data.toList).isSome = true → nds (mdel M s.data.toList) = (nds M).take (rfind (nds M) s).1 ++ (nds M).drop ((rfind (nds M) s).1 + 1)
  | [], _, _, _, h => by cases h
  | y :: r, hs, hk, s, h => by
    obtain ⟨h1, h2⟩ := List.pairwise_cons.1 hs
    have hy : y.1 = y.2.path.data.toList := hk y (List.mem_cons_self ..)
    show nds (mdel (y :: r) s.data.toList) = (y.2 :: nds r).take (rfind (y.2 :: nds r) s).1 ++ (y.2 :: nds r).drop ((rfind (y.2 :: nds r) s).1 + 1)
    unfold rfind
    rw [ordL_eq, ← hy]
    by_cases e : y.1 = s.data.toList
    · rw [if_pos e, if_pos rfl]
      have hr : mdel (y :: r) s.data.toList = r := by
        unfold mdel
        rw [List.filter_cons_of_neg (by simp [e])]
        exact List.filter_eq_self.2 fun x hx => by
          have h3 := h1 x hx
          simp only [Bool.not_eq_true', beq_eq_false_iff_ne, ne_eq]
          intro e'
          rw [e, e', WideAt.bytes_irrefl] at h3; cases h3
      rw [hr]; simp
    · have hg : mget (y :: r) s.data.toList = mget r s.data.toList := by
        unfold mget
        rw [List.find?_cons_of_neg (by simpa using e)]
      rw [hg] at h
      have ih := rfind_take' h2 (fun x hx => hk x (List.mem_cons_of_mem _ hx)) s h
      obtain ⟨v, hv⟩ := Option.isSome_iff_exists.1 h
      have hb : bytesBefore y.1 s.data.toList = true := h1 _ (mget_some_mem hv)
      have hr : mdel (y :: r) s.data.toList = y :: mdel r s.data.toList := by
        unfold mdel
        rw [List.filter_cons_of_pos (by simpa using e)]
      rw [if_neg e, if_pos hb, if_neg (show ¬ ((-1 : Int) = 0) by decide), if_neg (show ¬ ((0 : Int) < -1) by decide), hr]
      simp only [List.take_succ_cons, List.drop_succ_cons, List.cons_append]
      rw [← ih]; rfl
theorem rfind_take {M : List (Key × Nd)} (hM : MOk M) (s : ByteArray) (h : (mget M s.data.toList).isSome = true) : nds (mdel M s.data.toList) = (nds M).take (rfind (nds M) s).1 ++ (nds M).drop ((rfind (nds M) s).1 + 1) := rfind_take' hM.sorted hM.key s h
theorem mdel_twice {α : Type} (M : List (Key × α)) (k : Key) : mdel (mdel M k) k = mdel M k := by
  unfold mdel
  exact List.filter_eq_self.2 fun x hx => (List.mem_filter.1 hx).2
theorem mput_mdel {α : Type} (M : List (Key × α)) (k : Key) (v : α) : mput (mdel M k) k v = mput M k v := by
  unfold mput; rw [mdel_twice]

/-- A call of a script: its kind, its path, its node. -/
structure Opn where
  k : Int
  p : ByteArray
  n : Nd
instance : Inhabited Opn := ⟨⟨0, ⟨#[]⟩, zeroN⟩⟩
/-- What it makes of the nodes, and its answer. -/
def opM (M : List (Key × Nd)) (o : Opn) : List (Key × Nd) := if o.k = 2 then putM M o.n else if o.k = 3 then remM M o.p else addM M o.n
end Go.Proofs.YthinpbdbhijbgaaGreatDoor
namespace Go.Proofs.YthinpbdbhijbgaaGreatDoor
open Go.RowKit
set_option maxHeartbeats 4000000
set_option maxRecDepth 100000

/-- The document's tree behind a call: its rows in old blocks or new ones. -/
def RTo (S : Nat → Prop) (w : World) (b : Nat) (M : List (Key × Nd)) (v : Value) (e : Ending) (w' : World) : Prop :=
  e = .returned v ∧ RTree (fun k => S k ∨ (w.heap.size ≤ k ∧ k < w'.heap.size)) w' b (nds M) ∧ Chg (· = b) w w'
theorem RTree.more {S : Nat → Prop} {w w' : World} {b : Nat} {L : List Nd} (h : RTree S w b L) (hE : Ext w w') : RTree (fun k => S k ∨ (w.heap.size ≤ k ∧ k < w'.heap.size)) w' b L :=
  h.keep (fun _ h => .inl h) (hE.block b h.lt) (fun k hk => hE.block k (h.bound k hk).1) fun k hk => by
    have hb := h.lt
    rcases hk with hk | hk
    · have := h.bound k hk; exact ⟨Nat.lt_of_lt_of_le this.1 hE.size, this.2⟩
    · exact ⟨hk.2, by omega⟩
theorem RTo.same {S : Nat → Prop} {w w' : World} {b : Nat} {M : List (Key × Nd)} (h : RTree S w b (nds M)) (hE : Ext w w') (v : Value) : RTo S w b M v (.returned v) w' := ⟨rfl, h.more hE, Chg.of_ext hE⟩
theorem RTree.tail {S : Nat → Prop} {w X w' : World} {b : Nat} {L : List Nd} (hE : Ext w X) (h : RTree (fun k => S k ∨ (X.heap.size ≤ k ∧ k < w'.heap.size)) w' b L) (hb : b < w.heap.size) : RTree (fun k => S k ∨ (w.heap.size ≤ k ∧ k < w'.heap.size)) w' b L :=
  h.keep (fun k hk => hk.imp id fun h => ⟨Nat.le_trans hE.size h.1, h.2⟩) rfl (fun _ _ => rfl) fun k hk => by
    rcases hk with hk | hk
    · exact h.bound k (.inl hk)
    · exact ⟨hk.2, by omega⟩
theorem RTree.soft {S S' : Nat → Prop} {w : World} {b : Nat} {L : List Nd} (h : RTree S w b L) (hS : ∀ k, S k → S' k) (hS' : ∀ k, S' k → k < w.heap.size ∧ k ≠ b) : RTree S' w b L := h.keep hS rfl (fun _ _ => rfl) hS'

theorem cellP {w w' : World} (hE : Ext w w') {p : Addr} {u : Value} (hu : w.cell? p = some u) : w'.cell? p = some u := (hE.cell (World.block_lt_of_cell? _ _ hu)).trans hu
theorem mget_empty {M : List (Key × Nd)} (hM : MOk M) : mget M [] = none := mget_none_of fun x hx e => by
  have h1 := (vpath_facts (right_vpath (hM.right x hx))).1
  have h2 := hM.key x hx
  rw [e] at h2
  have h3 : x.2.path.data.toList = [] := h2.symm
  have h4 : x.2.path.size = 0 := by rw [← size_list, h3]; rfl
  omega

theorem radd_s (S : Nat → Prop) (w : World) (b : Nat) (M : List (Key × Nd)) (hR : RTree S w b (nds M)) (hM : MOk M) (n : Nd) (da aa : Option Addr) (dc ac : Nat) (hu : Tabs w) (hf : Fit n) (hl : (M.length + 1) * 168 ≤ 140737488355328)
    (hD : Cells w.heap.size w da (n.data.map u8v)) (hA : Cells w.heap.size w aa (acCs n.acl)) :
    Calls Tryz.prog 78 #[.pointer (some ⟨b, 0, none⟩), .agg (ndC n (.slice da n.data.length dc) (.slice aa n.acl.length ac))] w (RTo S w b (addM M n) (.int .i64 (addE M n))) := by
  have hbl := hR.lt
  obtain ⟨W1, hW1⟩ : ∃ W1, W1 = w.alloc (.cells (ndC n (.slice da n.data.length dc) (.slice aa n.acl.length ac)) 44) := ⟨_, rfl⟩
  have hE1 : Ext w W1 := by rw [hW1]; exact Ext.alloc _ _
  have hz1 : W1.heap.size = w.heap.size + 1 := by rw [hW1]; simp
  have hn1 : W1.heap[w.heap.size]? = some (.cells (ndC n (.slice da n.data.length dc) (.slice aa n.acl.length ac)) 44 (0, 0)) := by rw [hW1]; exact heap_alloc_new w _
  have CR := rright_any n da aa dc ac W1 hf (hu.below hE1 hu.size) (hA.ext hE1)
  have HR := Lib.hid hR
  have HM := Lib.hid hM
  have HD := Lib.hid hD
  have HA := Lib.hid hA
  have HE1 := Lib.hid hE1
  have HN1 := Lib.hid hn1
  have HNW := Lib.hid (hW1 ▸ hn1)
  rw [hW1] at CR
  have HW1 := Lib.hid hW1
  unfold ndC at CR HN1 HNW HW1 ⊢
  have CR := Lib.hid CR
  have HF := Lib.hid hf
  have hps := hf.path
  clear hR hM hD hA hE1 hn1 hW1 hu hf
  go_enter Tryz.func78, Tryz.ntmps78
  go_wp2_with (refine wpList_load_row rfl 44 (.tmp 3) rfl w.heap.size rfl 44 _ (0, 0) _ HNW.out Tryz.underlying44 rfl sizeNd ?_)
  refine CR.out.mono ?_
  rintro e w2 ⟨rfl, hE2⟩
  rw [← HW1.out] at hE2
  have hE2 : Ext W1 w2 := hE2
  have hEw2 := HE1.out.trans hE2
  by_cases hr : rightN n = 0
  · have hvp := right_vpath hr
    have hn2 := (hE2.block w.heap.size (by omega)).trans HN1.out
    have hp0 : w2.cell? ⟨w.heap.size, 0, none⟩ = some (.string n.path) := by
      rw [cell_of_row _ _ _ _ _ _ hn2]; rfl
    have CF := rfind_any S w2 b (nds M) (HR.out.ext hEw2) (nds_fit HM.out) n.path hps
    rw [rfind_isSome HM.out n.path] at CF
    have CF := Lib.hid CF
    have HE2 := Lib.hid hEw2
    have HN2 := Lib.hid hn2
    have HRT := Lib.hid hr
    rw [hr]
    clear CR hE2 hEw2 HN1 HNW hn2
    cases hg : mget M n.path.data.toList with
    | some y =>
      rw [hg] at CF
      have HV := Lib.hid (show addE M n = 71 by
        unfold addE
        rw [if_neg (by simpa using HRT.out), if_pos (by rw [show mget M (keyN n) = some y from hg]; rfl)])
      have HMM := Lib.hid (show addM M n = M by unfold addM; rw [if_neg (by rw [HV.out]; decide)])
      clear hg hr
      go_wp2_with fail
      refine CF.out.mono ?_
      rintro e w3 ⟨rfl, hE3⟩
      have HFIN := Lib.hid (show RTo S w b (addM M n) (.int .i64 (addE M n)) (.returned (.int .i64 71)) w3 by
        rw [HMM.out, HV.out]
        exact RTo.same HR.out (HE2.out.trans hE3) _)
      clear CF hE3 hp0
      go_wp2
      go_ret
      exact HFIN.out
    | none =>
      rw [hg] at CF
      have HG := Lib.hid (show mget M (keyN n) = none from hg)
      clear hg
      go_wp2_with fail
      refine CF.out.mono ?_
      rintro e w3 ⟨rfl, hE3⟩
      have hE3 : Ext w2 w3 := hE3
      have hEw3 := HE2.out.trans hE3
      have hp3 : w3.cell? ⟨w.heap.size, 0, none⟩ = some (.string n.path) := cellP hE3 hp0
      have hn3 := (hE3.block w.heap.size (by have := HE2.out.size; have := (Array.getElem?_eq_some_iff.1 HN2.out).1; omega)).trans HN2.out
      have HE3 := Lib.hid hEw3
      have HN3 := Lib.hid hn3
      have CP := Lib.hid (rparent_any n.path w3 hps)
      clear CF hE3 hEw3 hp0 hn3 HN2
      by_cases hroot : n.path.size = 1
      · have CP := CP.out
        rw [show parV n.path = .tuple #[.string ⟨#[]⟩, .int .i64 30] by unfold parV; rw [if_neg (fun h => h.2 hroot)]] at CP
        have CP := Lib.hid CP
        have HV := Lib.hid (show addE M n = 73 by
          unfold addE
          rw [if_neg (by simpa using HRT.out), if_neg (by rw [HG.out]; simp), if_pos (.inl hroot)])
        have HMM := Lib.hid (show addM M n = M by unfold addM; rw [if_neg (by rw [HV.out]; decide)])
        clear hroot hr hvp
        go_wp2_with fail
        refine CP.out.mono ?_
        rintro e w4 ⟨rfl, hE4⟩
        have hE4 : Ext w3 w4 := hE4
        have hEw4 := HE3.out.trans hE4
        have CF := rfind_any S w4 b (nds M) (HR.out.ext hEw4) (nds_fit HM.out) ⟨#[]⟩ (by decide)
        rw [rfind_isSome HM.out ⟨#[]⟩, show mget M (⟨#[]⟩ : ByteArray).data.toList = none from mget_empty HM.out] at CF
        have CF := Lib.hid CF
        have HE4 := Lib.hid hEw4
        clear CP hE4 hEw4 hp3
        go_wp2_with fail
        refine CF.out.mono ?_
        rintro e w5 ⟨rfl, hE5⟩
        have HFIN := Lib.hid (show RTo S w b (addM M n) (.int .i64 (addE M n)) (.returned (.int .i64 73)) w5 by
          rw [HMM.out, HV.out]
          exact RTo.same HR.out (HE4.out.trans hE5) _)
        clear CF hE5
        go_wp2
        go_ret
        exact HFIN.out
      · have CP := CP.out
        rw [show parV n.path = .tuple #[.string (parentB n.path), .int .i64 0] by unfold parV; rw [if_pos ⟨hvp, hroot⟩]] at CP
        have CP := Lib.hid CP
        have hpp : (parentB n.path).size ≤ 9223372036854775800 := by
          have := (path_split hvp hroot).2.2.1
          omega
        have HROOT := Lib.hid hroot
        clear hroot hr hvp
        go_wp2_with fail
        refine CP.out.mono ?_
        rintro e w4 ⟨rfl, hE4⟩
        have hE4 : Ext w3 w4 := hE4
        have hEw4 := HE3.out.trans hE4
        have CF := rfind_any S w4 b (nds M) (HR.out.ext hEw4) (nds_fit HM.out) (parentB n.path) hpp
        rw [rfind_isSome HM.out (parentB n.path)] at CF
        have CF := Lib.hid CF
        have HN4 := Lib.hid ((hE4.block w.heap.size (Array.getElem?_eq_some_iff.1 HN3.out).1).trans HN3.out)
        have HE4 := Lib.hid hEw4
        clear CP hE4 hEw4 hp3 HN3
        cases hg : mget M (parentB n.path).data.toList with
        | none =>
          rw [hg] at CF
          have HV := Lib.hid (show addE M n = 73 by
            unfold addE
            rw [if_neg (by simpa using HRT.out), if_neg (by rw [HG.out]; simp), if_pos (.inr hg)])
          have HMM := Lib.hid (show addM M n = M by unfold addM; rw [if_neg (by rw [HV.out]; decide)])
          clear hg
          go_wp2_with fail
          refine CF.out.mono ?_
          rintro e w5 ⟨rfl, hE5⟩
          have HFIN := Lib.hid (show RTo S w b (addM M n) (.int .i64 (addE M n)) (.returned (.int .i64 73)) w5 by
            rw [HMM.out, HV.out]
            exact RTo.same HR.out (HE4.out.trans hE5) _)
          clear CF hE5
          go_wp2
          go_ret
          exact HFIN.out
        | some y =>
          rw [hg] at CF
          have HV := Lib.hid (show addE M n = 0 by
            unfold addE
            rw [if_neg (by simpa using HRT.out), if_neg (by rw [HG.out]; simp), if_neg (fun h => h.elim HROOT.out fun h => by rw [hg] at h; cases h)])
          have HMM := Lib.hid (show addM M n = mput M (keyN n) n by unfold addM; rw [if_pos HV.out])
          clear hg
          go_wp2_with fail
          refine CF.out.mono ?_
          rintro e w5 ⟨rfl, hE5⟩
          have hE5 : Ext w4 w5 := hE5
          have hEw5 := HE4.out.trans hE5
          have HN5 := Lib.hid ((hE5.block w.heap.size (Array.getElem?_eq_some_iff.1 HN4.out).1).trans HN4.out)
          have CI := Lib.hid (rinsert_s S w5 b (nds M) n da aa dc ac (HR.out.ext hEw5) (nds_fit HM.out) HF.out (HD.out.ext hEw5) (HA.out.ext hEw5) (by rw [nds_length]; exact hl))
          have HE5 := Lib.hid hEw5
          unfold ndC at CI
          clear CF hE5 hEw5 HN4
          go_wp2_with (refine wpList_load_row rfl 44 (.tmp 3) rfl w.heap.size rfl 44 _ (0, 0) _ HN5.out Tryz.underlying44 rfl sizeNd ?_)
          refine CI.out.mono ?_
          rintro e w6 ⟨rfl, hR6, hC6⟩
          rw [← rfind_ins HM.out n HG.out, ← HMM.out] at hR6
          have HFIN := Lib.hid (show RTo S w b (addM M n) (.int .i64 (addE M n)) (.returned (.int .i64 0)) w6 from
            ⟨by rw [HV.out], RTree.tail HE5.out hR6 hbl, (Chg.of_ext (S := (· = b)) HE5.out).trans hC6 fun _ _ h => h⟩)
          clear CI hR6 hC6
          go_wp2
          go_ret
          exact HFIN.out
  · have hr1 : (rightN n != 0) = true := by simpa using hr
    have HV := Lib.hid (show addE M n = rightN n by unfold addE; rw [if_pos (by simpa using hr)])
    have HMM := Lib.hid (show addM M n = M by unfold addM; rw [if_neg (by rw [HV.out]; exact hr)])
    have HFIN := Lib.hid (show RTo S w b (addM M n) (.int .i64 (addE M n)) (.returned (.int .i64 (rightN n))) w2 by
      rw [HMM.out, HV.out]
      exact RTo.same HR.out hEw2 _)
    clear hE2 hEw2 CR HV HMM
    go_wp2
    go_ret
    exact HFIN.out

/-- What shows no slice does not show the tree's own block. -/
theorem Cells.chg {w w' : World} {a : Option Addr} {xs : List Value} {b : Nat} {p : Option Addr} {l c : Nat} {ty : TypeId} (h : Cells w.heap.size w a xs) (hb : w.heap[b]? = some (.cells #[.slice p l c] ty (0, 0))) (hx : ∀ u ∈ xs, ∀ p l c, u ≠ .slice p l c) (hC : Chg (· = b) w w') : Cells w'.heap.size w' a xs := fun j u hj => by
  obtain ⟨bb, off, e, hlt, hc⟩ := h j u hj
  refine ⟨bb, off, e, Nat.lt_of_lt_of_le hlt hC.size, ?_⟩
  by_cases eb : bb = b
  · subst eb
    rw [cell_of_row _ _ _ _ _ _ hb] at hc
    cases hk : off + j with
    | zero =>
      rw [hk] at hc
      exact absurd (Option.some.inj hc).symm (hx u (List.mem_of_getElem? hj) _ _ _)
    | succ k => rw [hk] at hc; simp at hc
  · rw [World.cell?_of_block (hC.same bb hlt eb)]; exact hc
theorem u8v_noslice (l : List UInt8) : ∀ u ∈ l.map u8v, ∀ p n c, u ≠ Value.slice p n c := fun u hu p n c e => by
  obtain ⟨x, _, rfl⟩ := List.mem_map.1 hu
  cases e
theorem acCs_noslice (l : List Ac) : ∀ u ∈ acCs l, ∀ p n c, u ≠ Value.slice p n c := fun u hu p n c e => by
  subst e
  unfold acCs at hu
  obtain ⟨a, _, h⟩ := List.mem_flatMap.1 hu
  simp [acC] at h

theorem rput_s (S : Nat → Prop) (w : World) (b : Nat) (M : List (Key × Nd)) (hR : RTree S w b (nds M)) (hM : MOk M) (n : Nd) (da aa : Option Addr) (dc ac : Nat) (hu : Tabs w) (hf : Fit n) (hl : (M.length + 1) * 168 ≤ 140737488355328)
    (hD : Cells w.heap.size w da (n.data.map u8v)) (hA : Cells w.heap.size w aa (acCs n.acl)) :
    Calls Tryz.prog 76 #[.pointer (some ⟨b, 0, none⟩), .agg (ndC n (.slice da n.data.length dc) (.slice aa n.acl.length ac))] w (RTo S w b (putM M n) (.int .i64 (putE M n))) := by
  have hbl := hR.lt
  obtain ⟨W1, hW1⟩ : ∃ W1, W1 = w.alloc (.cells (ndC n (.slice da n.data.length dc) (.slice aa n.acl.length ac)) 44) := ⟨_, rfl⟩
  have hE1 : Ext w W1 := by rw [hW1]; exact Ext.alloc _ _
  have hz1 : W1.heap.size = w.heap.size + 1 := by rw [hW1]; simp
  have hn1 : W1.heap[w.heap.size]? = some (.cells (ndC n (.slice da n.data.length dc) (.slice aa n.acl.length ac)) 44 (0, 0)) := by rw [hW1]; exact heap_alloc_new w _
  have CR := rright_any n da aa dc ac W1 hf (hu.below hE1 hu.size) (hA.ext hE1)
  have HR := Lib.hid hR
  have HM := Lib.hid hM
  have HD := Lib.hid hD
  have HA := Lib.hid hA
  have HE1 := Lib.hid hE1
  have HN1 := Lib.hid hn1
  have HNW := Lib.hid (hW1 ▸ hn1)
  rw [hW1] at CR
  have HW1 := Lib.hid hW1
  unfold ndC at CR HN1 HNW HW1 ⊢
  have CR := Lib.hid CR
  have HF := Lib.hid hf
  have hps := hf.path
  clear hR hM hD hA hE1 hn1 hW1 hu hf
  go_enter Tryz.func76, Tryz.ntmps76
  go_wp2_with (refine wpList_load_row rfl 44 (.tmp 3) rfl w.heap.size rfl 44 _ (0, 0) _ HNW.out Tryz.underlying44 rfl sizeNd ?_)
  refine CR.out.mono ?_
  rintro e w2 ⟨rfl, hE2⟩
  rw [← HW1.out] at hE2
  have hE2 : Ext W1 w2 := hE2
  have hEw2 := HE1.out.trans hE2
  by_cases hr : rightN n = 0
  · have hn2 := (hE2.block w.heap.size (by omega)).trans HN1.out
    have hp0 : w2.cell? ⟨w.heap.size, 0, none⟩ = some (.string n.path) := by
      rw [cell_of_row _ _ _ _ _ _ hn2]; rfl
    have CF := rfind_any S w2 b (nds M) (HR.out.ext hEw2) (nds_fit HM.out) n.path hps
    rw [rfind_isSome HM.out n.path] at CF
    have CF := Lib.hid CF
    have HE2 := Lib.hid hEw2
    have HN2 := Lib.hid hn2
    have HRT := Lib.hid hr
    rw [hr]
    clear CR hE2 hEw2 HN1 HNW hn2
    cases hg : mget M n.path.data.toList with
    | none =>
      rw [hg] at CF
      have HV := Lib.hid (show putE M n = 70 by
        unfold putE
        rw [if_neg (by simpa using HRT.out), if_neg (by rw [show mget M (keyN n) = none from hg]; simp)])
      have HMM := Lib.hid (show putM M n = M by unfold putM; rw [if_neg (by rw [HV.out]; decide)])
      clear hg hr
      go_wp2_with fail
      refine CF.out.mono ?_
      rintro e w3 ⟨rfl, hE3⟩
      have HFIN := Lib.hid (show RTo S w b (putM M n) (.int .i64 (putE M n)) (.returned (.int .i64 70)) w3 by
        rw [HMM.out, HV.out]
        exact RTo.same HR.out (HE2.out.trans hE3) _)
      clear CF hE3 hp0
      go_wp2
      go_ret
      exact HFIN.out
    | some y =>
      rw [hg] at CF
      obtain ⟨hix, _⟩ := rfind_node HM.out n.path hg
      have HV := Lib.hid (show putE M n = 0 by
        unfold putE
        rw [if_neg (by simpa using HRT.out), if_pos (by rw [show mget M (keyN n) = some y from hg]; rfl)])
      have HMM := Lib.hid (show putM M n = mput (mdel M (keyN n)) (keyN n) n by unfold putM; rw [if_pos HV.out, mput_mdel])
      have HTK := Lib.hid (rfind_take HM.out n.path (by rw [hg]; rfl))
      generalize (rfind (nds M) n.path).1 = i at *
      clear hg hr
      go_wp2_with fail
      refine CF.out.mono ?_
      rintro e w3 ⟨rfl, hE3⟩
      have hE3 : Ext w2 w3 := hE3
      have hEw3 := HE2.out.trans hE3
      have HN3 := Lib.hid ((hE3.block w.heap.size (Array.getElem?_eq_some_iff.1 HN2.out).1).trans HN2.out)
      have CT := Lib.hid (rtake_s S w3 b (nds M) i hix (HR.out.ext hEw3) (by rw [nds_length]; omega))
      have HE3 := Lib.hid hEw3
      clear CF hE3 hEw3 hp0 HN2
      go_wp2_with fail
      refine CT.out.mono ?_
      rintro e w4 ⟨rfl, hR4, hC4⟩
      rw [← HTK.out] at hR4
      obtain ⟨ra, rl, rc, hb3⟩ : ∃ ra rl rc, w3.heap[b]? = some (.cells #[.slice ra rl rc] 53 (0, 0)) := by
        obtain ⟨ra, rc, _, h, _⟩ := HR.out.ext HE3.out
        exact ⟨_, _, _, h⟩
      have hD4 := (HD.out.ext HE3.out).chg hb3 (u8v_noslice _) hC4
      have hA4 := (HA.out.ext HE3.out).chg hb3 (acCs_noslice _) hC4
      have hlt3 := (Array.getElem?_eq_some_iff.1 HN3.out).1
      have hne : w.heap.size ≠ b := by omega
      have HN4 := Lib.hid ((hC4.same w.heap.size hlt3 hne).trans HN3.out)
      have hM4 : MOk (mdel M (keyN n)) := HM.out.del _
      have hlen : (mdel M (keyN n)).length ≤ M.length := List.length_filter_le _ _
      have CI := Lib.hid (rinsert_s _ w4 b (nds (mdel M (keyN n))) n da aa dc ac hR4 (nds_fit hM4) HF.out hD4 hA4 (by rw [nds_length]; omega))
      have HINS := Lib.hid (rfind_ins hM4 n (mget_none_of fun x hx => (mem_mdel.1 hx).2))
      have hC34 := (Chg.of_ext (S := (· = b)) HE3.out).trans hC4 fun _ _ h => h
      have HC4 := Lib.hid hC34
      have hz3 := HE3.out.size
      have hz4 := hC4.size
      unfold ndC at CI
      clear CT hR4 hC4 hC34 hb3 hD4 hA4 HN3
      go_wp2_with (refine wpList_load_row rfl 44 (.tmp 3) rfl w.heap.size rfl 44 _ (0, 0) _ HN4.out Tryz.underlying44 rfl sizeNd ?_)
      refine CI.out.mono ?_
      rintro e w6 ⟨rfl, hR6, hC6⟩
      rw [← HINS.out, ← HMM.out] at hR6
      have hz6 := hC6.size
      have HFIN := Lib.hid (show RTo S w b (putM M n) (.int .i64 (putE M n)) (.returned (.int .i64 0)) w6 from
        ⟨by rw [HV.out], hR6.soft (fun k hk => by
          rcases hk with (hk | hk) | hk
          · exact .inl hk
          · exact .inr ⟨by omega, by omega⟩
          · exact .inr ⟨by omega, by omega⟩) (fun k hk => by
          rcases hk with hk | hk
          · exact hR6.bound k (.inl (.inl hk))
          · exact ⟨hk.2, by omega⟩), HC4.out.trans hC6 fun _ _ h => h⟩)
      clear CI hR6 hC6
      go_wp2
      go_ret
      exact HFIN.out
  · have hr1 : (rightN n != 0) = true := by simpa using hr
    have HV := Lib.hid (show putE M n = rightN n by unfold putE; rw [if_pos (by simpa using hr)])
    have HMM := Lib.hid (show putM M n = M by unfold putM; rw [if_neg (by rw [HV.out]; exact hr)])
    have HFIN := Lib.hid (show RTo S w b (putM M n) (.int .i64 (putE M n)) (.returned (.int .i64 (rightN n))) w2 by
      rw [HMM.out, HV.out]
      exact RTo.same HR.out hEw2 _)
    clear hE2 hEw2 CR HV HMM
    go_wp2
    go_ret
    exact HFIN.out

theorem rrem_s (S : Nat → Prop) (w : World) (b : Nat) (M : List (Key × Nd)) (hR : RTree S w b (nds M)) (hM : MOk M) (s : ByteArray) (hs : s.size ≤ 9223372036854775800) (hl : M.length * 168 ≤ 140737488355328) :
    Calls Tryz.prog 77 #[.pointer (some ⟨b, 0, none⟩), .string s] w (RTo S w b (remM M s) (.int .i64 (remE M s))) := by
  have hbl := hR.lt
  have CV := rvalid_any s w hs
  have HR := Lib.hid hR
  have HM := Lib.hid hM
  clear hR hM
  by_cases hv : vpath s = true ∧ s.size ≠ 1
  · have hroot' : ¬ s.data.toList = [47] := fun h => hv.2 ((root_iff hv.1).2 h)
    have e1 : (s.toList == [47]) = false := by rw [ByteArray.toList_eq]; simpa using hroot'
    have e2 : ¬ s.toList = [47] := by simpa using e1
    rw [hv.1] at CV
    have CV := Lib.hid CV
    have HVP := Lib.hid hv
    clear hv hroot'
    go_enter Tryz.func77, Tryz.ntmps77
    go_wp2_with fail
    refine CV.out.mono ?_
    rintro e w2 ⟨rfl, hE2⟩
    have hE2 : Ext w w2 := hE2
    have CF := rfind_any S w2 b (nds M) (HR.out.ext hE2) (nds_fit HM.out) s hs
    rw [rfind_isSome HM.out s] at CF
    have CF := Lib.hid CF
    have HE2 := Lib.hid hE2
    clear CV hE2
    cases hg : mget M s.data.toList with
    | none =>
      rw [hg] at CF
      have HV := Lib.hid (show remE M s = 70 by unfold remE; rw [if_neg (not_not_intro HVP.out), if_pos hg])
      have HMM := Lib.hid (show remM M s = M by unfold remM; rw [if_neg (by rw [HV.out]; decide)])
      clear hg
      go_wp2_with fail
      refine CF.out.mono ?_
      rintro e w3 ⟨rfl, hE3⟩
      have HFIN := Lib.hid (show RTo S w b (remM M s) (.int .i64 (remE M s)) (.returned (.int .i64 70)) w3 by
        rw [HMM.out, HV.out]
        exact RTo.same HR.out (HE2.out.trans hE3) _)
      clear CF hE3
      go_wp2
      go_ret
      exact HFIN.out
    | some y =>
      rw [hg] at CF
      obtain ⟨hix, _⟩ := rfind_node HM.out s hg
      have HTK := Lib.hid (rfind_take HM.out s (by rw [hg]; rfl))
      have HG := Lib.hid hg
      generalize (rfind (nds M) s).1 = i at *
      clear hg
      go_wp2_with fail
      refine CF.out.mono ?_
      rintro e w3 ⟨rfl, hE3⟩
      have hE3 : Ext w2 w3 := hE3
      have hEw3 := HE2.out.trans hE3
      have CK := Lib.hid (rkids_any w3 b M ((HR.out.ext hEw3).rt) HM.out s (by omega))
      have HE3 := Lib.hid hEw3
      clear CF hE3 hEw3
      go_wp2_with fail
      refine CK.out.mono ?_
      rintro e w4 ⟨v, rfl, hown, hE4⟩
      obtain ⟨ka, kc, rfl⟩ : ∃ ka kc, v = .slice ka (kidsOf M s).length kc := by
        rcases hown.2 with ⟨rfl, h0⟩ | ⟨g, cap, cur, rfl, _⟩
        · exact ⟨none, 0, by rw [h0]⟩
        · exact ⟨_, _, rfl⟩
      have hE4 : Ext w3 w4 := hE4
      have hEw4 := HE3.out.trans hE4
      by_cases hk : (kidsOf M s).length = 0
      · have HV := Lib.hid (show remE M s = 0 by unfold remE; rw [if_neg (not_not_intro HVP.out), if_neg (by rw [HG.out]; simp), if_neg (not_not_intro hk)])
        have HMM := Lib.hid (show remM M s = mdel M s.data.toList by unfold remM; rw [if_pos HV.out])
        have CT := Lib.hid (rtake_s S w4 b (nds M) i hix (HR.out.ext hEw4) (by rw [nds_length]; omega))
        have HE4 := Lib.hid hEw4
        rw [hk]
        clear CK hown hE4 hEw4 hk
        go_wp2_with fail
        refine CT.out.mono ?_
        rintro e w5 ⟨rfl, hR5, hC5⟩
        rw [← HTK.out, ← HMM.out] at hR5
        have HFIN := Lib.hid (show RTo S w b (remM M s) (.int .i64 (remE M s)) (.returned (.int .i64 0)) w5 from
          ⟨by rw [HV.out], RTree.tail HE4.out hR5 hbl, (Chg.of_ext (S := (· = b)) HE4.out).trans hC5 fun _ _ h => h⟩)
        clear CT hR5 hC5
        go_wp2
        go_ret
        exact HFIN.out
      · have HV := Lib.hid (show remE M s = 72 by unfold remE; rw [if_neg (not_not_intro HVP.out), if_neg (by rw [HG.out]; simp), if_pos hk])
        have HMM := Lib.hid (show remM M s = M by unfold remM; rw [if_neg (by rw [HV.out]; decide)])
        have HFIN := Lib.hid (show RTo S w b (remM M s) (.int .i64 (remE M s)) (.returned (.int .i64 72)) w4 by
          rw [HMM.out, HV.out]
          exact RTo.same HR.out hEw4 _)
        have hk1 : 0 < (kidsOf M s).length := by omega
        generalize (kidsOf M s).length = kl at *
        clear CK hown hE4 hEw4 hk
        go_wp2
        go_ret
        exact HFIN.out
  · have HV := Lib.hid (show remE M s = 30 by unfold remE; rw [if_pos hv])
    have HMM := Lib.hid (show remM M s = M by unfold remM; rw [if_neg (by rw [HV.out]; decide)])
    have CV := Lib.hid CV
    have HFIN := Lib.hid (show ∀ w3, Ext w w3 → RTo S w b (remM M s) (.int .i64 (remE M s)) (.returned (.int .i64 30)) w3 from fun w3 hE => by
      rw [HMM.out, HV.out]
      exact RTo.same HR.out hE _)
    by_cases hvp : vpath s = true
    · have h1 : s.size = 1 := by
        by_cases h : s.size = 1
        · exact h
        · exact absurd ⟨hvp, h⟩ hv
      have hroot' := (root_iff hvp).1 h1
      have e1 : (s.toList == [47]) = true := by rw [ByteArray.toList_eq]; simpa using hroot'
      have e2 : s.toList = [47] := by simpa using e1
      rw [hvp] at CV
      clear hv hvp h1 hroot' HV HMM
      go_enter Tryz.func77, Tryz.ntmps77
      go_wp2_with fail
      refine CV.out.mono ?_
      rintro e w2 ⟨rfl, hE2⟩
      have HFI := Lib.hid (HFIN.out w2 hE2)
      clear CV hE2 HFIN
      go_wp2
      go_ret
      exact HFI.out
    · have hvp : vpath s = false := by simpa using hvp
      rw [hvp] at CV
      clear hv hvp HV HMM
      go_enter Tryz.func77, Tryz.ntmps77
      go_wp2_with fail
      refine CV.out.mono ?_
      rintro e w2 ⟨rfl, hE2⟩
      have HFI := Lib.hid (HFIN.out w2 hE2)
      clear CV hE2 HFIN
      go_wp2
      go_ret
      exact HFI.out
end Go.Proofs.YthinpbdbhijbgaaGreatDoor
namespace Go.Proofs.YthinpbdbhijbgaaGreatDoor
open Go.ChangeShapes Go.WideShapes Go.ChangeAt Go.RowKit Go.Deep
set_option maxHeartbeats 2000000
set_option maxRecDepth 100000

/-- A node's numbers are what their types hold. -/
def Ir (n : Nd) : Prop := (∀ z ∈ [n.owner, n.czxid, n.mzxid, n.pzxid, n.azxid, n.qzxid, n.ctime, n.mtime, n.count, n.bytes], (Lit.int .i64 z).wf = true) ∧ ∀ z ∈ [n.version, n.creates, n.aversion], (Lit.int .i32 z).wf = true
theorem wf_i64 {z : Int} (h : (Lit.int .i64 z).wf = true) : -9223372036854775808 ≤ z ∧ z ≤ 9223372036854775807 := by
  simp [Lit.wf, IntKind.wrap] at h
  first | omega | exact h | (have := h; unfold wrap64 at this; omega)

section
variable {H : Type} {enc : TypeId × Value → H} {w : World} {fuel : Nat}
theorem node_rng {n : Nd} {da aa : Option Addr} {dc ac : Nat} {x : DataW H × List MemPlace} (h : DataW.trod enc Tryz.prog w 0 (fun _ => true) true fuel 44 (ndC n (.slice da n.data.length dc) (.slice aa n.acl.length ac)).toList = some x) : Ir n := by
  obtain ⟨xs, m, _, rfl, hl, hn, hf⟩ := DataW.trod_struct Tryz.underlying44 h
  match xs, hn with
  | [x0, x1, x2, x3, x4, x5, x6, x7, x8, x9, x10, x11, x12, x13, x14], _ =>
    have f3 := hf 3 _ rfl
    have f4 := hf 4 _ rfl
    have f5 := hf 5 _ rfl
    have f6 := hf 6 _ rfl
    have f7 := hf 7 _ rfl
    have f8 := hf 8 _ rfl
    have f9 := hf 9 _ rfl
    have f10 := hf 10 _ rfl
    have f11 := hf 11 _ rfl
    have f12 := hf 12 _ rfl
    have f13 := hf 13 _ rfl
    have f14 := hf 14 _ rfl
    clear hf h
    unfold ndC at f3 f4 f5 f6 f7 f8 f9 f10 f11 f12 f13 f14
    simp [Tryz.cells_str, Tryz.cells_u8s, Tryz.cells_acls, Tryz.cells_i64, Tryz.cells_i32, Tryz.cells_quota] at f3 f4 f5 f6 f7 f8 f9 f10 f11 f12 f13 f14
    obtain ⟨z3, e3, _, r3⟩ := DataW.trod_int Tryz.underlying2 f3
    obtain ⟨z4, e4, _, r4⟩ := DataW.trod_int Tryz.underlying2 f4
    obtain ⟨z5, e5, _, r5⟩ := DataW.trod_int Tryz.underlying2 f5
    obtain ⟨z6, e6, _, r6⟩ := DataW.trod_int Tryz.underlying2 f6
    obtain ⟨z7, e7, _, r7⟩ := DataW.trod_int Tryz.underlying2 f7
    obtain ⟨z8, e8, _, r8⟩ := DataW.trod_int Tryz.underlying2 f8
    obtain ⟨z9, e9, _, r9⟩ := DataW.trod_int Tryz.underlying2 f9
    obtain ⟨z10, e10, _, r10⟩ := DataW.trod_int Tryz.underlying2 f10
    obtain ⟨z11, e11, _, r11⟩ := DataW.trod_int Tryz.underlying21 f11
    obtain ⟨z12, e12, _, r12⟩ := DataW.trod_int Tryz.underlying21 f12
    obtain ⟨z13, e13, _, r13⟩ := DataW.trod_int Tryz.underlying21 f13
    obtain ⟨q0, q1, q2, m2, _, _, g0, g1, g2⟩ := trod_struct3 Tryz.underlying23 f14
    simp only [Tryz.cells_bool, Tryz.cells_i64, List.drop_succ_cons, List.drop_zero, List.take_succ_cons, List.take_zero] at g0 g1 g2
    obtain ⟨z15, e15, _, r15⟩ := DataW.trod_int Tryz.underlying2 g1
    obtain ⟨z16, e16, _, r16⟩ := DataW.trod_int Tryz.underlying2 g2
    simp only [List.cons.injEq, and_true, Value.int.injEq, true_and] at e3 e4 e5 e6 e7 e8 e9 e10 e11 e12 e13 e15 e16
    subst e3 e4 e5 e6 e7 e8 e9 e10 e11 e12 e13 e15 e16
    refine ⟨fun z hz => ?_, fun z hz => ?_⟩
    · simp only [List.mem_cons, List.not_mem_nil, or_false] at hz
      rcases hz with rfl | rfl | rfl | rfl | rfl | rfl | rfl | rfl | rfl | rfl <;> assumption
    · simp only [List.mem_cons, List.not_mem_nil, or_false] at hz
      rcases hz with rfl | rfl | rfl <;> assumption

/-- A slice of nodes, opened. -/
theorem open_nodes_r {v : Value} {x : DataW H × List MemPlace} (h : DataW.trod enc Tryz.prog w 0 (fun _ => true) true fuel 50 [v] = some x) (hz : Light 50 x.1) :
    ∃ (l : List Nd) (a : Option Addr) (cap : Nat), v = .slice a l.length cap ∧ l.length * 168 ≤ 140737488355328 ∧ (∀ n ∈ l, Fit n ∧ Ir n) ∧ NdsAt w.heap.size w a l ∧ l.length ≤ cap := by
  rcases open_slice Tryz.underlying50 h with ⟨hcs, rfl⟩ | ⟨a, len, cap, m, n, D, Pl, hcs, _, hl, hm, hmm, rfl, hx⟩
  · simp only [List.cons.injEq, and_true] at hcs
    subst hcs
    exact ⟨[], none, 0, rfl, by simp, by simp, fun i n h => (by simp at h), by simp⟩
  · simp only [List.cons.injEq, and_true] at hcs
    subst hcs
    simp only [if_true] at hmm
    subst hmm
    have hw := light_len Tryz.underlying50 hz
    rw [Tryz.bytes_node] at hw
    simp only [List.length_map, List.length_range] at hw
    obtain ⟨X, hX⟩ := choose_lt (n := len) (p := fun i (n : Nd) => ∃ v, NdV w.heap.size w v n ∧ (∀ r u, v.cells[r]? = some u → w.cell? ((a.add (i * 17)).add r) = some u) ∧ (Fit n ∧ Ir n) ∧ v.cells[0]? ≠ none) fun i hi => by
      obtain ⟨cs', h1, h2⟩ := hx i (by omega)
      obtain ⟨n, da, aa, dc, ac, rfl, hf, hD, hA⟩ := open_node h2 (light_elem Tryz.underlying50 hz (List.mem_map.2 ⟨i, List.mem_range.2 hi, rfl⟩))
      rw [Tryz.cells_node] at h1
      obtain ⟨_, _, h3⟩ := World.cells?_some h1
      refine ⟨n, _, ⟨da, dc, aa, ac, rfl, hD, hA⟩, fun r u hr => ?_, ⟨hf, node_rng h2⟩, fun h => by cases h⟩
      have hr' : (ndC n (.slice da n.data.length dc) (.slice aa n.acl.length ac))[r]? = some u := hr
      rw [h3 r (by have := (Array.getElem?_eq_some_iff.1 hr').1; simpa [ndC] using this)]
      simpa using hr'
    refine ⟨(List.range len).map X, some a, m, by simp, by simp; omega, fun x hx' => ?_, fun j n hj => ?_, by simp; omega⟩
    · obtain ⟨i, hi, rfl⟩ := List.mem_map.1 hx'
      obtain ⟨_, _, _, h, _⟩ := hX i (List.mem_range.1 hi)
      exact h
    · simp only [List.getElem?_map] at hj
      by_cases hi : j < len
      · rw [List.getElem?_range hi] at hj
        simp only [Option.map_some, Option.some.injEq] at hj
        subst hj
        obtain ⟨v, hv, hc, _, _⟩ := hX j hi
        obtain ⟨_, _, hc00, _, h0⟩ := hX 0 (by omega)
        obtain ⟨u0, hu0⟩ := Option.ne_none_iff_exists'.1 h0
        have hc0 := hc00 0 _ hu0
        have hsp := World.cell?_spot hc0
        have hlt := World.block_lt_of_cell? _ _ hc0
        obtain ⟨b, off, sp⟩ := a
        obtain rfl : sp = none := by simpa [Addr.add] using hsp
        refine ⟨b, off, v, rfl, by simpa [Addr.add] using hlt, hv, fun r u hr => ?_⟩
        have := hc r u hr
        rw [add_plain, add_plain] at this
        rw [← this]
      · rw [List.getElem?_eq_none (by simp; omega)] at hj
        simp at hj
end
end Go.Proofs.YthinpbdbhijbgaaGreatDoor
namespace Go.Proofs.YthinpbdbhijbgaaGreatDoor
open Go.RowKit

/-- What the growing tree's nodes keep. -/
structure Well7 (K : Nat) (M : List (Key × Nd)) : Prop where
  clo : Clo M
  ir : ∀ x ∈ M, Ir x.2
  len : M.length ≤ K
theorem Well7.more {K K' : Nat} {M : List (Key × Nd)} (h : Well7 K M) (hk : K ≤ K') : Well7 K' M := ⟨h.clo, h.ir, Nat.le_trans h.len hk⟩
theorem mdel_len7 {α : Type} (M : List (Key × α)) (k : Key) : (mdel M k).length ≤ M.length := List.length_filter_le _ _
theorem mput_len7 {α : Type} (M : List (Key × α)) (k : Key) (v : α) : (mput M k v).length ≤ M.length + 1 := by
  unfold mput
  rw [mins_length]
  have := mdel_len7 M k
  omega
theorem ir_put7 {M : List (Key × Nd)} (h : ∀ x ∈ M, Ir x.2) {n : Nd} (hn : Ir n) : ∀ x ∈ mput M (keyN n) n, Ir x.2 := fun x hx => by
  rcases mem_mput.1 hx with rfl | ⟨h1, _⟩
  · exact hn
  · exact h x h1

theorem well7_add {K : Nat} {M : List (Key × Nd)} {n : Nd} (hM : MOk M) (h : Well7 K M) (hn : Ir n) : Well7 (K + 1) (addM M n) := by
  unfold addM
  split
  · rename_i he
    unfold addE at he
    split at he
    · rename_i h1; exact absurd he h1
    split at he
    · cases he
    split at he
    · cases he
    rename_i hr hno hp
    have hno' : mget M (keyN n) = none := by simpa using hno
    obtain ⟨hp1, hp2⟩ := not_or.1 hp
    obtain ⟨y, hy⟩ := Option.ne_none_iff_exists'.1 hp2
    have hyp : y.path = parentB n.path := (ba_ext (hM.at hy).1).symm
    have keep : ∀ z ∈ M, z ∈ mput M (keyN n) n := fun z hz => mem_mput.2 (.inr ⟨hz, mget_none hno' z hz⟩)
    refine ⟨fun x hx hs => ?_, ir_put7 h.ir hn, Nat.le_trans (mput_len7 _ _ _) (Nat.succ_le_succ h.len)⟩
    rcases mem_mput.1 hx with rfl | ⟨h1, _⟩
    · exact ⟨_, keep _ (mget_some_mem hy), hyp⟩
    · obtain ⟨z, hz, e⟩ := h.clo x h1 hs
      exact ⟨z, keep z hz, e⟩
  · exact h.more (by omega)

theorem well7_put {K : Nat} {M : List (Key × Nd)} {n : Nd} (hM : MOk M) (h : Well7 K M) (hn : Ir n) : Well7 (K + 1) (putM M n) := by
  unfold putM
  split
  · rename_i he
    unfold putE at he
    split at he
    · rename_i h1; exact absurd he h1
    split at he
    rotate_left
    · cases he
    rename_i hr hy0
    obtain ⟨y, hy⟩ := Option.isSome_iff_exists.1 hy0
    have hyp : y.path = n.path := keyN_inj (hM.at hy).1.symm
    have keep : ∀ p, (∃ z ∈ M, z.2.path = p) → ∃ z ∈ mput M (keyN n) n, z.2.path = p := by
      rintro p ⟨z, hz, e⟩
      by_cases hk : z.1 = keyN n
      · refine ⟨(keyN n, n), mem_mput.2 (.inl rfl), ?_⟩
        have := keyN_inj ((hM.key z hz).symm.trans hk)
        rw [← e, this]
      · exact ⟨z, mem_mput.2 (.inr ⟨hz, hk⟩), e⟩
    refine ⟨fun x hx hs => ?_, ir_put7 h.ir hn, Nat.le_trans (mput_len7 _ _ _) (Nat.succ_le_succ h.len)⟩
    rcases mem_mput.1 hx with rfl | ⟨h1, _⟩
    · refine keep _ ?_
      have := h.clo _ (mget_some_mem hy) (by show y.path.size ≠ 1; rw [hyp]; exact hs)
      rw [show (keyN n, y).2.path = n.path from hyp] at this
      exact this
    · exact keep _ (h.clo x h1 hs)
  · exact h.more (by omega)

theorem well7_rem {K : Nat} {M : List (Key × Nd)} {s : ByteArray} (hM : MOk M) (h : Well7 K M) : Well7 (K + 1) (remM M s) := by
  unfold remM
  split
  · rename_i he
    unfold remE at he
    split at he
    · cases he
    split at he
    · cases he
    split at he
    · cases he
    rename_i hv hg hk
    have hk0 : kidsOf M s = [] := List.eq_nil_of_length_eq_zero (by simpa using hk)
    refine ⟨fun x hx hs => ?_, fun x hx => h.ir x (mem_mdel.1 hx).1, Nat.le_trans (mdel_len7 _ _) (by have := h.len; omega)⟩
    obtain ⟨h1, _⟩ := mem_mdel.1 hx
    obtain ⟨z, hz, e⟩ := h.clo x h1 hs
    refine ⟨z, mem_mdel.2 ⟨hz, fun hzk => ?_⟩, e⟩
    have hzs : z.2.path = s := ba_ext ((hM.key z hz).symm.trans hzk)
    have : (nameK x.2, Value.agg #[]) ∈ kidsOf M s := mem_kids.2 ⟨x, h1, by
      unfold childOf
      rw [Bool.and_eq_true]
      exact ⟨by simpa using hs, by rw [← hzs, e]; exact beq_self_eq_true _⟩, rfl⟩
    rw [hk0] at this
    simp at this
  · exact h.more (by omega)
theorem well7_op {K : Nat} {M : List (Key × Nd)} {o : Opn} (hM : MOk M) (h : Well7 K M) (hn : Ir o.n) : Well7 (K + 1) (opM M o) := by
  unfold opM
  split
  · exact well7_put hM h hn
  split
  · exact well7_rem hM h
  · exact well7_add hM h hn
end Go.Proofs.YthinpbdbhijbgaaGreatDoor
namespace Go.Proofs.YthinpbdbhijbgaaGreatDoor
open Go.RowKit
set_option maxHeartbeats 2000000

/-- Both trees hold the same nodes, in blocks apart, none below B. -/
structure Two7 (B : Nat) (S R : Nat → Prop) (w : World) (bt br K : Nat) (M : List (Key × Nd)) : Prop where
  tree : TreeAt S w bt M K
  ref : RTree R w br (nds M)
  ap : ∀ k, S k → ¬ R k ∧ k ≠ br
  low : ∀ k, S k ∨ R k → B ≤ k
  own : B ≤ br
  well : Well7 K M
theorem Two7.ext {B : Nat} {S R : Nat → Prop} {w w' : World} {bt br K : Nat} {M : List (Key × Nd)} (h : Two7 B S R w bt br K M) (hE : Ext w w') : Two7 B S R w' bt br K M := ⟨h.tree.ext hE, h.ref.ext hE, h.ap, h.low, h.own, h.well⟩
theorem Two7.more {B : Nat} {S R : Nat → Prop} {w : World} {bt br K K' : Nat} {M : List (Key × Nd)} (h : Two7 B S R w bt br K M) (hk : K ≤ K') : Two7 B S R w bt br K' M := ⟨h.tree.keep (fun _ _ => rfl) (fun _ h => h) h.tree.bound hk, h.ref, h.ap, h.low, h.own, h.well.more hk⟩
theorem Two7.size {B : Nat} {S R : Nat → Prop} {w : World} {bt br K : Nat} {M : List (Key × Nd)} (h : Two7 B S R w bt br K M) : B ≤ w.heap.size := Nat.le_trans h.own (Nat.le_of_lt h.ref.lt)
theorem Two7.chg {B : Nat} {S R C : Nat → Prop} {w w' : World} {bt br K : Nat} {M : List (Key × Nd)} (h : Two7 B S R w bt br K M) (hC : Chg C w w') (hn : ∀ k, C k → ¬ S k ∧ ¬ R k ∧ k ≠ br) : Two7 B S R w' bt br K M :=
  have hb : ∀ k, k < w.heap.size → ¬ C k → w'.heap[k]? = w.heap[k]? := fun k hk hc => hC.same k hk hc
  ⟨h.tree.keep (fun k hk => hb k (h.tree.bound k hk) fun hc => (hn k hc).1 hk) (fun _ h => h) (fun k hk => Nat.lt_of_lt_of_le (h.tree.bound k hk) hC.size) (Nat.le_refl _),
    h.ref.keep (fun _ h => h) (hb br h.ref.lt fun hc => (hn br hc).2.2 rfl) (fun k hk => hb k (h.ref.bound k hk).1 fun hc => (hn k hc).2.1 hk) (fun k hk => ⟨Nat.lt_of_lt_of_le (h.ref.bound k hk).1 hC.size, (h.ref.bound k hk).2⟩), h.ap, h.low, h.own, h.well⟩

/-- Both trees behind a call, seen from a world X behind w. -/
def Aft7 (B : Nat) (S R : Nat → Prop) (w X : World) (bt br K : Nat) (M : List (Key × Nd)) (W : World) : Prop :=
  ∃ S' R', Two7 B S' R' W bt br K M ∧ (∀ k, S' k ∨ R' k → S k ∨ R k ∨ (X.heap.size ≤ k ∧ k < W.heap.size)) ∧ Chg (fun k => S k ∨ k = br) w W
theorem Aft7.ext {B : Nat} {S R : Nat → Prop} {w X W W' : World} {bt br K : Nat} {M : List (Key × Nd)} (h : Aft7 B S R w X bt br K M W) (hE : Ext W W') : Aft7 B S R w X bt br K M W' := by
  obtain ⟨S', R', h1, h2, h3⟩ := h
  exact ⟨S', R', h1.ext hE, fun k hk => (h2 k hk).imp id fun h => h.imp id fun h => ⟨h.1, Nat.lt_of_lt_of_le h.2 hE.size⟩, h3.trans (Chg.of_ext (S := fun _ => False) hE) fun _ _ h => h.elim⟩
/-- Blocks made between w and X are nobody's. -/
theorem Aft7.chg {B : Nat} {S R C : Nat → Prop} {w X W W' : World} {bt br K : Nat} {M : List (Key × Nd)} (h : Aft7 B S R w X bt br K M W) (hS : ∀ k, S k ∨ R k ∨ k = br → k < w.heap.size) (hC : Chg C W W') (hc : ∀ k, C k → w.heap.size ≤ k ∧ k < X.heap.size) : Aft7 B S R w X bt br K M W' := by
  obtain ⟨S', R', h1, h2, h3⟩ := h
  refine ⟨S', R', h1.chg hC fun k hk => ?_, fun k hk => (h2 k hk).imp id fun h => h.imp id fun h => ⟨h.1, Nat.lt_of_lt_of_le h.2 hC.size⟩, h3.trans hC fun k hk h => ?_⟩
  · have h4 := hc k hk
    have h5 : ¬ (S' k ∨ R' k) := fun h => by
      rcases h2 k h with h | h | h
      · have := hS k (.inl h); omega
      · have := hS k (.inr (.inl h)); omega
      · omega
    exact ⟨fun h => h5 (.inl h), fun h => h5 (.inr h), fun e => by have := hS k (.inr (.inr e)); omega⟩
  · have := (hc k h).1; omega
theorem Aft7.base {B : Nat} {S R : Nat → Prop} {w X W : World} {bt br K : Nat} {M : List (Key × Nd)} (h : Aft7 B S R w X bt br K M W) (hX : w.heap.size ≤ X.heap.size) : Aft7 B S R w w bt br K M W := by
  obtain ⟨S', R', h1, h2, h3⟩ := h
  exact ⟨S', R', h1, fun k hk => (h2 k hk).imp id fun h => h.imp id fun h => ⟨by omega, h.2⟩, h3⟩
theorem Mod.chg {S : Nat → Prop} {a b : World} (h : Mod S a b) : Chg S a b := ⟨h.os, h.tape, h.output, h.size, fun k hk hn => by rw [h.same k _ (Array.getElem?_eq_getElem hk) (.inl hn), Array.getElem?_eq_getElem hk]⟩

/-- The program's tree is turned, the document's is not. -/
def Mid7 (S R : Nat → Prop) (X : World) (bt br K : Nat) (M M' : List (Key × Nd)) (W : World) : Prop :=
  ∃ S', TreeAt S' W bt M' K ∧ RTree R W br (nds M) ∧ (∀ k, S' k → S k ∨ (X.heap.size ≤ k ∧ k < W.heap.size)) ∧ Chg S X W
theorem Mid7.ext {S R : Nat → Prop} {X W W' : World} {bt br K : Nat} {M M' : List (Key × Nd)} (h : Mid7 S R X bt br K M M' W) (hE : Ext W W') : Mid7 S R X bt br K M M' W' := by
  obtain ⟨S', h1, h2, h3, h4⟩ := h
  exact ⟨S', h1.ext hE, h2.ext hE, fun k hk => (h3 k hk).imp id fun h => ⟨h.1, Nat.lt_of_lt_of_le h.2 hE.size⟩, h4.trans (Chg.of_ext (S := fun _ => False) hE) fun _ _ h => h.elim⟩
theorem Two7.mid {B : Nat} {S R : Nat → Prop} {X W W' : World} {bt br K N' : Nat} {M M' : List (Key × Nd)} {v : Value} {e : Ending} (h : Two7 B S R X bt br K M) (hE : Ext X W) (hT : TreeTo S W bt M' N' v e W') (hN : N' ≤ K + 1) : Mid7 S R X bt br (K + 1) M M' W' := by
  obtain ⟨_, h2, h3⟩ := hT
  refine ⟨_, h2.keep (fun _ _ => rfl) (fun _ h => h) h2.bound hN, (h.ref.ext hE).keep (fun _ h => h) (h3.chg.same br (h.ref.ext hE).lt fun hs => (h.ap br hs).2 rfl) (fun k hk => h3.chg.same k ((h.ref.ext hE).bound k hk).1 fun hs => (h.ap k hs).1 hk) (fun k hk => ⟨Nat.lt_of_lt_of_le ((h.ref.ext hE).bound k hk).1 h3.size, (h.ref.bound k hk).2⟩), fun k hk => hk.imp id fun h => ⟨Nat.le_trans hE.size h.1, h.2⟩, (Chg.of_ext (S := S) hE).trans h3.chg fun _ _ h => h⟩
theorem Mid7.aft {B : Nat} {S R : Nat → Prop} {w X W W' : World} {bt br K : Nat} {M M' : List (Key × Nd)} {v : Value} {e : Ending} (h0 : Two7 B S R X bt br K M) (hw : Ext w X) (h : Mid7 S R X bt br (K + 1) M M' W) (hR : RTo R W br M' v e W') (hW : Well7 (K + 1) M') : Aft7 B S R w X bt br (K + 1) M' W' ∧ Chg (fun k => S k ∨ k = br) X W' := by
  obtain ⟨S', h1, h2, h3, h4⟩ := h
  obtain ⟨_, h5, h6⟩ := hR
  have hbl := h0.ref.lt
  have hz := h4.size
  have hne : ∀ k, S' k → k ≠ br := fun k hk => by
    rcases h3 k hk with h | h
    · exact (h0.ap k h).2
    · omega
  have hCX : Chg (fun k => S k ∨ k = br) X W' := (h4.mono (S' := fun k => S k ∨ k = br) fun k _ h => .inl h).trans h6 fun k _ h => .inr h
  refine ⟨?_, hCX⟩
  refine ⟨S', _, ⟨h1.keep (fun k hk => h6.same k (h1.bound k hk) (hne k hk)) (fun _ h => h) (fun k hk => Nat.lt_of_lt_of_le (h1.bound k hk) h6.size) (Nat.le_refl _), h5, fun k hk => ⟨fun hr => ?_, hne k hk⟩, fun k hk => ?_, h0.own, hW⟩, fun k hk => ?_, ?_⟩
  · rcases hr with hr | hr
    · rcases h3 k hk with h | h
      · exact (h0.ap k h).1 hr
      · have := (h0.ref.bound k hr).1; omega
    · have := h1.bound k hk; omega
  · have hs := h0.size
    rcases hk with hk | hk | hk
    · rcases h3 k hk with h | h
      · exact h0.low k (.inl h)
      · omega
    · exact h0.low k (.inr hk)
    · omega
  · have hz6 := h6.size
    rcases hk with hk | hk | hk
    · rcases h3 k hk with h | h
      · exact .inl h
      · exact .inr (.inr ⟨h.1, by omega⟩)
    · exact .inr (.inl hk)
    · exact .inr (.inr ⟨by omega, hk.2⟩)
  · exact (Chg.of_ext (S := fun k => S k ∨ k = br) hw).trans hCX fun _ _ h => h

/-- What holds while a region turns first the one, then the other; d: which operations are done. -/
def PG7 (j1 j2 : Nat) (B : Nat) (S R : Nat → Prop) (w X : World) (bt br K : Nat) (M M' : List (Key × Nd)) (d : Nat → Bool) (W : World) : Prop :=
  if d j2 = true then Aft7 B S R w X bt br (K + 1) M' W ∧ Chg (fun k => S k ∨ k = br) X W else if d j1 = true then Mid7 S R X bt br (K + 1) M M' W else Ext X W
theorem PG7.ext {j1 j2 : Nat} {B : Nat} {S R : Nat → Prop} {w X : World} {bt br K : Nat} {M M' : List (Key × Nd)} {i : Nat} (h1 : i ≠ j1) (h2 : i ≠ j2) (d d' : Nat → Bool) (W W' : World) (h : PG7 j1 j2 B S R w X bt br K M M' d W) (hE : Ext W W') (hd : ∀ k, k ≠ i → d' k = d k) : PG7 j1 j2 B S R w X bt br K M M' d' W' := by
  unfold PG7 at h ⊢
  rw [hd j2 fun e => h2 e.symm, hd j1 fun e => h1 e.symm]
  split
  · rename_i e; rw [if_pos e] at h; exact ⟨h.1.ext hE, h.2.trans (Chg.of_ext (S := fun _ => False) hE) fun _ _ h => h.elim⟩
  · rename_i e; rw [if_neg e] at h
    split
    · rename_i e; rw [if_pos e] at h; exact h.ext hE
    · rename_i e; rw [if_neg e] at h; exact h.trans hE
/-- All but both trees is as it was. -/
theorem PG7.chg {j1 j2 : Nat} {B : Nat} {S R : Nat → Prop} {w X : World} {bt br K : Nat} {M M' : List (Key × Nd)} {d : Nat → Bool} {W : World} (h : PG7 j1 j2 B S R w X bt br K M M' d W) (h2 : d j2 = false) : Chg S X W := by
  unfold PG7 at h
  simp only [h2, Bool.false_eq_true, if_false] at h
  split at h
  · obtain ⟨_, _, _, _, h⟩ := h; exact h
  · exact Chg.of_ext h

end Go.Proofs.YthinpbdbhijbgaaGreatDoor
namespace Go.Proofs.YthinpbdbhijbgaaGreatDoor
open Go.RowKit

/-- The paths above one, from the nearest on. -/
def upF : Nat → ByteArray → List ByteArray
  | 0, _ => []
  | f + 1, p => if p.size = 1 then [] else parentB p :: upF f (parentB p)
def upL (p : ByteArray) : List ByteArray := upF p.size p
theorem upF_fuel : ∀ (f g : Nat) (p : ByteArray), vpath p = true → p.size ≤ f → p.size ≤ g → upF f p = upF g p
  | 0, _, p, hv, hf, _ => by have := (vpath_facts hv).1; omega
  | _ + 1, 0, p, hv, hf, hg => by have := (vpath_facts hv).1; omega
  | f + 1, g + 1, p, hv, hf, hg => by
    simp only [upF]
    by_cases h1 : p.size = 1
    · rw [if_pos h1, if_pos h1]
    · have hs := (path_split hv h1).2.2.1
      rw [if_neg h1, if_neg h1, upF_fuel f g (parentB p) (vpath_parent hv h1) (by omega) (by omega)]
theorem upL_one {p : ByteArray} (h1 : p.size = 1) : upL p = [] := by
  unfold upL; rw [h1]; simp [upF, h1]
theorem upL_step {p : ByteArray} (hv : vpath p = true) (h1 : p.size ≠ 1) : upL p = parentB p :: upL (parentB p) := by
  have hp := (vpath_facts hv).1
  have hs := (path_split hv h1).2.2.1
  obtain ⟨g, hg⟩ : ∃ g, p.size = g + 1 := ⟨p.size - 1, by omega⟩
  have e1 := upF_fuel g (parentB p).size (parentB p) (vpath_parent hv h1) (by omega) (Nat.le_refl _)
  unfold upL
  rw [hg]
  simp only [upF]
  rw [if_neg h1, e1]
theorem upL_length : ∀ (n : Nat) (p : ByteArray), p.size ≤ n → vpath p = true → (upL p).length ≤ p.size - 1
  | 0, p, hn, hv => by have := (vpath_facts hv).1; omega
  | n + 1, p, hn, hv => by
    by_cases h1 : p.size = 1
    · rw [upL_one h1]; simp
    · have hs := (path_split hv h1).2.2.1
      have hp := vpath_parent hv h1
      have := upL_length n (parentB p) (by omega) hp
      have h2 := (vpath_facts hp).1
      rw [upL_step hv h1, List.length_cons]
      omega
theorem upL_mem : ∀ (n : Nat) (p : ByteArray), p.size ≤ n → vpath p = true → ∀ q, q = p ∨ q ∈ upL p ↔ und p q = true
  | 0, p, hn, hv, q => by have := (vpath_facts hv).1; omega
  | n + 1, p, hn, hv, q => by
    by_cases h1 : p.size = 1
    · rw [upL_one h1, undV_one h1]
      simp only [List.not_mem_nil, or_false, beq_iff_eq]
      exact ⟨fun h => by rw [h], fun h => (ByteArray.ext h).symm⟩
    · have hs := (path_split hv h1).2.2.1
      rw [upL_step hv h1, undV_up hv h1, List.mem_cons, Bool.or_eq_true, ← upL_mem n (parentB p) (by omega) (vpath_parent hv h1) q, beq_iff_eq]
      constructor
      · rintro (h | h | h)
        · exact .inl (by rw [h])
        · exact .inr (.inl h)
        · exact .inr (.inr h)
      · rintro (h | h | h)
        · exact .inl (ByteArray.ext h).symm
        · exact .inr (.inl h)
        · exact .inr (.inr h)

/-- The path and those above it, from the root on. -/
def lineL (p : ByteArray) : List ByteArray := (upL p).reverse ++ [p]
/-- The node of a path, if it bears a quota. -/
def quoN (M : List (Key × Nd)) (q : ByteArray) : List Nd := match mget M q.data.toList with | some n => if n.has = true then [n] else [] | none => []
/-- The quotas over a path. -/
def overL (M : List (Key × Nd)) (p : ByteArray) : List Nd := if vpath p = true then (lineL p).flatMap (quoN M) else []

/-- Is a bound passed? -/
def passB (bound used more : Int) : Bool := decide (more > 0) && bound != -1 && (decide (used > bound) || decide (more > wrap64 (bound - used)))
def overB (M : List (Key × Nd)) (dn db : Int) (n : Nd) : Bool := passB n.count (undK M n.path).length dn || passB n.bytes (bytesK M (undK M n.path)) db
end Go.Proofs.YthinpbdbhijbgaaGreatDoor
namespace Go.Proofs.YthinpbdbhijbgaaGreatDoor
open Go.RowKit Go.Sort
set_option maxHeartbeats 2000000
set_option maxRecDepth 100000

theorem wpList_append_s {ops : Array Oper} {rest : List Oper} {o : Oper} {a : Act} {Q : Exit → Act → World → Prop} {W5 : World} (hgd : o.guard = none) (s x : Operand)
    (ho : o.op = .call { callee := .builtin .append, args := #[s, x], argTypes := #[56, 56] })
    (base n : Nat) (xs : List Value) (ov : Value) (hown : W5.ownsRow base 9 1 ov n xs) (hb : base ≤ W5.heap.size) (t : ByteArray) (hl : (n + 1) * 16 ≤ 140737488355328)
    (hs : a.eval s = ov) (hx : a.eval x = .slice (some ⟨W5.heap.size, 0, none⟩) 1 1)
    (hK : ∀ v' W6, W6.ownsRow base 9 1 v' (n + 1) (xs ++ [.string t]) → (∀ w0, Ext w0 W5 → w0.heap.size ≤ base → Ext w0 W6) → wpList Tryz.prog ops Q rest (a.put o.dst v') W6) : wpList Tryz.prog ops Q (o :: rest) a (W5.alloc (.cells #[.string t] 9)) := by
  have hrow8 := hown.alloc (.cells #[.string t] 9)
  have hs1 : Cells (W5.alloc (.cells #[.string t] 9)).heap.size (W5.alloc (.cells #[.string t] 9)) (some ⟨W5.heap.size, 0, none⟩) [.string t] := fun j u hj => by
    refine ⟨_, 0, rfl, by simp, ?_⟩
    rw [Nat.zero_add, cell_of_row _ _ _ _ _ _ (heap_alloc_new W5 _)]
    simpa using hj
  have hsrc : Src Tryz.prog 1 56 (.slice (some ⟨W5.heap.size, 0, none⟩) 1 1) 1 [.string t] (W5.alloc (.cells #[.string t] 9)) := hs1.src Tryz.underlying56 1 1 (by simp) (fun u hu => by simp at hu; subst hu; rfl)
  obtain ⟨i0, hi, hz0, hz1', hz2'⟩ := strInfo
  refine wpList_append_src _ hgd s x 56 56 ho base 9 i0 (.string ⟨#[]⟩) 1 16 Tryz.underlying56 hi hz0 hz1' hz2' rfl (by decide) ov n xs hs hrow8 _ 1 _ hx hsrc (by unfold maxLen; omega) hl (by simp; omega) ?_
  intro v' w9 hown9 hg9 _ _
  refine hK v' w9 hown9 fun w0 hE0 hb0 => ?_
  have hE8 : Ext w0 (W5.alloc (.cells #[.string t] 9)) := hE0.trans (Ext.alloc _ _)
  exact hE8.trans' ⟨hg9.os, hg9.tape, hg9.output, hg9.size, fun i hi => hg9.block i (Nat.lt_of_lt_of_le hi hE8.size) (fun e => by
    have := (hown.lt i e.symm).1
    omega)⟩
end Go.Proofs.YthinpbdbhijbgaaGreatDoor
