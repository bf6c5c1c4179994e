/- The walk of lay: a node is put at its place, its name among its parent's children. The walk of tree.New. The look whether a node's path is there already: a region that draws its order. A slice of nodes in memory; what From makes of nodes. The walk of tree.From. The walk of Get. -/
import Derived.Test.YtclekhjnnljjlaaGreatDoorJFuzzyWhole4
import Derived.Test.YtclekhjnnljjlaaGreatDoorJFuzzyWhole2
namespace Go.Proofs.YtclekhjnnljjlaaGreatDoor
open Go.RowKit
set_option maxHeartbeats 2000000
set_option maxRecDepth 100000

def PhiL (B bt bn : Nat) (n : Nd) (cs : Array Value) : Nat → Value → World → Prop
  | 0, v, _ => v = .pointer (some ⟨bt, 0, none⟩)
  | 1, v, _ => v = .pointer (some ⟨bt, 0, none⟩)
  | 2, v, _ => v = .pointer (some ⟨bt, 0, none⟩)
  | 3, v, _ => v = .map (some bn)
  | 4, v, _ => v = .pointer (some ⟨B, 0, none⟩)
  | 5, v, _ => v = .string n.path
  | 6, v, _ => v = .agg cs
  | 7, v, w => NdS (fun b => B < b ∧ b < w.heap.size) w v n
  | _, _, _ => True
theorem PhiL.stab (B bt bn : Nat) (n : Nd) (cs : Array Value) (i : Nat) (v : Value) (w w' : World) (h : PhiL B bt bn n cs i v w) (he : Ext w w') : PhiL B bt bn n cs i v w' := by
  unfold PhiL at h ⊢
  split at h <;> first | exact h | exact h.imp (fun b hb => ⟨hb.1, Nat.lt_of_lt_of_le hb.2 he.size⟩) (fun b o u hb hu => (he.cell (p := ⟨b, o, none⟩) hb.2).trans hu)

theorem Mod.turned_new {S : Nat → Prop} {w a b : World} {g : Nat} (h : Mod S w a) (ht : a.mapTurned b g) (hg : w.heap.size ≤ g) : Mod S w b :=
  ⟨by obtain ⟨_, _, _, _, _, rfl⟩ := ht; exact h.os, by obtain ⟨_, _, _, _, _, rfl⟩ := ht; exact h.tape, by obtain ⟨_, _, _, _, _, rfl⟩ := ht; exact h.output, by rw [turned_size ht]; exact h.size, fun k o hk ho =>
    (turned_other ht (by have := (Array.getElem?_eq_some_iff.1 hk).1; omega)).trans (h.same k o hk ho)⟩

theorem lay_nodes {S : Nat → Prop} {w w2 w3 : World} {bt bn bk : Nat} {M : List (Key × Nd)} {N : Nat} {n : Nd} {v : Value} {m : List (Key × Value)} (hd : Hd S w bt bn bk) (hNd : NodesAt S w bn M N) (hm : SMap Tryz.prog 9 w bn m) (hr : Rel2 (fun n v => NdS S w v n) M m)
    (he : Ext w w2) (hn : rightN n = 0) (h7 : NdS (fun b => w.heap.size < b ∧ b < w2.heap.size) w2 v n) (hs3 : SMap Tryz.prog 9 w3 bn (mput m n.path.data.toList v)) (ht3 : w2.mapTurned w3 bn) :
    NodesAt (fun k => S k ∨ (w.heap.size ≤ k ∧ k < w3.heap.size)) w3 bn (mput M (keyN n) n) (N + 1) := by
  have hz := turned_size ht3
  have hS : ∀ k, S k → S k ∨ (w.heap.size ≤ k ∧ k < w3.heap.size) := fun k h => .inl h
  have hc : ∀ (b o : Nat) u, S b → w.cell? ⟨b, o, none⟩ = some u → w2.cell? ⟨b, o, none⟩ = some u := fun b o u hb hu => (he.cell (p := ⟨b, o, none⟩) (hd.bound b hb)).trans hu
  have h2 := hNd.keep (S' := fun k => S k ∨ (w.heap.size ≤ k ∧ k < w3.heap.size)) (he.block bn (hd.bound _ hd.sn)) hS hc (Nat.le_refl N)
  exact h2.put hn (h7.imp (fun b hb => .inr ⟨by omega, by omega⟩) (fun _ _ _ _ h => h)) (hm.keep (he.block bn (hd.bound _ hd.sn))) (hr.imp fun _ _ _ hv => hv.imp hS hc) hs3 ht3

theorem lay_kids {S : Nat → Prop} {w w2 w3 : World} {bt bn bk : Nat} {K : List (Key × Nat)} {M : List (Key × Nd)} {N : Nat} (hd : Hd S w bt bn bk) (hKd : KidsAt S w bn bk K M N) (he : Ext w w2) (ht3 : w2.mapTurned w3 bn) : KidsAt S w3 bn bk K M N :=
  hKd.keep ((turned_other ht3 hd.ne.symm).trans (he.block bk (hd.bound _ hd.sk))) (fun _ h => h) (fun x hx => (turned_other ht3 (hKd.each x hx).2.1).trans (he.block _ (hd.bound _ (hKd.each x hx).1))) (Nat.le_refl N)

theorem lay_any (S : Nat → Prop) (w : World) (bt : Nat) (M : List (Key × Nd)) (N : Nat) (hT : TreeAt S w bt M N) (n : Nd) (da aa : Option Addr) (dc ac : Nat) (hn : rightN n = 0) (hne : mget M (keyN n) = none) (hN : N < 4611686018427387904)
    (hD : Cells w.heap.size w da (n.data.map u8v)) (hA : Cells w.heap.size w aa (acCs n.acl)) :
    Calls Tryz.prog 38 #[.pointer (some ⟨bt, 0, none⟩), .agg (ndC n (.slice da n.data.length dc) (.slice aa n.acl.length ac))] w fun e w' =>
      e = .returned (.tuple #[]) ∧ TreeAt (fun k => S k ∨ (w.heap.size ≤ k ∧ k < w'.heap.size)) w' bt (mput M (keyN n) n) (N + 1) ∧ Mod S w w' := by
  obtain ⟨bn, bk, K, hd, hNd, hKd⟩ := hT
  obtain ⟨m, hm, hr⟩ := hNd.ex
  have hml : m.length ≤ N := by rw [← hr.length]; exact hNd.len
  have hfit := right_fit hn
  have hvp := right_vpath hn
  have hvf := vpath_facts hvp
  obtain ⟨W1, hW1⟩ : ∃ W1, W1 = w.alloc (.cells (ndC n (.slice da n.data.length dc) (.slice aa n.acl.length ac)) 88) := ⟨_, rfl⟩
  have he1 : Ext w W1 := by rw [hW1]; exact Ext.alloc _ _
  have hs1 : W1.heap.size = w.heap.size + 1 := by rw [hW1]; simp
  have hn1 : W1.heap[w.heap.size]? = some (.cells (ndC n (.slice da n.data.length dc) (.slice aa n.acl.length ac)) 88 (0, 0)) := by rw [hW1]; exact heap_alloc_new w _
  have hbt1 : W1.heap[bt]? = some (.cells (treeC bn bk) 95 (0, 0)) := (he1.block bt (hd.bound _ hd.st)).trans hd.blk
  have hm1 : SMap Tryz.prog 9 W1 bn m := hm.keep (he1.block bn (hd.bound _ hd.sn))
  have hD1 := hD.ext he1
  have hA1 := hA.ext he1
  have HW1 := Lib.hid hW1
  unfold ndC at HW1 ⊢
  clear hW1
  go_enter Tryz.func38, Tryz.ntmps38
  go_wp2
  rw [← HW1.out]
  have hen := fun (f : FuncId) (fn : Func) (c : Code) (hf : Tryz.prog.funcs[f]? = some fn) (hname : (fn.name == "runtime.NumGoroutine") = false) (hb : fn.body = some c) => enters_f hf hname hb
  refine wp_region_last_e 52 (by kernel_rfl) (PhiL w.heap.size bt bn n (ndC n (.slice da n.data.length dc) (.slice aa n.acl.length ac))) (PhiL.stab _ _ _ _ _) (by decide) rfl 8 _ rfl rfl rfl rfl ?_ ?fin
  · refine ⟨?_, ?_, ?_, ?_, ?_, ?_, ?_, ?_, trivial⟩
    · exact duty_free rfl fun a w' hE hF hA => wp_value (w' := w') (ex_move rfl) ⟨_, rfl, hF.slot 0 _ (by decide) rfl, Ext.refl _⟩
    · refine duty_free rfl fun a w' hE hF hA => ?_
      have x1 : a.eval (.tmp 8) = _ := hA.slot 0 8 rfl rfl ⟨⟨0, .data⟩, by simp, rfl, rfl⟩
      exact wp_value (ex_nilCheck rfl _ x1) ⟨_, rfl, rfl, Ext.refl _⟩
    · refine duty_free rfl fun a w' hE hF hA => ?_
      have x1 : a.eval (.tmp 9) = _ := hA.slot 1 9 rfl rfl ⟨⟨1, .data⟩, by simp, rfl, rfl⟩
      exact wp_value (v := .pointer (some ⟨bt, 0, none⟩)) (w' := w') (by simp only [execOp, x1]; simp [go_sem]) ⟨_, rfl, rfl, Ext.refl _⟩
    · refine duty_free rfl fun a w' hE hF hA => ?_
      have x1 : a.eval (.tmp 10) = _ := hA.slot 2 10 rfl rfl ⟨⟨2, .data⟩, by simp, rfl, rfl⟩
      refine wp_value (ex_cell rfl _ (.map (some bn)) x1 ?_ rfl Tryz.underlying92) ⟨_, rfl, rfl, Ext.refl _⟩
      exact cell_of_row w' bt 0 _ _ _ ((hE.block bt (Array.getElem?_eq_some_iff.1 hbt1).1).trans hbt1)
    · refine duty_free rfl fun a w' hE hF hA => ?_
      have x1 : a.eval (.tmp 3) = _ := hF.slot 3 (.pointer (some ⟨w.heap.size, 0, none⟩)) (by decide) rfl
      exact wp_value (v := .pointer (some ⟨w.heap.size, 0, none⟩)) (w' := w') (by simp only [execOp, x1]; simp [go_sem]) ⟨_, rfl, rfl, Ext.refl _⟩
    · refine duty_free rfl fun a w' hE hF hA => ?_
      have x1 : a.eval (.tmp 12) = _ := hA.slot 4 12 rfl rfl ⟨⟨4, .data⟩, by simp, rfl, rfl⟩
      refine wp_value (ex_cell rfl _ (.string n.path) x1 ?_ rfl Tryz.underlying9) ⟨_, rfl, rfl, Ext.refl _⟩
      exact cell_of_row w' w.heap.size 0 _ _ _ ((hE.block w.heap.size (Array.getElem?_eq_some_iff.1 hn1).1).trans hn1)
    · refine duty_free rfl fun a w' hE hF hA => ?_
      have x1 : a.eval (.tmp 3) = _ := hF.slot 3 (.pointer (some ⟨w.heap.size, 0, none⟩)) (by decide) rfl
      exact wp_value (ex_load_row rfl w.heap.size x1 88 _ (0, 0) _ ((hE.block w.heap.size (Array.getElem?_eq_some_iff.1 hn1).1).trans hn1) Tryz.underlying88 rfl sizeNd) ⟨_, rfl, rfl, Ext.refl _⟩
    · refine duty_free rfl fun a w' hE hF hA => ?_
      have x1 : a.eval (.tmp 14) = _ := hA.slot 6 14 rfl rfl ⟨⟨6, .data⟩, by simp, rfl, rfl⟩
      refine wp_enter (ex_call rfl (hen _ _ _ Tryz.func52 (by kernel_rfl) rfl)) (by simp only [List.map_toArray, List.map_cons, List.map_nil, x1]; exact sclone_nd n da aa dc ac w' hfit.1 (hD1.ext hE) (hA1.ext hE)) ?_
      rintro e w4 ⟨v, rfl, hv, hb⟩
      exact ⟨_, rfl, v, rfl, hv.imp (fun b hb' => ⟨by have := hE.size; omega, hb'.2⟩) (fun _ _ _ _ h => h), hb⟩
  case fin =>
    intro us w2 hE hl hP
    obtain ⟨u0, u1, u2, u3, u4, u5, u6, u7, rfl⟩ := us8 us hl
    obtain rfl : u3 = .map (some bn) := hP 3 _ rfl
    obtain rfl : u5 = .string n.path := hP 5 _ rfl
    have h7 : NdS (fun b => w.heap.size < b ∧ b < w2.heap.size) w2 u7 n := hP 7 _ rfl
    clear hP hl hen
    have hm2 : SMap Tryz.prog 9 w2 bn m := hm1.keep (hE.block bn (by have := hd.bound _ hd.sn; omega))
    have q1 : m.length < maxLen := by unfold maxLen; omega
    have q2 : n.path.size ≤ maxLen := by unfold maxLen; omega
    have hQ := SMap.store hm2 strT Tryz.underlying92 q1 q2 u7
    have hQ1 := hQ.choose_spec
    generalize hQ.choose = w3 at hQ1
    have hrun := hQ1.1
    have hs3 := hQ1.2.1
    have ht3 := hQ1.2.2
    clear hQ1 hQ
    have he2 : Ext w w2 := he1.trans hE
    have hn2 := (hE.block w.heap.size (by omega)).trans hn1
    have hc3 := ((Mod.turned (S := fun _ => True) ht3 trivial).cells hn2)
    have hsz3 := turned_size ht3
    have hbt3 : w3.heap[bt]? = some (.cells (treeC bn bk) 95 (0, 0)) := (Mod.turned (S := fun _ => True) ht3 trivial).cells ((he2.block bt (hd.bound _ hd.st)).trans hd.blk)
    have hx3 : Box w3 w.heap.size (ndC n (.slice da n.data.length dc) (.slice aa n.acl.length ac)) := fun j => cell_of_row _ _ _ _ _ _ hc3
    have hy3 : Box w3 bt (treeC bn bk) := fun j => cell_of_row _ _ _ _ _ _ hbt3
    have HS3 := Lib.hid hs3
    have HT3 := Lib.hid ht3
    have HR := Lib.hid hr
    have HE2 := Lib.hid he2
    have HZ3 := Lib.hid hsz3
    clear hs3 ht3 hm2 hm1 hn2 hc3 hn1 hbt1 hbt3 hD1 hA1 hE HW1 hr he2 hsz3
    simp only [filled, List.take_succ_cons, List.take_zero, List.zip_cons_cons, List.zip_nil_right, List.foldl_cons, List.foldl_nil, Act.put]
    unfold Box ndC at hx3
    unfold Box treeC at hy3
    go_simp
    rename_i hK
    refine hK _ _ ?_
    clear hrun
    have hNn := lay_nodes hd hNd hm HR.out HE2.out hn h7 HS3.out HT3.out
    have hKn := lay_kids hd hKd HE2.out HT3.out
    have hMod : Mod S w w3 := (Mod.of_ext HE2.out).trans (Mod.turned HT3.out hd.sn)
    have hw3 : w.heap.size ≤ w3.heap.size := hMod.size
    have hbl : w3.heap[bt]? = some (.cells (treeC bn bk) 95 (0, 0)) := hMod.cells hd.blk
    clear HR HS3 HT3 HE2 HZ3 h7
    by_cases hroot : n.path.size = 1
    · have e1 : (n.path.toList == [47]) = true := by rw [ByteArray.toList_eq]; simpa using (root_iff hvp).1 hroot
      have e2 : n.path.toList = [47] := by simpa using e1
      have fin : TreeAt (fun k => S k ∨ (w.heap.size ≤ k ∧ k < w3.heap.size)) w3 bt (mput M (keyN n) n) (N + 1) :=
        ⟨bn, bk, K, ⟨hbl, .inl hd.st, .inl hd.sn, .inl hd.sk, hd.ne, fun k hk => hk.elim (fun h => Nat.lt_of_lt_of_le (hd.bound k h) hw3) (fun h => h.2)⟩, hNn,
          (hKn.put_root hNd.ok hn hne hroot).keep rfl (fun _ h => .inl h) (fun _ _ => rfl) (Nat.le_refl _)⟩
      have FIN := Lib.hid fin
      have HM := Lib.hid hMod
      clear fin hMod hNn hKn hroot hne
      go_wp2
      exact bodyPost_ret (results_none rfl _ _ _) rfl ⟨rfl, FIN.out, HM.out⟩
    · have e1 : (n.path.toList == [47]) = false := by rw [ByteArray.toList_eq]; simpa using fun h => hroot ((root_iff hvp).2 h)
      have e2 : ¬ n.path.toList = [47] := by simpa using e1
      have CP := parent_any n.path w3 (by omega)
      have CN := fun w => name_any n.path w (by omega)
      rw [show parV n.path = .tuple #[.string (parentB n.path), .int .i64 0] by unfold parV; rw [if_pos ⟨hvp, hroot⟩]] at CP
      rw [show namV n.path = .tuple #[.string (nameB n.path), .int .i64 0] by unfold namV; rw [if_pos hvp]] at CN
      have hsp := path_split hvp hroot
      have hps : (parentB n.path).size ≤ maxLen := by unfold maxLen; omega
      have hns : (nameB n.path).size ≤ maxLen := by
        have h1 : (nameB n.path).size ≤ n.path.size := by unfold nameB; rw [ByteArray.size_extract]; omega
        unfold maxLen; omega
      have CP := Lib.hid CP
      have CN := Lib.hid CN
      have HNE := Lib.hid hne
      have HROOT := Lib.hid hroot
      clear hne hroot hsp hvf
      go_wp2_with fail
      refine CP.out.mono ?_
      rintro e w4 ⟨rfl, hb4⟩
      have hx4 := Box.below (b := w.heap.size) hx3 hb4 (block_lt_of_cell (show w3.cell? ⟨w.heap.size, 0, none⟩ = _ from hx3 0))
      have hz4 := hb4.size
      clear CP
      unfold Box at hx4
      go_wp2_with fail
      refine (CN.out _).mono ?_
      rintro e w5 ⟨rfl, hb5⟩
      have he5 : Ext w3 w5 := Ext.trans hb4 hb5
      have hlt3 : bt < w3.heap.size := (Array.getElem?_eq_some_iff.1 hbl).1
      have hy5 : Box w5 bt (treeC bn bk) := Box.below (b := bt) (B := w3.heap.size) hy3 he5 hlt3
      have hbS : ∀ k, S k → k < w3.heap.size := fun k h => Nat.lt_of_lt_of_le (hd.bound k h) hw3
      have hK5 : KidsAt S w5 bn bk K M N := hKn.keep (he5.block bk (hbS _ hd.sk)) (fun _ h => h) (fun x hx => he5.block _ (hbS _ (hKn.each x hx).1)) (Nat.le_refl _)
      have hM5 : Mod S w w5 := hMod.trans (Mod.of_ext he5)
      have hw5 : w.heap.size ≤ w5.heap.size := hM5.size
      have hl5 := SMap.look (e := 155) hK5.map strT Tryz.underlying93 (z := .map none) (by kernel_rfl) hps
      rw [kidsV_get] at hl5
      clear CN hx4 hx3 hy3 hb4 hb5 hz4 hKn hMod
      unfold Box treeC at hy5
      cases hg : mget K (parentB n.path).data.toList with
      | some b =>
        rw [hg] at hl5
        have hl5' : (Instr.lookup 93 (.map (some bk)) (.string (parentB n.path)) false).run Tryz.prog w5 = .ok (.map (some b)) w5 := hl5
        clear hl5
        have hE := hK5.each _ (mget_some_mem hg)
        have hSb : S b := hE.1
        have hSM : SMap Tryz.prog 9 w5 b (kidsOf M (parentB n.path)) := by have := hE.2.2.2; rw [key_bytes] at this; exact this
        have hlen : (kidsOf M (parentB n.path)).length < maxLen := by
          have := kids_length M (parentB n.path)
          have := hNd.len
          unfold maxLen; omega
        have heq := fun w : World => run_eql_map_nil (P := Tryz.prog) w 155 9 156 (some b) Tryz.underlying155
        have hfin : ∀ w6 : World, SMap Tryz.prog 9 w6 b (mput (kidsOf M (parentB n.path)) (nameB n.path).data.toList (.agg #[])) → w5.mapTurned w6 b →
            TreeAt (fun k => S k ∨ (w.heap.size ≤ k ∧ k < w6.heap.size)) w6 bt (mput M (keyN n) n) (N + 1) ∧ Mod S w w6 := fun w6 hs6 ht6 => by
          have hz6 := turned_size ht6
          have hM6 : Mod S w w6 := hM5.trans (Mod.turned ht6 hSb)
          have hM36 : Mod S w3 w6 := (Mod.of_ext he5).trans (Mod.turned ht6 hSb)
          have hz5 := he5.size
          have hS' : ∀ k, (S k ∨ (w.heap.size ≤ k ∧ k < w3.heap.size)) → S k ∨ (w.heap.size ≤ k ∧ k < w6.heap.size) := fun k h => h.imp id fun h => ⟨h.1, by omega⟩
          refine ⟨⟨bn, bk, K, ⟨hM6.cells hd.blk, .inl hd.st, .inl hd.sn, .inl hd.sk, hd.ne, fun k hk => hk.elim (fun h => by have := hbS k h; omega) (fun h => h.2)⟩, ?_, ?_⟩, hM6⟩
          · exact hNn.keep ((turned_other ht6 hE.2.1.symm).trans (he5.block bn (hbS _ hd.sn))) hS' (fun b o u _ hu => hM36.cell hu) (Nat.le_refl _)
          · exact (hK5.put_old hNd.ok hn HNE.out HROOT.out hg hs6 ht6).keep rfl (fun _ h => .inl h) (fun _ _ => rfl) (Nat.le_refl _)
        have HFIN := Lib.hid hfin
        clear hfin hE hK5 hNn hM5 he5 hbS hw5 hw3 HNE HROOT hlt3 hbl hg
        go_wp2_with (at_mapUpdate; refine wpList_put _ rfl _ _ _ 155 rfl 9 156 strT Tryz.underlying155 b _ hSM hlen rfl (nameB n.path) hns rfl _ rfl ?_; intro w6 hs6 ht6)
        exact bodyPost_end (results_none rfl _ _ _) rfl ⟨rfl, (HFIN.out w6 hs6 ht6).1, (HFIN.out w6 hs6 ht6).2⟩
      | none =>
        rw [hg] at hl5
        have hl5' : (Instr.lookup 93 (.map (some bk)) (.string (parentB n.path)) false).run Tryz.prog w5 = .ok (.map none) w5 := hl5
        clear hl5
        have heq := fun w : World => run_eql_map_nil (P := Tryz.prog) w 155 9 156 none Tryz.underlying155
        have hmm := @run_makeMap Tryz.prog
        have hz5 := he5.size
        have hb5 : ∀ k, S k → k < w5.heap.size := fun k h => by have := hbS k h; omega
        have hSM : SMap Tryz.prog 9 (w5.alloc (.map #[] 0)) bk (kidsV K) := hK5.map.keep (Below.heap_alloc w5 _ bk (hb5 _ hd.sk))
        have hlen : (kidsV K).length < maxLen := by
          have := hK5.len
          unfold kidsV maxLen; rw [List.length_map]; omega
        have hstep : ∀ w7 : World, SMap Tryz.prog 9 w7 bk (mput (kidsV K) (parentB n.path).data.toList (.map (some w5.heap.size))) → (w5.alloc (.map #[] 0)).mapTurned w7 bk →
            Box w7 bt (treeC bn bk) ∧ SMap Tryz.prog 9 w7 w5.heap.size [] ∧
            (Instr.lookup 93 (.map (some bk)) (.string (parentB n.path)) false).run Tryz.prog w7 = .ok (.map (some w5.heap.size)) w7 := fun w7 hs7 ht7 => by
          have hM7 : Mod S w w7 := (hM5.trans (Mod.of_ext (Ext.alloc w5 _))).trans (Mod.turned ht7 hd.sk)
          refine ⟨fun j => cell_of_row _ _ _ _ _ _ (hM7.cells hd.blk), (SMap.made _ _ w5).keep (turned_other ht7 (by have := hb5 _ hd.sk; omega)), ?_⟩
          have := SMap.look (e := 155) hs7 strT Tryz.underlying93 (z := .map none) (by kernel_rfl) hps
          rw [mget_of_mem (mput_sorted (SMap.sorted (Maps.string_keyed strT) hSM) _ _) (mem_mput.2 (.inl rfl))] at this
          exact this
        have hfin : ∀ w7 w8 : World, SMap Tryz.prog 9 w7 bk (mput (kidsV K) (parentB n.path).data.toList (.map (some w5.heap.size))) → (w5.alloc (.map #[] 0)).mapTurned w7 bk →
            SMap Tryz.prog 9 w8 w5.heap.size (mput [] (nameB n.path).data.toList (.agg #[])) → w7.mapTurned w8 w5.heap.size →
            TreeAt (fun k => S k ∨ (w.heap.size ≤ k ∧ k < w8.heap.size)) w8 bt (mput M (keyN n) n) (N + 1) ∧ Mod S w w8 := fun w7 w8 hs7 ht7 hs8 ht8 => by
          have hz7 := turned_size ht7
          have hz8 := turned_size ht8
          rw [World.size_alloc] at hz7
          have hM7 : Mod S w w7 := (hM5.trans (Mod.of_ext (Ext.alloc w5 _))).trans (Mod.turned ht7 hd.sk)
          have hM8 : Mod S w w8 := hM7.turned_new ht8 hw5
          have hM37 : Mod S w3 w7 := ((Mod.of_ext he5).trans (Mod.of_ext (Ext.alloc w5 _))).trans (Mod.turned ht7 hd.sk)
          have hM38 : Mod S w3 w8 := hM37.turned_new ht8 (by omega)
          have hS' : ∀ k, (S k ∨ (w.heap.size ≤ k ∧ k < w3.heap.size)) → S k ∨ (w.heap.size ≤ k ∧ k < w8.heap.size) := fun k h => h.imp id fun h => ⟨h.1, by omega⟩
          refine ⟨⟨bn, bk, mput K (parentB n.path).data.toList w5.heap.size, ⟨hM8.cells hd.blk, .inl hd.st, .inl hd.sn, .inl hd.sk, hd.ne, fun k hk => hk.elim (fun h => by have := hb5 k h; omega) (fun h => h.2)⟩, ?_, ?_⟩, hM8⟩
          · exact hNn.keep ((turned_other ht8 (by have := hb5 _ hd.sn; omega)).trans ((turned_other ht7 hd.ne).trans ((Below.heap_alloc w5 _ bn (hb5 _ hd.sn)).trans (he5.block bn (hbS _ hd.sn))))) hS' (fun b o u _ hu => hM38.cell hu) (Nat.le_refl _)
          · exact hK5.put_new hNd.ok hn HNE.out HROOT.out hg (fun _ h => .inl h) (.inr ⟨hw5, by omega⟩) (fun k h => by have := hb5 k h; omega) hd.sn hd.sk (fun k h => Below.heap_alloc w5 _ k (hb5 k h)) ht7 hs7 ht8 hs8
        have hl0 : ([] : List (Key × Value)).length < maxLen := by unfold maxLen; simp
        have HFIN := Lib.hid hfin
        have HSTEP := Lib.hid hstep
        clear hfin hstep hK5 hNn hM5 he5 hbS hw5 hw3 HNE HROOT hlt3 hbl hg hb5 hz5
        go_wp2_with (first | (at_mapUpdate; refine wpList_put _ rfl _ _ _ 93 rfl 9 155 strT Tryz.underlying93 bk _ hSM hlen rfl (parentB n.path) hps rfl (.map (some w5.heap.size)) rfl ?_; intro w7 hs7 ht7; have hq := HSTEP.out w7 hs7 ht7; have hl7 := hq.2.2; have hm7 := hq.2.1; have hy7 := hq.1; unfold Box treeC at hy7; clear hq hl5' hy5 hSM hlen) | (at_mapUpdate; refine wpList_put _ rfl _ _ _ 155 rfl 9 156 strT Tryz.underlying155 w5.heap.size _ hm7 hl0 rfl (nameB n.path) hns rfl (.agg #[]) rfl ?_; intro w8 hs8 ht8))
        exact bodyPost_end (results_none rfl _ _ _) rfl ⟨rfl, (HFIN.out w7 w8 hs7 ht7 hs8 ht8).1, (HFIN.out w7 w8 hs7 ht7 hs8 ht8).2⟩
end Go.Proofs.YtclekhjnnljjlaaGreatDoor
namespace Go.Proofs.YtclekhjnnljjlaaGreatDoor
open Go.RowKit
set_option maxHeartbeats 2000000
set_option maxRecDepth 100000

/-- A tree without nodes, as New and From begin it. -/
def emptyW (w : World) : World := ((w.alloc (.map #[] 0)).alloc (.map #[] 0)).alloc (.cells (treeC w.heap.size (w.heap.size + 1)) 95)
theorem emptyW_size (w : World) : (emptyW w).heap.size = w.heap.size + 1 + 1 + 1 := by simp [emptyW]
theorem emptyW_ext (w : World) : Ext w (emptyW w) := ((Ext.alloc w _).trans (Ext.alloc _ _)).trans (Ext.alloc _ _)
theorem tree_empty (w : World) : TreeAt (fun k => w.heap.size ≤ k ∧ k < (emptyW w).heap.size) (emptyW w) (w.heap.size + 1 + 1) [] 0 := by
  have hz := emptyW_size w
  have h1 : SMap Tryz.prog 9 (emptyW w) w.heap.size [] := (SMap.made Tryz.prog 9 w).keep (by
    show (((w.alloc (.map #[] 0)).alloc (.map #[] 0)).alloc _).heap[w.heap.size]? = _
    rw [Below.heap_alloc _ _ _ (by simp; omega), Below.heap_alloc _ _ _ (by simp)])
  have h2 : SMap Tryz.prog 9 (emptyW w) (w.heap.size + 1) [] := by
    have h := SMap.made Tryz.prog 9 (w.alloc (.map #[] 0))
    rw [World.size_alloc] at h
    refine h.keep ?_
    show (((w.alloc (.map #[] 0)).alloc (.map #[] 0)).alloc _).heap[w.heap.size + 1]? = _
    rw [Below.heap_alloc _ _ _ (by simp)]
  refine ⟨w.heap.size, w.heap.size + 1, [], ⟨?_, ⟨by omega, by omega⟩, ⟨by omega, by omega⟩, ⟨by omega, by omega⟩, by omega, fun k hk => hk.2⟩, ⟨⟨[], h1, .nil⟩, MOk.nil, Nat.le_refl _⟩, ⟨h2, Nat.le_refl _, fun x hx => by simp at hx, List.Pairwise.nil, fun p _ => rfl⟩⟩
  have h := heap_alloc_new ((w.alloc (.map #[] 0)).alloc (.map #[] 0)) (.cells (treeC w.heap.size (w.heap.size + 1)) 95)
  simp only [World.size_alloc] at h
  exact h

def rootAc : Ac := ⟨31, ⟨#[119, 111, 114, 108, 100]⟩, ⟨#[97, 110, 121, 111, 110, 101]⟩⟩
def rootN : Nd := newN rootP [] [rootAc] 0 0 0
theorem rootN_right : rightN rootN = 0 := by decide +kernel

def NewOut (w : World) (e : Ending) (w' : World) : Prop := ∃ b, e = .returned (.pointer (some ⟨b, 0, none⟩)) ∧ TreeAt (fun k => w.heap.size ≤ k ∧ k < w'.heap.size) w' b [(keyN rootN, rootN)] 1 ∧ Ext w w'

theorem new_any (w : World) : Calls Tryz.prog 33 #[] w (NewOut w) := by
  have hz := emptyW_size w
  have hE := emptyW_ext w
  have hTr := tree_empty w
  obtain ⟨W1, hW1⟩ : ∃ W1, W1 = (emptyW w).alloc (.cells #[.int .i32 31, .string ⟨#[119, 111, 114, 108, 100]⟩, .string ⟨#[97, 110, 121, 111, 110, 101]⟩] 146) := ⟨_, rfl⟩
  have hE1 : Ext (emptyW w) W1 := by rw [hW1]; exact Ext.alloc _ _
  have hs1 : W1.heap.size = w.heap.size + 1 + 1 + 1 + 1 := by rw [hW1, World.size_alloc, hz]
  have hA : Cells W1.heap.size W1 (some ⟨w.heap.size + 1 + 1 + 1, 0, none⟩) (acCs [rootAc]) := fun j u hj => by
    refine ⟨_, 0, rfl, by omega, ?_⟩
    have h := heap_alloc_new (emptyW w) (.cells #[.int .i32 31, .string ⟨#[119, 111, 114, 108, 100]⟩, .string ⟨#[97, 110, 121, 111, 110, 101]⟩] 146)
    rw [hz, ← hW1] at h
    rw [Nat.zero_add, cell_of_row _ _ _ _ _ _ h]
    simpa [acCs, acC, rootAc] using hj
  have C1 := snew_nd rootP [] [rootAc] 0 0 0 none (some ⟨w.heap.size + 1 + 1 + 1, 0, none⟩) 0 1 W1 (right_fit rootN_right).1 (Cells.nil _ _ _) hA
  rw [hW1] at C1
  have HW1 := Lib.hid hW1
  unfold emptyW treeC rootP at C1
  unfold emptyW treeC at HW1
  have C1 := Lib.hid C1
  have hmm := @run_makeMap Tryz.prog
  clear hA hW1
  go_enter Tryz.func33, Tryz.ntmps33
  go_wp2_with fail
  refine C1.out.mono ?_
  rintro e w2 ⟨v, rfl, hN, hb2⟩
  rw [← HW1.out] at hb2 hN
  obtain ⟨va, vc, vb, vd, rfl, h1, h2⟩ := hN
  have hE2 : Ext (emptyW w) w2 := hE1.trans hb2
  have hT2 := hTr.ext hE2
  have C2 := lay_any _ w2 _ [] 0 hT2 rootN va vb vc vd rootN_right rfl (by omega) (h1.cells fun b hb => hb.2) (h2.cells fun b hb => hb.2)
  have C2 := Lib.hid C2
  have hEw := hE.trans hE2
  clear C1 h1 h2 HW1 hmm hTr hT2 hb2
  go_wp2_with fail
  refine C2.out.mono ?_
  rintro e w3 ⟨rfl, hT3, hM⟩
  have hz2 := hE2.size
  have hz3 := hM.size
  have hfin : NewOut w (.returned (.pointer (some ⟨w.heap.size + 1 + 1, 0, none⟩))) w3 :=
    ⟨_, rfl, hT3.keep (fun _ _ => rfl) (fun k hk => ⟨by rcases hk with h | h <;> omega, hT3.bound k hk⟩) (fun k hk => hk.2) (Nat.le_refl _), hEw.trans' (hM.below (B := w.heap.size) (fun k hk => hk.1) (by omega))⟩
  have HF := Lib.hid hfin
  clear hfin C2 hT3 hM hEw
  go_wp2
  go_ret
  exact HF.out
end Go.Proofs.YtclekhjnnljjlaaGreatDoor
namespace Go.Proofs.YtclekhjnnljjlaaGreatDoor
open Go.RowKit
set_option maxHeartbeats 2000000
set_option maxRecDepth 100000

def zeroNd : Array Value := #[.string ⟨#[]⟩, .slice none 0 0, .slice none 0 0, .int .i64 0, .int .i64 0, .int .i64 0, .int .i64 0, .int .i64 0, .int .i64 0, .int .i64 0, .int .i64 0, .int .i32 0, .int .i32 0, .int .i32 0, .bool false, .int .i64 0, .int .i64 0]

/-- Below a block number nothing has turned; rows keep their size. -/
structure Shp (B : Nat) (w w' : World) : Prop where
  below : Below B w w'
  rows : ∀ (g : Nat) (cs : Array Value) (t : TypeId), w.heap[g]? = some (.cells cs t (0, 0)) → ∃ cs' : Array Value, w'.heap[g]? = some (.cells cs' t (0, 0)) ∧ cs'.size = cs.size
theorem Shp.refl (B : Nat) (w : World) : Shp B w w := ⟨Below.refl _ _, fun _ cs _ h => ⟨cs, h, rfl⟩⟩
theorem Shp.trans {B : Nat} {a b c : World} (h : Shp B a b) (k : Shp B b c) : Shp B a c := ⟨h.below.trans k.below, fun g cs t hg => by
  obtain ⟨c1, h1, h2⟩ := h.rows g cs t hg
  obtain ⟨c2, h3, h4⟩ := k.rows g c1 t h1
  exact ⟨c2, h3, h4.trans h2⟩⟩
theorem Shp.of_ext {B : Nat} {a b : World} (h : Ext a b) (hB : B ≤ a.heap.size) : Shp B a b := ⟨Below.mono h hB, fun g cs t hg => ⟨cs, (h.block g (Array.getElem?_eq_some_iff.1 hg).1).trans hg, rfl⟩⟩

def PhiT (n0 bt bn g : Nat) (s : ByteArray) (x : Value) (bb : Bool) : Nat → Value → World → Prop
  | 0, v, _ => v = .pointer (some ⟨bt, 0, none⟩)
  | 1, v, _ => v = .pointer (some ⟨bt, 0, none⟩)
  | 2, v, _ => v = .pointer (some ⟨bt, 0, none⟩)
  | 3, v, _ => v = .map (some bn)
  | 4, v, _ => v = .pointer (some ⟨g, 0, none⟩)
  | 5, v, _ => v = .string s
  | 6, v, _ => v = .tuple #[x, .bool bb]
  | 7, v, _ => v = .tuple #[x, .bool bb]
  | 8, v, _ => v = x
  | 9, v, _ => v = .bool bb
  | 10, v, w => ∃ (g : Nat) (cs : Array Value), v = .pointer (some ⟨g, 0, none⟩) ∧ n0 ≤ g ∧ w.heap[g]? = some (.cells cs 88 (0, 0)) ∧ cs.size = 17
  | 12, v, _ => v = .bool bb
  | _, _, _ => True
theorem PhiT.stab (B n0 bt bn g : Nat) (s : ByteArray) (x : Value) (bb : Bool) (i : Nat) (v : Value) (w w' : World) (h : PhiT n0 bt bn g s x bb i v w) (he : Shp B w w') : PhiT n0 bt bn g s x bb i v w' := by
  unfold PhiT at h ⊢
  split at h <;> first | exact h | (obtain ⟨g, cs, h1, h2, h3, h4⟩ := h; obtain ⟨c', k1, k2⟩ := he.rows g cs _ h3; exact ⟨g, c', h1, h2, k1, k2.trans h4⟩)

theorem there_region {id : Nat} {Q : Exit → Act → World → Prop} {a0 : Act} {w0 : World} (s0 s1 s2 s3 s4 s5 s6 s7 s8 s9 s10 s11 tt bx : Tmp) (pos : String) (m : Nat)
    (hsz : a0.tmps.size = m) (hnd : decide ([s0, s1, s2, s3, s4, s5, s6, s7, s8, s9, s10, s11].Nodup) = true) (hlt : ([s0, s1, s2, s3, s4, s5, s6, s7, s8, s9, s10, s11].all fun s => decide (s < m)) = true)
    (hnt : ([s0, s1, s2, s3, s4, s5, s6, s7, s8, s9, s10, s11].all fun s => s != tt && s != bx) = true)
    {S : Nat → Prop} {bt bn bk : Nat} {M : List (Key × Nd)} {N : Nat} (hd : Hd S w0 bt bn bk) (hNd : NodesAt S w0 bn M N) (g : Nat) (s : ByteArray) (cs : Array Value) (hbox : w0.heap[g]? = some (.cells cs 88 (0, 0))) (hcs : cs[0]? = some (.string s)) (hps : s.size ≤ maxLen)
    (htt : a0.tmps.getD tt undef = .pointer (some ⟨bt, 0, none⟩)) (hbx : a0.tmps.getD bx undef = .pointer (some ⟨g, 0, none⟩))
    (hend : ∀ u0 u1 u2 u3 u4 u5 u6 u7 u8 u9 u10 w, Ext w0 w → Q .normal (((((((((((((a0.put (some s0) u0).put (some s1) u1).put (some s2) u2).put (some s3) u3).put (some s4) u4).put (some s5) u5).put (some s6) u6).put (some s7) u7).put (some s8) u8).put (some s9) u9).put (some s10) u10).put (some s11) (.bool (mget M s.data.toList).isSome))) w) :
    (Code.region id #[{ dst := some s0, op := Op.move (Operand.tmp tt), type := 36, pos := pos, after := #[], guard := none }, { dst := some s1, op := Op.nilCheck (Operand.tmp s0), type := 0, pos := pos, after := #[{ on := 0, ground := Ground.data }], guard := none }, { dst := some s2, op := Op.fieldAddr 95 (Operand.tmp s1) 0, type := 0, pos := pos, after := #[{ on := 1, ground := Ground.data }], guard := none }, { dst := some s3, op := Op.load 92 (Operand.tmp s2), type := 92, pos := pos, after := #[{ on := 2, ground := Ground.data }], guard := none }, { dst := some s4, op := Op.fieldAddr 88 (Operand.tmp bx) 0, type := 0, pos := pos, after := #[], guard := none }, { dst := some s5, op := Op.load 9 (Operand.tmp s4), type := 9, pos := pos, after := #[{ on := 4, ground := Ground.data }], guard := none }, { dst := some s6, op := Op.lookup 92 (Operand.tmp s3) (Operand.tmp s5) true, type := 99, pos := pos, after := #[{ on := 3, ground := Ground.data }, { on := 5, ground := Ground.data }], guard := none }, { dst := some s7, op := Op.move (Operand.tmp s6), type := 99, pos := pos, after := #[{ on := 6, ground := Ground.data }], guard := none }, { dst := some s8, op := Op.extract (Operand.tmp s7) 0, type := 88, pos := pos, after := #[{ on := 7, ground := Ground.data }], guard := none }, { dst := some s9, op := Op.extract (Operand.tmp s7) 1, type := 4, pos := pos, after := #[{ on := 7, ground := Ground.data }, { on := 11, ground := Ground.gcOnly Departure.lateStores }], guard := none }, { dst := some s10, op := Op.alloc 88, type := 0, pos := pos, after := #[], guard := none }, { dst := none, op := Op.store 88 (Operand.tmp s10) (Operand.tmp s8), type := 0, pos := pos, after := #[{ on := 10, ground := Ground.data }, { on := 8, ground := Ground.data }, { on := 0, ground := Ground.phase }, { on := 1, ground := Ground.phase }, { on := 2, ground := Ground.phase }, { on := 3, ground := Ground.phase }, { on := 4, ground := Ground.phase }, { on := 5, ground := Ground.phase }, { on := 6, ground := Ground.phase }, { on := 7, ground := Ground.phase }, { on := 8, ground := Ground.phase }, { on := 9, ground := Ground.textOnly Departure.lateStores }, { on := 10, ground := Ground.phase }], guard := none }, { dst := some s11, op := Op.assign (Operand.tmp s9), type := 4, pos := pos, after := #[{ on := 9, ground := Ground.data }, { on := 11, ground := Ground.chain }, { on := 0, ground := Ground.phase }, { on := 1, ground := Ground.phase }, { on := 2, ground := Ground.phase }, { on := 3, ground := Ground.phase }, { on := 4, ground := Ground.phase }, { on := 5, ground := Ground.phase }, { on := 6, ground := Ground.phase }, { on := 7, ground := Ground.phase }, { on := 8, ground := Ground.phase }, { on := 9, ground := Ground.phase }, { on := 10, ground := Ground.phase }, { on := 11, ground := Ground.phase }], guard := none }] true).wp Tryz.prog Q a0 w0 := by
  obtain ⟨mm, hm, hr⟩ := hNd.ex
  have hx : ∃ (da : Option Addr) (dc : Nat × Nat) (aa : Option Addr) (ac : Nat × Nat) (nn : Nd), (mget mm s.data.toList).getD (.agg zeroNd) = .agg (ndC nn (.slice da dc.1 dc.2) (.slice aa ac.1 ac.2)) := by
    rcases hr.get s.data.toList with ⟨_, h2⟩ | ⟨y, v, _, h2, h3⟩
    · rw [h2]; exact ⟨none, (0, 0), none, (0, 0), ⟨⟨#[]⟩, [], [], 0, 0, 0, 0, 0, 0, 0, 0, 0, 0, 0, false, 0, 0⟩, rfl⟩
    · obtain ⟨da, dc, aa, ac, rfl, _⟩ := h3
      rw [h2]; exact ⟨da, (_, dc), aa, (_, ac), y, rfl⟩
  have hbb : (mget mm s.data.toList).isSome = (mget M s.data.toList).isSome := by
    rcases hr.get s.data.toList with ⟨h1, h2⟩ | ⟨y, v, h1, h2, _⟩
    · rw [h1, h2]; rfl
    · rw [h1, h2]; rfl
  obtain ⟨da, dc, aa, ac, nn, hx⟩ := hx
  have hbtl := hd.bound _ hd.st
  have hgl : g < w0.heap.size := (Array.getElem?_eq_some_iff.1 hbox).1
  simp only [List.all_cons, List.all_nil, Bool.and_eq_true, bne_iff_ne, ne_eq, Bool.and_true, decide_eq_true_eq] at hnt hlt
  have nt : ∀ (ops : Array Oper) (t : Tmp), ops.toList.map (·.dst) = [some s0, some s1, some s2, some s3, some s4, some s5, some s6, some s7, some s8, some s9, some s10, none, some s11] → (¬ s0 = t ∧ ¬ s1 = t ∧ ¬ s2 = t ∧ ¬ s3 = t ∧ ¬ s4 = t ∧ ¬ s5 = t ∧ ¬ s6 = t ∧ ¬ s7 = t ∧ ¬ s8 = t ∧ ¬ s9 = t ∧ ¬ s10 = t ∧ ¬ s11 = t) → (ops.toList.all fun o => o.dst != some t) = true := fun ops t h hn => by
    have e : (ops.toList.all fun o => o.dst != some t) = (ops.toList.map (·.dst)).all fun d => d != some t := by rw [List.all_map]; rfl
    rw [e, h]
    simp [hn]
  refine wp_region_rel_e m (Shp w0.heap.size) (Shp.refl _) (fun _ _ _ => Shp.trans) (fun w => ⟨(Below.refl _ w).drew, fun _ cs _ h => ⟨cs, h, rfl⟩⟩) (by kernel_rfl) (PhiT w0.heap.size bt bn g s ((mget mm s.data.toList).getD (.agg zeroNd)) (mget M s.data.toList).isSome) (PhiT.stab _ _ _ _ _ _ _ _) ?hund ?hchk hsz ?hd ?hend
  case hund =>
    intro i v w h ho
    by_cases h11 : i = 11
    · subst h11; exact trivial
    · match i, h11, ho with
      | 0, _, ho | 1, _, ho | 2, _, ho | 3, _, ho | 4, _, ho | 5, _, ho | 6, _, ho | 7, _, ho | 8, _, ho | 9, _, ho | 10, _, ho | 12, _, ho => simp at ho
      | i + 13, _, ho => simp at ho
  case hchk =>
    simp only [Bool.and_eq_true]
    refine ⟨⟨hnd, ?_⟩, ?_⟩
    · rfl
    · simp [hlt]
  case hend =>
    intro us w hS hl hP
    obtain ⟨u0, u1, u2, u3, u4, u5, u6, u7, u8, u9, u10, u11, u12, rfl⟩ := us13 us hl
    have e12 : u12 = .bool (mget M s.data.toList).isSome := hP 12 _ rfl
    rw [e12]
    have h := hend u0 u1 u2 u3 u4 u5 u6 u7 u8 u9 u10 w hS.below
    simp only [filled, List.zip_cons_cons, List.zip_nil_right, List.foldl_cons, List.foldl_nil, put_none]
    exact h
  case hd =>
    refine ⟨?_, ?_, ?_, ?_, ?_, ?_, ?_, ?_, ?_, ?_, ?_, ?_, ?_, trivial⟩
    · exact dutyR_free rfl fun a w' hE hF hA => wp_value (w' := w') (ex_move rfl) ⟨_, rfl, hF.slot tt _ (nt _ tt rfl (by simp [hnt])) htt, Shp.refl _ _⟩
    · refine dutyR_free rfl fun a w' hE hF hA => ?_
      have x1 : a.eval (.tmp s0) = _ := hA.slot 0 s0 rfl rfl ⟨⟨0, .data⟩, by simp, rfl, rfl⟩
      exact wp_value (ex_nilCheck rfl _ x1) ⟨_, rfl, rfl, Shp.refl _ _⟩
    · refine dutyR_free rfl fun a w' hE hF hA => ?_
      have x1 : a.eval (.tmp s1) = _ := hA.slot 1 s1 rfl rfl ⟨⟨1, .data⟩, by simp, rfl, rfl⟩
      exact wp_value (v := .pointer (some ⟨bt, 0, none⟩)) (w' := w') (by simp only [execOp, x1]; simp [go_sem]) ⟨_, rfl, rfl, Shp.refl _ _⟩
    · refine dutyR_free rfl fun a w' hE hF hA => ?_
      have x1 : a.eval (.tmp s2) = _ := hA.slot 2 s2 rfl rfl ⟨⟨2, .data⟩, by simp, rfl, rfl⟩
      refine wp_value (ex_cell rfl _ (.map (some bn)) x1 ?_ rfl Tryz.underlying92) ⟨_, rfl, rfl, Shp.refl _ _⟩
      exact cell_of_row w' bt 0 _ _ _ ((hE.below.block bt hbtl).trans hd.blk)
    · refine dutyR_free rfl fun a w' hE hF hA => ?_
      have x1 : a.eval (.tmp bx) = _ := hF.slot bx _ (nt _ bx rfl (by simp [hnt])) hbx
      exact wp_value (v := .pointer (some ⟨g, 0, none⟩)) (w' := w') (by simp only [execOp, x1]; simp [go_sem]) ⟨_, rfl, rfl, Shp.refl _ _⟩
    · refine dutyR_free rfl fun a w' hE hF hA => ?_
      have x1 : a.eval (.tmp s4) = _ := hA.slot 4 s4 rfl rfl ⟨⟨4, .data⟩, by simp, rfl, rfl⟩
      refine wp_value (ex_cell rfl _ (.string s) x1 ?_ rfl Tryz.underlying9) ⟨_, rfl, rfl, Shp.refl _ _⟩
      rw [cell_of_row w' g 0 _ _ _ ((hE.below.block g hgl).trans hbox)]
      exact hcs
    · refine dutyR_free rfl fun a w' hE hF hA => ?_
      have x1 : a.eval (.tmp s3) = _ := hA.slot 3 s3 rfl rfl ⟨⟨3, .data⟩, by simp, rfl, rfl⟩
      have x2 : a.eval (.tmp s5) = _ := hA.slot 5 s5 rfl rfl ⟨⟨5, .data⟩, by simp, rfl, rfl⟩
      have hq := SMap.look_ok (e := 88) (hm.keep (hE.below.block bn (hd.bound _ hd.sn))) strT Tryz.underlying92 (z := .agg zeroNd) (by kernel_rfl) hps
      rw [hbb] at hq
      exact wp_value (w' := w') (by simp only [execOp, x1, x2, hq, Sem.run_bind, Result.andThen_ok, Sem.run_pure]) ⟨_, rfl, rfl, Shp.refl _ _⟩
    · refine dutyR_free rfl fun a w' hE hF hA => ?_
      exact wp_value (w' := w') (ex_move rfl) ⟨_, rfl, hA.slot 6 s6 rfl rfl ⟨⟨6, .data⟩, by simp, rfl, rfl⟩, Shp.refl _ _⟩
    · refine dutyR_free rfl fun a w' hE hF hA => ?_
      have x1 : a.eval (.tmp s7) = _ := hA.slot 7 s7 rfl rfl ⟨⟨7, .data⟩, by simp, rfl, rfl⟩
      exact wp_value (v := (mget mm s.data.toList).getD (.agg zeroNd)) (w' := w') (by simp only [execOp, x1]; simp [go_sem]) ⟨_, rfl, rfl, Shp.refl _ _⟩
    · refine dutyR_free rfl fun a w' hE hF hA => ?_
      have x1 : a.eval (.tmp s7) = _ := hA.slot 7 s7 rfl rfl ⟨⟨7, .data⟩, by simp, rfl, rfl⟩
      exact wp_value (v := .bool (mget M s.data.toList).isSome) (w' := w') (by simp only [execOp, x1]; simp [go_sem]) ⟨_, rfl, rfl, Shp.refl _ _⟩
    · refine dutyR_free rfl fun a w' hE hF hA => ?_
      exact wp_value (w' := w'.alloc (.cells zeroNd 88)) (v := .pointer (some ⟨w'.heap.size, 0, none⟩)) (by kernel_rfl) ⟨_, rfl, ⟨_, _, rfl, hE.below.size, heap_alloc_new w' _, rfl⟩, Shp.of_ext (Ext.alloc _ _) hE.below.size⟩
    · refine dutyR_free rfl fun a w' hE hF hA => ?_
      obtain ⟨g', c', x1, hg0, hg', hc'⟩ := hA.slot 10 s10 rfl rfl ⟨⟨10, .data⟩, by simp, rfl, rfl⟩
      have x2 : a.eval (.tmp s8) = _ := hA.slot 8 s8 rfl rfl ⟨⟨8, .data⟩, by simp, rfl, rfl⟩
      rw [hx] at x2
      refine wp_store_row 88 (.tmp s10) (.tmp s8) rfl g' _ x1 x2 88 c' hg' sizeNd hc' (cells_node nn da aa _ _ _ _) ⟨_, rfl, trivial, ⟨⟨rfl, rfl, rfl, by simp, fun k hk => setRow_other _ _ _ _ (by omega)⟩, fun k cs t hk => ?_⟩⟩
      by_cases e : k = g'
      · subst e
        rw [hg'] at hk
        cases hk
        exact ⟨_, setRow_heap _ _ _ _ _ _ hg', hc'.symm⟩
      · exact ⟨cs, (setRow_other _ _ _ _ e).trans hk, rfl⟩
    · refine dutyR_free rfl fun a w' hE hF hA => ?_
      exact wp_value (w' := w') (ex_assign rfl) ⟨_, rfl, hA.slot 9 s9 rfl rfl ⟨⟨9, .data⟩, by simp, rfl, rfl⟩, Shp.refl _ _⟩
end Go.Proofs.YtclekhjnnljjlaaGreatDoor
namespace Go.Proofs.YtclekhjnnljjlaaGreatDoor
open Go.RowKit

/-- A slice of nodes: each node's seventeen cells in a row, its two slices' cells below a block number. -/
def NdsAt (B : Nat) (w : World) (a : Option Addr) (L : List Nd) : Prop :=
  ∀ i n, L[i]? = some n → ∃ b off v, a = some ⟨b, off, none⟩ ∧ b < B ∧ NdV B w v n ∧ ∀ j u, v.cells[j]? = some u → w.cell? ⟨b, off + i * 17 + j, none⟩ = some u

theorem NdV.below {B : Nat} {w w' : World} {v : Value} {n : Nd} (h : NdV B w v n) (hb : Below B w w') : NdV B w' v n := by
  obtain ⟨da, dc, aa, ac, rfl, h1, h2⟩ := h
  exact ⟨da, dc, aa, ac, rfl, h1.below hb, h2.below hb⟩
theorem NdV.mono {B B' : Nat} {w : World} {v : Value} {n : Nd} (h : NdV B w v n) (hb : B ≤ B') : NdV B' w v n := by
  obtain ⟨da, dc, aa, ac, rfl, h1, h2⟩ := h
  exact ⟨da, dc, aa, ac, rfl, h1.mono hb, h2.mono hb⟩
theorem NdsAt.below {B : Nat} {w w' : World} {a : Option Addr} {L : List Nd} (h : NdsAt B w a L) (hb : Below B w w') : NdsAt B w' a L := fun i n hi => by
  obtain ⟨b, off, v, h1, h2, h3, h4⟩ := h i n hi
  exact ⟨b, off, v, h1, h2, h3.below hb, fun j u hj => (hb.cell (p := ⟨b, off + i * 17 + j, none⟩) h2).trans (h4 j u hj)⟩

theorem addr_add (b o j : Nat) : (⟨b, o, none⟩ : Addr).add j = ⟨b, o + j, none⟩ := by unfold Addr.add; split <;> simp_all

/-- A struct is read out of the middle of a block. -/
theorem run_loadVar_at {P : Program} (w : World) (p : Addr) (ty : TypeId) (cs : Array Value) (d : TypeDesc) (hc : ∀ j u, cs[j]? = some u → w.cell? (p.add j) = some u) (hu : P.underlying ty = some d) (hd : oneD d = false) (hi : (P.info? ty).map (·.size) = some cs.size) :
    (loadVar ty p).run P w = .ok (.agg cs) w := by
  have hl : (loadCells p cs.toList.length).run P w = .ok cs.toList.toArray w := run_loadCells_list (P := P) w p cs.toList (fun j v hv => hc j v (by simpa using hv))
  cases hq : P.info? ty with
  | none => simp [hq] at hi
  | some i =>
    have hs : i.size = cs.size := by simpa [hq] using hi
    have hsz : (sizeOf ty).run P w = .ok i.size w := by simp [sizeOf, typeInfo, hq]
    simp only [loadVar, isAgg, Sem.run_bind, run_underlying hu, Result.andThen_ok]
    have he : cs.toList.length = cs.size := Array.length_toList
    rw [he] at hl
    cases d <;> first | (simp [oneD] at hd; done) | (simp [Sem.run, hsz, hs, hl, Result.andThen])

theorem wpList_load_at {P : Program} {w : World} {ops : Array Oper} {rest : List Oper} {o : Oper} {a : Act} {Q : Exit → Act → World → Prop} (hg : o.guard = none) (ty : TypeId) (x : Operand) (ho : o.op = .load ty x) (p : Addr) (hx : a.eval x = .pointer (some p))
    (cs : Array Value) (d : TypeDesc) (hc : ∀ j u, cs[j]? = some u → w.cell? (p.add j) = some u) (hu : P.underlying ty = some d) (hd : oneD d = false) (hi : (P.info? ty).map (·.size) = some cs.size)
    (hK : wpList P ops Q rest (a.put o.dst (.agg cs)) w) : wpList P ops Q (o :: rest) a w :=
  wpList_plain hg fun K hK' => by
    unfold Oper.wp execOp
    simp only [ho, hx, Instr.loadAt, Instr.sureAddr, Sem.run_bind, Sem.run_pure, Result.andThen_ok, run_loadVar_at w p ty cs d hc hu hd hi]
    exact hK' _ _ hK

/-- What From makes of nodes: the tree, or the place and the number of what is wrong. -/
def fromL : List Nd → Nat → List (Key × Nd) → Except (Nat × Int) (List (Key × Nd))
  | [], _, M => .ok M
  | n :: l, i, M => if rightN n ≠ 0 then .error (i, rightN n) else if (mget M (keyN n)).isSome = true then .error (i, 71) else fromL l (i + 1) (mput M (keyN n) n)
def parL (M : List (Key × Nd)) : List Nd → Nat → Except (Nat × Int) Unit
  | [], _ => .ok ()
  | n :: l, i => if n.path.size ≠ 1 ∧ mget M (parentB n.path).data.toList = none then .error (i, 73) else parL M l (i + 1)
def fromN (L : List Nd) : Except (Nat × Int) (List (Key × Nd)) :=
  match fromL L 0 [] with
  | .error e => .error e
  | .ok M => if mget M [47] = none then .error (0, 70) else match parL M L 0 with
    | .error e => .error e
    | .ok _ => .ok M

theorem fromL_step (L : List Nd) (k : Nat) (n : Nd) (M : List (Key × Nd)) (h : L[k]? = some n) : fromL (L.drop k) k M = if rightN n ≠ 0 then .error (k, rightN n) else if (mget M (keyN n)).isSome = true then .error (k, 71) else fromL (L.drop (k + 1)) (k + 1) (mput M (keyN n) n) := by
  obtain ⟨hk, e⟩ := List.getElem?_eq_some_iff.1 h
  rw [List.drop_eq_getElem_cons hk, e]; rfl
theorem parL_step (M : List (Key × Nd)) (L : List Nd) (k : Nat) (n : Nd) (h : L[k]? = some n) : parL M (L.drop k) k = if n.path.size ≠ 1 ∧ mget M (parentB n.path).data.toList = none then .error (k, 73) else parL M (L.drop (k + 1)) (k + 1) := by
  obtain ⟨hk, e⟩ := List.getElem?_eq_some_iff.1 h
  rw [List.drop_eq_getElem_cons hk, e]; rfl
theorem fromL_right : ∀ (l : List Nd) (i : Nat) (M0 M : List (Key × Nd)), fromL l i M0 = .ok M → ∀ n ∈ l, rightN n = 0
  | [], _, _, _, _, n, hn => by simp at hn
  | x :: l, i, M0, M, h, n, hn => by
    unfold fromL at h
    split at h
    · cases h
    · rename_i hx
      split at h
      · cases h
      · rcases List.mem_cons.1 hn with rfl | hn
        · simpa using hx
        · exact fromL_right l _ _ _ h n hn

/-- What a look into the map of nodes gives. -/
theorem NodesAt.look {S : Nat → Prop} {w : World} {bn : Nat} {M : List (Key × Nd)} {N : Nat} (h : NodesAt S w bn M N) (s : ByteArray) (hs : s.size ≤ maxLen) :
    ∃ cs, (cs.size = 17 ∧ cs.all (·.oneCell') = true) ∧ (Instr.lookup 92 (.map (some bn)) (.string s) true).run Tryz.prog w = .ok (.tuple #[.agg cs, .bool (mget M s.data.toList).isSome]) w ∧
      (Instr.lookup 92 (.map (some bn)) (.string s) false).run Tryz.prog w = .ok (.agg cs) w ∧
      ∀ n, mget M s.data.toList = some n → NdS S w (.agg cs) n := by
  obtain ⟨mm, hm, hr⟩ := h.ex
  have q1 := SMap.look_ok (e := 88) hm strT Tryz.underlying92 (z := .agg zeroNd) (by kernel_rfl) hs
  have q2 := SMap.look (e := 88) hm strT Tryz.underlying92 (z := .agg zeroNd) (by kernel_rfl) hs
  rcases hr.get s.data.toList with ⟨h1, h2⟩ | ⟨y, v, h1, h2, h3⟩
  · rw [h2] at q1 q2
    exact ⟨zeroNd, ⟨rfl, by simp [zeroNd, Value.oneCell']⟩, by rw [h1]; exact q1, q2, fun n hn => by rw [h1] at hn; cases hn⟩
  · obtain ⟨da, dc, aa, ac, rfl, h4⟩ := h3
    rw [h2] at q1 q2
    exact ⟨_, ⟨rfl, cells_node _ _ _ _ _ _ _⟩, by rw [h1]; exact q1, q2, fun n hn => by rw [h1] at hn; cases hn; exact ⟨da, dc, aa, ac, rfl, h4⟩⟩
end Go.Proofs.YtclekhjnnljjlaaGreatDoor
namespace Go.Proofs.YtclekhjnnljjlaaGreatDoor
open Go.RowKit
set_option maxHeartbeats 2000000
set_option maxRecDepth 100000

theorem world_ext {u v : World} (h1 : u.heap = v.heap) (h2 : u.tape = v.tape) (h3 : u.drawn = v.drawn) (h4 : u.os = v.os) (h5 : u.output = v.output) : u = v := by
  cases u; cases v; simp_all
theorem setRow_alloc (w : World) (z cs : Array Value) (t : TypeId) : (w.alloc (.cells z t)).setRow w.heap.size cs = w.alloc (.cells cs t) := by
  refine world_ext ?_ rfl rfl rfl rfl
  apply Array.ext_getElem?
  intro i
  by_cases h : i = w.heap.size
  · subst h
    rw [setRow_heap _ _ _ _ _ _ (heap_alloc_new w (.cells z t)), heap_alloc_new]
  · rw [setRow_other _ _ _ _ h]
    show (w.heap.push _)[i]? = (w.heap.push _)[i]?
    rw [Array.getElem?_push, Array.getElem?_push, if_neg h, if_neg h]

def FromOut (L : List Nd) (w : World) (e : Ending) (w' : World) : Prop :=
  match fromN L with
  | .error (i, x) => e = .returned (.tuple #[.pointer none, .int .i64 i, .int .i64 x]) ∧ Ext w w'
  | .ok M => ∃ b, e = .returned (.tuple #[.pointer (some ⟨b, 0, none⟩), .int .i64 0, .int .i64 0]) ∧ TreeAt (fun k => w.heap.size ≤ k ∧ k < w'.heap.size) w' b M L.length ∧ Ext w w'

theorem fromOut_err {L : List Nd} {w w' : World} {i : Nat} {x : Int} (h : fromN L = .error (i, x)) (hb : Ext w w') : FromOut L w (.returned (.tuple #[.pointer none, .int .i64 i, .int .i64 x])) w' := by
  unfold FromOut; rw [h]; exact ⟨rfl, hb⟩

theorem from_any (L : List Nd) (a : Option Addr) (c : Nat) (w : World) (hT0 : Tabs w) (hL : NdsAt w.heap.size w a L) (hf : ∀ n ∈ L, Fit n) (hl : L.length ≤ 140737488355328) : Calls Tryz.prog 17 #[.slice a L.length c] w (FromOut L w) := by
  have hz := emptyW_size w
  have hE := emptyW_ext w
  have hTr := tree_empty w
  have hmm := @run_makeMap Tryz.prog
  obtain ⟨W1, hW1⟩ : ∃ W1, W1 = emptyW w := ⟨_, rfl⟩
  rw [← hW1] at hz hE hTr
  have HW1 := Lib.hid hW1
  unfold emptyW treeC at HW1
  have hl2 : L.length ≤ 9223372036854775807 := by omega
  clear hW1
  go_enter Tryz.func17, Tryz.ntmps17
  go_wp2
  rw [← HW1.out]
  clear hmm
  go_loopw [25] (fun i wr => ∃ (k : Nat) (M : List (Key × Nd)), k ≤ L.length ∧ i = .int .i64 k ∧ Hid (fromL L 0 [] = fromL (L.drop k) k M) ∧ TreeAt (fun b => w.heap.size ≤ b ∧ b < wr.heap.size) wr (w.heap.size + 1 + 1) M k ∧ Below w.heap.size w wr) (fun i _ => L.length - (intOf i).toNat)
  case atStart => exact ⟨0, [], Nat.zero_le _, rfl, rfl, hTr, hE⟩
  case round =>
    obtain ⟨k, M, hk, rfl, HF, hT, hB⟩ := hrel
    by_cases hlt : k < L.length
    · have hLk : L[k]? = some L[k] := List.getElem?_eq_getElem hlt
      have hfk := hf L[k] (List.getElem_mem hlt)
      have HS := Lib.hid (HF.out.trans (fromL_step L k L[k] M hLk))
      obtain ⟨b, off, v, rfl, hb, hv, hc⟩ := hL k L[k] hLk
      have hLb := hL
      generalize L[k] = n at *
      obtain ⟨da, dc, aa, ac, rfl, hD, hA⟩ := hv
      have hcw : ∀ j u, (ndC n (.slice da n.data.length dc) (.slice aa n.acl.length ac))[j]? = some u → wr.cell? ((⟨b, off + k * 17, none⟩ : Addr).add j) = some u := fun j u hj => by
        rw [addr_add, hB.cell (p := ⟨b, off + k * 17 + j, none⟩) hb]
        exact hc j u hj
      have hDr := (hD.below hB).mono hB.size
      have hAr := (hA.below hB).mono hB.size
      obtain ⟨W2, hW2⟩ : ∃ W2, W2 = wr.alloc (.cells (ndC n (.slice da n.data.length dc) (.slice aa n.acl.length ac)) 88) := ⟨_, rfl⟩
      have he2 : Ext wr W2 := by rw [hW2]; exact Ext.alloc _ _
      have hn2 : W2.heap[wr.heap.size]? = some (.cells (ndC n (.slice da n.data.length dc) (.slice aa n.acl.length ac)) 88 (0, 0)) := by rw [hW2]; exact heap_alloc_new wr _
      have hz2 : W2.heap.size = wr.heap.size + 1 := by rw [hW2]; simp
      have hT2 := hT.ext he2
      have hB2 : Below w.heap.size w W2 := hB.trans (he2.mono hB.size)
      have hu2 : Tabs W2 := hT0.below hB2 hT0.size
      have hD2 := hDr.ext he2
      have hA2 := hAr.ext he2
      have CR := right_any n da aa dc ac W2 hfk hu2 hA2
      have hset := setRow_alloc wr zeroNd (ndC n (.slice da n.data.length dc) (.slice aa n.acl.length ac)) 88
      have HC := Lib.hid hcw
      have HN := Lib.hid hn2
      have HT := Lib.hid hT2
      have HSET := Lib.hid (hset.trans hW2.symm)
      have HNew := Lib.hid (heap_alloc_new wr (.cells zeroNd 88))
      have CR := Lib.hid CR
      have HL := Lib.hid hLb
      unfold ndC at HC HN CR HSET
      unfold zeroNd at HSET HNew
      clear hcw hn2 hT2 hset hW2 hc hL hT hDr hAr hD hA hLb
      go_wp2_with (first | (refine wpList_load_at rfl 88 (.tmp 28) rfl _ rfl _ _ HC.out Tryz.underlying88 rfl sizeNd ?_) | (refine wpList_store_row rfl 88 (.tmp 7) (.tmp 29) rfl wr.heap.size _ rfl rfl 88 _ HNew.out sizeNd rfl (cells_node n da aa _ _ dc ac) ?_; rw [HSET.out]) | (refine wpList_load_row rfl 88 (.tmp 7) rfl wr.heap.size rfl 88 _ (0, 0) _ HN.out Tryz.underlying88 rfl sizeNd ?_))
      refine CR.out.mono ?_
      rintro e w3 ⟨rfl, hb3⟩
      have hE3 : Ext W2 w3 := hb3
      have hB3 : Below w.heap.size w w3 := hB2.trans (hE3.mono hB2.size)
      by_cases hr : rightN n = 0
      · rw [hr]
        have HR := Lib.hid hr
        have hT3 := HT.out.ext hE3
        have hn3 := (hE3.block wr.heap.size (by omega)).trans HN.out
        have hD3 := hD2.ext hE3
        have hA3 := hA2.ext hE3
        obtain ⟨bn, bk, K, hd, hNd, hKd⟩ := hT3
        have hps : n.path.size ≤ maxLen := by
          have := (vpath_facts (right_vpath hr)).2.1
          unfold maxLen; omega
        clear hr CR HC HN HSET HNew hb3 hz2 hD2 hA2 he2 hB2 hu2
        go_wp2
        refine there_region _ _ _ _ _ _ _ _ _ _ _ _ 5 7 _ 91 rfl (by decide) (by decide) (by decide) hd hNd wr.heap.size n.path _ hn3 rfl hps rfl rfl ?_
        intro v0 v1 v2 v3 v4 v5 v6 v7 v8 v9 v10 w4 hE4
        simp only [Act.put]
        go_simp
        rename_i hK
        refine hK _ _ ?_
        have hB4 : Below w.heap.size w w4 := hB3.trans (hE4.mono hB3.size)
        have hT4 : TreeAt (fun b => w.heap.size ≤ b ∧ b < wr.heap.size) w4 (w.heap.size + 1 + 1) M k := TreeAt.ext ⟨bn, bk, K, hd, hNd, hKd⟩ hE4
        have hD4 := hD3.ext hE4
        have hA4 := hA3.ext hE4
        have hn4 := (hE4.block wr.heap.size (Array.getElem?_eq_some_iff.1 hn3).1).trans hn3
        clear hd hNd hKd hn3 hD3 hA3 hB3
        cases hg : mget M n.path.data.toList with
        | some y =>
          have hfin : FromOut L w (.returned (.tuple #[.pointer none, .int .i64 k, .int .i64 71])) w4 := fromOut_err (by
            unfold fromN
            rw [HS.out, if_neg (by rw [HR.out]; simp), if_pos (by unfold keyN; rw [hg]; rfl)]) hB4
          have HFIN := Lib.hid hfin
          clear hfin hT4 hB4 hD4 hA4 hn4 hg HS
          go_wp2
          go_ret3
          exact HFIN.out
        | none =>
          have C3 := lay_any _ w4 _ M k hT4 n da aa dc ac HR.out hg (by omega) hD4 hA4
          have HS2 := Lib.hid (HS.out.trans (by rw [if_neg (by rw [HR.out]; simp), if_neg (by unfold keyN; rw [hg]; simp)]))
          have HN4 := Lib.hid hn4
          have C3 := Lib.hid C3
          unfold ndC at HN4 C3
          have hz4 : wr.heap.size ≤ w4.heap.size := by have := (Array.getElem?_eq_some_iff.1 hn4).1; omega
          clear hT4 hD4 hA4 hn4 hg HS
          go_wp2_with (refine wpList_load_row rfl 88 (.tmp 7) rfl wr.heap.size rfl 88 _ (0, 0) _ HN4.out Tryz.underlying88 rfl sizeNd ?_)
          refine C3.out.mono ?_
          rintro e w5 ⟨rfl, hT5, hM5⟩
          have hz5 := hM5.size
          have hB5 : Below w.heap.size w w5 := hB4.trans (hM5.below (fun b hb => hb.1) (by have := hB4.size; omega))
          have HT5 := Lib.hid hT5
          have hzw := hB.size
          clear C3 HN4 hT5 hM5 hB4
          go_wp2
          go_roundw
          case rel =>
            exact ⟨k + 1, _, by omega, by go_num, HS2.out, HT5.out.keep (fun _ _ => rfl) (fun b hb => ⟨by rcases hb with h | h <;> omega, HT5.out.bound b hb⟩) (fun b hb => hb.2) (Nat.le_refl _), hB5⟩
          case measure => simp [intOf]; omega
      · have hne : (rightN n != 0) = true := by simpa using hr
        have hfin : FromOut L w (.returned (.tuple #[.pointer none, .int .i64 k, .int .i64 (rightN n)])) w3 := fromOut_err (by
          unfold fromN
          rw [HS.out, if_pos hr]) hB3
        have HFIN := Lib.hid hfin
        clear hfin hr HS CR HC HN HSET HNew HT hb3 hE3 hB3 hB2 hD2 hA2 he2 hu2
        go_wp2
        go_ret3
        exact HFIN.out
    · obtain rfl : k = L.length := by omega
      have HF2 : Hid (fromL L 0 [] = .ok M) := by
        have := HF.out
        rw [List.drop_length] at this
        exact this
      obtain ⟨bn, bk, K, hd, hNd, hKd⟩ := hT
      have hT : TreeAt (fun b => w.heap.size ≤ b ∧ b < wr.heap.size) wr (w.heap.size + 1 + 1) M L.length := ⟨bn, bk, K, hd, hNd, hKd⟩
      have hbox : Box wr (w.heap.size + 1 + 1) (treeC bn bk) := fun j => cell_of_row _ _ _ _ _ _ hd.blk
      obtain ⟨cs, ⟨hc17, hc1⟩, hq, _, _⟩ := hNd.look ⟨#[47]⟩ (by unfold maxLen; decide)
      have hsz17 : (Tryz.prog.info? 88).map (·.size) = some cs.size := by rw [hc17]; exact sizeNd
      have hzs : zeroNd.size = cs.size := by rw [hc17]; rfl
      obtain ⟨W2, hW2⟩ : ∃ W2, W2 = wr.alloc (.cells cs 88) := ⟨_, rfl⟩
      have HSET := Lib.hid ((setRow_alloc wr zeroNd cs 88).trans hW2.symm)
      have HNew := Lib.hid (heap_alloc_new wr (.cells zeroNd 88))
      have hE2 : Ext wr W2 := by rw [hW2]; exact Ext.alloc _ _
      have hB2 : Below w.heap.size w W2 := hB.trans (hE2.mono hB.size)
      have hT2 : TreeAt (fun b => w.heap.size ≤ b ∧ b < W2.heap.size) W2 (w.heap.size + 1 + 1) M L.length := (hT.ext hE2).keep (fun _ _ => rfl) (fun b hb => ⟨hb.1, Nat.lt_of_lt_of_le hb.2 hE2.size⟩) (fun b hb => hb.2) (Nat.le_refl _)
      have hhid := Lib.hid hzs
      change Hid (zeroNd.size = cs.size) at hhid
      unfold zeroNd at HSET HNew
      unfold Box treeC at hbox
      have hkl : ((⟨#[47]⟩ : ByteArray)).data.toList = [47] := rfl
      rw [hkl] at hq
      have HC1 := Lib.hid hc1
      have H17 := Lib.hid hsz17
      clear hW2 hd hNd hKd hT hzs hc1 hc17 hsz17 hkl
      cases hg : mget M [47] with
      | none =>
        rw [hg] at hq
        have hq' : (Instr.lookup 92 (.map (some bn)) (.string ⟨#[47]⟩) true).run Tryz.prog wr = .ok (.tuple #[.agg cs, .bool false]) wr := hq
        have hfin : FromOut L w (.returned (.tuple #[.pointer none, .int .i64 0, .int .i64 70])) W2 := fromOut_err (i := 0) (by
          unfold fromN
          rw [HF2.out]
          simp only
          rw [if_pos hg]) hB2
        have HFIN := Lib.hid hfin
        clear hq hfin hg hT2 hE2 hB2
        go_wp2_with (refine wpList_store_row rfl 88 (.tmp 11) (.tmp 58) rfl wr.heap.size _ rfl rfl 88 _ HNew.out H17.out hhid.out HC1.out ?_; rw [HSET.out])
        go_ret3
        exact HFIN.out
      | some y0 =>
        rw [hg] at hq
        have hq' : (Instr.lookup 92 (.map (some bn)) (.string ⟨#[47]⟩) true).run Tryz.prog wr = .ok (.tuple #[.agg cs, .bool true]) wr := hq
        have HG := Lib.hid hg
        have HRt := Lib.hid (fromL_right L 0 [] M HF2.out)
        clear hq hg hE2
        go_wp2_with (refine wpList_store_row rfl 88 (.tmp 11) (.tmp 58) rfl wr.heap.size _ rfl rfl 88 _ HNew.out H17.out hhid.out HC1.out ?_; rw [HSET.out])
        clear hq' HNew HSET hhid H17 HC1 hbox
        generalize wr.heap.size = gx
        go_loopw [64] (fun i wt => ∃ k : Nat, k ≤ L.length ∧ i = .int .i64 k ∧ Hid (parL M L 0 = parL M (L.drop k) k) ∧ TreeAt (fun b => w.heap.size ≤ b ∧ b < wt.heap.size) wt (w.heap.size + 1 + 1) M L.length ∧ Below w.heap.size w wt) (fun i _ => L.length - (intOf i).toNat)
        case atStart => exact ⟨0, Nat.zero_le _, rfl, rfl, hT2, hB2⟩
        case round =>
          obtain ⟨k, hk, rfl, HP, hT3, hB3⟩ := hrel
          by_cases hlt : k < L.length
          · have hLk : L[k]? = some L[k] := List.getElem?_eq_getElem hlt
            have hrk := HRt.out L[k] (List.getElem_mem hlt)
            have HS := Lib.hid (HP.out.trans (parL_step M L k L[k] hLk))
            obtain ⟨b, off, v, rfl, hb, hv, hc⟩ := hL k L[k] hLk
            have HL := Lib.hid hL
            generalize L[k] = n at *
            obtain ⟨da, dc, aa, ac, rfl, hD, hA⟩ := hv
            have hcw : ∀ j u, (ndC n (.slice da n.data.length dc) (.slice aa n.acl.length ac))[j]? = some u → wr.cell? ((⟨b, off + k * 17, none⟩ : Addr).add j) = some u := fun j u hj => by
              rw [addr_add, hB3.cell (p := ⟨b, off + k * 17 + j, none⟩) hb]
              exact hc j u hj
            obtain ⟨W4, hW4⟩ : ∃ W4, W4 = wr.alloc (.cells (ndC n (.slice da n.data.length dc) (.slice aa n.acl.length ac)) 88) := ⟨_, rfl⟩
            have hE4 : Ext wr W4 := by rw [hW4]; exact Ext.alloc _ _
            have hn4 : W4.heap[wr.heap.size]? = some (.cells (ndC n (.slice da n.data.length dc) (.slice aa n.acl.length ac)) 88 (0, 0)) := by rw [hW4]; exact heap_alloc_new wr _
            have hz4 : W4.heap.size = wr.heap.size + 1 := by rw [hW4]; simp
            have hT4 := hT3.ext hE4
            have hB4 : Below w.heap.size w W4 := hB3.trans (hE4.mono hB3.size)
            have hx4 : Box W4 wr.heap.size (ndC n (.slice da n.data.length dc) (.slice aa n.acl.length ac)) := fun j => cell_of_row _ _ _ _ _ _ hn4
            have hvp := right_vpath hrk
            have hvf := vpath_facts hvp
            have CP := parent_any n.path W4 (by omega)
            have HC := Lib.hid hcw
            have HN := Lib.hid hn4
            have HSET := Lib.hid ((setRow_alloc wr zeroNd (ndC n (.slice da n.data.length dc) (.slice aa n.acl.length ac)) 88).trans hW4.symm)
            have HNew := Lib.hid (heap_alloc_new wr (.cells zeroNd 88))
            have HT4 := Lib.hid hT4
            have hwt := hB3.size
            unfold ndC at HC HN HSET
            unfold zeroNd at HSET HNew
            unfold Box ndC at hx4
            clear hcw hn4 hW4 hc hL hD hA hT3 hT4 hB3 hvf
            by_cases hroot : n.path.size = 1
            · rw [show parV n.path = .tuple #[.string ⟨#[]⟩, .int .i64 30] by unfold parV; rw [if_neg (fun h => h.2 hroot)]] at CP
              have HS2 := Lib.hid (HS.out.trans (by rw [if_neg (fun h => h.1 hroot)]))
              have CP := Lib.hid CP
              clear hroot HS hvp hrk
              go_wp2_with (first | (refine wpList_load_at rfl 88 (.tmp 67) rfl _ rfl _ _ HC.out Tryz.underlying88 rfl sizeNd ?_) | (refine wpList_store_row rfl 88 (.tmp 14) (.tmp 68) rfl wr.heap.size _ rfl rfl 88 _ HNew.out sizeNd rfl (cells_node n da aa _ _ dc ac) ?_; rw [HSET.out]))
              refine CP.out.mono ?_
              rintro e w5 ⟨rfl, hb5⟩
              have hE5 : Ext W4 w5 := hb5
              have hz5 := hE5.size
              have hB5 : Below w.heap.size w w5 := hB4.trans (hE5.mono hB4.size)
              have HT5 := Lib.hid (HT4.out.ext hE5)
              clear CP HC HN HSET HNew hx4 hb5 hB4 HT4
              go_wp2
              go_roundw
              case rel => exact ⟨k + 1, by omega, by go_num, HS2.out, HT5.out.keep (fun _ _ => rfl) (fun b hb => ⟨hb.1, HT5.out.bound b hb⟩) (fun b hb => hb.2) (Nat.le_refl _), hB5⟩
              case measure => simp [intOf]; omega
            · rw [show parV n.path = .tuple #[.string (parentB n.path), .int .i64 0] by unfold parV; rw [if_pos ⟨hvp, hroot⟩]] at CP
              have hps : (parentB n.path).size ≤ maxLen := by
                have := (path_split hvp hroot).2.2.1
                have := (vpath_facts hvp).2.1
                unfold maxLen; omega
              have CP := Lib.hid CP
              have HRoot := Lib.hid hroot
              clear hroot hvp hrk
              go_wp2_with (first | (refine wpList_load_at rfl 88 (.tmp 67) rfl _ rfl _ _ HC.out Tryz.underlying88 rfl sizeNd ?_) | (refine wpList_store_row rfl 88 (.tmp 14) (.tmp 68) rfl wr.heap.size _ rfl rfl 88 _ HNew.out sizeNd rfl (cells_node n da aa _ _ dc ac) ?_; rw [HSET.out]))
              refine CP.out.mono ?_
              rintro e w5 ⟨rfl, hb5⟩
              have hE5 : Ext W4 w5 := hb5
              have hz5 := hE5.size
              have hB5 : Below w.heap.size w w5 := hB4.trans (hE5.mono hB4.size)
              have hT5 := HT4.out.ext hE5
              obtain ⟨bn, bk, K, hd, hNd, hKd⟩ := hT5
              have hT5 : TreeAt (fun b => w.heap.size ≤ b ∧ b < wr.heap.size) w5 (w.heap.size + 1 + 1) M L.length := ⟨bn, bk, K, hd, hNd, hKd⟩
              have hbox : Box w5 (w.heap.size + 1 + 1) (treeC bn bk) := fun j => cell_of_row _ _ _ _ _ _ hd.blk
              obtain ⟨cs, ⟨hc17, hc1⟩, hq, _, _⟩ := hNd.look (parentB n.path) hps
              have hsz17 : (Tryz.prog.info? 88).map (·.size) = some cs.size := by rw [hc17]; exact sizeNd
              have hzs : zeroNd.size = cs.size := by rw [hc17]; rfl
              obtain ⟨W6, hW6⟩ : ∃ W6, W6 = w5.alloc (.cells cs 88) := ⟨_, rfl⟩
              have HSET6 := Lib.hid ((setRow_alloc w5 zeroNd cs 88).trans hW6.symm)
              have HNew6 := Lib.hid (heap_alloc_new w5 (.cells zeroNd 88))
              have hE6 : Ext w5 W6 := by rw [hW6]; exact Ext.alloc _ _
              have hz6 := hE6.size
              have hB6 : Below w.heap.size w W6 := hB5.trans (hE6.mono hB5.size)
              have HT6 := Lib.hid (hT5.ext hE6)
              have hhid := Lib.hid hzs
              change Hid (zeroNd.size = cs.size) at hhid
              unfold zeroNd at HSET6 HNew6
              unfold Box treeC at hbox
              have HC1 := Lib.hid hc1
              have H17 := Lib.hid hsz17
              clear hW6 hd hNd hKd hT5 hzs hc1 hc17 hsz17 CP HC HN HSET HNew hx4 hb5 hB4 HT4 hE6 hE5 hB5
              cases hg : mget M (parentB n.path).data.toList with
              | none =>
                rw [hg] at hq
                have hq' : (Instr.lookup 92 (.map (some bn)) (.string (parentB n.path)) true).run Tryz.prog w5 = .ok (.tuple #[.agg cs, .bool false]) w5 := hq
                have hfin : FromOut L w (.returned (.tuple #[.pointer none, .int .i64 k, .int .i64 73])) W6 := fromOut_err (by
                  unfold fromN
                  rw [HF2.out]
                  simp only
                  rw [if_neg (by rw [HG.out]; simp), HS.out, if_pos ⟨HRoot.out, hg⟩]) hB6
                have HFIN := Lib.hid hfin
                clear hq hfin hg hB6 HS HT6
                go_wp2_with (refine wpList_store_row rfl 88 (.tmp 17) (.tmp 84) rfl w5.heap.size _ rfl rfl 88 _ HNew6.out H17.out hhid.out HC1.out ?_; rw [HSET6.out])
                go_ret3
                exact HFIN.out
              | some y1 =>
                rw [hg] at hq
                have hq' : (Instr.lookup 92 (.map (some bn)) (.string (parentB n.path)) true).run Tryz.prog w5 = .ok (.tuple #[.agg cs, .bool true]) w5 := hq
                have HS2 := Lib.hid (HS.out.trans (by rw [if_neg (fun h => by rw [hg] at h; cases h.2)]))
                clear hq hg HS
                go_wp2_with (refine wpList_store_row rfl 88 (.tmp 17) (.tmp 84) rfl w5.heap.size _ rfl rfl 88 _ HNew6.out H17.out hhid.out HC1.out ?_; rw [HSET6.out])
                go_roundw
                case rel => exact ⟨k + 1, by omega, by go_num, HS2.out, HT6.out.keep (fun _ _ => rfl) (fun b hb => ⟨hb.1, HT6.out.bound b hb⟩) (fun b hb => hb.2) (Nat.le_refl _), hB6⟩
                case measure => simp [intOf]; omega
          · obtain rfl : k = L.length := by omega
            have hfin : FromOut L w (.returned (.tuple #[.pointer (some ⟨w.heap.size + 1 + 1, 0, none⟩), .int .i64 0, .int .i64 0])) wr := by
              unfold FromOut fromN
              rw [HF2.out]
              simp only
              rw [if_neg (by rw [HG.out]; simp), HP.out, List.drop_length]
              exact ⟨_, rfl, hT3, hB3⟩
            have HFIN := Lib.hid hfin
            clear hfin hT3 hB3 HP HG HF2
            go_wp2
            go_ret3
            exact HFIN.out
end Go.Proofs.YtclekhjnnljjlaaGreatDoor
namespace Go.Proofs.YtclekhjnnljjlaaGreatDoor
open Go.RowKit
set_option maxHeartbeats 2000000
set_option maxRecDepth 100000

theorem results_cell_row2 {P : Program} {fn : Func} {p q : Tmp} {ty : TypeId} (h : fn.results = #[.cell p ty, .tmp q]) (tmps : Array Value) (w : World) (g : Nat) (t : TypeId) (cs : Array Value) (fr : Nat × Nat) (d : TypeDesc) (v : Value)
    (hp : tmps.getD p undef = .pointer (some ⟨g, 0, none⟩)) (hq : tmps.getD q undef = v) (hg : w.heap[g]? = some (.cells cs t fr))
    (hu : P.underlying ty = some d) (hd : (match d with | .struct _ | .array _ _ => true | _ => false) = true) (hi : (P.info? ty).map (·.size) = some cs.size) :
    (results fn tmps).run P w = .ok (.tuple #[.agg cs, v]) w := by
  have hp' : tmps[p]?.getD undef = .pointer (some ⟨g, 0, none⟩) := by simpa using hp
  have hq' : tmps[q]?.getD undef = v := by simpa using hq
  simp [results, h, hp', hq', asAddr, run_loadVar_row w g t ty cs fr d hg hu hd hi]

theorem TreeAt.box {S : Nat → Prop} {w : World} {bt bn bk : Nat} (hd : Hd S w bt bn bk) : Box w bt (treeC bn bk) := fun j => cell_of_row _ _ _ _ _ _ hd.blk

def zeroN : Nd := ⟨⟨#[]⟩, [], [], 0, 0, 0, 0, 0, 0, 0, 0, 0, 0, 0, false, 0, 0⟩
theorem zeroN_fit : Fit zeroN := ⟨by simp [zeroN, ByteArray.size], by simp [zeroN], by simp [zeroN], fun x hx => by simp [zeroN] at hx⟩
theorem zeroN_nds (S : Nat → Prop) (w : World) : NdS S w (.agg zeroNd) zeroN := ⟨none, 0, none, 0, rfl, fun j u h => by simp [zeroN] at h, fun j u h => by simp [zeroN, acCs] at h⟩

theorem NodesAt.look' {S : Nat → Prop} {w : World} {bn : Nat} {M : List (Key × Nd)} {N : Nat} (h : NodesAt S w bn M N) (s : ByteArray) (hs : s.size ≤ maxLen) :
    ∃ v, NdS S w v ((mget M s.data.toList).getD zeroN) ∧ (Instr.lookup 92 (.map (some bn)) (.string s) true).run Tryz.prog w = .ok (.tuple #[v, .bool (mget M s.data.toList).isSome]) w ∧
      (Instr.lookup 92 (.map (some bn)) (.string s) false).run Tryz.prog w = .ok v w := by
  obtain ⟨mm, hm, hr⟩ := h.ex
  have q1 := SMap.look_ok (e := 88) hm strT Tryz.underlying92 (z := .agg zeroNd) (by kernel_rfl) hs
  have q2 := SMap.look (e := 88) hm strT Tryz.underlying92 (z := .agg zeroNd) (by kernel_rfl) hs
  rcases hr.get s.data.toList with ⟨h1, h2⟩ | ⟨y, v, h1, h2, h3⟩
  · rw [h2] at q1 q2
    rw [h1]
    exact ⟨.agg zeroNd, zeroN_nds S w, q1, q2⟩
  · rw [h2] at q1 q2
    rw [h1]
    exact ⟨v, h3, q1, q2⟩

theorem MOk.fit {M : List (Key × Nd)} (h : MOk M) (k : Key) : Fit ((mget M k).getD zeroN) := by
  cases hg : mget M k with
  | none => exact zeroN_fit
  | some n => exact (right_fit (h.at hg).2).1

end Go.Proofs.YtclekhjnnljjlaaGreatDoor
