/- The walk of lay: a node is put at its place, its name among its parent's children. -/
import Derived.Test.YtfgjbcejpjcpeaaDoorArm
import Derived.Test.YtfgjbcejpjcpeaaDoorPar
import Derived.Test.YtfgjbcejpjcpeaaDoorRight2
namespace Go.Proofs.YtfgjbcejpjcpeaaDoor
open Go.RowKit
set_option maxHeartbeats 2000000
set_option maxRecDepth 100000

def PhiL (B bt bn : Nat) (n : Nd) (cs : Array Value) : Nat → Value → World → Prop
  | 0, v, _ => v = .pointer (some ⟨bt, 0, none⟩)
  | 1, v, _ => v = .pointer (some ⟨bt, 0, none⟩)
  | 2, v, _ => v = .pointer (some ⟨bt, 0, none⟩)
  | 3, v, _ => v = .map (some bn)
  | 4, v, _ => v = .pointer (some ⟨B, 0, none⟩)
  | 5, v, _ => v = .string n.path
  | 6, v, _ => v = .agg cs
  | 7, v, w => NdS (fun b => B < b ∧ b < w.heap.size) w v n
  | _, _, _ => True
theorem PhiL.stab (B bt bn : Nat) (n : Nd) (cs : Array Value) (i : Nat) (v : Value) (w w' : World) (h : PhiL B bt bn n cs i v w) (he : Ext w w') : PhiL B bt bn n cs i v w' := by
  unfold PhiL at h ⊢
  split at h <;> first | exact h | exact h.imp (fun b hb => ⟨hb.1, Nat.lt_of_lt_of_le hb.2 he.size⟩) (fun b o u hb hu => (he.cell (p := ⟨b, o, none⟩) hb.2).trans hu)

theorem Mod.turned_new {S : Nat → Prop} {w a b : World} {g : Nat} (h : Mod S w a) (ht : a.mapTurned b g) (hg : w.heap.size ≤ g) : Mod S w b :=
  ⟨by obtain ⟨_, _, _, _, _, rfl⟩ := ht; exact h.os, by obtain ⟨_, _, _, _, _, rfl⟩ := ht; exact h.tape, by obtain ⟨_, _, _, _, _, rfl⟩ := ht; exact h.output, by rw [turned_size ht]; exact h.size, fun k o hk ho =>
    (turned_other ht (by have := (Array.getElem?_eq_some_iff.1 hk).1; omega)).trans (h.same k o hk ho)⟩

theorem lay_nodes {S : Nat → Prop} {w w2 w3 : World} {bt bn bk : Nat} {M : List (Key × Nd)} {N : Nat} {n : Nd} {v : Value} {m : List (Key × Value)} (hd : Hd S w bt bn bk) (hNd : NodesAt S w bn M N) (hm : SMap Tryd.prog 9 w bn m) (hr : Rel2 (fun n v => NdS S w v n) M m)
    (he : Ext w w2) (hn : rightN n = 0) (h7 : NdS (fun b => w.heap.size < b ∧ b < w2.heap.size) w2 v n) (hs3 : SMap Tryd.prog 9 w3 bn (mput m n.path.data.toList v)) (ht3 : w2.mapTurned w3 bn) :
    NodesAt (fun k => S k ∨ (w.heap.size ≤ k ∧ k < w3.heap.size)) w3 bn (mput M (keyN n) n) (N + 1) := by
  have hz := turned_size ht3
  have hS : ∀ k, S k → S k ∨ (w.heap.size ≤ k ∧ k < w3.heap.size) := fun k h => .inl h
  have hc : ∀ (b o : Nat) u, S b → w.cell? ⟨b, o, none⟩ = some u → w2.cell? ⟨b, o, none⟩ = some u := fun b o u hb hu => (he.cell (p := ⟨b, o, none⟩) (hd.bound b hb)).trans hu
  have h2 := hNd.keep (S' := fun k => S k ∨ (w.heap.size ≤ k ∧ k < w3.heap.size)) (he.block bn (hd.bound _ hd.sn)) hS hc (Nat.le_refl N)
  exact h2.put hn (h7.imp (fun b hb => .inr ⟨by omega, by omega⟩) (fun _ _ _ _ h => h)) (hm.keep (he.block bn (hd.bound _ hd.sn))) (hr.imp fun _ _ _ hv => hv.imp hS hc) hs3 ht3

theorem lay_kids {S : Nat → Prop} {w w2 w3 : World} {bt bn bk : Nat} {K : List (Key × Nat)} {M : List (Key × Nd)} {N : Nat} (hd : Hd S w bt bn bk) (hKd : KidsAt S w bn bk K M N) (he : Ext w w2) (ht3 : w2.mapTurned w3 bn) : KidsAt S w3 bn bk K M N :=
  hKd.keep ((turned_other ht3 hd.ne.symm).trans (he.block bk (hd.bound _ hd.sk))) (fun _ h => h) (fun x hx => (turned_other ht3 (hKd.each x hx).2.1).trans (he.block _ (hd.bound _ (hKd.each x hx).1))) (Nat.le_refl N)

theorem lay_any (S : Nat → Prop) (w : World) (bt : Nat) (M : List (Key × Nd)) (N : Nat) (hT : TreeAt S w bt M N) (n : Nd) (da aa : Option Addr) (dc ac : Nat) (hn : rightN n = 0) (hne : mget M (keyN n) = none) (hN : N < 4611686018427387904)
    (hD : Cells w.heap.size w da (n.data.map u8v)) (hA : Cells w.heap.size w aa (acCs n.acl)) :
    Calls Tryd.prog 43 #[.pointer (some ⟨bt, 0, none⟩), .agg (ndC n (.slice da n.data.length dc) (.slice aa n.acl.length ac))] w fun e w' =>
      e = .returned (.tuple #[]) ∧ TreeAt (fun k => S k ∨ (w.heap.size ≤ k ∧ k < w'.heap.size)) w' bt (mput M (keyN n) n) (N + 1) ∧ Mod S w w' := by
  obtain ⟨bn, bk, K, hd, hNd, hKd⟩ := hT
  obtain ⟨m, hm, hr⟩ := hNd.ex
  have hml : m.length ≤ N := by rw [← hr.length]; exact hNd.len
  have hfit := right_fit hn
  have hvp := right_vpath hn
  have hvf := vpath_facts hvp
  obtain ⟨W1, hW1⟩ : ∃ W1, W1 = w.alloc (.cells (ndC n (.slice da n.data.length dc) (.slice aa n.acl.length ac)) 37) := ⟨_, rfl⟩
  have he1 : Ext w W1 := by rw [hW1]; exact Ext.alloc _ _
  have hs1 : W1.heap.size = w.heap.size + 1 := by rw [hW1]; simp
  have hn1 : W1.heap[w.heap.size]? = some (.cells (ndC n (.slice da n.data.length dc) (.slice aa n.acl.length ac)) 37 (0, 0)) := by rw [hW1]; exact heap_alloc_new w _
  have hbt1 : W1.heap[bt]? = some (.cells (treeC bn bk) 87 (0, 0)) := (he1.block bt (hd.bound _ hd.st)).trans hd.blk
  have hm1 : SMap Tryd.prog 9 W1 bn m := hm.keep (he1.block bn (hd.bound _ hd.sn))
  have hD1 := hD.ext he1
  have hA1 := hA.ext he1
  have HW1 := Lib.hid hW1
  unfold ndC at HW1 ⊢
  clear hW1
  go_enter Tryd.func43, Tryd.ntmps43
  go_wp2
  rw [← HW1.out]
  have hen := fun (f : FuncId) (fn : Func) (c : Code) (hf : Tryd.prog.funcs[f]? = some fn) (hname : (fn.name == "runtime.NumGoroutine") = false) (hb : fn.body = some c) => enters_f hf hname hb
  refine wp_region_last_e 52 (by kernel_rfl) (PhiL w.heap.size bt bn n (ndC n (.slice da n.data.length dc) (.slice aa n.acl.length ac))) (PhiL.stab _ _ _ _ _) (by decide) rfl 8 _ rfl rfl rfl rfl ?_ ?fin
  · refine ⟨?_, ?_, ?_, ?_, ?_, ?_, ?_, ?_, trivial⟩
    · exact duty_free rfl fun a w' hE hF hA => wp_value (w' := w') (ex_move rfl) ⟨_, rfl, hF.slot 0 _ (by decide) rfl, Ext.refl _⟩
    · refine duty_free rfl fun a w' hE hF hA => ?_
      have x1 : a.eval (.tmp 8) = _ := hA.slot 0 8 rfl rfl ⟨⟨0, .data⟩, by simp, rfl, rfl⟩
      exact wp_value (ex_nilCheck rfl _ x1) ⟨_, rfl, rfl, Ext.refl _⟩
    · refine duty_free rfl fun a w' hE hF hA => ?_
      have x1 : a.eval (.tmp 9) = _ := hA.slot 1 9 rfl rfl ⟨⟨1, .data⟩, by simp, rfl, rfl⟩
      exact wp_value (v := .pointer (some ⟨bt, 0, none⟩)) (w' := w') (by simp only [execOp, x1]; simp [go_sem]) ⟨_, rfl, rfl, Ext.refl _⟩
    · refine duty_free rfl fun a w' hE hF hA => ?_
      have x1 : a.eval (.tmp 10) = _ := hA.slot 2 10 rfl rfl ⟨⟨2, .data⟩, by simp, rfl, rfl⟩
      refine wp_value (ex_cell rfl _ (.map (some bn)) x1 ?_ rfl Tryd.underlying84) ⟨_, rfl, rfl, Ext.refl _⟩
      exact cell_of_row w' bt 0 _ _ _ ((hE.block bt (Array.getElem?_eq_some_iff.1 hbt1).1).trans hbt1)
    · refine duty_free rfl fun a w' hE hF hA => ?_
      have x1 : a.eval (.tmp 3) = _ := hF.slot 3 (.pointer (some ⟨w.heap.size, 0, none⟩)) (by decide) rfl
      exact wp_value (v := .pointer (some ⟨w.heap.size, 0, none⟩)) (w' := w') (by simp only [execOp, x1]; simp [go_sem]) ⟨_, rfl, rfl, Ext.refl _⟩
    · refine duty_free rfl fun a w' hE hF hA => ?_
      have x1 : a.eval (.tmp 12) = _ := hA.slot 4 12 rfl rfl ⟨⟨4, .data⟩, by simp, rfl, rfl⟩
      refine wp_value (ex_cell rfl _ (.string n.path) x1 ?_ rfl Tryd.underlying9) ⟨_, rfl, rfl, Ext.refl _⟩
      exact cell_of_row w' w.heap.size 0 _ _ _ ((hE.block w.heap.size (Array.getElem?_eq_some_iff.1 hn1).1).trans hn1)
    · refine duty_free rfl fun a w' hE hF hA => ?_
      have x1 : a.eval (.tmp 3) = _ := hF.slot 3 (.pointer (some ⟨w.heap.size, 0, none⟩)) (by decide) rfl
      exact wp_value (ex_load_row rfl w.heap.size x1 37 _ (0, 0) _ ((hE.block w.heap.size (Array.getElem?_eq_some_iff.1 hn1).1).trans hn1) Tryd.underlying37 rfl sizeNd) ⟨_, rfl, rfl, Ext.refl _⟩
    · refine duty_free rfl fun a w' hE hF hA => ?_
      have x1 : a.eval (.tmp 14) = _ := hA.slot 6 14 rfl rfl ⟨⟨6, .data⟩, by simp, rfl, rfl⟩
      refine wp_enter (ex_call rfl (hen _ _ _ Tryd.func49 (by kernel_rfl) rfl)) (by simp only [List.map_toArray, List.map_cons, List.map_nil, x1]; exact sclone_nd n da aa dc ac w' hfit.1 (hD1.ext hE) (hA1.ext hE)) ?_
      rintro e w4 ⟨v, rfl, hv, hb⟩
      exact ⟨_, rfl, v, rfl, hv.imp (fun b hb' => ⟨by have := hE.size; omega, hb'.2⟩) (fun _ _ _ _ h => h), hb⟩
  case fin =>
    intro us w2 hE hl hP
    obtain ⟨u0, u1, u2, u3, u4, u5, u6, u7, rfl⟩ := us8 us hl
    obtain rfl : u3 = .map (some bn) := hP 3 _ rfl
    obtain rfl : u5 = .string n.path := hP 5 _ rfl
    have h7 : NdS (fun b => w.heap.size < b ∧ b < w2.heap.size) w2 u7 n := hP 7 _ rfl
    clear hP hl hen
    have hm2 : SMap Tryd.prog 9 w2 bn m := hm1.keep (hE.block bn (by have := hd.bound _ hd.sn; omega))
    have q1 : m.length < maxLen := by unfold maxLen; omega
    have q2 : n.path.size ≤ maxLen := by unfold maxLen; omega
    have hQ := SMap.store hm2 strT Tryd.underlying84 q1 q2 u7
    have hQ1 := hQ.choose_spec
    generalize hQ.choose = w3 at hQ1
    have hrun := hQ1.1
    have hs3 := hQ1.2.1
    have ht3 := hQ1.2.2
    clear hQ1 hQ
    have he2 : Ext w w2 := he1.trans hE
    have hn2 := (hE.block w.heap.size (by omega)).trans hn1
    have hc3 := ((Mod.turned (S := fun _ => True) ht3 trivial).cells hn2)
    have hsz3 := turned_size ht3
    have hbt3 : w3.heap[bt]? = some (.cells (treeC bn bk) 87 (0, 0)) := (Mod.turned (S := fun _ => True) ht3 trivial).cells ((he2.block bt (hd.bound _ hd.st)).trans hd.blk)
    have hx3 : Box w3 w.heap.size (ndC n (.slice da n.data.length dc) (.slice aa n.acl.length ac)) := fun j => cell_of_row _ _ _ _ _ _ hc3
    have hy3 : Box w3 bt (treeC bn bk) := fun j => cell_of_row _ _ _ _ _ _ hbt3
    have HS3 := Lib.hid hs3
    have HT3 := Lib.hid ht3
    have HR := Lib.hid hr
    have HE2 := Lib.hid he2
    have HZ3 := Lib.hid hsz3
    clear hs3 ht3 hm2 hm1 hn2 hc3 hn1 hbt1 hbt3 hD1 hA1 hE HW1 hr he2 hsz3
    simp only [filled, List.take_succ_cons, List.take_zero, List.zip_cons_cons, List.zip_nil_right, List.foldl_cons, List.foldl_nil, Act.put]
    unfold Box ndC at hx3
    unfold Box treeC at hy3
    go_simp
    rename_i hK
    refine hK _ _ ?_
    clear hrun
    have hNn := lay_nodes hd hNd hm HR.out HE2.out hn h7 HS3.out HT3.out
    have hKn := lay_kids hd hKd HE2.out HT3.out
    have hMod : Mod S w w3 := (Mod.of_ext HE2.out).trans (Mod.turned HT3.out hd.sn)
    have hw3 : w.heap.size ≤ w3.heap.size := hMod.size
    have hbl : w3.heap[bt]? = some (.cells (treeC bn bk) 87 (0, 0)) := hMod.cells hd.blk
    clear HR HS3 HT3 HE2 HZ3 h7
    by_cases hroot : n.path.size = 1
    · have e1 : (n.path.toList == [47]) = true := by rw [ByteArray.toList_eq]; simpa using (root_iff hvp).1 hroot
      have e2 : n.path.toList = [47] := by simpa using e1
      have fin : TreeAt (fun k => S k ∨ (w.heap.size ≤ k ∧ k < w3.heap.size)) w3 bt (mput M (keyN n) n) (N + 1) :=
        ⟨bn, bk, K, ⟨hbl, .inl hd.st, .inl hd.sn, .inl hd.sk, hd.ne, fun k hk => hk.elim (fun h => Nat.lt_of_lt_of_le (hd.bound k h) hw3) (fun h => h.2)⟩, hNn,
          (hKn.put_root hNd.ok hn hne hroot).keep rfl (fun _ h => .inl h) (fun _ _ => rfl) (Nat.le_refl _)⟩
      have FIN := Lib.hid fin
      have HM := Lib.hid hMod
      clear fin hMod hNn hKn hroot hne
      go_wp2
      exact bodyPost_ret (results_none rfl _ _ _) rfl ⟨rfl, FIN.out, HM.out⟩
    · have e1 : (n.path.toList == [47]) = false := by rw [ByteArray.toList_eq]; simpa using fun h => hroot ((root_iff hvp).2 h)
      have e2 : ¬ n.path.toList = [47] := by simpa using e1
      have CP := parent_any n.path w3 (by omega)
      have CN := fun w => name_any n.path w (by omega)
      rw [show parV n.path = .tuple #[.string (parentB n.path), .int .i64 0] by unfold parV; rw [if_pos ⟨hvp, hroot⟩]] at CP
      rw [show namV n.path = .tuple #[.string (nameB n.path), .int .i64 0] by unfold namV; rw [if_pos hvp]] at CN
      have hsp := path_split hvp hroot
      have hps : (parentB n.path).size ≤ maxLen := by unfold maxLen; omega
      have hns : (nameB n.path).size ≤ maxLen := by
        have h1 : (nameB n.path).size ≤ n.path.size := by unfold nameB; rw [ByteArray.size_extract]; omega
        unfold maxLen; omega
      have CP := Lib.hid CP
      have CN := Lib.hid CN
      have HNE := Lib.hid hne
      have HROOT := Lib.hid hroot
      clear hne hroot hsp hvf
      go_wp2_with fail
      refine CP.out.mono ?_
      rintro e w4 ⟨rfl, hb4⟩
      have hx4 := Box.below (b := w.heap.size) hx3 hb4 (block_lt_of_cell (show w3.cell? ⟨w.heap.size, 0, none⟩ = _ from hx3 0))
      have hz4 := hb4.size
      clear CP
      unfold Box at hx4
      go_wp2_with fail
      refine (CN.out _).mono ?_
      rintro e w5 ⟨rfl, hb5⟩
      have he5 : Ext w3 w5 := Ext.trans hb4 hb5
      have hlt3 : bt < w3.heap.size := (Array.getElem?_eq_some_iff.1 hbl).1
      have hy5 : Box w5 bt (treeC bn bk) := Box.below (b := bt) (B := w3.heap.size) hy3 he5 hlt3
      have hbS : ∀ k, S k → k < w3.heap.size := fun k h => Nat.lt_of_lt_of_le (hd.bound k h) hw3
      have hK5 : KidsAt S w5 bn bk K M N := hKn.keep (he5.block bk (hbS _ hd.sk)) (fun _ h => h) (fun x hx => he5.block _ (hbS _ (hKn.each x hx).1)) (Nat.le_refl _)
      have hM5 : Mod S w w5 := hMod.trans (Mod.of_ext he5)
      have hw5 : w.heap.size ≤ w5.heap.size := hM5.size
      have hl5 := SMap.look (e := 94) hK5.map strT Tryd.underlying85 (z := .map none) (by kernel_rfl) hps
      rw [kidsV_get] at hl5
      clear CN hx4 hx3 hy3 hb4 hb5 hz4 hKn hMod
      unfold Box treeC at hy5
      cases hg : mget K (parentB n.path).data.toList with
      | some b =>
        rw [hg] at hl5
        have hl5' : (Instr.lookup 85 (.map (some bk)) (.string (parentB n.path)) false).run Tryd.prog w5 = .ok (.map (some b)) w5 := hl5
        clear hl5
        have hE := hK5.each _ (mget_some_mem hg)
        have hSb : S b := hE.1
        have hSM : SMap Tryd.prog 9 w5 b (kidsOf M (parentB n.path)) := by have := hE.2.2.2; rw [key_bytes] at this; exact this
        have hlen : (kidsOf M (parentB n.path)).length < maxLen := by
          have := kids_length M (parentB n.path)
          have := hNd.len
          unfold maxLen; omega
        have heq := fun w : World => run_eql_map_nil (P := Tryd.prog) w 94 9 115 (some b) Tryd.underlying94
        have hfin : ∀ w6 : World, SMap Tryd.prog 9 w6 b (mput (kidsOf M (parentB n.path)) (nameB n.path).data.toList (.agg #[])) → w5.mapTurned w6 b →
            TreeAt (fun k => S k ∨ (w.heap.size ≤ k ∧ k < w6.heap.size)) w6 bt (mput M (keyN n) n) (N + 1) ∧ Mod S w w6 := fun w6 hs6 ht6 => by
          have hz6 := turned_size ht6
          have hM6 : Mod S w w6 := hM5.trans (Mod.turned ht6 hSb)
          have hM36 : Mod S w3 w6 := (Mod.of_ext he5).trans (Mod.turned ht6 hSb)
          have hz5 := he5.size
          have hS' : ∀ k, (S k ∨ (w.heap.size ≤ k ∧ k < w3.heap.size)) → S k ∨ (w.heap.size ≤ k ∧ k < w6.heap.size) := fun k h => h.imp id fun h => ⟨h.1, by omega⟩
          refine ⟨⟨bn, bk, K, ⟨hM6.cells hd.blk, .inl hd.st, .inl hd.sn, .inl hd.sk, hd.ne, fun k hk => hk.elim (fun h => by have := hbS k h; omega) (fun h => h.2)⟩, ?_, ?_⟩, hM6⟩
          · exact hNn.keep ((turned_other ht6 hE.2.1.symm).trans (he5.block bn (hbS _ hd.sn))) hS' (fun b o u _ hu => hM36.cell hu) (Nat.le_refl _)
          · exact (hK5.put_old hNd.ok hn HNE.out HROOT.out hg hs6 ht6).keep rfl (fun _ h => .inl h) (fun _ _ => rfl) (Nat.le_refl _)
        have HFIN := Lib.hid hfin
        clear hfin hE hK5 hNn hM5 he5 hbS hw5 hw3 HNE HROOT hlt3 hbl hg
        go_wp2_with (at_mapUpdate; refine wpList_put _ rfl _ _ _ 94 rfl 9 115 strT Tryd.underlying94 b _ hSM hlen rfl (nameB n.path) hns rfl _ rfl ?_; intro w6 hs6 ht6)
        exact bodyPost_end (results_none rfl _ _ _) rfl ⟨rfl, (HFIN.out w6 hs6 ht6).1, (HFIN.out w6 hs6 ht6).2⟩
      | none =>
        rw [hg] at hl5
        have hl5' : (Instr.lookup 85 (.map (some bk)) (.string (parentB n.path)) false).run Tryd.prog w5 = .ok (.map none) w5 := hl5
        clear hl5
        have heq := fun w : World => run_eql_map_nil (P := Tryd.prog) w 94 9 115 none Tryd.underlying94
        have hmm := @run_makeMap Tryd.prog
        have hz5 := he5.size
        have hb5 : ∀ k, S k → k < w5.heap.size := fun k h => by have := hbS k h; omega
        have hSM : SMap Tryd.prog 9 (w5.alloc (.map #[] 0)) bk (kidsV K) := hK5.map.keep (Below.heap_alloc w5 _ bk (hb5 _ hd.sk))
        have hlen : (kidsV K).length < maxLen := by
          have := hK5.len
          unfold kidsV maxLen; rw [List.length_map]; omega
        have hstep : ∀ w7 : World, SMap Tryd.prog 9 w7 bk (mput (kidsV K) (parentB n.path).data.toList (.map (some w5.heap.size))) → (w5.alloc (.map #[] 0)).mapTurned w7 bk →
            Box w7 bt (treeC bn bk) ∧ SMap Tryd.prog 9 w7 w5.heap.size [] ∧
            (Instr.lookup 85 (.map (some bk)) (.string (parentB n.path)) false).run Tryd.prog w7 = .ok (.map (some w5.heap.size)) w7 := fun w7 hs7 ht7 => by
          have hM7 : Mod S w w7 := (hM5.trans (Mod.of_ext (Ext.alloc w5 _))).trans (Mod.turned ht7 hd.sk)
          refine ⟨fun j => cell_of_row _ _ _ _ _ _ (hM7.cells hd.blk), (SMap.made _ _ w5).keep (turned_other ht7 (by have := hb5 _ hd.sk; omega)), ?_⟩
          have := SMap.look (e := 94) hs7 strT Tryd.underlying85 (z := .map none) (by kernel_rfl) hps
          rw [mget_of_mem (mput_sorted (SMap.sorted (Maps.string_keyed strT) hSM) _ _) (mem_mput.2 (.inl rfl))] at this
          exact this
        have hfin : ∀ w7 w8 : World, SMap Tryd.prog 9 w7 bk (mput (kidsV K) (parentB n.path).data.toList (.map (some w5.heap.size))) → (w5.alloc (.map #[] 0)).mapTurned w7 bk →
            SMap Tryd.prog 9 w8 w5.heap.size (mput [] (nameB n.path).data.toList (.agg #[])) → w7.mapTurned w8 w5.heap.size →
            TreeAt (fun k => S k ∨ (w.heap.size ≤ k ∧ k < w8.heap.size)) w8 bt (mput M (keyN n) n) (N + 1) ∧ Mod S w w8 := fun w7 w8 hs7 ht7 hs8 ht8 => by
          have hz7 := turned_size ht7
          have hz8 := turned_size ht8
          rw [World.size_alloc] at hz7
          have hM7 : Mod S w w7 := (hM5.trans (Mod.of_ext (Ext.alloc w5 _))).trans (Mod.turned ht7 hd.sk)
          have hM8 : Mod S w w8 := hM7.turned_new ht8 hw5
          have hM37 : Mod S w3 w7 := ((Mod.of_ext he5).trans (Mod.of_ext (Ext.alloc w5 _))).trans (Mod.turned ht7 hd.sk)
          have hM38 : Mod S w3 w8 := hM37.turned_new ht8 (by omega)
          have hS' : ∀ k, (S k ∨ (w.heap.size ≤ k ∧ k < w3.heap.size)) → S k ∨ (w.heap.size ≤ k ∧ k < w8.heap.size) := fun k h => h.imp id fun h => ⟨h.1, by omega⟩
          refine ⟨⟨bn, bk, mput K (parentB n.path).data.toList w5.heap.size, ⟨hM8.cells hd.blk, .inl hd.st, .inl hd.sn, .inl hd.sk, hd.ne, fun k hk => hk.elim (fun h => by have := hb5 k h; omega) (fun h => h.2)⟩, ?_, ?_⟩, hM8⟩
          · exact hNn.keep ((turned_other ht8 (by have := hb5 _ hd.sn; omega)).trans ((turned_other ht7 hd.ne).trans ((Below.heap_alloc w5 _ bn (hb5 _ hd.sn)).trans (he5.block bn (hbS _ hd.sn))))) hS' (fun b o u _ hu => hM38.cell hu) (Nat.le_refl _)
          · exact hK5.put_new hNd.ok hn HNE.out HROOT.out hg (fun _ h => .inl h) (.inr ⟨hw5, by omega⟩) (fun k h => by have := hb5 k h; omega) hd.sn hd.sk (fun k h => Below.heap_alloc w5 _ k (hb5 k h)) ht7 hs7 ht8 hs8
        have hl0 : ([] : List (Key × Value)).length < maxLen := by unfold maxLen; simp
        have HFIN := Lib.hid hfin
        have HSTEP := Lib.hid hstep
        clear hfin hstep hK5 hNn hM5 he5 hbS hw5 hw3 HNE HROOT hlt3 hbl hg hb5 hz5
        go_wp2_with (first | (at_mapUpdate; refine wpList_put _ rfl _ _ _ 85 rfl 9 94 strT Tryd.underlying85 bk _ hSM hlen rfl (parentB n.path) hps rfl (.map (some w5.heap.size)) rfl ?_; intro w7 hs7 ht7; have hq := HSTEP.out w7 hs7 ht7; have hl7 := hq.2.2; have hm7 := hq.2.1; have hy7 := hq.1; unfold Box treeC at hy7; clear hq hl5' hy5 hSM hlen) | (at_mapUpdate; refine wpList_put _ rfl _ _ _ 94 rfl 9 115 strT Tryd.underlying94 w5.heap.size _ hm7 hl0 rfl (nameB n.path) hns rfl (.agg #[]) rfl ?_; intro w8 hs8 ht8))
        exact bodyPost_end (results_none rfl _ _ _) rfl ⟨rfl, (HFIN.out w7 w8 hs7 ht7 hs8 ht8).1, (HFIN.out w7 w8 hs7 ht7 hs8 ht8).2⟩
end Go.Proofs.YtfgjbcejpjcpeaaDoor
