/- The walk of the law's Texts at two lists of the same texts. The law TreeSums, walked: at lists of nodes that are no longer than 1048576. The walk of the law's Nodes at two lists of the same nodes. The walk of stat.Same at two copies of a node. The walks of maps.EqualFunc at two maps of the same nodes, and of tree.Same. The walk of the law's Like: the program's tree and the document's tell the same at a path. A region that draws its order, whose operations' values are either told or have a property that new memory leaves. A node that was cloned for it is appended to a row of the call's own: one law for the walk. The nodes of a tree in another order are the same tree: the plain law; a list turned round and about. -/
import Derived.Test.YtamolbegmkngdaaGreatDoorJTreeMakes13
import Derived.BigQuiet
import Derived.Test.YtamolbegmkngdaaGreatDoorJTreeMakes14
import Derived.Test.YtamolbegmkngdaaGreatDoorJTreeMakes9
import Derived.Test.YtamolbegmkngdaaGreatDoorJTreeMakes12
import Derived.Test.YtamolbegmkngdaaGreatDoorJTreeMakes6
import Derived.Test.YtamolbegmkngdaaGreatDoorJTreeMakes10
namespace Go.Proofs.YtamolbegmkngdaaGreatDoor
open Go.RowKit Go.Sort
set_option maxHeartbeats 4000000
set_option maxRecDepth 100000

/-- A slice that shows these texts. -/
def StrsAt (B : Nat) (w : World) (a : Option Addr) (L : List ByteArray) : Prop := ∀ i s, L[i]? = some s → ∃ b off, a = some ⟨b, off, none⟩ ∧ b < B ∧ w.cell? ⟨b, off + i, none⟩ = some (.string s)
theorem StrsAt.ext {w w' : World} {a : Option Addr} {L : List ByteArray} (h : StrsAt w.heap.size w a L) (hE : Ext w w') : StrsAt w'.heap.size w' a L := fun i s hi => by
  obtain ⟨b, off, e, hb, hc⟩ := h i s hi
  exact ⟨b, off, e, Nat.lt_of_lt_of_le hb hE.size, (hE.cell (p := ⟨b, off + i, none⟩) hb).trans hc⟩
theorem StrsAt.of_own {w : World} {base : Nat} {v : Value} {ks : List Key} (h : w.ownsRow base 9 1 v ks.length (ks.map encStr)) : ∃ a c, v = .slice a ks.length c ∧ ks.length ≤ c ∧ StrsAt w.heap.size w a (ks.map fun k => ⟨k.toArray⟩) := by
  have h2 := h.2
  obtain ⟨a, c, rfl, hc⟩ := ownsRow_cells h
  refine ⟨a, c, rfl, ?_, fun i s hi => ?_⟩
  · rcases h2 with ⟨e, h0⟩ | ⟨g, cap, cur, e, _, _, hl, _⟩
    · omega
    · cases e; exact hl
  · rw [List.getElem?_map, Option.map_eq_some_iff] at hi
    obtain ⟨k, hk, rfl⟩ := hi
    obtain ⟨b, off, rfl, hb, hcc⟩ := hc i (encStr k) (by rw [List.getElem?_map, hk]; rfl)
    exact ⟨b, off, rfl, hb, hcc⟩

theorem texts_self (L : List ByteArray) (a b : Option Addr) (c d : Nat) (w : World) (hA : StrsAt w.heap.size w a L) (hB : StrsAt w.heap.size w b L) (hl : L.length ≤ 9223372036854775807) :
    Calls Tryz.prog 48 #[.slice a L.length c, .slice b L.length d] w fun e w' => e = .returned (.bool true) ∧ Ext w w' := by
  have HA := Lib.hid hA
  have HB := Lib.hid hB
  clear hA hB
  go_enter Tryz.func48, Tryz.ntmps48
  go_wp2
  go_loopw [5] (fun i wr => ∃ k : Nat, k ≤ L.length ∧ i = .int .i64 k ∧ Ext w wr) (fun i _ => L.length - (intOf i).toNat)
  case atStart => exact ⟨0, Nat.zero_le _, rfl, Ext.refl _⟩
  case round =>
    obtain ⟨k, hk, rfl, hE⟩ := hrel
    by_cases hlt : k < L.length
    · obtain ⟨b1, o1, rfl, hb1, hc1⟩ := HA.out k L[k] (List.getElem?_eq_getElem hlt)
      obtain ⟨b2, o2, rfl, hb2, hc2⟩ := HB.out k L[k] (List.getElem?_eq_getElem hlt)
      generalize L[k] = n at *
      have c1 := (hE.cell (p := ⟨b1, o1 + k, none⟩) hb1).trans hc1
      have c2 := (hE.cell (p := ⟨b2, o2 + k, none⟩) hb2).trans hc2
      have HE := Lib.hid hE
      clear hE hc1 hc2
      go_wp2
      go_quiet (fail)
      go_wp2
      go_roundw
      case rel => exact ⟨k + 1, by omega, by go_num, HE.out.trans' (below_drewN (Below.refl _ _) _)⟩
      case measure => simp [intOf]; omega
    · obtain rfl : k = L.length := by omega
      have HE := Lib.hid hE
      clear hE
      go_wp2
      go_ret
      exact ⟨rfl, HE.out⟩
end Go.Proofs.YtamolbegmkngdaaGreatDoor
namespace Go.Proofs.YtamolbegmkngdaaGreatDoor
open Go.RowKit Go.Sort
set_option maxHeartbeats 4000000
set_option maxRecDepth 100000

/-- The rows that All hands back, cell by cell: the path and the data of each node. -/
theorem rows_path {M : List (Key × Nd)} {W : World} {base : Nat} {v : Value} {vs : List (Array Value)} {n : Nat} (hvl : vs.length = n) (hrow : W.ownsRow base 47 17 v n (vs.flatMap Array.toList))
    (hvn : ∀ (j : Nat) (cs : Array Value), vs[j]? = some cs → ∃ n, ((M.map (·.2)))[j]? = some n ∧ NdS (· < W.heap.size) W (.agg cs) n) :
    ∃ a c, v = .slice a n c ∧ ∀ k x, k < n → M[k]? = some x → ∃ b off dd dl, a = some ⟨b, off, none⟩ ∧ b < W.heap.size ∧ W.cell? ⟨b, off + k * 17, none⟩ = some (.string x.2.path) ∧ W.cell? ⟨b, off + k * 17 + 1, none⟩ = some (.slice dd x.2.data.length dl) := by
  obtain ⟨a, c, rfl, hc⟩ := ownsRow_cells hrow
  refine ⟨a, c, rfl, fun k x hk hx => ?_⟩
  have hvk : vs[k]? = some (vs[k]'(by omega)) := List.getElem?_eq_getElem (by omega)
  obtain ⟨n', hn', da, dc, aa, ac, e, _⟩ := hvn k _ hvk
  have hn2 : n' = x.2 := by
    rw [List.getElem?_map, hx] at hn'
    exact (Option.some.inj hn').symm
  subst hn2
  simp only [Value.agg.injEq] at e
  rw [e] at hvk
  have hv17 : ∀ y ∈ vs, y.size = 17 := fun y hy => by
    obtain ⟨i, hi, ei⟩ := List.getElem_of_mem hy
    obtain ⟨n2, _, da2, dc2, aa2, ac2, e2, _⟩ := hvn i y (by rw [List.getElem?_eq_getElem hi, ei])
    simp only [Value.agg.injEq] at e2
    rw [e2]; rfl
  have hfl := flat17 vs k _ hv17 hvk
  obtain ⟨b, off, rfl, hb, c0⟩ := hc (k * 17 + 0) _ (hfl 0 (.string x.2.path) rfl)
  obtain ⟨b', off', e1, _, c1⟩ := hc (k * 17 + 1) _ (hfl 1 (.slice da x.2.data.length dc) rfl)
  simp only [Option.some.injEq, Addr.mk.injEq, and_true] at e1
  obtain ⟨rfl, rfl⟩ := e1
  exact ⟨b, off, da, dc, rfl, hb, c0, by rw [Nat.add_assoc]; exact c1⟩

theorem weigh_there (S : Nat → Prop) (w : World) (bt : Nat) (M : List (Key × Nd)) (N : Nat) (hT : TreeAt S w bt M N) (hc : Clo M) {x : Key × Nd} (hx : x ∈ M) (hN : M.length * 168 ≤ 140737488355328) :
    Calls Tryz.prog 60 #[.pointer (some ⟨bt, 0, none⟩), .string x.2.path] w fun e w' => e = .returned (.tuple #[.int .i64 (wtN M x.2.path (fun _ => 1)), .int .i64 (wtN M x.2.path (fun n => n.data.length)), .int .i64 0]) ∧ Ext w w' := by
  have hM := hT.ok
  have hp := (vpath_facts (right_vpath (hM.right x hx))).2.1
  refine (weigh_any S w bt M N hT hc x.2.path (by unfold maxLen; omega) hN).mono fun e w' h => ?_
  obtain ⟨rfl, hE⟩ := h
  rw [there_of hM hx, wtN_one, ← bytesK_und hM]
  exact ⟨rfl, hE⟩

theorem wrap32_small (n : Nat) (h : n ≤ 1048576) : wrap32 (n : Int) = n := by
  unfold wrap32; omega

theorem stat_there (S : Nat → Prop) (w : World) (bt : Nat) (M : List (Key × Nd)) (N : Nat) (hT : TreeAt S w bt M N) {x : Key × Nd} (hx : x ∈ M) (hl : M.length ≤ 1048576) :
    Calls Tryz.prog 57 #[.pointer (some ⟨bt, 0, none⟩), .string x.2.path] w fun e w' => ∃ v0 v1 v2 v3 v4 v5 v6 v7 v8 v10, e = .returned (.tuple #[.agg #[.int .i64 v0, .int .i64 v1, .int .i64 v2, .int .i64 v3, .int .i32 v4, .int .i32 v5, .int .i32 v6, .int .i64 v7, .int .i32 v8, .int .i32 (kidN M x.2.path).length, .int .i64 v10], .int .i64 0]) ∧ Ext w w' := by
  have hM := hT.ok
  have hp := (vpath_facts (right_vpath (hM.right x hx))).2.1
  refine (tstat_any S w bt M N hT x.2.path (by unfold maxLen; omega)).mono fun e w' h => ?_
  obtain ⟨rfl, hE⟩ := h
  rw [there_of hM hx]
  have hk : (kidsOf M x.2.path).length ≤ 1048576 := by have := kids_length M x.2.path; omega
  have e : (Value.int .i32 (wrap32 ((kidsOf M x.2.path).length : Int))) = .int .i32 (kidN M x.2.path).length := by rw [wrap32_small _ hk, kidN_length]
  refine ⟨x.2.czxid, x.2.mzxid, x.2.ctime, x.2.mtime, x.2.version, wrap32 (wrap32 (2 * x.2.creates) - wrap32 ((kidsOf M x.2.path).length : Int)), x.2.aversion, x.2.owner, wrap32 (x.2.data.length : Int), x.2.pzxid, ?_, hE⟩
  rw [← e]
  rfl

theorem kids_there (S : Nat → Prop) (w : World) (bt : Nat) (M : List (Key × Nd)) (N : Nat) (hT : TreeAt S w bt M N) {x : Key × Nd} (hx : x ∈ M) (hN : M.length * 16 ≤ 140737488355328) :
    Calls Tryz.prog 58 #[.pointer (some ⟨bt, 0, none⟩), .string x.2.path] w fun e w' => ∃ a c, e = .returned (.tuple #[.slice a (kidN M x.2.path).length c, .int .i64 0]) ∧ Ext w w' ∧
      ∀ j y, (kidN M x.2.path)[j]? = some y → ∃ b off, a = some ⟨b, off, none⟩ ∧ b < w'.heap.size ∧ w'.cell? ⟨b, off + j, none⟩ = some (.string ⟨(nameK y.2).toArray⟩) := by
  have hM := hT.ok
  have hp := (vpath_facts (right_vpath (hM.right x hx))).2.1
  refine (children_any S w bt M N hT x.2.path (by unfold maxLen; omega) hN).mono fun e w' h => ?_
  obtain ⟨v, rfl, hE, hrow⟩ := h
  rw [there_of hM hx] at hrow ⊢
  simp only [Option.isSome_some, if_true] at hrow ⊢
  rw [← kidN_length] at hrow
  obtain ⟨a, c, rfl, hc⟩ := ownsRow_cells hrow
  refine ⟨a, c, rfl, hE, fun j y hy => ?_⟩
  refine hc j _ ?_
  rw [List.getElem?_map, kidsOf_map, List.getElem?_map, hy]
  rfl

theorem below_there (S : Nat → Prop) (w : World) (bt : Nat) (M : List (Key × Nd)) (N : Nat) (hT : TreeAt S w bt M N) (hc : Clo M) {x : Key × Nd} (hx : x ∈ M) (hN : M.length * 168 ≤ 140737488355328) :
    Calls Tryz.prog 94 #[.pointer (some ⟨bt, 0, none⟩), .string x.2.path, .int .i64 M.length] w fun e w' => ∃ a c, e = .returned (.slice a (wtN M x.2.path (fun _ => 1)) c) ∧ Ext w w' := by
  have hM := hT.ok
  have hp := (vpath_facts (right_vpath (hM.right x hx))).2.1
  have hU := UndL_some (there_of hM hx)
  have hlen : (UndL M x.2.path).length ≤ M.length := by rw [hU]; exact undK_length_le M _
  refine (lbelow_any S w bt M N hT hc x.2.path (by unfold maxLen; omega) M.length (by unfold maxLen; omega) hN (fun k hk => ?_) hlen).mono fun e w' h => ?_
  · rw [hU] at hk
    unfold undK at hk
    obtain ⟨y, hy, rfl⟩ := List.mem_map.1 hk
    have hyM := (List.mem_filter.1 hy).1
    have h1 := hM.key y hyM
    have h2 := (vpath_facts (right_vpath (hM.right y hyM))).2.1
    rw [h1]
    unfold keyN maxLen
    rw [size_list]; omega
  · obtain ⟨v, vs, rfl, hvl, hrow, _, hE⟩ := h
    obtain ⟨a, c, rfl, _⟩ := ownsRow_cells hrow
    have : ((nodesOf M (UndL M x.2.path)).take (M.length + 1)).length = wtN M x.2.path (fun _ => 1) := by
      rw [wtN_one, ← hU, List.length_take]
      unfold nodesOf
      rw [List.length_map]
      omega
    rw [this]
    exact ⟨a, c, rfl, hE⟩
end Go.Proofs.YtamolbegmkngdaaGreatDoor
namespace Go.Proofs.YtamolbegmkngdaaGreatDoor
open Go.RowKit
set_option maxHeartbeats 2000000
set_option maxRecDepth 100000

theorem nodes_self (L : List Nd) (a b : Option Addr) (c d : Nat) (w : World) (hA : NdsAt w.heap.size w a L) (hB : NdsAt w.heap.size w b L) (hf : ∀ n ∈ L, Fit n) (hl : L.length ≤ 9223372036854775807) :
    Calls Tryz.prog 22 #[.slice a L.length c, .slice b L.length d] w fun e w' => e = .returned (.bool true) ∧ Ext w w' := by
  have HA := Lib.hid hA
  have HB := Lib.hid hB
  have HF := Lib.hid hf
  clear hA hB hf
  go_enter Tryz.func22, Tryz.ntmps22
  go_wp2
  go_loopw [5] (fun i wr => ∃ k : Nat, k ≤ L.length ∧ i = .int .i64 k ∧ Ext w wr) (fun i _ => L.length - (intOf i).toNat)
  case atStart => exact ⟨0, Nat.zero_le _, rfl, Ext.refl _⟩
  case round =>
    obtain ⟨k, hk, rfl, hE⟩ := hrel
    have HE := Lib.hid hE
    by_cases hlt : k < L.length
    · obtain ⟨b1, o1, v1, rfl, hb1, hv1, hc1⟩ := HA.out k L[k] (List.getElem?_eq_getElem hlt)
      obtain ⟨b2, o2, v2, rfl, hb2, hv2, hc2⟩ := HB.out k L[k] (List.getElem?_eq_getElem hlt)
      have hfit := HF.out L[k] (List.getElem_mem hlt)
      generalize L[k] = n at *
      obtain ⟨da, dc, aa, ac, rfl, hD, hAc⟩ := hv1
      obtain ⟨db, dd, ab, ad, rfl, hD2, hAc2⟩ := hv2
      have hr1 : ∀ W, Ext w W → ∀ j u, (ndC n (.slice da n.data.length dc) (.slice aa n.acl.length ac))[j]? = some u → W.cell? ((⟨b1, o1 + k * 17, none⟩ : Addr).add j) = some u := fun W h j u hj => by
        rw [addr_add, h.cell (p := ⟨b1, o1 + k * 17 + j, none⟩) hb1]; exact hc1 j u hj
      have hr2 : ∀ W, Ext w W → ∀ j u, (ndC n (.slice db n.data.length dd) (.slice ab n.acl.length ad))[j]? = some u → W.cell? ((⟨b2, o2 + k * 17, none⟩ : Addr).add j) = some u := fun W h j u hj => by
        rw [addr_add, h.cell (p := ⟨b2, o2 + k * 17 + j, none⟩) hb2]; exact hc2 j u hj
      have HR1 := Lib.hid hr1
      have HR2 := Lib.hid hr2
      have HD := Lib.hid hD
      have HAc := Lib.hid hAc
      have HD2 := Lib.hid hD2
      have HAc2 := Lib.hid hAc2
      clear hr1 hr2 hc1 hc2 hD hAc hD2 hAc2 hE
      go_wp2
      refine wp_region_P (by kernel_rfl) (region_vals 27 [.slice (some ⟨b1, o1, none⟩) L.length c, .int .i64 k, .pointer (some ⟨b1, o1 + k * 17, none⟩), .agg (ndC n (.slice da n.data.length dc) (.slice aa n.acl.length ac)), .slice (some ⟨b2, o2, none⟩) L.length d, .int .i64 k, .pointer (some ⟨b2, o2 + k * 17, none⟩), .agg (ndC n (.slice db n.data.length dd) (.slice ab n.acl.length ad)), .bool true, .bool false] rfl (by decide) rfl ?duties ?rest)
      case duties =>
        refine ⟨?_, ?_, ?_, ?_, ?_, ?_, ?_, ?_, ?_, ?_, trivial⟩
        · refine duty_free rfl fun a w' hE hF hA => ?_
          have x1 := hF.slot 0 _ (by decide) rfl
          exact wp_value (w' := w') (v := .slice (some ⟨b1, o1, none⟩) L.length c) (by simp only [execOp, x1]; simp [go_sem]) ⟨_, rfl, rfl, Ext.refl _⟩
        · refine duty_free rfl fun a w' hE hF hA => ?_
          have x1 := hF.slot 5 _ (by decide) rfl
          exact wp_value (w' := w') (v := .int .i64 k) (by simp only [execOp, x1]; simp [go_sem]) ⟨_, rfl, rfl, Ext.refl _⟩
        · refine duty_free rfl fun a w' hE hF hA => ?_
          have x1 := hA.val 0 17 rfl rfl ⟨⟨0, .data⟩, by simp, rfl, rfl⟩ rfl
          have x2 := hA.val 1 18 rfl rfl ⟨⟨1, .data⟩, by simp, rfl, rfl⟩ rfl
          exact wp_value (w' := w') (v := .pointer (some ⟨b1, o1 + k * 17, none⟩)) (by simp only [execOp, x1, x2]; simp [go_sem, hlt]) ⟨_, rfl, rfl, Ext.refl _⟩
        · refine duty_free rfl fun a w' hE hF hA => ?_
          have x1 := hA.val 2 19 rfl rfl ⟨⟨2, .data⟩, by simp, rfl, rfl⟩ rfl
          exact wp_value (ex_load_at rfl _ x1 (ndC n (.slice da n.data.length dc) (.slice aa n.acl.length ac)) (HR1.out w' (HE.out.trans hE)) Tryz.underlying47 rfl sizeNd) ⟨_, rfl, rfl, Ext.refl _⟩
        · refine duty_free rfl fun a w' hE hF hA => ?_
          have x1 := hF.slot 1 _ (by decide) rfl
          exact wp_value (w' := w') (v := .slice (some ⟨b2, o2, none⟩) L.length d) (by simp only [execOp, x1]; simp [go_sem]) ⟨_, rfl, rfl, Ext.refl _⟩
        · refine duty_free rfl fun a w' hE hF hA => ?_
          have x1 := hF.slot 5 _ (by decide) rfl
          exact wp_value (w' := w') (v := .int .i64 k) (by simp only [execOp, x1]; simp [go_sem]) ⟨_, rfl, rfl, Ext.refl _⟩
        · refine duty_free rfl fun a w' hE hF hA => ?_
          have x1 := hA.val 4 21 rfl rfl ⟨⟨4, .data⟩, by simp, rfl, rfl⟩ rfl
          have x2 := hA.val 5 22 rfl rfl ⟨⟨5, .data⟩, by simp, rfl, rfl⟩ rfl
          exact wp_value (w' := w') (v := .pointer (some ⟨b2, o2 + k * 17, none⟩)) (by simp only [execOp, x1, x2]; simp [go_sem, hlt]) ⟨_, rfl, rfl, Ext.refl _⟩
        · refine duty_free rfl fun a w' hE hF hA => ?_
          have x1 := hA.val 6 23 rfl rfl ⟨⟨6, .data⟩, by simp, rfl, rfl⟩ rfl
          exact wp_value (ex_load_at rfl _ x1 (ndC n (.slice db n.data.length dd) (.slice ab n.acl.length ad)) (HR2.out w' (HE.out.trans hE)) Tryz.underlying47 rfl sizeNd) ⟨_, rfl, rfl, Ext.refl _⟩
        · refine duty_free rfl fun a w' hE hF hA => ?_
          have x1 := hA.val 3 20 rfl rfl ⟨⟨3, .data⟩, by simp, rfl, rfl⟩ rfl
          have x2 := hA.val 7 24 rfl rfl ⟨⟨7, .data⟩, by simp, rfl, rfl⟩ rfl
          have hEE := HE.out.trans hE
          refine wp_enter (ex_call rfl (enters_f Tryz.func87 (by kernel_rfl) rfl)) (by simp only [List.map_toArray, List.map_cons, List.map_nil, x1, x2]; exact rsame_self n da aa db ab dc ac dd ad w' hfit (HD.out.ext hEE) (HAc.out.ext hEE) (HD2.out.ext hEE) (HAc2.out.ext hEE)) ?_
          rintro e w4 ⟨rfl, hb⟩
          exact ⟨_, rfl, _, rfl, rfl, hb⟩
        · refine duty_free rfl fun a w' hE hF hA => ?_
          have x1 := hA.val 8 25 rfl rfl ⟨⟨8, .data⟩, by simp, rfl, rfl⟩ rfl
          exact wp_value (w' := w') (v := .bool false) (by simp only [execOp, x1]; simp [go_sem]) ⟨_, rfl, rfl, Ext.refl _⟩
      case rest =>
        intro W8 hE8
        have HE8 := Lib.hid (HE.out.trans hE8)
        clear hE8 HR1 HR2
        simp only [filled, List.zip_cons_cons, List.zip_nil_left, List.foldl_cons, List.foldl_nil, Act.put, List.setIfInBounds_toArray, List.set_cons_succ, List.set_cons_zero, Exit.then]
        rename_i hK
        refine hK _ _ ?_
        clear hK
        go_wp2
        go_roundw
        case rel => exact ⟨k + 1, by omega, by go_num, HE8.out⟩
        case measure => simp [intOf]; omega
    · obtain rfl : k = L.length := by omega
      clear hE
      go_wp2
      go_ret
      exact ⟨rfl, HE.out⟩
end Go.Proofs.YtamolbegmkngdaaGreatDoor
namespace Go.Proofs.YtamolbegmkngdaaGreatDoor
open Go.RowKit
set_option maxHeartbeats 2000000
set_option maxRecDepth 100000

theorem bequal_self (a b : Option Addr) (c d : Nat) (xs : List UInt8) (w : World) (hx : Cells w.heap.size w a (xs.map u8v)) (hy : Cells w.heap.size w b (xs.map u8v)) :
    Calls Tryz.prog 153 #[.slice a xs.length c, .slice b xs.length d] w fun e w' => e = .returned (.bool true) ∧ w = w' := by
  have hv1 := conv_string c hx
  have hv2 := conv_string d hy
  clear hx hy
  go_enter Tryz.func153, Tryz.ntmps153
  go_wp2
  go_ret
  exact ⟨rfl, rfl⟩

theorem aequal_self (a b : Option Addr) (c d : Nat) (xs : List Ac) (w : World) (hx : Cells w.heap.size w a (acCs xs)) (hy : Cells w.heap.size w b (acCs xs)) (hm : xs.length ≤ 9223372036854775800) :
    Calls Tryz.prog 154 #[.slice a xs.length c, .slice b xs.length d] w fun e w' => e = .returned (.bool true) ∧ Below w.heap.size w w' := by
  have hg := guard_ac
  have hnq := neq_ac
  go_enter Tryz.func154, Tryz.ntmps154
  go_wp2
  go_loopw [13] (fun i wr => ∃ (k n : Nat), k ≤ xs.length ∧ i = .int .i64 k ∧ wr = w.drewN n) (fun i _ => xs.length - (intOf i).toNat)
  case atStart => exact ⟨0, 0, Nat.zero_le _, rfl, rfl⟩
  case round =>
    obtain ⟨k, n, hk, rfl, rfl⟩ := hrel
    by_cases hlt : k < xs.length
    · obtain ⟨b1, o1, rfl, hb1, c0, c1, c2⟩ := acCells hx k hlt
      obtain ⟨b2, o2, rfl, hb2, d0, d1, d2⟩ := acCells hy k hlt
      have hk1 : (k : Int) < xs.length := by omega
      have hk0 : (0 : Int) ≤ k := by omega
      have he := eqAc_self xs[k]
      clear hx hy
      go_wp2
      go_quiet (fail)
      go_wp2
      go_roundw
      case rel => exact ⟨k + 1, _, by omega, by go_num, rfl⟩
      case measure => simp [intOf]; omega
    · obtain rfl : k = xs.length := by omega
      clear hx hy
      go_wp2
      go_ret
      exact ⟨rfl, below_drewN (Below.refl _ _) _⟩

/-- A node and its like are the same. -/
theorem ssame_self (n : Nd) (da aa db ab : Option Addr) (dc ac dd ad : Nat) (w : World) (hf : Fit n) (hD : Cells w.heap.size w da (n.data.map u8v)) (hA : Cells w.heap.size w aa (acCs n.acl)) (hD' : Cells w.heap.size w db (n.data.map u8v)) (hA' : Cells w.heap.size w ab (acCs n.acl)) :
    Calls Tryz.prog 116 #[.agg (ndC n (.slice da n.data.length dc) (.slice aa n.acl.length ac)), .agg (ndC n (.slice db n.data.length dd) (.slice ab n.acl.length ad))] w fun e w' => e = .returned (.bool true) ∧ Below w.heap.size w w' := by
  have hfa := hf.acl
  obtain ⟨W2, hW2⟩ : ∃ W2, W2 = (w.alloc (.cells (ndC n (.slice da n.data.length dc) (.slice aa n.acl.length ac)) 47)).alloc (.cells (ndC n (.slice db n.data.length dd) (.slice ab n.acl.length ad)) 47) := ⟨_, rfl⟩
  have hs2 : W2.heap.size = w.heap.size + 1 + 1 := by rw [hW2]; simp
  have hb2 : Below w.heap.size w W2 := by rw [hW2]; exact ((Below.refl _ _).alloc (Nat.le_refl _) _).alloc (by simp) _
  have hx : Box W2 w.heap.size (ndC n (.slice da n.data.length dc) (.slice aa n.acl.length ac)) := fun j => by rw [hW2]; exact cell_of_row _ _ _ _ _ _ (heap_alloc2_old w _ _)
  have hy : Box W2 (w.heap.size + 1) (ndC n (.slice db n.data.length dd) (.slice ab n.acl.length ad)) := fun j => by rw [hW2]; exact cell_of_row _ _ _ _ _ _ (heap_alloc2_new w _ _)
  have CB := bequal_self da db dc dd n.data W2 ((hD.below hb2).mono (by omega)) ((hD'.below hb2).mono (by omega))
  have CA := aequal_self aa ab ac ad n.acl W2 ((hA.below hb2).mono (by omega)) ((hA'.below hb2).mono (by omega)) (by omega)
  have hgq := guard_q
  have hnq := eql_q
  have hqq : ∀ h a b, eqQ h a b h a b = true := fun h a b => by simp [eqQ]
  rw [hW2] at CA CB
  have CA := Lib.hid CA
  have CB := Lib.hid CB
  have HW2 := Lib.hid hW2
  unfold ndC at hx hy CA CB HW2 ⊢
  clear hW2 hD hA hD' hA'
  unfold Box at hx hy
  have hx0 := hx
  have hy0 := hy
  rw [HW2.out] at hx hy
  go_enter Tryz.func116, Tryz.ntmps116
  go_wp2_with fail
  refine CB.out.mono ?_
  rintro e w3 ⟨rfl, rfl⟩
  clear CB
  go_wp2_with fail
  refine CA.out.mono ?_
  rintro e w3 ⟨rfl, hb3⟩
  rw [← HW2.out] at hb3
  have hx3 := Box.below (fun j => hx0 j) hb3 (by omega)
  have hy3 := Box.below (fun j => hy0 j) hb3 (by omega)
  have hbb := hb2.trans (hb3.mono (by omega))
  unfold Box at hx3 hy3
  clear CA hx hy hx0 hy0 hb3 hb2 HW2
  go_wp2
  go_ret
  exact ⟨rfl, hbb⟩
end Go.Proofs.YtamolbegmkngdaaGreatDoor
namespace Go.Proofs.YtamolbegmkngdaaGreatDoor
open Go.RowKit
set_option maxHeartbeats 4000000
set_option maxRecDepth 100000

theorem wpList_load_row_g {P : Program} {ops : Array Oper} {rest : List Oper} {o : Oper} {a : Act} {Q : Exit → Act → World → Prop} {w : World} (hw : Region.wanted o (yielded ops a.tmps) = true) (ty : TypeId) (x : Operand) (ho : o.op = .load ty x) (g : Nat) (hx : a.eval x = .pointer (some ⟨g, 0, none⟩)) (t : TypeId) (cs : Array Value) (fr : Nat × Nat) (d : TypeDesc) (hg : w.heap[g]? = some (.cells cs t fr))
    (hu : P.underlying ty = some d) (hd : (match d with | .struct _ | .array _ _ => true | _ => false) = true) (hi : (P.info? ty).map (·.size) = some cs.size)
    (hK : wpList P ops Q rest (a.put o.dst (.agg cs)) w) : wpList P ops Q (o :: rest) a w := by
  rw [wpList, if_pos hw]
  exact .inl (wp_value (ex_load_row ho g hx t cs fr d hg hu hd hi) hK)

theorem grown_ext {a b : World} (h : Ext a b) (row : Option Nat) : a.grownBy b row := ⟨h.os, h.tape, h.output, h.size, fun k hk _ => h.block k hk⟩

theorem eqf_self (S1 S2 : Nat → Prop) (w : World) (bn1 bn2 : Nat) (M : List (Key × Nd)) (N1 N2 : Nat) (h1 : NodesAt S1 w bn1 M N1) (h2 : NodesAt S2 w bn2 M N2) (hS1 : ∀ k, S1 k → k < w.heap.size) (hS2 : ∀ k, S2 k → k < w.heap.size) :
    Calls Tryz.prog 115 #[.map (some bn1), .map (some bn2), .func (.func 116) #[] #[]] w fun e w' => e = .returned (.bool true) ∧ Ext w w' := by
  have hok := h1.ok
  obtain ⟨m1, hm1, hr1⟩ := h1.ex
  have hlt2 : bn2 < w.heap.size := by obtain ⟨m2, hm2, _⟩ := h2.ex; exact hm2.lt
  have hlen1 := fun ty => hm1.len (e := 47) Tryz.underlying115 ty
  have hlen2 : ∀ ty, (Builtin.len_ #[115] ty #[.map (some bn2)]).run Tryz.prog w = .ok (.int .i64 M.length) w := fun ty => by
    obtain ⟨m2, hm2, hr2⟩ := h2.ex
    rw [hr2.length]
    exact hm2.len (e := 47) Tryz.underlying115 ty
  rw [← hr1.length] at hlen1
  have HR1 := Lib.hid hr1
  have H2 := Lib.hid h2
  have HOK := Lib.hid hok
  have HM1 := hm1
  clear h1 h2 hm1 hr1 hok
  go_enter Tryz.func115, Tryz.ntmps115
  go_wp2_with (at_range; refine wpList_range_own _ rfl _ 115 rfl 9 47 (Maps.string_keyed strT) Tryz.underlying115 Rv bn1 _ _ rfl HM1 ?_; intro w0 hrg0 hg0 hs0)
  go_frame
  have hE0 : Ext w w0 := ⟨hg0.os, hg0.tape, hg0.output, hg0.size, fun k hk => hg0.block k hk (by simp)⟩
  have hb1 := HM1.lt
  have HRG0 := Lib.hid hrg0
  have HE0 := Lib.hid hE0
  clear HM1 hlen1 hlen2 hrg0 hg0 hs0 hE0
  go_loopw [6] (fun r wr => ∃ (left : Lit → Bool) (cnt : Nat), r = .bool false ∧ wr.ranges Tryz.prog 9 Rv bn1 w.heap.size m1.length (kvD m1) left cnt ∧ Ext w wr) (fun _ wr => wr.rangeLeft bn1 w.heap.size)
  case atStart => exact ⟨_, _, rfl, HRG0.out, HE0.out⟩
  case round =>
    obtain ⟨left, cnt, rfl, hrg, hE⟩ := hrel
    have HE := Lib.hid hE
    clear hE
    go_wp2_with (at_next; refine wpList_next_left _ rfl _ rfl 9 strT bn1 w.heap.size _ m1 left cnt rfl hrg ?_ ?_)
    · intro _
      clear hrg
      go_wp2
      go_ret
      exact ⟨rfl, HE.out⟩
    · intro s v w6 cnt6 hs _ hmg hrg6 hlt6 hg6 hsz6 hen
      obtain ⟨y, hy, hv⟩ : ∃ y, mget M s.data.toList = some y ∧ NdS S1 w v y := by
        rcases HR1.out.get s.data.toList with ⟨_, h2⟩ | ⟨y, u, h1, h2, h3⟩
        · rw [h2] at hmg; cases hmg
        · rw [h2] at hmg
          cases hmg
          exact ⟨y, h1, h3⟩
      have hEw6 : Ext w w6 := HE.out.trans' ⟨hg6.os, hg6.tape, hg6.output, hg6.size, fun i hi => hg6.block i (Nat.lt_of_lt_of_le hi HE.out.size) (fun e => by
        have := Option.some.inj e
        omega)⟩
      have hfit := HOK.out.fit s.data.toList
      rw [hy] at hfit
      simp only [Option.getD_some] at hfit
      obtain ⟨da, dc, aa, ac, rfl, hD, hA⟩ := hv
      obtain ⟨W7, hW7⟩ : ∃ W7, W7 = w6.alloc (.cells (ndC y (.slice da y.data.length dc) (.slice aa y.acl.length ac)) 47) := ⟨_, rfl⟩
      have hE7 : Ext w6 W7 := by rw [hW7]; exact Ext.alloc _ _
      have hz7 : W7.heap.size = w6.heap.size + 1 := by rw [hW7]; simp
      have hn7 : W7.heap[w6.heap.size]? = some (.cells (ndC y (.slice da y.data.length dc) (.slice aa y.acl.length ac)) 47 (0, 0)) := by rw [hW7]; exact heap_alloc_new _ _
      have hEw7 := hEw6.trans hE7
      have h27 : NodesAt S2 W7 bn2 M N2 := H2.out.keep (hEw7.block bn2 hlt2) (fun _ h => h) (fun b o u hb hu => (hEw7.cell (p := ⟨b, o, none⟩) (hS2 b hb)).trans hu) (Nat.le_refl _)
      obtain ⟨v2, hv2, hq, _⟩ := h27.look' s hs
      rw [hy] at hv2 hq
      simp only [Option.getD_some, Option.isSome_some] at hv2 hq
      obtain ⟨db, dd, ab, ad, rfl, hD2, hA2⟩ := hv2
      obtain ⟨W8, hW8⟩ : ∃ W8, W8 = W7.alloc (.cells (ndC y (.slice db y.data.length dd) (.slice ab y.acl.length ad)) 47) := ⟨_, rfl⟩
      have hE8 : Ext W7 W8 := by rw [hW8]; exact Ext.alloc _ _
      have hz8 : W8.heap.size = W7.heap.size + 1 := by rw [hW8]; simp
      have hn8 : W8.heap[W7.heap.size]? = some (.cells (ndC y (.slice db y.data.length dd) (.slice ab y.acl.length ad)) 47 (0, 0)) := by rw [hW8]; exact heap_alloc_new _ _
      have hn78 := (hE8.block w6.heap.size (by omega)).trans hn7
      have hE68 := hE7.trans hE8
      have CS := Lib.hid (ssame_self y da aa db ab dc ac dd ad W8 hfit (((hD.cells hS1).ext (hEw7.trans hE8))) ((hA.cells hS1).ext (hEw7.trans hE8)) ((hD2.cells fun b hb => Nat.lt_of_lt_of_le (hS2 b hb) hEw7.size).ext hE8) ((hA2.cells fun b hb => Nat.lt_of_lt_of_le (hS2 b hb) hEw7.size).ext hE8))
      have HRG8 := Lib.hid (hrg6.kept (grown_ext hE68 none) (by simp) (by simp))
      have HRG := Lib.hid hrg
      have HSET7 := Lib.hid ((setRow_alloc w6 zeroNd (ndC y (.slice da y.data.length dc) (.slice aa y.acl.length ac)) 47).trans hW7.symm)
      have HNew7 := Lib.hid (heap_alloc_new w6 (.cells zeroNd 47))
      have HSET8 := Lib.hid ((setRow_alloc W7 zeroNd (ndC y (.slice db y.data.length dd) (.slice ab y.acl.length ad)) 47).trans hW8.symm)
      have HNew8 := Lib.hid (heap_alloc_new W7 (.cells zeroNd 47))
      have HN78 := Lib.hid hn78
      have HN8 := Lib.hid hn8
      have HEW8 := Lib.hid (hEw7.trans hE8)
      have HLT := Lib.hid hlt6
      rw [hz7] at HSET8 HNew8 HN8
      unfold ndC at HSET7 HSET8 HN78 HN8 CS hq
      unfold zeroNd at HSET7 HNew7 HSET8 HNew8
      clear hrg hrg6 hg6 hsz6 hW7 hW8 hE7 hE8 hE68 hEw6 hEw7 hn7 hn8 hn78 h27 hD hA hD2 hA2 hmg hlt6 hfit hy
      unfold ndC at hen
      go_wp2_with (first | (refine wpList_store_row rfl 47 (.tmp 8) (.tmp 22) rfl w6.heap.size _ rfl rfl 47 _ HNew7.out sizeNd rfl (cells_node y da aa _ _ dc ac) ?_; rw [HSET7.out]) | (refine wpList_store_row rfl 47 (.tmp 9) (.tmp 27) rfl (w6.heap.size + 1) _ rfl rfl 47 _ HNew8.out sizeNd rfl (cells_node y db ab _ _ dd ad) ?_; rw [HSET8.out]) | (refine wpList_load_row_g rfl 47 (.tmp 8) rfl w6.heap.size rfl 47 _ (0, 0) _ HN78.out Tryz.underlying47 rfl sizeNd ?_) | (refine wpList_load_row_g rfl 47 (.tmp 9) rfl (w6.heap.size + 1) rfl 47 _ (0, 0) _ HN8.out Tryz.underlying47 rfl sizeNd ?_))
      refine CS.out.mono ?_
      rintro e w9 ⟨rfl, hE9⟩
      have hE9 : Ext W8 w9 := hE9
      have hrg9 := HRG8.out.kept (grown_ext hE9 none) (by simp) (by simp)
      have HREL := Lib.hid (show ∃ (left : Lit → Bool) (cnt : Nat), Value.bool false = .bool false ∧ w9.ranges Tryz.prog 9 Rv bn1 w.heap.size m1.length (kvD m1) left cnt ∧ Ext w w9 from ⟨_, _, rfl, hrg9, HEW8.out.trans hE9⟩)
      have HMS := Lib.hid (show w9.rangeLeft bn1 w.heap.size < wr.rangeLeft bn1 w.heap.size by rw [hrg9.left_eq, HRG.out.left_eq]; exact HLT.out)
      clear CS hE9 hrg9 HRG8 HRG HN78 HN8 HSET7 HSET8 HNew7 HNew8 hq hen
      go_wp2
      go_roundw
      case rel =>
        obtain ⟨l, c, _, h⟩ := HREL.out
        exact ⟨l, c, rfl, h⟩
      case measure => exact HMS.out

theorem tsame_self (S1 S2 : Nat → Prop) (w : World) (b1 b2 : Nat) (M : List (Key × Nd)) (N1 N2 : Nat) (h1 : TreeAt S1 w b1 M N1) (h2 : TreeAt S2 w b2 M N2) :
    Calls Tryz.prog 55 #[.pointer (some ⟨b1, 0, none⟩), .pointer (some ⟨b2, 0, none⟩)] w fun e w' => e = .returned (.bool true) ∧ Ext w w' := by
  have hB1 := h1.bound
  have hB2 := h2.bound
  obtain ⟨n1, k1, K1, hd1, hN1, _⟩ := h1
  obtain ⟨n2, k2, K2, hd2, hN2, _⟩ := h2
  have hx1 := TreeAt.box hd1
  have hx2 := TreeAt.box hd2
  have HC := Lib.hid fun (W : World) (hE : Ext w W) => eqf_self S1 S2 W n1 n2 M N1 N2 (hN1.keep (hE.block n1 (hd1.bound _ hd1.sn)) (fun _ h => h) (fun b o u hb hu => (hE.cell (p := ⟨b, o, none⟩) (hB1 b hb)).trans hu) (Nat.le_refl _)) (hN2.keep (hE.block n2 (hd2.bound _ hd2.sn)) (fun _ h => h) (fun b o u hb hu => (hE.cell (p := ⟨b, o, none⟩) (hB2 b hb)).trans hu) (Nat.le_refl _))
    (fun k hk => Nat.lt_of_lt_of_le (hB1 k hk) hE.size) (fun k hk => Nat.lt_of_lt_of_le (hB2 k hk) hE.size)
  unfold Box treeC at hx1 hx2
  clear hd1 hd2 hN1 hN2 hB1 hB2
  go_enter Tryz.func55, Tryz.ntmps55
  have hG0 : Ext w w.drew := Ext.drew _
  have HX1 := Lib.hid hx1
  have HX2 := Lib.hid hx2
  have hGx : ∀ (i : Nat) (d d' : Nat → Bool) (u v : World), Ext w u → Ext u v → (∀ k, k ≠ i → d' k = d k) → Ext w v := fun _ _ _ _ _ h k _ => h.trans k
  clear hx1 hx2
  go_wp2
  refine wp_region_P (by kernel_rfl) (region_state_vals 23 (fun _ W => Ext w W) hG0 [.pointer (some ⟨b1, 0, none⟩), .pointer (some ⟨b1, 0, none⟩), .pointer (some ⟨b1, 0, none⟩), .map (some n1), .pointer (some ⟨b2, 0, none⟩), .pointer (some ⟨b2, 0, none⟩), .pointer (some ⟨b2, 0, none⟩), .map (some n2), .bool true, .bool true] rfl (by decide) rfl ?duties ?rest)
  case duties =>
    refine ⟨?_, ?_, ?_, ?_, ?_, ?_, ?_, ?_, ?_, ?_, trivial⟩
    · refine dutyS_ext (hGx _) fun d a w' hG hF hA => ?_
      have x1 := hF.slot 0 _ (by decide) rfl
      exact wp_value (w' := w') (v := .pointer (some ⟨b1, 0, none⟩)) (by simp only [execOp, x1]; simp [go_sem]) ⟨_, rfl, rfl, Ext.refl _⟩
    · refine dutyS_ext (hGx _) fun d a w' hG hF hA => ?_
      have x1 := hA.val 0 14 rfl rfl ⟨⟨0, .data⟩, by simp, rfl, rfl⟩ rfl
      exact wp_value (ex_nilCheck rfl _ x1) ⟨_, rfl, rfl, Ext.refl _⟩
    · refine dutyS_ext (hGx _) fun d a w' hG hF hA => ?_
      have x1 := hA.val 1 15 rfl rfl ⟨⟨1, .data⟩, by simp, rfl, rfl⟩ rfl
      exact wp_value (w' := w') (v := .pointer (some ⟨b1, 0, none⟩)) (by simp only [execOp, x1]; simp [go_sem]) ⟨_, rfl, rfl, Ext.refl _⟩
    · refine dutyS_ext (hGx _) fun d a w' hG hF hA => ?_
      have x1 := hA.val 2 16 rfl rfl ⟨⟨2, .data⟩, by simp, rfl, rfl⟩ rfl
      have hc := HX1.out 0
      exact wp_value (ex_cell rfl _ _ x1 ((hG.cell (p := ⟨b1, 0, none⟩) (World.block_lt_of_cell? _ _ hc)).trans hc) rfl Tryz.underlying115) ⟨_, rfl, rfl, Ext.refl _⟩
    · refine dutyS_ext (hGx _) fun d a w' hG hF hA => ?_
      have x1 := hF.slot 1 _ (by decide) rfl
      exact wp_value (w' := w') (v := .pointer (some ⟨b2, 0, none⟩)) (by simp only [execOp, x1]; simp [go_sem]) ⟨_, rfl, rfl, Ext.refl _⟩
    · refine dutyS_ext (hGx _) fun d a w' hG hF hA => ?_
      have x1 := hA.val 4 18 rfl rfl ⟨⟨4, .data⟩, by simp, rfl, rfl⟩ rfl
      exact wp_value (ex_nilCheck rfl _ x1) ⟨_, rfl, rfl, Ext.refl _⟩
    · refine dutyS_ext (hGx _) fun d a w' hG hF hA => ?_
      have x1 := hA.val 5 19 rfl rfl ⟨⟨5, .data⟩, by simp, rfl, rfl⟩ rfl
      exact wp_value (w' := w') (v := .pointer (some ⟨b2, 0, none⟩)) (by simp only [execOp, x1]; simp [go_sem]) ⟨_, rfl, rfl, Ext.refl _⟩
    · refine dutyS_ext (hGx _) fun d a w' hG hF hA => ?_
      have x1 := hA.val 6 20 rfl rfl ⟨⟨6, .data⟩, by simp, rfl, rfl⟩ rfl
      have hc := HX2.out 0
      exact wp_value (ex_cell rfl _ _ x1 ((hG.cell (p := ⟨b2, 0, none⟩) (World.block_lt_of_cell? _ _ hc)).trans hc) rfl Tryz.underlying115) ⟨_, rfl, rfl, Ext.refl _⟩
    · refine dutyS_ext (hGx _) fun d a w' hG hF hA => ?_
      have x1 := hA.val 3 17 rfl rfl ⟨⟨3, .data⟩, by simp, rfl, rfl⟩ rfl
      have x2 := hA.val 7 21 rfl rfl ⟨⟨7, .data⟩, by simp, rfl, rfl⟩ rfl
      refine wp_enter (ex_call rfl (enters_f Tryz.func115 (by kernel_rfl) rfl)) (by simp only [List.map_toArray, List.map_cons, List.map_nil, x1, x2]; exact HC.out w' hG) ?_
      rintro e w4 ⟨rfl, h4⟩
      exact ⟨_, rfl, _, rfl, rfl, h4⟩
    · refine dutyS_ext (hGx _) fun d a w' hG hF hA => ?_
      have x1 := hA.val 8 22 rfl rfl ⟨⟨8, .data⟩, by simp, rfl, rfl⟩ rfl
      exact wp_value (w' := w') (v := .bool true) (by simp only [execOp, x1]; simp [go_sem]) ⟨_, rfl, rfl, Ext.refl _⟩
  case rest =>
    intro d W4 hdn hG4
    have HE := Lib.hid hG4
    clear hG4 hdn hG0 hGx HC
    simp only [filled, List.zip_cons_cons, List.zip_nil_left, List.foldl_cons, List.foldl_nil, Act.put, List.setIfInBounds_toArray, List.set_cons_succ, List.set_cons_zero, Exit.inBlock, Exit.then]
    rename_i hK
    refine hK _ _ ?_
    clear hK
    go_wp2
    go_ret
    exact ⟨rfl, HE.out⟩
end Go.Proofs.YtamolbegmkngdaaGreatDoor
namespace Go.Proofs.YtamolbegmkngdaaGreatDoor
open Go.RowKit Go.Sort
set_option maxHeartbeats 8000000
set_option maxRecDepth 100000

/-- A node put into a new box. -/
theorem box_node {S : Nat → Prop} {w1 : World} {v : Value} {n : Nd} (hv : NdS S w1 v n) (hS : ∀ b, S b → b < w1.heap.size) :
    ∃ da dc aa ac W2, v = .agg (ndC n (.slice da n.data.length dc) (.slice aa n.acl.length ac)) ∧ (w1.alloc (.cells zeroNd 47)).setRow w1.heap.size (ndC n (.slice da n.data.length dc) (.slice aa n.acl.length ac)) = W2 ∧
      W2.heap[w1.heap.size]? = some (.cells (ndC n (.slice da n.data.length dc) (.slice aa n.acl.length ac)) 47 (0, 0)) ∧ Ext w1 W2 ∧ Cells W2.heap.size W2 da (n.data.map u8v) ∧ Cells W2.heap.size W2 aa (acCs n.acl) := by
  obtain ⟨da, dc, aa, ac, rfl, hD, hA⟩ := hv
  have hE : Ext w1 (w1.alloc (.cells (ndC n (.slice da n.data.length dc) (.slice aa n.acl.length ac)) 47)) := Ext.alloc _ _
  exact ⟨da, dc, aa, ac, _, rfl, setRow_alloc w1 zeroNd _ 47, heap_alloc_new w1 _, hE, (hD.cells hS).ext hE, (hA.cells hS).ext hE⟩

theorem neq_stat (w : World) (s0 s1 s2 s3 s4 s5 s6 s7 s8 s9 s10 : Int) : (binOp .neq 93 (.agg #[.int .i64 s0, .int .i64 s1, .int .i64 s2, .int .i64 s3, .int .i32 s4, .int .i32 s5, .int .i32 s6, .int .i64 s7, .int .i32 s8, .int .i32 s9, .int .i64 s10]) (.agg #[.int .i64 s0, .int .i64 s1, .int .i64 s2, .int .i64 s3, .int .i32 s4, .int .i32 s5, .int .i32 s6, .int .i64 s7, .int .i32 s8, .int .i32 s9, .int .i64 s10])).run Tryz.prog w = .ok (.bool false) w := by
  rw [run_neq_struct]
  have : (Op.equalIn (9998 + 2) 93 (.agg #[.int .i64 s0, .int .i64 s1, .int .i64 s2, .int .i64 s3, .int .i32 s4, .int .i32 s5, .int .i32 s6, .int .i64 s7, .int .i32 s8, .int .i32 s9, .int .i64 s10]) (.agg #[.int .i64 s0, .int .i64 s1, .int .i64 s2, .int .i64 s3, .int .i32 s4, .int .i32 s5, .int .i32 s6, .int .i64 s7, .int .i32 s8, .int .i32 s9, .int .i64 s10])).run Tryz.prog w = .ok true w := by
    rw [eq_agg w (9998 + 1) _ _ _ _ Tryz.underlying93 (by kernel_rfl)]
    simp [Op.eqFields, part, go_sem]
  rw [this]; rfl

theorem stat_shape (M : List (Key × Nd)) (s : ByteArray) : ∃ s0 s1 s2 s3 s4 s5 s6 s7 s8 s9 s10 : Int, ∀ w e w', StatOut M s w e w' → e = .returned (.tuple #[.agg #[.int .i64 s0, .int .i64 s1, .int .i64 s2, .int .i64 s3, .int .i32 s4, .int .i32 s5, .int .i32 s6, .int .i64 s7, .int .i32 s8, .int .i32 s9, .int .i64 s10], .int .i64 (if (mget M s.data.toList).isSome = true then 0 else 70)]) ∧ Ext w w' := by
  unfold StatOut
  cases mget M s.data.toList with
  | some n => exact ⟨_, _, _, _, _, _, _, _, _, _, _, fun w e w' h => ⟨h.1.trans rfl, h.2⟩⟩
  | none => exact ⟨_, _, _, _, _, _, _, _, _, _, _, fun w e w' h => ⟨h.1.trans rfl, h.2⟩⟩

/-- The children's names of a path that is there. -/
def kidL (M : List (Key × Nd)) (s : ByteArray) : List Key := if (mget M s.data.toList).isSome = true then (kidsOf M s).map (·.1) else []
theorem child_strs {M : List (Key × Nd)} {s : ByteArray} {w w' : World} {e : Ending} (h : ChildOut M s w e w') : ∃ a c, e = .returned (.tuple #[.slice a (kidL M s).length c, .int .i64 (if (mget M s.data.toList).isSome = true then 0 else 70)]) ∧ StrsAt w'.heap.size w' a ((kidL M s).map fun k => ⟨k.toArray⟩) ∧ Ext w w' := by
  obtain ⟨v, rfl, hE, hv⟩ := h
  unfold kidL
  by_cases hg : (mget M s.data.toList).isSome = true
  · simp only [if_pos hg] at hv ⊢
    have hv' : w'.ownsRow w.heap.size 9 1 v ((kidsOf M s).map (·.1)).length (((kidsOf M s).map (·.1)).map encStr) := by
      rw [List.length_map, List.map_map]; exact hv
    obtain ⟨a, c, rfl, _, hs⟩ := StrsAt.of_own hv'
    exact ⟨a, c, rfl, hs, hE⟩
  · simp only [if_neg hg] at hv ⊢
    subst hv
    exact ⟨none, 0, rfl, fun i x hx => by simp at hx, hE⟩

theorem weigh_shape (M : List (Key × Nd)) (s : ByteArray) : ∃ x y z : Int, (if (mget M s.data.toList).isSome = true then Value.tuple #[.int .i64 (undK M s).length, .int .i64 (bytesK M (undK M s)), .int .i64 0] else .tuple #[.int .i64 0, .int .i64 0, .int .i64 70]) = .tuple #[.int .i64 x, .int .i64 y, .int .i64 z] := by
  split
  · exact ⟨_, _, _, rfl⟩
  · exact ⟨_, _, _, rfl⟩

theorem UndL_le (M : List (Key × Nd)) (s : ByteArray) : (UndL M s).length ≤ M.length := by
  unfold UndL
  split
  · exact undK_length_le M s
  · exact Nat.zero_le _
theorem UndL_key {M : List (Key × Nd)} (hM : MOk M) (s : ByteArray) : ∀ k ∈ UndL M s, k.length ≤ maxLen := fun k hk => by
  unfold UndL at hk
  split at hk
  · unfold undK at hk
    obtain ⟨y, hy, rfl⟩ := List.mem_map.1 hk
    have hyM := (List.mem_filter.1 hy).1
    have h1 := hM.key y hyM
    have h2 := (vpath_facts (right_vpath (hM.right y hyM))).2.1
    rw [h1]; unfold keyN maxLen; rw [size_list]; omega
  · simp at hk
theorem nodesOf_fit {M : List (Key × Nd)} (hM : MOk M) (ks : List Key) : ∀ n ∈ nodesOf M ks, Fit n := fun n hn => by
  unfold nodesOf at hn
  obtain ⟨k, _, rfl⟩ := List.mem_map.1 hn
  exact hM.fit k
theorem after_fit {M : List (Key × Nd)} (hM : MOk M) (s : ByteArray) : Fit (((afterN M s).map (·.2)).getD zeroN) := by
  cases h : afterN M s with
  | none => exact zeroN_fit
  | some x => exact (right_fit (hM.right x (List.mem_of_find?_eq_some h))).1

theorem rows_nds {L : List Nd} {base : Nat} {v : Value} {w : World} (h : OwnN base L v w) : ∃ a c, v = .slice a L.length c ∧ NdsAt w.heap.size w a L := by
  obtain ⟨a, c, vs, rfl, _, _, hr, _⟩ := h.rows
  exact ⟨a, c, rfl, hr.nds fun k hk => hk.2⟩

theorem like_any (S : Nat → Prop) (w : World) (bt br : Nat) (M : List (Key × Nd)) (N : Nat) (hT : TreeAt S w bt M N) (hR : RT w br (nds M)) (hc : Clo M) (s : ByteArray) (hs64 : s.size ≤ 9223372036854775800) (hl : M.length * 168 ≤ 140737488355328) :
    Calls Tryz.prog 24 #[.pointer (some ⟨bt, 0, none⟩), .pointer (some ⟨br, 0, none⟩), .string s] w fun e w' => e = .returned (.bool true) ∧ Ext w w' := by
  have hM := hT.ok
  have hs : s.size ≤ maxLen := by unfold maxLen; omega
  have hfit := hM.fit s.data.toList
  have hafit := after_fit hM s
  have C1 := Lib.hid (tget_any S w bt M N hT s hs)
  have C2 := Lib.hid fun W (h : Ext w W) => rget_any W br M (hR.ext h) hM s hs64
  have C3 := Lib.hid fun W (h : Ext w W) => tstat_any S W bt M N (hT.ext h) s hs
  have C4 := Lib.hid fun W (h : Ext w W) => rstat_any W br M (hR.ext h) hM s hs64 (by omega)
  have C5 := Lib.hid fun W (h : Ext w W) => children_any S W bt M N (hT.ext h) s hs (by omega)
  have C6 := Lib.hid fun W (h : Ext w W) => rchildren_any W br M (hR.ext h) hM s hs64 (by omega)
  have C7 := Lib.hid fun W (h : Ext w W) => after_any S W bt M N (hT.ext h) s
  have C8 := Lib.hid fun W (h : Ext w W) => rafter_any W br M (hR.ext h) hM s hs64
  have C9 := Lib.hid fun W (h : Ext w W) => weigh_any S W bt M N (hT.ext h) hc s hs hl
  have C10 := Lib.hid fun W (h : Ext w W) => rweigh_any W br M (hR.ext h) hM s hs64 hl
  have C11 := Lib.hid fun W (h : Ext w W) => rbelow_any W br M (hR.ext h) hM s hs64 hl
  have C12 := Lib.hid fun W (h : Ext w W) => lbelow_any S W bt M N (hT.ext h) hc s hs (nodesOf M (UndL M s)).length (by unfold nodesOf maxLen; rw [List.length_map]; have := UndL_le M s; omega) hl (UndL_key hM s) (UndL_le M s)
  have hfitN := nodesOf_fit hM (UndL M s)
  have hlenN : (nodesOf M (UndL M s)).length ≤ M.length := by unfold nodesOf; rw [List.length_map]; exact UndL_le M s
  have hlenK : (kidL M s).length ≤ M.length := by
    unfold kidL
    split
    · rw [List.length_map]; exact kids_length M s
    · exact Nat.zero_le _
  have HFN := Lib.hid hfitN
  have HFIT := Lib.hid hfit
  have HAFIT := Lib.hid hafit
  clear hT hR hc hM hfit hafit hfitN
  go_enter Tryz.func24, Tryz.ntmps24
  go_wp2_with fail
  refine C1.out.mono ?_
  rintro e w1 ⟨v1, rfl, hv1, hE1⟩
  obtain ⟨d1, e1, a1, f1, X1, rfl, hset1, hbx1, hEX1, hD1, hA1⟩ := box_node hv1 fun b hb => hb.2
  have HSET1 := Lib.hid hset1
  have HNEW1 := Lib.hid (heap_alloc_new w1 (.cells zeroNd 47))
  have hEa := hE1.trans hEX1
  have CC2 := Lib.hid (C2.out X1 hEa)
  have HBX1 := Lib.hid hbx1
  have HD1 := Lib.hid hD1
  have HA1 := Lib.hid hA1
  have HEa := Lib.hid hEa
  generalize hnn : (mget M s.data.toList).getD zeroN = n at *
  generalize hbb : (mget M s.data.toList).isSome = th at *
  clear C1 C2 hv1 hE1 hset1 hbx1 hEX1 hD1 hA1 hEa
  unfold ndC at HSET1
  unfold zeroNd at HSET1 HNEW1
  unfold ndC
  go_wp2_with (refine wpList_store_row rfl 47 (.tmp 7) (.tmp 32) rfl w1.heap.size _ rfl rfl 47 _ HNEW1.out sizeNd rfl (cells_node n d1 a1 _ _ e1 f1) ?_; rw [HSET1.out])
  refine CC2.out.mono ?_
  rintro e w2 ⟨v2, rfl, hv2, hE2⟩
  rw [hnn] at hv2
  rw [hbb]
  obtain ⟨d2, e2, a2, f2, X2, rfl, hset2, hbx2, hEX2, hD2, hA2⟩ := box_node hv2 fun b hb => hb.2
  have HSET2 := Lib.hid hset2
  have HNEW2 := Lib.hid (heap_alloc_new w2 (.cells zeroNd 47))
  have hEa := hE2.trans hEX2
  have hb12 := (hEa.block w1.heap.size (Array.getElem?_eq_some_iff.1 HBX1.out).1).trans HBX1.out
  have CS := Lib.hid (rsame_self n d1 a1 d2 a2 e1 f1 e2 f2 X2 HFIT.out (HD1.out.ext hEa) (HA1.out.ext hEa) hD2 hA2)
  have HB1 := Lib.hid hb12
  have HB2 := Lib.hid hbx2
  have HE2 := Lib.hid (HEa.out.trans hEa)
  have hth : (th != th) = false := by cases th <;> rfl
  clear CC2 hv2 hE2 hset2 hbx2 hEX2 hD2 hA2 hEa hb12 HD1 HA1 HBX1 HSET1 HNEW1
  unfold ndC at HSET2 HB1 HB2
  unfold zeroNd at HSET2 HNEW2
  unfold ndC
  go_wp2_with (first | (refine wpList_store_row rfl 47 (.tmp 9) (.tmp 38) rfl w2.heap.size _ rfl rfl 47 _ HNEW2.out sizeNd rfl (cells_node n d2 a2 _ _ e2 f2) ?_; rw [HSET2.out]) | (refine wpList_load_row_g rfl 47 (.tmp 7) rfl w1.heap.size rfl 47 _ (0, 0) _ HB1.out Tryz.underlying47 rfl sizeNd ?_) | (refine wpList_load_row_g rfl 47 (.tmp 9) rfl w2.heap.size rfl 47 _ (0, 0) _ HB2.out Tryz.underlying47 rfl sizeNd ?_))
  refine CS.out.mono ?_
  rintro e w3 ⟨rfl, hE3⟩
  have HE3 := Lib.hid (HE2.out.trans hE3)
  have CC3 := Lib.hid (C3.out w3 HE3.out)
  clear CS hE3 HB1 HB2 HSET2 HNEW2 HE2
  go_wp2_with fail
  refine CC3.out.mono ?_
  obtain ⟨s0, s1, s2, s3, s4, s5, s6, s7, s8, s9, s10, hst⟩ := stat_shape M s
  rw [hbb] at hst
  have hnq := neq_stat (s0 := s0) (s1 := s1) (s2 := s2) (s3 := s3) (s4 := s4) (s5 := s5) (s6 := s6) (s7 := s7) (s8 := s8) (s9 := s9) (s10 := s10)
  generalize hee : (if th = true then (0 : Int) else 70) = er
  have her : (er != er) = false := by simp
  have her2 : (er == er) = true := by simp
  rw [hee] at hst
  have HST := Lib.hid hst
  intro e w4 hout
  obtain ⟨rfl, hE4⟩ := HST.out _ _ _ hout
  obtain ⟨st, hstd⟩ : ∃ st, st = #[.int .i64 s0, .int .i64 s1, .int .i64 s2, .int .i64 s3, .int .i32 s4, .int .i32 s5, .int .i32 s6, .int .i64 s7, .int .i32 s8, .int .i32 s9, Value.int .i64 s10] := ⟨_, rfl⟩
  obtain ⟨X4, hX4⟩ : ∃ X4, X4 = w4.alloc (.cells st 93) := ⟨_, rfl⟩
  have HSET4 := Lib.hid ((setRow_alloc w4 zeroStat st 93).trans hX4.symm)
  have HNEW4 := Lib.hid (heap_alloc_new w4 (.cells zeroStat 93))
  have hEX4 : Ext w4 X4 := by rw [hX4]; exact Ext.alloc _ _
  have hb4 : X4.heap[w4.heap.size]? = some (.cells st 93 (0, 0)) := by rw [hX4]; exact heap_alloc_new w4 _
  have hso : st.all (·.oneCell') = true := by rw [hstd]; simp [Value.oneCell']
  have HSO := Lib.hid hso
  have hEa := HE3.out.trans (Ext.trans hE4 hEX4)
  have CC4 := Lib.hid (C4.out X4 hEa)
  have HE4 := Lib.hid hEa
  have HB4 := Lib.hid hb4
  rw [hstd] at HSET4
  unfold zeroStat at HSET4 HNEW4
  rw [hstd] at HSO HB4
  clear CC3 hE4 hEX4 hX4 hb4 hso hEa hst hout
  go_wp2_with (refine wpList_store_row rfl 93 (.tmp 11) (.tmp 53) rfl w4.heap.size _ rfl rfl 93 _ HNEW4.out sizeStat rfl HSO.out ?_; rw [HSET4.out])
  refine CC4.out.mono ?_
  intro e w5 hout
  obtain ⟨rfl, hE5⟩ := HST.out _ _ _ hout
  clear hout
  obtain ⟨X5, hX5⟩ : ∃ X5, X5 = w5.alloc (.cells st 93) := ⟨_, rfl⟩
  have HSET5 := Lib.hid ((setRow_alloc w5 zeroStat st 93).trans hX5.symm)
  have HNEW5 := Lib.hid (heap_alloc_new w5 (.cells zeroStat 93))
  have hEX5 : Ext w5 X5 := by rw [hX5]; exact Ext.alloc _ _
  have hb5 : X5.heap[w5.heap.size]? = some (.cells st 93 (0, 0)) := by rw [hX5]; exact heap_alloc_new w5 _
  have hE45 : Ext X4 X5 := Ext.trans hE5 hEX5
  have hb45 := (hE45.block w4.heap.size (Array.getElem?_eq_some_iff.1 HB4.out).1).trans HB4.out
  have hEa := HE4.out.trans hE45
  have CC5 := Lib.hid (C5.out X5 hEa)
  have HE5 := Lib.hid hEa
  have HB5 := Lib.hid hb5
  have HB45 := Lib.hid hb45
  rw [hstd] at HSET5
  unfold zeroStat at HSET5 HNEW5
  rw [hstd] at HB5
  clear CC4 hE5 hEX5 hX5 hb5 hEa hb45 hE45 HB4 HSET4 HNEW4
  go_wp2_with (refine wpList_store_row rfl 93 (.tmp 13) (.tmp 59) rfl w5.heap.size _ rfl rfl 93 _ HNEW5.out sizeStat rfl HSO.out ?_; rw [HSET5.out])
  refine CC5.out.mono ?_
  intro e w6 hout
  obtain ⟨ka, kc, rfl, hks, hE6⟩ := child_strs hout
  rw [hbb, hee]
  have hEa := HE5.out.trans hE6
  have hb6 := (hE6.block w4.heap.size (Array.getElem?_eq_some_iff.1 HB45.out).1).trans HB45.out
  have hb7 := (hE6.block w5.heap.size (Array.getElem?_eq_some_iff.1 HB5.out).1).trans HB5.out
  have CC6 := Lib.hid (C6.out w6 hEa)
  have HE6 := Lib.hid hEa
  have HKS := Lib.hid hks
  have HB46 := Lib.hid hb6
  have HB56 := Lib.hid hb7
  clear hout CC5 hks hE6 hEa hb6 hb7 HB45 HB5 HSET5 HNEW5
  go_wp2_with fail
  refine CC6.out.mono ?_
  intro e w7 hout
  obtain ⟨kb, kd, rfl, hks, hE7⟩ := child_strs hout
  rw [hbb, hee]
  have hEa := HE6.out.trans hE7
  have hb6 := (hE7.block w4.heap.size (Array.getElem?_eq_some_iff.1 HB46.out).1).trans HB46.out
  have hb7 := (hE7.block w5.heap.size (Array.getElem?_eq_some_iff.1 HB56.out).1).trans HB56.out
  have CT := texts_self _ ka kb kc kd w7 (HKS.out.ext hE7) hks (by rw [List.length_map]; omega)
  rw [List.length_map] at CT
  have CT := Lib.hid CT
  have HE7 := Lib.hid hEa
  have HB47 := Lib.hid hb6
  have HB57 := Lib.hid hb7
  clear hout CC6 hks hE7 hEa hb6 hb7 HB46 HB56 HKS
  go_wp2_with (first | (refine wpList_load_row_g rfl 93 (.tmp 11) rfl w4.heap.size rfl 93 _ (0, 0) _ HB47.out Tryz.underlying93 rfl sizeStat ?_) | (refine wpList_load_row_g rfl 93 (.tmp 13) rfl w5.heap.size rfl 93 _ (0, 0) _ HB57.out Tryz.underlying93 rfl sizeStat ?_))
  refine CT.out.mono ?_
  rintro e w8 ⟨rfl, hE8⟩
  have HE8 := Lib.hid (HE7.out.trans hE8)
  have CC7 := Lib.hid (C7.out w8 HE8.out)
  clear CT hE8 HB47 HB57 hnq
  go_wp2_with fail
  refine CC7.out.mono ?_
  rintro e w9 ⟨v9, rfl, hv9, hE9⟩
  generalize haa : ((afterN M s).map (·.2)).getD zeroN = an at *
  generalize hab : (afterN M s).isSome = ab at *
  obtain ⟨d9, e9, a9, f9, X9, rfl, hset9, hbx9, hEX9, hD9, hA9⟩ := box_node hv9 fun b hb => hb.2
  have HSET9 := Lib.hid hset9
  have HNEW9 := Lib.hid (heap_alloc_new w9 (.cells zeroNd 47))
  have hEa := HE8.out.trans (Ext.trans hE9 hEX9)
  have CC8 := Lib.hid (C8.out X9 hEa)
  have HBX9 := Lib.hid hbx9
  have HD9 := Lib.hid hD9
  have HA9 := Lib.hid hA9
  have HE9 := Lib.hid hEa
  clear CC7 hv9 hE9 hset9 hbx9 hEX9 hD9 hA9 hEa
  unfold ndC at HSET9
  unfold zeroNd at HSET9 HNEW9
  unfold ndC
  go_wp2_with (refine wpList_store_row rfl 47 (.tmp 19) (.tmp 96) rfl w9.heap.size _ rfl rfl 47 _ HNEW9.out sizeNd rfl (cells_node an d9 a9 _ _ e9 f9) ?_; rw [HSET9.out])
  refine CC8.out.mono ?_
  rintro e w10 ⟨v10, rfl, hv10, hE10⟩
  rw [haa] at hv10
  rw [hab]
  obtain ⟨d10, e10, a10, f10, X10, rfl, hset10, hbx10, hEX10, hD10, hA10⟩ := box_node hv10 fun b hb => hb.2
  have HSET10 := Lib.hid hset10
  have HNEW10 := Lib.hid (heap_alloc_new w10 (.cells zeroNd 47))
  have hE910 := Ext.trans hE10 hEX10
  have hb910 := (hE910.block w9.heap.size (Array.getElem?_eq_some_iff.1 HBX9.out).1).trans HBX9.out
  have hEa := HE9.out.trans hE910
  have CS2 := Lib.hid fun W (h : Ext X10 W) => rsame_self an d9 a9 d10 a10 e9 f9 e10 f10 W HAFIT.out ((HD9.out.ext hE910).ext h) ((HA9.out.ext hE910).ext h) (hD10.ext h) (hA10.ext h)
  have CC9 := Lib.hid (C9.out X10 hEa)
  have HB9 := Lib.hid hb910
  have HB10 := Lib.hid hbx10
  have HE10 := Lib.hid hEa
  have hab2 : (ab == ab) = true := by cases ab <;> rfl
  clear CC8 hv10 hE10 hset10 hbx10 hEX10 hD10 hA10 hEa hb910 hE910 HD9 HA9 HBX9 HSET9 HNEW9
  unfold ndC at HSET10 HB9 HB10
  unfold zeroNd at HSET10 HNEW10
  unfold ndC
  go_wp2_with (refine wpList_store_row rfl 47 (.tmp 21) (.tmp 102) rfl w10.heap.size _ rfl rfl 47 _ HNEW10.out sizeNd rfl (cells_node an d10 a10 _ _ e10 f10) ?_; rw [HSET10.out])
  refine CC9.out.mono ?_
  unfold WeighOut
  obtain ⟨wx, wy, wz, hww⟩ := weigh_shape M s
  rw [hww]
  have HWW := Lib.hid hww
  have hx1 : (wx == wx) = true := by simp
  have hx2 : (wy == wy) = true := by simp
  have hx3 : (wz == wz) = true := by simp
  rintro e w11 ⟨rfl, hE11⟩
  have HE11 := Lib.hid (HE10.out.trans hE11)
  have HK11 := Lib.hid hE11
  have CC10 := Lib.hid (C10.out w11 HE11.out)
  clear CC9 hE11 hww HSET10 HNEW10
  go_wp2_with fail
  refine CC10.out.mono ?_
  unfold WeighOut
  rw [HWW.out]
  rintro e w12 ⟨rfl, hE12⟩
  have HE12 := Lib.hid (HE11.out.trans hE12)
  have HK12 := Lib.hid (Ext.trans HK11.out hE12)
  have CC11 := Lib.hid (C11.out w12 HE12.out)
  clear CC10 hE12 HWW
  go_wp2_with fail
  refine CC11.out.mono ?_
  rintro e w13 ⟨v13, rfl, hown13, hE13⟩
  obtain ⟨ra, rc, rfl, hra⟩ := rows_nds hown13
  have hE13 : Ext w12 w13 := hE13
  have hK13 := Ext.trans HK12.out hE13
  have CS3 := Lib.hid (CS2.out w13 hK13)
  have HB9b := Lib.hid ((hK13.block w9.heap.size (Array.getElem?_eq_some_iff.1 HB9.out).1).trans HB9.out)
  have HB10b := Lib.hid ((hK13.block w10.heap.size (Array.getElem?_eq_some_iff.1 HB10.out).1).trans HB10.out)
  have HE13 := Lib.hid (HE12.out.trans hE13)
  have HRA := Lib.hid hra
  clear CC11 CS2 hown13 hE13 hK13 hra HB9 HB10 HK12 HK11
  go_wp2_with (first | (refine wpList_load_row_g rfl 47 (.tmp 19) rfl w9.heap.size rfl 47 _ (0, 0) _ HB9b.out Tryz.underlying47 rfl sizeNd ?_) | (refine wpList_load_row_g rfl 47 (.tmp 21) rfl w10.heap.size rfl 47 _ (0, 0) _ HB10b.out Tryz.underlying47 rfl sizeNd ?_))
  refine CS3.out.mono ?_
  rintro e w14 ⟨rfl, hE14⟩
  have hE14 : Ext w13 w14 := hE14
  have HE14 := Lib.hid (HE13.out.trans hE14)
  have HRA14 := Lib.hid (HRA.out.ext hE14)
  have CC12 := C12.out w14 HE14.out
  rw [List.take_of_length_le (by omega)] at CC12
  have CC12 := Lib.hid CC12
  clear CS3 hE14 HB9b HB10b HRA
  go_wp2_with fail
  refine CC12.out.mono ?_
  rintro e w15 ⟨v15, vs15, rfl, hvl, hrow, hvn, hE15⟩
  obtain ⟨xa, xc, rfl, _, _, hR15, _⟩ := RowsOf.of_own (S := fun b => b < w15.heap.size) hrow rfl hvl (fun b _ h => h) hvn
  have hE15 : Ext w14 w15 := hE15
  have CN := Lib.hid (nodes_self (nodesOf M (UndL M s)) xa ra xc rc w15 (hR15.nds fun _ h => h) (HRA14.out.ext hE15) HFN.out (by omega))
  have HE15 := Lib.hid (HE14.out.trans hE15)
  clear CC12 hrow hvn hR15 hE15 hvl HRA14
  go_wp2_with fail
  refine CN.out.mono ?_
  rintro e w16 ⟨rfl, hE16⟩
  have HFIN := Lib.hid (HE15.out.trans hE16)
  clear CN hE16
  go_wp2
  go_ret
  exact ⟨rfl, HFIN.out⟩
end Go.Proofs.YtamolbegmkngdaaGreatDoor
namespace Go.Proofs.YtamolbegmkngdaaGreatDoor
open Go.RowKit
inductive Sp where
  | val (v : Value)
  | prop (p : Value → World → Prop)
def Sp.ok : Sp → Value → World → Prop
  | .val x, v, _ => v = x
  | .prop p, v, w => p v w
def spP (l : List Sp) (i : Nat) (v : Value) (w : World) : Prop := match l[i]? with
  | some s => s.ok v w
  | none => False
/-- The properties stay. -/
def stayS : List Sp → Prop
  | [] => True
  | .val _ :: r => stayS r
  | .prop p :: r => (∀ v w w', p v w → Ext w w' → p v w') ∧ stayS r
theorem stayS.at : ∀ {l : List Sp}, stayS l → ∀ (i : Nat) (s : Sp), l[i]? = some s → ∀ v w w', s.ok v w → Ext w w' → s.ok v w'
  | [], _, i, s, h, _, _, _, _, _ => by simp at h
  | .val _ :: r, h, 0, s, hs, v, w, w', hv, _ => by simp at hs; subst hs; exact hv
  | .prop p :: r, h, 0, s, hs, v, w, w', hv, hE => by simp at hs; subst hs; exact h.1 v w w' hv hE
  | .val _ :: r, h, i + 1, s, hs, v, w, w', hv, hE => stayS.at (l := r) h i s (by simpa using hs) v w w' hv hE
  | .prop p :: r, h, i + 1, s, hs, v, w, w', hv, hE => stayS.at (l := r) h.2 i s (by simpa using hs) v w w' hv hE
/-- For all values that are as told. -/
def forS : List Sp → World → (List Value → Prop) → Prop
  | [], _, K => K []
  | .val v :: r, w, K => forS r w fun t => K (v :: t)
  | .prop p :: r, w, K => ∀ u, p u w → forS r w fun t => K (u :: t)
theorem forS_all : ∀ (l : List Sp) (w : World) (K : List Value → Prop), forS l w K → ∀ us : List Value, us.length = l.length → (∀ i u, us[i]? = some u → spP l i u w) → K us
  | [], w, K, h, us, hl, _ => by
    obtain rfl := List.eq_nil_of_length_eq_zero (by simpa using hl)
    exact h
  | .val v :: r, w, K, h, [], hl, _ => by simp at hl
  | .prop v :: r, w, K, h, [], hl, _ => by simp at hl
  | .val v :: r, w, K, h, u :: us, hl, hP => by
    have hu : u = v := hP 0 u rfl
    subst hu
    exact forS_all r w _ h us (by simpa using hl) fun i x hx => hP (i + 1) x (by simpa using hx)
  | .prop p :: r, w, K, h, u :: us, hl, hP => by
    have hu : p u w := hP 0 u rfl
    exact forS_all r w _ (h u hu) us (by simpa using hl) fun i x hx => hP (i + 1) x (by simpa using hx)
section
variable {P : Program} {ops : Array Oper} {Q : Exit → Act → World → Prop} {a0 : Act} {w0 : World}
theorem Ahead.pick {Φ : Nat → Value → World → Prop} {o p : Oper} {a : Act} {w : World} (h : Ahead ops Φ o a w) (j : Nat) (d : Tmp) (v : Value) (hp : ops[j]? = some p) (hd : p.dst = some d) (he : ∃ e ∈ o.after.toList, e.on = j ∧ Region.binds .any e = true) (hv : ∀ u, Φ j u w → u = v) : a.eval (.tmp d) = v :=
  hv _ (h.slot j d hp hd he)
/-- An operation whose guard says no. -/
theorem duty_no {Φ : Nat → Value → World → Prop} {i j : Nat} {b : Bool} {o p : Oper} {d : Tmp} (hg : o.guard = some (j, b)) (hp : ops[j]? = some p) (hd : p.dst = some d) (hin : d < a0.tmps.size) (he : ∃ e ∈ o.after.toList, e.on = j ∧ Region.binds .any e = true)
    (hv : ∀ v w, Φ j v w → v = .bool (!b)) (h : ∀ w, Φ i undef w) : Duty P ops Q Φ a0 w0 i o := by
  intro a w hE hF hA
  obtain ⟨e, hem, rfl, heb⟩ := he
  have hval := hv _ _ (hA e hem heb p hp)
  have : Region.wanted o (yielded ops a.tmps) = false := by
    unfold Region.wanted
    rw [hg]
    have hlt : d < a.tmps.size := by rw [hF.2.1]; exact hin
    unfold valOf at hval
    rw [hd] at hval
    simp only [Array.getD_eq_getD_getElem?, Array.getElem?_eq_getElem hlt, Option.getD_some] at hval
    cases b <;> simp [yielded, hp, hd, Array.getElem?_eq_getElem hlt, hval]
  rw [this]
  simp only [Bool.false_eq_true, if_false]
  exact h w
theorem region_sp (m : Nat) (sp : List Sp) (hst : stayS sp) (hlen : sp.length = ops.toList.length) (hchk : (dstsOk ops && aheadB ops && (ops.toList.all fun o => o.dst.any fun d => decide (d < m))) = true) (hsz : a0.tmps.size = m)
    (hd : Duties P ops Q (spP sp) a0 w0 0 ops.toList)
    (hend : ∀ w, Ext w0 w → forS sp w fun us => Q .normal (filled ops.toList us a0) w) : RegionP P ops Q a0 w0 := by
  have hall := hchk
  simp only [Bool.and_eq_true] at hall
  refine region_rel_e m Ext Ext.refl (fun _ _ _ => Ext.trans) Ext.drew (spP sp) (fun i v w w' h hE => ?_) (fun i v w h ho => ?_) ?_ hsz (duties_rel _ _ hd) fun us w hE hl hP => ?_
  · unfold spP at h ⊢
    cases hs : sp[i]? with
    | none => rw [hs] at h; exact h.elim
    | some s => rw [hs] at h; exact hst.at i s hs v w w' h hE
  · exfalso
    cases hoi : ops[i]? with
    | none => rw [hoi] at ho; cases ho
    | some o =>
      rw [hoi] at ho
      have := List.all_eq_true.1 hall.2 o (List.mem_of_getElem? (i := i) (by simpa using hoi))
      cases hd : o.dst with
      | none => rw [hd] at this; cases this
      | some d => simp [hd] at ho
  · simp only [Bool.and_eq_true]
    refine ⟨hall.1, List.all_eq_true.2 fun o ho => ?_⟩
    have := List.all_eq_true.1 hall.2 o ho
    cases hd : o.dst with
    | none => rfl
    | some d => rw [hd] at this; simpa using this
  · exact forS_all sp w _ (hend w hE) us (by rw [hl, hlen]) hP
end
end Go.Proofs.YtamolbegmkngdaaGreatDoor
namespace Go.Proofs.YtamolbegmkngdaaGreatDoor
open Go.RowKit Go.Sort
set_option maxHeartbeats 2000000
set_option maxRecDepth 100000

theorem wpList_append_nd {ops : Array Oper} {rest : List Oper} {o : Oper} {a : Act} {Q : Exit → Act → World → Prop} {W4 W5 : World} (hgd : o.guard = none) (s x : Operand)
    (ho : o.op = .call { callee := .builtin .append, args := #[s, x], argTypes := #[22, 22] })
    (base : Nat) (L : List Nd) (ov : Value) (hO : OwnN base L ov W4) (hE : Ext W4 W5) (hb : base ≤ W4.heap.size) (n : Nd) (cs : Array Value) (hN : NdS (fun k => W4.heap.size ≤ k ∧ k < W5.heap.size) W5 (.agg cs) n) (hl : (L.length + 1) * 168 ≤ 140737488355328)
    (hs : a.eval s = ov) (hx : a.eval x = .slice (some ⟨W5.heap.size, 0, none⟩) 1 1)
    (hK : ∀ v' W6, OwnN base (L ++ [n]) v' W6 → (∀ w0, Ext w0 W5 → w0.heap.size ≤ base → Ext w0 W6) → wpList Tryz.prog ops Q rest (a.put o.dst v') W6) : wpList Tryz.prog ops Q (o :: rest) a (W5.alloc (.cells cs 47)) := by
  obtain ⟨qa, qc, ra, rc, hcs, hQ1, hQ2⟩ := hN
  cases hcs
  obtain ⟨ws, hown4, heach4⟩ := hO
  have hz5 := hE.size
  have hlt4 : ∀ g, ov.ownBlock = some g → base ≤ g ∧ g < W4.heap.size := fun g hg => hown4.lt g hg
  have hown5 := hown4.kept (grown_of_ext hE none) (Classical.em _)
  have heach5 : EachN (NewN base ov W5) W5 ws L := heach4.imp (fun b hb => ⟨hb.1, Nat.lt_of_lt_of_le hb.2.1 hE.size, hb.2.2⟩) fun b o u _ hu => cell_ext hE b o u hu
  have hnew5 : NdS (NewN base ov W5) W5 (.agg (ndC n (.slice qa n.data.length qc) (.slice ra n.acl.length rc))) n := NdS.imp ⟨qa, qc, ra, rc, rfl, hQ1, hQ2⟩ (fun k hk => ⟨by omega, hk.2, fun e => by have := (hlt4 k e).2; omega⟩) fun _ _ _ _ h => h
  have hs17 : Cells (W5.alloc (.cells (ndC n (.slice qa n.data.length qc) (.slice ra n.acl.length rc)) 47)).heap.size (W5.alloc (.cells (ndC n (.slice qa n.data.length qc) (.slice ra n.acl.length rc)) 47)) (some ⟨W5.heap.size, 0, none⟩) (ndC n (.slice qa n.data.length qc) (.slice ra n.acl.length rc)).toList := fun j u hj => by
    refine ⟨_, 0, rfl, by simp, ?_⟩
    rw [Nat.zero_add, cell_of_row _ _ _ _ _ _ (heap_alloc_new W5 _)]
    simpa using hj
  have hsrc : Src Tryz.prog 17 22 (.slice (some ⟨W5.heap.size, 0, none⟩) 1 1) 1 (ndC n (.slice qa n.data.length qc) (.slice ra n.acl.length rc)).toList (W5.alloc (.cells (ndC n (.slice qa n.data.length qc) (.slice ra n.acl.length rc)) 47)) :=
    hs17.src Tryz.underlying22 1 1 (by simp [ndC]) (fun u hu => by
      have := cells_node n qa ra n.data.length n.acl.length qc rc
      rw [← Array.all_toList] at this
      exact List.all_eq_true.1 this u hu)
  obtain ⟨i0, hi, hz0, hz1', hz2⟩ := info_parts infoNd
  have hownA := hown5.alloc (.cells (ndC n (.slice qa n.data.length qc) (.slice ra n.acl.length rc)) 47)
  refine wpList_append_src _ hgd s x 22 22 ho base 47 i0 (.agg zeroNd) 17 168 Tryz.underlying22 hi hz0 hz1' hz2 rfl (by decide) ov L.length _ hs hownA _ 1 _ hx hsrc (by unfold maxLen; omega) hl (by simp; omega) ?_
  intro v' w6 hown6 hg6 _ ho6
  exact hK v' w6 (OwnN.step heach5 hnew5 hown6 hg6 (by simpa using ho6)) fun w0 hE0 hb0 => OwnN.keep hE0 hb0 hown5 hg6
end Go.Proofs.YtamolbegmkngdaaGreatDoor
namespace Go.Proofs.YtamolbegmkngdaaGreatDoor
open Go.RowKit
set_option maxHeartbeats 1000000

theorem fromL_distinct : ∀ (l : List Nd) (i : Nat) (M0 : List (Key × Nd)), MOk M0 → (∀ n ∈ l, rightN n = 0) → (l.map keyN).Nodup → (∀ n ∈ l, mget M0 (keyN n) = none) → ∃ M1, fromL l i M0 = .ok M1 ∧ MOk M1 ∧ ∀ x, x ∈ M1 ↔ x ∈ M0 ∨ ∃ n ∈ l, x = (keyN n, n)
  | [], i, M0, h0, _, _, _ => ⟨M0, rfl, h0, fun x => by simp⟩
  | n :: l, i, M0, h0, hr, hd, hn => by
    rw [List.map_cons] at hd
    obtain ⟨d1, d2⟩ := List.nodup_cons.1 hd
    have hr0 := hr n (List.mem_cons_self ..)
    have hn0 := hn n (List.mem_cons_self ..)
    have hne : ∀ m ∈ l, keyN m ≠ keyN n := fun m hm e => d1 (e ▸ List.mem_map.2 ⟨m, hm, rfl⟩)
    obtain ⟨M1, e1, e2, e3⟩ := fromL_distinct l (i + 1) (mput M0 (keyN n) n) (h0.put n hr0) (fun m hm => hr m (List.mem_cons_of_mem _ hm)) d2 (fun m hm => mget_none_of fun x hx e => by
      rcases mem_mput.1 hx with rfl | ⟨hx, _⟩
      · exact hne m hm e.symm
      · exact mget_none (hn m (List.mem_cons_of_mem _ hm)) x hx e)
    refine ⟨M1, ?_, e2, fun x => ?_⟩
    · unfold fromL
      rw [if_neg (by simpa using hr0), if_neg (by rw [hn0]; simp)]
      exact e1
    · rw [e3, mem_mput]
      constructor
      · rintro ((rfl | ⟨h, _⟩) | ⟨m, hm, rfl⟩)
        · exact .inr ⟨n, List.mem_cons_self .., rfl⟩
        · exact .inl h
        · exact .inr ⟨m, List.mem_cons_of_mem _ hm, rfl⟩
      · rintro (h | ⟨m, hm, rfl⟩)
        · exact .inl (.inr ⟨h, mget_none hn0 x h⟩)
        · rcases List.mem_cons.1 hm with rfl | hm
          · exact .inl (.inl rfl)
          · exact .inr ⟨m, hm, rfl⟩
theorem parL_ok {M : List (Key × Nd)} : ∀ (l : List Nd) (i : Nat), (∀ n ∈ l, n.path.size ≠ 1 → mget M (parentB n.path).data.toList ≠ none) → parL M l i = .ok ()
  | [], _, _ => rfl
  | n :: l, i, h => by
    unfold parL
    rw [if_neg fun hh => h n (List.mem_cons_self ..) hh.1 hh.2]
    exact parL_ok l (i + 1) fun m hm => h m (List.mem_cons_of_mem _ hm)

/-- A list with just a tree's nodes, each once. -/
theorem fromN_perm {M : List (Key × Nd)} (hM : MOk M) (hc : Clo M) (hroot : mget M [47] ≠ none) {L : List Nd} (h1 : ∀ n ∈ L, (keyN n, n) ∈ M) (h2 : ∀ x ∈ M, x.2 ∈ L) (hd : (L.map keyN).Nodup) : fromN L = .ok M := by
  obtain ⟨M1, e1, e2, e3⟩ := fromL_distinct L 0 [] MOk.nil (fun n hn => hM.right _ (h1 n hn)) hd (fun n _ => rfl)
  have he : M1 = M := mem_ext_sorted e2.sorted hM.sorted fun x => by
    rw [e3]
    constructor
    · rintro (h | ⟨n, hn, rfl⟩)
      · simp at h
      · exact h1 n hn
    · intro hx
      refine .inr ⟨x.2, h2 x hx, ?_⟩
      rw [← hM.key x hx]
  subst he
  unfold fromN
  rw [e1]
  simp only
  rw [if_neg hroot, parL_ok L 0 fun n hn hs => ?_]
  obtain ⟨y, hy, ey⟩ := hc _ (h1 n hn) hs
  rw [← ey]
  rw [there_of hM hy]
  simp

/-- The place i of the list that is turned by k: of n places. -/
def rotI (n k i : Nat) : Nat := if i + k < n then i + k else i + k - n
theorem rotI_mod {n k i : Nat} (hk : k < n) (hi : i < n) : (i + k) % n = rotI n k i := by
  unfold rotI
  split
  · rename_i h; exact Nat.mod_eq_of_lt h
  · rename_i h
    rw [Nat.mod_eq_sub_mod (by omega), Nat.mod_eq_of_lt (by omega)]
theorem rotI_lt {n k i : Nat} (hk : k < n) (hi : i < n) : rotI n k i < n := by unfold rotI; split <;> omega
theorem rotI_inj {n k i j : Nat} (hk : k < n) (hi : i < n) (hj : j < n) (h : rotI n k i = rotI n k j) : i = j := by
  unfold rotI at h
  split at h <;> split at h <;> omega
theorem rotI_onto {n k t : Nat} (hk : k < n) (ht : t < n) : ∃ i, i < n ∧ rotI n k i = t := by
  by_cases h : k ≤ t
  · exact ⟨t - k, by omega, by unfold rotI; rw [if_pos (by omega)]; omega⟩
  · exact ⟨t + n - k, by omega, by unfold rotI; rw [if_neg (by omega)]; omega⟩

/-- The list from behind, turned by k: its first j places. -/
def rotL (L : List Nd) (k : Nat) : Nat → List Nd
  | 0 => []
  | j + 1 => rotL L k j ++ [(L[rotI L.length k (L.length - 1 - j)]?).getD zeroN]
theorem rotL_length (L : List Nd) (k : Nat) : ∀ j, (rotL L k j).length = j
  | 0 => rfl
  | j + 1 => by unfold rotL; rw [List.length_append, rotL_length L k j]; rfl
theorem rotL_get (L : List Nd) (k : Nat) : ∀ (j i : Nat), i < j → (rotL L k j)[i]? = some ((L[rotI L.length k (L.length - 1 - i)]?).getD zeroN)
  | 0, i, h => by omega
  | j + 1, i, h => by
    unfold rotL
    by_cases e : i < j
    · rw [List.getElem?_append_left (by rw [rotL_length]; exact e)]
      exact rotL_get L k j i e
    · obtain rfl : i = j := by omega
      rw [List.getElem?_append_right (by rw [rotL_length]; exact Nat.le_refl _), rotL_length, Nat.sub_self]
      rfl
theorem rotL_at {L : List Nd} {k : Nat} (hk : k < L.length) {i : Nat} (hi : i < L.length) : (rotL L k L.length)[i]? = L[rotI L.length k (L.length - 1 - i)]? := by
  rw [rotL_get L k L.length i hi]
  have := rotI_lt hk (show L.length - 1 - i < L.length by omega)
  rw [List.getElem?_eq_getElem this]
  rfl

theorem rot_from {M : List (Key × Nd)} (hM : MOk M) (hc : Clo M) (hroot : mget M [47] ≠ none) {k : Nat} (hk : k < (M.map (·.2)).length) : fromN (rotL (M.map (·.2)) k (M.map (·.2)).length) = .ok M := by
  generalize hL : M.map (·.2) = L at *
  have hmem : ∀ n ∈ L, (keyN n, n) ∈ M := fun n hn => by
    rw [← hL] at hn
    obtain ⟨x, hx, rfl⟩ := List.mem_map.1 hn
    rw [← hM.key x hx]; exact hx
  have hkey : ∀ i j (hi : i < L.length) (hj : j < L.length), keyN L[i] = keyN L[j] → i = j := fun i j hi hj e => by
    subst hL
    simp only [List.length_map] at hi hj
    simp only [List.getElem_map] at e
    rw [← hM.key _ (List.getElem_mem hi), ← hM.key _ (List.getElem_mem hj)] at e
    rcases Nat.lt_trichotomy i j with h | h | h
    · have := sorted_at hM.sorted h hj
      rw [e] at this; exact (before_asymm this this).elim
    · exact h
    · have := sorted_at hM.sorted h hi
      rw [e] at this; exact (before_asymm this this).elim
  refine fromN_perm hM hc hroot (fun n hn => ?_) (fun x hx => ?_) ?_
  · obtain ⟨i, hi, ei⟩ := List.getElem_of_mem hn
    rw [rotL_length] at hi
    have h := rotL_at hk hi
    have hlt := rotI_lt hk (show L.length - 1 - i < L.length by omega)
    rw [List.getElem?_eq_getElem (by rw [rotL_length]; exact hi), ei, List.getElem?_eq_getElem hlt] at h
    rw [Option.some.inj h]
    exact hmem _ (List.getElem_mem hlt)
  · have hx' : x.2 ∈ L := by rw [← hL]; exact List.mem_map.2 ⟨x, hx, rfl⟩
    obtain ⟨t, ht, et⟩ := List.getElem_of_mem hx'
    obtain ⟨i, hi, hr⟩ := rotI_onto hk ht
    have h := rotL_at hk (show L.length - 1 - i < L.length by omega)
    rw [show L.length - 1 - (L.length - 1 - i) = i by omega, hr, List.getElem?_eq_getElem ht, et] at h
    exact List.mem_of_getElem? h
  · unfold List.Nodup
    rw [List.pairwise_map, List.pairwise_iff_getElem]
    intro i j hi hj hij
    rw [rotL_length] at hi hj
    have h1 := rotL_at hk hi
    have h2 := rotL_at hk hj
    have l1 := rotI_lt hk (show L.length - 1 - i < L.length by omega)
    have l2 := rotI_lt hk (show L.length - 1 - j < L.length by omega)
    rw [List.getElem?_eq_getElem (by rw [rotL_length]; exact hi), List.getElem?_eq_getElem l1] at h1
    rw [List.getElem?_eq_getElem (by rw [rotL_length]; exact hj), List.getElem?_eq_getElem l2] at h2
    rw [Option.some.inj h1, Option.some.inj h2]
    intro e
    have := rotI_inj hk (show L.length - 1 - i < L.length by omega) (show L.length - 1 - j < L.length by omega) (hkey _ _ l1 l2 e)
    omega

/-- Everything is under the root. -/
theorem und_root {M : List (Key × Nd)} (hM : MOk M) (hc : Clo M) : ∀ (f : Nat) (x : Key × Nd), x ∈ M → x.2.path.size ≤ f → und x.2.path ⟨#[47]⟩ = true
  | 0, x, hx, hf => by have := hM.pos hx; omega
  | f + 1, x, hx, hf => by
    by_cases h1 : x.2.path.size = 1
    · rw [und_one hM hx h1]
      have := (root_iff (right_vpath (hM.right x hx))).1 h1
      rw [show x.2.path = ⟨#[47]⟩ from ba_ext this]
      rfl
    · obtain ⟨y, hy, ey⟩ := hc x hx h1
      have hs := (path_split (right_vpath (hM.right x hx)) h1).2.2.1
      rw [und_up hM hc hx hy h1 ey, und_root hM hc f y hy (by rw [ey]; omega), Bool.or_true]
theorem undK_root {M : List (Key × Nd)} (hM : MOk M) (hc : Clo M) : (undK M ⟨#[47]⟩).length = M.length := by
  unfold undK
  rw [List.length_map, List.filter_eq_self.2 fun x hx => und_root hM hc _ x hx (Nat.le_refl _)]
end Go.Proofs.YtamolbegmkngdaaGreatDoor
