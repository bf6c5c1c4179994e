/- The walk of Remove. slices.Sorted(maps.Keys(m)) at the two maps of a tree: its keys in order. The walk of Children. The walk of the function that a tree's nodes are told by: what each round is handed, what it keeps. Arms for a walk within a fence, a round's too. -/
import Derived.Test.YtamolbegmkngdaaDoorJTreeOrder6
import Derived.Test.YtamolbegmkngdaaDoorIter
import Derived.TacticsIn
import Derived.Deep.CutBlock
import Derived.Test.YtamolbegmkngdaaDoorJTreeOrder4
import Derived.OrdersIn
import Derived.RangeFuncLeaves
import Derived.OwnWalkIn
import Derived.TacticsInMore
namespace Go.Proofs.YtamolbegmkngdaaDoor
open Go.RowKit
set_option maxHeartbeats 2000000
set_option maxRecDepth 100000

theorem NodesAt.del {S : Nat → Prop} {w w' : World} {bn : Nat} {M : List (Key × Nd)} {N : Nat} (h : NodesAt S w bn M N) {k : Key} {m : List (Key × Value)} (hr : Rel2 (fun n v => NdS S w v n) M m)
    (hs : SMap Tryd.prog 9 w' bn (mdel m k)) (hT : w.mapTurned w' bn) : NodesAt S w' bn (mdel M k) N := by
  have hc : ∀ (b o : Nat) u, S b → w.cell? ⟨b, o, none⟩ = some u → w'.cell? ⟨b, o, none⟩ = some u := fun b o u _ hu => (Mod.turned (S := fun _ => True) hT trivial).cell hu
  exact ⟨⟨_, hs, (hr.mdel k).imp fun _ _ _ hx => hx.imp (fun _ h => h) hc⟩, h.ok.del k, Nat.le_trans (List.length_filter_le _ _) h.len⟩

theorem apart_key {K : List (Key × Nat)} (h : K.Pairwise fun x y => x.2 ≠ y.2) {k : Key} {b : Nat} (hm : (k, b) ∈ K) {x : Key × Nat} (hx : x ∈ K) (e : x.2 = b) : x.1 = k := by
  obtain ⟨i, hi, ei⟩ := List.getElem_of_mem hx
  obtain ⟨j, hj, ej⟩ := List.getElem_of_mem hm
  have hp := List.pairwise_iff_getElem.1 h
  have : i = j := by
    rcases Nat.lt_trichotomy i j with hlt | he | hlt
    · exact absurd (by rw [ei, ej]; exact e) (hp i j hi hj hlt)
    · exact he
    · exact absurd (by rw [ei, ej]; exact e.symm) (hp j i hj hi hlt)
  subst this
  rw [ei] at ej
  rw [ej]

theorem kidsV_mem {K : List (Key × Nat)} (h : MSorted (kidsV K)) {x : Key × Nat} (hx : x ∈ K) : mget K x.1 = some x.2 := by
  have := mget_of_mem h (k := x.1) (v := .map (some x.2)) (List.mem_map.2 ⟨x, hx, rfl⟩)
  rw [kidsV_get] at this
  cases hg : mget K x.1 with
  | none => rw [hg] at this; cases this
  | some b => rw [hg] at this; simpa using this

/-- A node without children is struck: its own map goes, its name goes out of its parent's. -/
theorem KidsAt.del {S : Nat → Prop} {w w1 w2 w3 : World} {bn bk : Nat} {K : List (Key × Nat)} {M : List (Key × Nd)} {N : Nat} (h : KidsAt S w bn bk K M N) (hM : MOk M) {n : Nd} (hg : mget M (keyN n) = some n) (hroot : n.path.size ≠ 1) (hno : kidsOf M n.path = [])
    {b : Nat} (hb : mget K (parentB n.path).data.toList = some b) (hne : bn ≠ bk)
    (hT1 : w.mapTurned w1 bn) (hT2 : w1.mapTurned w2 bk) (hs2 : SMap Tryd.prog 9 w2 bk (mdel (kidsV K) (keyN n)))
    (hT3 : w2.mapTurned w3 b) (hs3 : SMap Tryd.prog 9 w3 b (mdel (kidsOf M (parentB n.path)) (nameB n.path).data.toList)) :
    KidsAt S w3 bn bk (mdel K (keyN n)) (mdel M (keyN n)) N := by
  have hr := (hM.at hg).2
  have hmem := mget_some_mem hb
  have hE := h.each _ hmem
  have hc : childOf (parentB n.path) n = true := childOf_iff.2 ⟨hroot, rfl⟩
  have hoth : ∀ p, p ≠ parentB n.path → kidsOf (mdel M (keyN n)) p = kidsOf M p := fun p hp => by
    rw [kids_del hM hg p, if_neg (fun hc => hp (childOf_iff.1 hc).2.symm)]
  have hsort := SMap.sorted (Maps.string_keyed strT) h.map
  refine ⟨?_, Nat.le_trans (List.length_filter_le _ _) h.len, fun x hx => ?_, h.apart.filter _, fun p hp => ?_⟩
  · unfold kidsV
    rw [mdel_map (fun b => Value.map (some b))]
    exact hs2.keep (turned_other hT3 hE.2.2.1.symm)
  · obtain ⟨hx, hxk⟩ := mem_mdel.1 hx
    obtain ⟨h1, h2, h3, h4⟩ := h.each x hx
    refine ⟨h1, h2, h3, ?_⟩
    by_cases e : x.2 = b
    · have hk := apart_key h.apart hmem hx e
      rw [hk, key_bytes, kids_del hM hg, if_pos hc, e]
      exact hs3
    · rw [hoth _ (fun e1 => e (by
        have : x.1 = (parentB n.path).data.toList := by rw [← e1, key_back]
        have h5 := kidsV_mem hsort hx
        rw [this, hb] at h5
        exact (Option.some.inj h5).symm))]
      exact h4.keep ((turned_other hT3 e).trans ((turned_other hT2 h3).trans (turned_other hT1 h2)))
  · by_cases e : p = n.path
    · rw [e, kids_del hM hg]
      split
      · rw [hno]; rfl
      · exact hno
    · by_cases e2 : p = parentB n.path
      · exfalso
        refine mget_none hp ((parentB n.path).data.toList, b) (mem_mdel.2 ⟨hmem, fun e3 => ?_⟩) (by rw [e2])
        exact e (e2.trans (ba_ext e3))
      · rw [hoth p e2]
        refine h.rest p (mget_none_of fun x hx e3 => ?_)
        exact mget_none hp x (mem_mdel.2 ⟨hx, fun e4 => e (ba_ext (e3.symm.trans e4))⟩) e3

/-- What Remove answers, and what it makes of the nodes. -/
def remE (M : List (Key × Nd)) (s : ByteArray) : Int :=
  if ¬ (vpath s = true ∧ s.size ≠ 1) then 30 else if mget M s.data.toList = none then 70 else if (kidsOf M s).length ≠ 0 then 72 else 0
def remM (M : List (Key × Nd)) (s : ByteArray) : List (Key × Nd) := if remE M s = 0 then mdel M s.data.toList else M

theorem run_len_nil_map {P : Program} (w : World) (t k e ty : TypeId) (h : P.underlying t = some (.map k e)) : (Builtin.len_ #[t] ty #[.map none]).run P w = .ok (.int .i64 0) w := by
  simp [Builtin.len_, run_underlying h, goInt, Result.andThen]

/-- What Remove leaves: the tree in the blocks that it had. -/
def RemTo (S : Nat → Prop) (w : World) (bt : Nat) (M' : List (Key × Nd)) (N' : Nat) (v : Value) (e : Ending) (w' : World) : Prop :=
  e = .returned v ∧ TreeAt S w' bt M' N' ∧ Mod S w w'
theorem remTo_same {S : Nat → Prop} {w w' : World} {bt : Nat} {M : List (Key × Nd)} {N : Nat} (hT : TreeAt S w bt M N) (hE : Ext w w') (v : Value) : RemTo S w bt M N v (.returned v) w' := ⟨rfl, hT.ext hE, Mod.of_ext hE⟩

theorem rem_to (S : Nat → Prop) (w : World) (bt : Nat) (M : List (Key × Nd)) (N : Nat) (hT : TreeAt S w bt M N) (s : ByteArray) (hs : s.size ≤ 9223372036854775800) (hN : N < 4611686018427387904) :
    Calls Tryd.prog 22 #[.pointer (some ⟨bt, 0, none⟩), .string s] w (RemTo S w bt (remM M s) N (.int .i64 (remE M s))) := by
  have CP := parent_any s w hs
  have HTW := Lib.hid hT
  by_cases hvr : vpath s = true ∧ s.size ≠ 1
  · have hps : s.size ≤ maxLen := by
      have := (vpath_facts hvr.1).2.1
      unfold maxLen; omega
    have hsp := path_split hvr.1 hvr.2
    have hpp : (parentB s).size ≤ maxLen := by
      have := hsp.2.2.1
      omega
    have hns : (nameB s).size ≤ maxLen := by
      have h1 : (nameB s).size ≤ s.size := by unfold nameB; rw [ByteArray.size_extract]; omega
      omega
    rw [show parV s = .tuple #[.string (parentB s), .int .i64 0] by unfold parV; rw [if_pos hvr]] at CP
    have CN := fun w => name_any s w hs
    rw [show namV s = .tuple #[.string (nameB s), .int .i64 0] by unfold namV; rw [if_pos hvr.1]] at CN
    have HVR := Lib.hid hvr
    have CN := Lib.hid CN
    have CP := Lib.hid CP
    clear hvr hsp
    go_enter Tryd.func22, Tryd.ntmps22
    go_wp2_with fail
    refine CP.out.mono ?_
    rintro e w5 ⟨rfl, hb5⟩
    have hE5 : Ext w w5 := hb5
    have hT5 := hT.ext hE5
    have hok := hT.ok
    obtain ⟨bn, bk, K, hd, hNd, hKd⟩ := hT5
    have hT5 : TreeAt S w5 bt M N := ⟨bn, bk, K, hd, hNd, hKd⟩
    have hbox := TreeAt.box hd
    obtain ⟨cs, ⟨hc17, hc1⟩, hq, hq2, _⟩ := hNd.look s hps
    clear hq2
    have hsz17 : (Tryd.prog.info? 37).map (·.size) = some cs.size := by rw [hc17]; exact sizeNd
    have hzs : zeroNd.size = cs.size := by rw [hc17]; rfl
    obtain ⟨W6, hW6⟩ : ∃ W6, W6 = w5.alloc (.cells cs 37) := ⟨_, rfl⟩
    have HSET6 := Lib.hid ((setRow_alloc w5 zeroNd cs 37).trans hW6.symm)
    have HNew6 := Lib.hid (heap_alloc_new w5 (.cells zeroNd 37))
    have hE6 : Ext w5 W6 := by rw [hW6]; exact Ext.alloc _ _
    have hEw6 := hE5.trans hE6
    have hhid : Hid (zeroNd.size = cs.size) := hzs
    unfold zeroNd at HSET6 HNew6
    unfold Box treeC at hbox
    have HC1 := Lib.hid hc1
    have H17 := Lib.hid hsz17
    clear hW6 hzs hc1 hc17 hsz17 CP hb5
    cases hg : mget M s.data.toList with
    | none =>
      rw [hg] at hq
      have hq' : (Instr.lookup 64 (.map (some bn)) (.string s) true).run Tryd.prog w5 = .ok (.tuple #[.agg cs, .bool false]) w5 := hq
      have hfin : RemTo S w bt (remM M s) N (.int .i64 (remE M s)) (.returned (.int .i64 70)) W6 := by
        have e : remE M s = 70 := by unfold remE; rw [if_neg (fun h => h HVR.out), if_pos hg]
        have e2 : remM M s = M := by unfold remM; rw [if_neg (by rw [e]; decide)]
        rw [e, e2]
        exact remTo_same HTW.out hEw6 _
      have HFIN := Lib.hid hfin
      clear hq hg hfin hE5 hE6 hEw6 hT hT5 hd hNd hKd hok
      go_wp2_with (refine wpList_store_row rfl 37 (.tmp 7) (.tmp 27) rfl w5.heap.size _ rfl rfl 37 _ HNew6.out H17.out hhid.out HC1.out ?_; rw [HSET6.out])
      go_ret
      exact HFIN.out
    | some n =>
      rw [hg] at hq
      have hq' : (Instr.lookup 64 (.map (some bn)) (.string s) true).run Tryd.prog w5 = .ok (.tuple #[.agg cs, .bool true]) w5 := hq
      obtain ⟨hkey, hrn⟩ := hok.at hg
      obtain rfl : s = n.path := ba_ext hkey
      have hT6 := hT5.ext hE6
      clear hd hNd hKd hT5
      obtain ⟨bn', bk', K', hd, hNd, hKd⟩ := hT6
      have ebn : bn' = bn ∧ bk' = bk := by
        have h1 := hd.blk
        have h2 : W6.cell? ⟨bt, 0, none⟩ = some (.map (some bn)) := (hE6.cell (p := ⟨bt, 0, none⟩) (by have := hT.bound bt; have := hE5.size; obtain ⟨_, _, _, hd0, _⟩ := hT; have := hd0.bound _ hd0.st; show bt < _; omega)).trans (hbox 0)
        have h3 : W6.cell? ⟨bt, 1, none⟩ = some (.map (some bk)) := (hE6.cell (p := ⟨bt, 1, none⟩) (by have := hE5.size; obtain ⟨_, _, _, hd0, _⟩ := hT; have := hd0.bound _ hd0.st; show bt < _; omega)).trans (hbox 1)
        rw [cell_of_row _ _ _ _ _ _ h1] at h2 h3
        simp [treeC] at h2 h3
        exact ⟨h2, h3⟩
      obtain ⟨rfl, rfl⟩ := ebn
      have hbox6 := TreeAt.box hd
      have hl6 := SMap.look (e := 75) hKd.map strT Tryd.underlying65 (z := .map none) (by kernel_rfl) hps
      have hln : ∀ ty, (Builtin.len_ #[75] ty #[(mget (kidsV K') n.path.data.toList).getD (.map none)]).run Tryd.prog W6 = .ok (.int .i64 (kidsOf M n.path).length) W6 := fun ty => by
        rw [kidsV_get]
        cases hgk : mget K' n.path.data.toList with
        | none =>
          rw [hKd.rest n.path hgk]
          exact run_len_nil_map W6 _ _ _ ty Tryd.underlying75
        | some b' =>
          have h4 := (hKd.each _ (mget_some_mem hgk)).2.2.2
          rw [key_bytes] at h4
          exact h4.len Tryd.underlying75 ty
      generalize (mget (kidsV K') n.path.data.toList).getD (.map none) = kv at hl6 hln
      unfold Box treeC at hbox6
      have HG := Lib.hid hg
      clear hq hg hkey
      by_cases hk0 : (kidsOf M n.path).length = 0
      · have hno : kidsOf M n.path = [] := List.eq_nil_of_length_eq_zero hk0
        have hd0 : decide ((0 : Int) < ((kidsOf M n.path).length : Int)) = false := by rw [hk0]; decide
        have hpar : ∃ b, mget K' (parentB n.path).data.toList = some b := by
          cases hgp : mget K' (parentB n.path).data.toList with
          | some b => exact ⟨b, rfl⟩
          | none =>
            have h1 := hKd.rest _ hgp
            have h2 : (nameK n, Value.agg #[]) ∈ kidsOf M (parentB n.path) := mem_kids.2 ⟨_, mget_some_mem HG.out, childOf_iff.2 ⟨HVR.out.2, rfl⟩, rfl⟩
            rw [h1] at h2; simp at h2
        obtain ⟨b, hgb⟩ := hpar
        have hEb := hKd.each _ (mget_some_mem hgb)
        have HGB := Lib.hid hgb
        have HNO := Lib.hid hno
        have HKD := Lib.hid hKd
        have HND := Lib.hid hNd
        have HHD := Lib.hid hd
        have HE := Lib.hid hEw6
        have hz6 : decide ((0 : Int) < 0) = false := by decide
        rw [hk0] at hln
        clear hk0 hno hd0 hgb hd hNd hKd hEw6 hE5 hE6 hT hok
        go_wp2_with (refine wpList_store_row rfl 37 (.tmp 7) (.tmp 27) rfl w5.heap.size _ rfl rfl 37 _ HNew6.out H17.out hhid.out HC1.out ?_; rw [HSET6.out])
        refine (CN.out _).mono ?_
        rintro e w7 ⟨rfl, hb7⟩
        have hE7 : Ext W6 w7 := hb7
        have hd7 : Hd S w7 bt bn' bk' := HHD.out.keep (hE7.block _ (HHD.out.bound _ HHD.out.st)) (fun _ h => h) (fun k h => Nat.lt_of_lt_of_le (HHD.out.bound k h) hE7.size)
        have hN7 : NodesAt S w7 bn' M N := HND.out.keep (hE7.block _ (HHD.out.bound _ HHD.out.sn)) (fun _ h => h) (fun b o u hb hu => (hE7.cell (p := ⟨b, o, none⟩) (HHD.out.bound b hb)).trans hu) (Nat.le_refl _)
        have hK7 : KidsAt S w7 bn' bk' K' M N := HKD.out.keep (hE7.block _ (HHD.out.bound _ HHD.out.sk)) (fun _ h => h) (fun x hx => hE7.block _ (HHD.out.bound _ (HKD.out.each x hx).1)) (Nat.le_refl _)
        have hEw7 := HE.out.trans hE7
        clear CN HHD HND HKD HE hb7 hE7 HSET6 HNew6 H17 hhid HC1 hbox hbox6 hq' hl6 hln hz6
        obtain ⟨m7, hm7, hr7⟩ := hN7.ex
        have hx7 := TreeAt.box hd7
        have hst1 : ∀ w8 : World, w7.mapTurned w8 bn' → Box w8 bt (treeC bn' bk') ∧ SMap Tryd.prog 9 w8 bk' (kidsV K') := fun w8 ht8 =>
          ⟨fun j => cell_of_row _ _ _ _ _ _ ((Mod.turned (S := S) ht8 hd7.sn).cells hd7.blk), hK7.map.keep (turned_other ht8 hd7.ne.symm)⟩
        have hst2 : ∀ w8 w9 : World, w7.mapTurned w8 bn' → w8.mapTurned w9 bk' → SMap Tryd.prog 9 w9 bk' (mdel (kidsV K') n.path.data.toList) →
            Box w9 bt (treeC bn' bk') ∧ SMap Tryd.prog 9 w9 b (kidsOf M (parentB n.path)) ∧
            (Instr.lookup 65 (.map (some bk')) (.string (parentB n.path)) false).run Tryd.prog w9 = .ok (.map (some b)) w9 := fun w8 w9 ht8 ht9 hs9 => by
          refine ⟨fun j => cell_of_row _ _ _ _ _ _ (((Mod.turned (S := S) ht8 hd7.sn).trans (Mod.turned ht9 hd7.sk)).cells hd7.blk), ?_, ?_⟩
          · have h4 := hEb.2.2.2
            rw [key_bytes] at h4
            have h5 := (hK7.each _ (mget_some_mem HGB.out)).2.2.2
            rw [key_bytes] at h5
            exact h5.keep ((turned_other ht9 hEb.2.2.1).trans (turned_other ht8 hEb.2.1))
          · have h6 := SMap.look (e := 75) hs9 strT Tryd.underlying65 (z := .map none) (by kernel_rfl) hpp
            have hsrt := mdel_sorted (SMap.sorted (Maps.string_keyed strT) hK7.map) n.path.data.toList
            have hlt := (path_split HVR.out.1 HVR.out.2).2.2.1
            rw [mget_of_mem (v := .map (some b)) hsrt (mem_mdel.2 ⟨List.mem_map.2 ⟨_, mget_some_mem HGB.out, rfl⟩, fun e => by
              have := congrArg List.length e
              rw [size_list, size_list] at this
              omega⟩)] at h6
            exact h6
        have hfin : ∀ w8 w9 w10 : World, w7.mapTurned w8 bn' → SMap Tryd.prog 9 w8 bn' (mdel m7 n.path.data.toList) → w8.mapTurned w9 bk' → SMap Tryd.prog 9 w9 bk' (mdel (kidsV K') n.path.data.toList) →
            w9.mapTurned w10 b → SMap Tryd.prog 9 w10 b (mdel (kidsOf M (parentB n.path)) (nameB n.path).data.toList) →
            RemTo S w bt (remM M n.path) N (.int .i64 (remE M n.path)) (.returned (.int .i64 0)) w10 := fun w8 w9 w10 ht8 hs8 ht9 hs9 ht10 hs10 => by
          have e : remE M n.path = 0 := by
            unfold remE
            rw [if_neg (fun h => h HVR.out), if_neg (by rw [HG.out]; simp), if_neg (by rw [HNO.out]; simp)]
          have e2 : remM M n.path = mdel M n.path.data.toList := by unfold remM; rw [if_pos e]
          have hM : Mod S w7 w10 := ((Mod.turned ht8 hd7.sn).trans (Mod.turned ht9 hd7.sk)).trans (Mod.turned ht10 hEb.1)
          have hM9 : Mod S w8 w10 := (Mod.turned ht9 hd7.sk).trans (Mod.turned ht10 hEb.1)
          have hz10 : w10.heap.size = w7.heap.size := by rw [turned_size ht10, turned_size ht9, turned_size ht8]
          have hd10 : Hd S w10 bt bn' bk' := ⟨hM.cells hd7.blk, hd7.st, hd7.sn, hd7.sk, hd7.ne, fun k h => by rw [hz10]; exact hd7.bound k h⟩
          have hN8 : NodesAt S w8 bn' (mdel M n.path.data.toList) N := hN7.del hr7 hs8 ht8
          have hN10 : NodesAt S w10 bn' (mdel M n.path.data.toList) N := hN8.keep ((turned_other ht10 hEb.2.1.symm).trans (turned_other ht9 hd7.ne)) (fun _ h => h) (fun b o u _ hu => hM9.cell hu) (Nat.le_refl _)
          have hK10 := hK7.del hN7.ok HG.out HVR.out.2 HNO.out HGB.out hd7.ne ht8 ht9 hs9 ht10 hs10
          have hT10 : TreeAt S w10 bt (mdel M n.path.data.toList) N := ⟨bn', bk', _, hd10, hN10, hK10⟩
          rw [e, e2]
          exact ⟨rfl, hT10, (Mod.of_ext hEw7).trans hM⟩
        have H1 := Lib.hid hst1
        have H2 := Lib.hid hst2
        have H3 := Lib.hid hfin
        unfold Box treeC at hx7
        clear hst1 hst2 hfin hd7 hN7 hK7 hEw7 hEb hr7
        go_wp2_with (first | (refine wpList_del _ rfl (.tmp 47) (.tmp 48) 64 9 37 rfl strT Tryd.underlying64 bn' _ hm7 rfl n.path hps rfl ?_; intro w8 hs8 ht8; have hq8 := H1.out w8 ht8; have hx8 := hq8.1; have hm8 := hq8.2; unfold Box treeC at hx8; clear hq8 hx7 hm7) | (refine wpList_del _ rfl (.tmp 52) (.tmp 53) 65 9 75 rfl strT Tryd.underlying65 bk' _ hm8 rfl n.path hps rfl ?_; intro w9 hs9 ht9; have hq9 := H2.out w8 w9 ht8 ht9 hs9; have hx9 := hq9.1; have hm9 := hq9.2.1; have hl9 := hq9.2.2; unfold Box treeC at hx9; clear hq9 hx8 hm8) | (refine wpList_del _ rfl (.tmp 59) (.tmp 60) 75 9 76 rfl strT Tryd.underlying75 b _ hm9 rfl (nameB n.path) hns rfl ?_; intro w10 hs10 ht10))
        go_ret
        exact H3.out w8 w9 w10 ht8 hs8 ht9 hs9 ht10 hs10
      · have hpos : 0 < (kidsOf M n.path).length := by omega
        have hfin : RemTo S w bt (remM M n.path) N (.int .i64 (remE M n.path)) (.returned (.int .i64 72)) W6 := by
          have e : remE M n.path = 72 := by
            unfold remE
            rw [if_neg (fun h => h HVR.out), if_neg (by rw [HG.out]; simp), if_pos hk0]
          have e2 : remM M n.path = M := by unfold remM; rw [if_neg (by rw [e]; decide)]
          rw [e, e2]
          exact remTo_same HTW.out hEw6 _
        have HFIN := Lib.hid hfin
        clear hk0 hfin hE5 hE6 hEw6 hT hd hNd hKd hok
        go_wp2_with (refine wpList_store_row rfl 37 (.tmp 7) (.tmp 27) rfl w5.heap.size _ rfl rfl 37 _ HNew6.out H17.out hhid.out HC1.out ?_; rw [HSET6.out])
        go_ret
        exact HFIN.out
  · rw [show parV s = .tuple #[.string ⟨#[]⟩, .int .i64 30] by unfold parV; rw [if_neg hvr]] at CP
    have hfin : ∀ w3, Ext w w3 → RemTo S w bt (remM M s) N (.int .i64 (remE M s)) (.returned (.int .i64 30)) w3 := fun w3 hE => by
      have e : remE M s = 30 := by unfold remE; rw [if_pos hvr]
      have e2 : remM M s = M := by unfold remM; rw [if_neg (by rw [e]; decide)]
      rw [e, e2]
      exact remTo_same HTW.out hE _
    have HFIN := Lib.hid hfin
    have CP := Lib.hid CP
    clear hvr hfin hT
    go_enter Tryd.func22, Tryd.ntmps22
    go_wp2_with fail
    refine CP.out.mono ?_
    rintro e w3 ⟨rfl, hb3⟩
    clear CP
    go_wp2
    go_ret
    exact HFIN.out w3 hb3

theorem rem_any (S : Nat → Prop) (w : World) (bt : Nat) (M : List (Key × Nd)) (N : Nat) (hT : TreeAt S w bt M N) (s : ByteArray) (hs : s.size ≤ 9223372036854775800) (hN : N < 4611686018427387904) :
    Calls Tryd.prog 22 #[.pointer (some ⟨bt, 0, none⟩), .string s] w (TreeTo S w bt (remM M s) N (.int .i64 (remE M s))) :=
  (rem_to S w bt M N hT s hs hN).mono fun e w' ⟨h1, h2, h3⟩ =>
    ⟨h1, h2.keep (fun _ _ => rfl) (fun _ h => .inl h) (fun k hk => hk.elim (fun h => h2.bound k h) (fun h => h.2)) (Nat.le_refl _), h3⟩
end Go.Proofs.YtamolbegmkngdaaDoor
namespace Go.Proofs.YtamolbegmkngdaaDoor
open Go.RowKit Go.Maps Go.Sort Go.Shelf
set_option maxHeartbeats 2000000

theorem bytes_lt : ∀ (a b : List UInt8), bytesBefore a b = true ↔ a < b
  | [], [] => by simp [bytesBefore]
  | [], _ :: _ => by simp [bytesBefore]
  | _ :: _, [] => by simp [bytesBefore]
  | x :: a, y :: b => by
    simp only [bytesBefore, Bool.or_eq_true, Bool.and_eq_true, decide_eq_true_eq, beq_iff_eq, List.cons_lt_cons_iff, bytes_lt a b]

theorem sortedKeys {l ss : List (List UInt8)} (hs : l.Pairwise fun a b => bytesBefore a b = true) (hp : ss.Perm l) : ss.mergeSort (fun x y => decide (x ≤ y)) = l := by
  have h1 : (ss.mergeSort (fun x y => decide (x ≤ y))).Perm l := (List.mergeSort_perm ss _).trans hp
  have h2 : (ss.mergeSort (fun x y => decide (x ≤ y))).Pairwise (fun x y => x ≤ y) := by
    have := List.pairwise_mergeSort (le := fun x y : List UInt8 => decide (x ≤ y)) (fun a b c h1 h2 => by
      simp only [decide_eq_true_eq] at h1 h2 ⊢; exact List.le_trans h1 h2) (fun a b => by
      simp only [Bool.or_eq_true, decide_eq_true_eq]; exact List.le_total a b) ss
    exact this.imp fun h => by simpa using h
  have h3 : l.Pairwise (fun x y => x ≤ y) := hs.imp fun h => List.le_of_lt ((bytes_lt _ _).1 h)
  exact h1.eq_of_pairwise (fun a b _ _ h1 h2 => List.le_antisymm h1 h2) h2 h3
/-- A new slice that holds these texts. -/
def SortedOut (l : List Key) (w : World) (e : Ending) (w' : World) : Prop :=
  ∃ v, e = .returned v ∧ w'.ownsRow w.heap.size 9 1 v l.length (l.map encStr) ∧ (v = .slice none 0 0 ↔ l = []) ∧ Ext w w'

theorem sortsS (m : Nat) : AnyZ.SortsIn Tryd.prog Tryd.sortedS_ren Fence.wide m :=
  ⟨fun blk off cap ss W hH hblk hsz => callsIn_wide.2 (AnyM.slices_Sort_string Tryd.sortS blk off cap ss W hH hblk hsz),
   fun p cap W => callsIn_wide.2 (AnyM.slices_Sort_string_none Tryd.sortS p cap W)⟩

theorem keysN_any (mb : Option Nat) (W : World) : Calls Tryd.prog 66 #[.map mb] W fun e w' => e = .returned (.func (.func 85) #[] #[.pointer (some ⟨W.heap.size, 0, none⟩)]) ∧ w' = W.alloc (.cells #[.map mb] 64) :=
  (callsIn_wide (n := 5)).1 (AnyZ.keys_in Tryd.keysN Fence.wide 5 trivial rfl mb W)

theorem sortedN_own {H : Type} (b nn : Nat) (D0 : DataW H) (R : Value → Option (DataW H × List MemPlace)) (w : World) (hown : w.ownsMap Tryd.prog 9 R b nn D0) (hmax : Maps.size D0 ≤ maxLen) (hbytes : Maps.size D0 * 16 ≤ 140737488355328) :
    CallsIn Fence.wide 5 Tryd.prog 30 #[.func (.func 85) #[] #[.pointer (some ⟨w.heap.size, 0, none⟩)]] (w.alloc (.cells #[.map (some b)] 64)) fun e w' => ∃ (v : Value) (ss : List (List UInt8)), e = .returned v ∧ ss.Perm (strKeys D0) ∧
      w'.ownsRow (w.alloc (.cells #[.map (some b)] 64)).heap.size 9 1 v ss.length ((ss.mergeSort (fun x y => decide (x ≤ y))).map encStr) ∧ (v = .slice none 0 0 ↔ ss = []) ∧ Below (w.alloc (.cells #[.map (some b)] 64)).heap.size (w.alloc (.cells #[.map (some b)] 64)) w' := by
  have hbl := hown.lt
  have hseq : SeqGives Fence.wide 2 Tryd.prog 85 #[.pointer (some ⟨w.heap.size, 0, none⟩)] encStr (fun ss => ss.Perm (strKeys D0)) (Maps.size D0) (w.alloc (.cells #[.map (some b)] 64)) :=
    AnyZ.keys_gives (ρ := Tryd.keysN_ren) { Tryd.keysN with } Fence.wide _ trivial rfl (by omega) w.heap.size b nn D0 _ (by simp) (by simp) (by
      obtain ⟨es, clock, hb, Ft, hs, hD⟩ := hown
      exact ⟨es, clock, (Below.heap_alloc _ _ b hbl).trans hb, Ft, hs, hD⟩)
  exact AnyZ.sorted_in Tryd.sortedS Fence.wide 5 trivial trivial trivial trivial rfl (by omega) (sortsS _) (enters_of Tryd.func55 (by kernel_rfl) rfl) 85 #[.pointer (some ⟨w.heap.size, 0, none⟩)] trivial (enters_of Tryd.func85 (by kernel_rfl) rfl) _ _ hmax hbytes _ hseq

theorem sortedN_any (b : Nat) (m : List (Key × Value)) (w : World) (h : SMap Tryd.prog 9 w b m) (hl : m.length * 16 ≤ 140737488355328) :
    Calls Tryd.prog 30 #[.func (.func 85) #[] #[.pointer (some ⟨w.heap.size, 0, none⟩)]] (w.alloc (.cells #[.map (some b)] 64)) (SortedOut (m.map (·.1)) (w.alloc (.cells #[.map (some b)] 64))) := by
  have hsz : Maps.size (kvD m) = m.length := by simp [kvD, Maps.size]
  have hk : strKeys (kvD m) = m.map (·.1) := by simp [kvD, strKeys, strOf]
  have hs : (m.map (·.1)).Pairwise fun a b => bytesBefore a b = true := by rw [List.pairwise_map]; exact SMap.sorted (Maps.string_keyed strT) h
  refine ((callsIn_wide (n := 5)).1 (sortedN_own b _ (kvD m) Rv w h (by rw [hsz]; unfold maxLen; omega) (by rw [hsz]; exact hl))).mono fun e w' hq => ?_
  obtain ⟨v, ss, rfl, hp, hrow, hnil, hb⟩ := hq
  rw [hk] at hp
  rw [sortedKeys hs hp, hp.length_eq] at hrow
  exact ⟨v, rfl, hrow, hnil.trans ⟨fun e => by rw [e] at hp; exact hp.nil_eq.symm, fun e => by rw [e] at hp; exact hp.eq_nil⟩, hb⟩

theorem keysU_any (mb : Option Nat) (W : World) : Calls Tryd.prog 31 #[.map mb] W fun e w' => e = .returned (.func (.func 56) #[] #[.pointer (some ⟨W.heap.size, 0, none⟩)]) ∧ w' = W.alloc (.cells #[.map mb] 75) :=
  (callsIn_wide (n := 5)).1 (AnyZ.keys_in Tryd.keysU Fence.wide 5 trivial rfl mb W)

theorem sortedU_own {H : Type} (b nn : Nat) (D0 : DataW H) (R : Value → Option (DataW H × List MemPlace)) (w : World) (hown : w.ownsMap Tryd.prog 9 R b nn D0) (hmax : Maps.size D0 ≤ maxLen) (hbytes : Maps.size D0 * 16 ≤ 140737488355328) :
    CallsIn Fence.wide 5 Tryd.prog 30 #[.func (.func 56) #[] #[.pointer (some ⟨w.heap.size, 0, none⟩)]] (w.alloc (.cells #[.map (some b)] 75)) fun e w' => ∃ (v : Value) (ss : List (List UInt8)), e = .returned v ∧ ss.Perm (strKeys D0) ∧
      w'.ownsRow (w.alloc (.cells #[.map (some b)] 75)).heap.size 9 1 v ss.length ((ss.mergeSort (fun x y => decide (x ≤ y))).map encStr) ∧ (v = .slice none 0 0 ↔ ss = []) ∧ Below (w.alloc (.cells #[.map (some b)] 75)).heap.size (w.alloc (.cells #[.map (some b)] 75)) w' := by
  have hbl := hown.lt
  have hseq : SeqGives Fence.wide 2 Tryd.prog 56 #[.pointer (some ⟨w.heap.size, 0, none⟩)] encStr (fun ss => ss.Perm (strKeys D0)) (Maps.size D0) (w.alloc (.cells #[.map (some b)] 75)) :=
    AnyZ.keys_gives (ρ := Tryd.keysU_ren) { Tryd.keysU with } Fence.wide _ trivial rfl (by omega) w.heap.size b nn D0 _ (by simp) (by simp) (by
      obtain ⟨es, clock, hb, Ft, hs, hD⟩ := hown
      exact ⟨es, clock, (Below.heap_alloc _ _ b hbl).trans hb, Ft, hs, hD⟩)
  exact AnyZ.sorted_in Tryd.sortedS Fence.wide 5 trivial trivial trivial trivial rfl (by omega) (sortsS _) (enters_of Tryd.func55 (by kernel_rfl) rfl) 56 #[.pointer (some ⟨w.heap.size, 0, none⟩)] trivial (enters_of Tryd.func56 (by kernel_rfl) rfl) _ _ hmax hbytes _ hseq

theorem sortedU_any (b : Nat) (m : List (Key × Value)) (w : World) (h : SMap Tryd.prog 9 w b m) (hl : m.length * 16 ≤ 140737488355328) :
    Calls Tryd.prog 30 #[.func (.func 56) #[] #[.pointer (some ⟨w.heap.size, 0, none⟩)]] (w.alloc (.cells #[.map (some b)] 75)) (SortedOut (m.map (·.1)) (w.alloc (.cells #[.map (some b)] 75))) := by
  have hsz : Maps.size (kvD m) = m.length := by simp [kvD, Maps.size]
  have hk : strKeys (kvD m) = m.map (·.1) := by simp [kvD, strKeys, strOf]
  have hs : (m.map (·.1)).Pairwise fun a b => bytesBefore a b = true := by rw [List.pairwise_map]; exact SMap.sorted (Maps.string_keyed strT) h
  refine ((callsIn_wide (n := 5)).1 (sortedU_own b _ (kvD m) Rv w h (by rw [hsz]; unfold maxLen; omega) (by rw [hsz]; exact hl))).mono fun e w' hq => ?_
  obtain ⟨v, ss, rfl, hp, hrow, hnil, hb⟩ := hq
  rw [hk] at hp
  rw [sortedKeys hs hp, hp.length_eq] at hrow
  exact ⟨v, rfl, hrow, hnil.trans ⟨fun e => by rw [e] at hp; exact hp.nil_eq.symm, fun e => by rw [e] at hp; exact hp.eq_nil⟩, hb⟩

theorem sortedU_nil (w : World) : Calls Tryd.prog 30 #[.func (.func 56) #[] #[.pointer (some ⟨w.heap.size, 0, none⟩)]] (w.alloc (.cells #[.map none] 75)) (SortedOut [] (w.alloc (.cells #[.map none] 75))) := by
  have hseq : SeqGives Fence.wide 2 Tryd.prog 56 #[.pointer (some ⟨w.heap.size, 0, none⟩)] encStr (fun ss : List (List UInt8) => ss = []) 0 (w.alloc (.cells #[.map none] 75)) :=
    AnyZ.keys_gives_nil (ρ := Tryd.keysU_ren) { Tryd.keysU with } Fence.wide _ trivial rfl w.heap.size _ (by simp) (by simp)
  refine ((callsIn_wide (n := 5)).1 (AnyZ.sorted_in Tryd.sortedS Fence.wide 5 trivial trivial trivial trivial rfl (by omega) (sortsS _) (enters_of Tryd.func55 (by kernel_rfl) rfl) 56 #[.pointer (some ⟨w.heap.size, 0, none⟩)] trivial (enters_of Tryd.func56 (by kernel_rfl) rfl) _ 0 (Nat.zero_le _) (by omega) _ hseq)).mono fun e w' hq => ?_
  obtain ⟨v, ss, rfl, rfl, hrow, hnil, hb⟩ := hq
  rw [List.mergeSort_nil] at hrow
  exact ⟨v, rfl, hrow, hnil, hb⟩

theorem tsorted_any (S : Nat → Prop) (w : World) (bt : Nat) (M : List (Key × Nd)) (N : Nat) (hT : TreeAt S w bt M N) (hN : M.length * 16 ≤ 140737488355328) :
    Calls Tryd.prog 46 #[.pointer (some ⟨bt, 0, none⟩)] w (SortedOut (M.map (·.1)) w) := by
  obtain ⟨bn, bk, K, hd, hNd, hKd⟩ := hT
  obtain ⟨m, hm, hr⟩ := hNd.ex
  have hx := TreeAt.box hd
  have C1 := keysN_any (some bn) w
  have C2 := sortedN_any bn m w hm (by rw [← hr.length]; exact hN)
  have HK := Lib.hid hr.keys
  have C1 := Lib.hid C1
  have C2 := Lib.hid C2
  unfold Box treeC at hx
  clear hm hr hd hNd hKd
  go_enter Tryd.func46, Tryd.ntmps46
  go_wp2_with fail
  refine C1.out.mono ?_
  rintro e w1 ⟨rfl, rfl⟩
  clear C1
  go_wp2_with fail
  refine C2.out.mono ?_
  rintro e w2 ⟨v, rfl, hrow, hnil, hE⟩
  have hfin : SortedOut (M.map (·.1)) w (.returned v) w2 := by
    rw [HK.out]
    exact ⟨v, rfl, ownsRow_base_a hrow (by simp), hnil, (Ext.alloc w _).trans hE⟩
  have HFIN := Lib.hid hfin
  clear C2 hrow hnil hE hfin
  go_wp2
  go_ret
  exact HFIN.out
end Go.Proofs.YtamolbegmkngdaaDoor
namespace Go.Proofs.YtamolbegmkngdaaDoor
open Go.RowKit Go.Sort
set_option maxHeartbeats 2000000
set_option maxRecDepth 100000

def ChildOut (M : List (Key × Nd)) (s : ByteArray) (w : World) (e : Ending) (w' : World) : Prop :=
  ∃ v, e = .returned (.tuple #[v, .int .i64 (if (mget M s.data.toList).isSome = true then 0 else 70)]) ∧ Ext w w' ∧
    if (mget M s.data.toList).isSome = true then w'.ownsRow w.heap.size 9 1 v (kidsOf M s).length ((kidsOf M s).map fun x => encStr x.1) else v = .slice none 0 0

theorem children_any (S : Nat → Prop) (w : World) (bt : Nat) (M : List (Key × Nd)) (N : Nat) (hT : TreeAt S w bt M N) (s : ByteArray) (hs : s.size ≤ maxLen) (hN : M.length * 16 ≤ 140737488355328) :
    Calls Tryd.prog 9 #[.pointer (some ⟨bt, 0, none⟩), .string s] w (ChildOut M s w) := by
  have C1 := tget_any S w bt M N hT s hs
  have HT := Lib.hid hT
  clear hT
  go_enter Tryd.func9, Tryd.ntmps9
  go_wp2_with fail
  refine C1.mono ?_
  rintro e w1 ⟨v, rfl, hv, hE1⟩
  obtain ⟨da, dc, aa, ac, rfl, hD, hA⟩ := hv
  generalize (mget M s.data.toList).getD zeroN = n at *
  clear hD hA
  obtain ⟨W2, hW2⟩ : ∃ W2, W2 = w1.alloc (.cells (ndC n (.slice da n.data.length dc) (.slice aa n.acl.length ac)) 37) := ⟨_, rfl⟩
  have HSET := Lib.hid ((setRow_alloc w1 zeroNd (ndC n (.slice da n.data.length dc) (.slice aa n.acl.length ac)) 37).trans hW2.symm)
  have HNew := Lib.hid (heap_alloc_new w1 (.cells zeroNd 37))
  have hE2 : Ext w1 W2 := by rw [hW2]; exact Ext.alloc _ _
  have hEw2 := hE1.trans hE2
  have hT2 := HT.out.ext hEw2
  unfold ndC at HSET ⊢
  unfold zeroNd at HSET HNew
  clear C1 hW2
  cases hg : mget M s.data.toList with
  | none =>
    have hfin : ChildOut M s w (.returned (.tuple #[.slice none 0 0, .int .i64 70])) W2 := ⟨_, by rw [hg]; rfl, hEw2, by rw [hg]; rfl⟩
    have HFIN := Lib.hid hfin
    clear hfin hg hE1 hE2 hEw2 hT2
    go_wp2_with (refine wpList_store_row rfl 37 (.tmp 6) (.tmp 12) rfl w1.heap.size _ rfl rfl 37 _ HNew.out sizeNd rfl (cells_node n da aa _ _ dc ac) ?_; rw [HSET.out])
    go_ret2
    exact HFIN.out
  | some y =>
    have HG := Lib.hid hg
    obtain ⟨bn, bk, K, hd, hNd, hKd⟩ := hT2
    have hx := TreeAt.box hd
    have hl := SMap.look (e := 75) hKd.map strT Tryd.underlying65 (z := .map none) (by kernel_rfl) hs
    rw [kidsV_get] at hl
    have hlen : (kidsOf M s).length * 16 ≤ 140737488355328 := by have := kids_length M s; omega
    unfold Box treeC at hx
    clear hg hE1 hE2
    cases hk : mget K s.data.toList with
    | some b =>
      rw [hk] at hl
      have hl' : (Instr.lookup 65 (.map (some bk)) (.string s) false).run Tryd.prog W2 = .ok (.map (some b)) W2 := hl
      have hSM := (hKd.each _ (mget_some_mem hk)).2.2.2
      rw [key_bytes] at hSM
      have C2 := keysU_any (some b) W2
      have C3 := sortedU_any b _ W2 hSM hlen
      have C2 := Lib.hid C2
      have C3 := Lib.hid C3
      clear hl hSM hd hNd hKd hk
      go_wp2_with (refine wpList_store_row rfl 37 (.tmp 6) (.tmp 12) rfl w1.heap.size _ rfl rfl 37 _ HNew.out sizeNd rfl (cells_node n da aa _ _ dc ac) ?_; rw [HSET.out])
      refine C2.out.mono ?_
      rintro e w3 ⟨rfl, rfl⟩
      clear C2
      go_wp2_with fail
      refine C3.out.mono ?_
      rintro e w4 ⟨v, rfl, hrow, hnil, hE4⟩
      have hz := hEw2.size
      have hfin : ChildOut M s w (.returned (.tuple #[v, .int .i64 0])) w4 :=
        ⟨v, by rw [HG.out]; rfl, (hEw2.trans (Ext.alloc W2 _)).trans hE4, by
          rw [HG.out]
          simp only [Option.isSome_some, if_true]
          have := ownsRow_base_a hrow (show w.heap.size ≤ _ by simp; omega)
          rw [List.map_map, List.length_map] at this
          exact this⟩
      have HFIN := Lib.hid hfin
      clear hfin C3 hrow hnil hE4 hx hl' HSET HNew
      go_wp2
      go_ret2
      exact HFIN.out
    | none =>
      rw [hk] at hl
      have hl' : (Instr.lookup 65 (.map (some bk)) (.string s) false).run Tryd.prog W2 = .ok (.map none) W2 := hl
      have hno := hKd.rest _ hk
      have C2 := keysU_any none W2
      have C3 := sortedU_nil W2
      have C2 := Lib.hid C2
      have C3 := Lib.hid C3
      have HNO := Lib.hid hno
      clear hl hd hNd hKd hk hno
      go_wp2_with (refine wpList_store_row rfl 37 (.tmp 6) (.tmp 12) rfl w1.heap.size _ rfl rfl 37 _ HNew.out sizeNd rfl (cells_node n da aa _ _ dc ac) ?_; rw [HSET.out])
      refine C2.out.mono ?_
      rintro e w3 ⟨rfl, rfl⟩
      clear C2
      go_wp2_with fail
      refine C3.out.mono ?_
      rintro e w4 ⟨v, rfl, hrow, hnil, hE4⟩
      have hz := hEw2.size
      have hfin : ChildOut M s w (.returned (.tuple #[v, .int .i64 0])) w4 :=
        ⟨v, by rw [HG.out]; rfl, (hEw2.trans (Ext.alloc W2 _)).trans hE4, by
          rw [HG.out, HNO.out]
          simp only [Option.isSome_some, if_true]
          exact ownsRow_base_a hrow (show w.heap.size ≤ _ by simp; omega)⟩
      have HFIN := Lib.hid hfin
      clear hfin C3 hrow hnil hE4 hx hl' HSET HNew
      go_wp2
      go_ret2
      exact HFIN.out
end Go.Proofs.YtamolbegmkngdaaDoor
namespace Go.Proofs.YtamolbegmkngdaaDoor
open Go.RowKit Go.Sort
set_option maxHeartbeats 2000000
set_option maxRecDepth 100000

section
variable {P : Program} {n : Nat} {o : Oper} {a : Act} {w : World} {K : Act → World → Prop} {Q : Exit → Act → World → Prop}
theorem operIn_value {w' : World} {v : Value} (h : (execOp a.eval o).run P w = .ok (.value v) w') (hK : K (a.put o.dst v) w') : o.wpIn Fence.wide n P a w K Q := by
  refine ⟨fun _ _ => trivial, ?_⟩
  rw [show (o.semAt Fence.wide.round a.eval) = execOp a.eval o from rfl, h]
  exact hK
theorem operIn_enter {f : FuncId} {args : Array Value} {R : Ending → World → Prop} (h : (execOp a.eval o).run P w = .ok (.enter f args) w) (hc : Calls P f args w R) (hR : ∀ e w', R e w' → ∃ v, e = .returned v ∧ K (a.put o.dst v) w') : o.wpIn Fence.wide n P a w K Q := by
  refine ⟨fun _ _ => trivial, ?_⟩
  rw [show (o.semAt Fence.wide.round a.eval) = execOp a.eval o from rfl, h]
  refine ⟨(fun h => by cases h), callsIn_wide.2 (hc.mono fun e w' hr => ?_)⟩
  obtain ⟨v, rfl, hk⟩ := hR e w' hr
  exact hk
theorem operIn_round {l f : Nat} {tmps : Array Value} {assign body : Code} {R : Ending → World → Prop} (h : (execOp a.eval o).run P w = .ok (.round l f tmps assign body) w) (hc : RoundIn Fence.wide (n - 1) P l f tmps assign body w R) (hR : ∀ e w', R e w' → ∃ v, e = .returned v ∧ K (a.put o.dst v) w') : o.wpIn Fence.wide n P a w K Q := by
  refine ⟨fun _ _ => trivial, ?_⟩
  rw [show (o.semAt Fence.wide.round a.eval) = execOp a.eval o from rfl, h]
  refine ⟨(fun h => by cases h), hc.mono fun e w' hr => ?_⟩
  obtain ⟨v, rfl, hk⟩ := hR e w' hr
  exact hk
theorem ex_yield {x : Operand} {args : Array Operand} {ts : Array TypeId} {l f : Nat} {tmps : Array Value} {assign body : Code} (ho : o.op = .call { callee := .value x, args := args, argTypes := ts }) (hx : a.eval x = .func (.yield l) #[] #[])
    (hy : (Instr.yield l (args.map a.eval)).run P w = .ok (.round l f tmps assign body) w) : (execOp a.eval o).run P w = .ok (.round l f tmps assign body) w := by
  simp [execOp, ho, resolve, hx, Deferred.ofValue, invoke, hy]
theorem ex_callv {x : Operand} {args : Array Operand} {ts : Array TypeId} {f : FuncId} {bnd cap : Array Value} (ho : o.op = .call { callee := .value x, args := args, argTypes := ts }) (hx : a.eval x = .func (.func f) bnd cap)
    (hen : ∀ args w, (callFunc f args).run P w = .ok (.enter f args) w) : (execOp a.eval o).run P w = .ok (.enter f (bnd ++ args.map a.eval ++ cap)) w := by
  simp [execOp, ho, resolve, hx, Deferred.ofValue, invoke, hen]
end

theorem infoNd : (Tryd.prog.info? 37).map (fun i => (i.zero, i.size, i.bytes)) = some (some (.agg zeroNd), 17, 168) := by kernel_rfl
theorem infoStr : (Tryd.prog.info? 9).map (fun i => (i.zero, i.size, i.bytes)) = some (some (.string ⟨#[]⟩), 1, 16) := by kernel_rfl

/-- What a round keeps: the cells that are safe. -/
def KeepS (Safe : World → Nat → Prop) (W W' : World) : Prop :=
  W.heap.size ≤ W'.heap.size ∧ ∀ k c e f, W.heap[k]? = some (.cells c e f) → Safe W k → W'.heap[k]? = some (.cells c e f) ∧ Safe W' k
/-- What a round is handed: a node, its cells safe. -/
def GS (Safe : World → Nat → Prop) (x : Value × Nd) (W : World) : Prop := NdS (fun b => Safe W b ∧ b < W.heap.size) W x.1 x.2
def nodesOf (M : List (Key × Nd)) (ks : List Key) : List Nd := ks.map fun k => (mget M k).getD zeroN

/-- The blocks that are told from stay and are safe. -/
def Pers (Safe : World → Nat → Prop) (P2 : Nat → Prop) (W2 wr : World) : Prop :=
  W2.heap.size ≤ wr.heap.size ∧ ∀ b c e f, P2 b → W2.heap[b]? = some (.cells c e f) → wr.heap[b]? = some (.cells c e f) ∧ Safe wr b
theorem Pers.ext {Safe : World → Nat → Prop} {P2 : Nat → Prop} {W2 A B : World} (h : Pers Safe P2 W2 A) (he : Ext A B) (hs : ∀ k, Safe A k → Safe B k) : Pers Safe P2 W2 B :=
  ⟨Nat.le_trans h.1 he.size, fun b c e f hb hc => by
    obtain ⟨h1, h2⟩ := h.2 b c e f hb hc
    exact ⟨(he.block b (Array.getElem?_eq_some_iff.1 h1).1).trans h1, hs _ h2⟩⟩
theorem Pers.keep {Safe : World → Nat → Prop} {P2 : Nat → Prop} {W2 A B : World} (h : Pers Safe P2 W2 A) (hk : KeepS Safe A B) : Pers Safe P2 W2 B :=
  ⟨Nat.le_trans h.1 hk.1, fun b c e f hb hc => by
    obtain ⟨h1, h2⟩ := h.2 b c e f hb hc
    exact hk.2 b c e f h1 h2⟩
theorem Pers.cell {Safe : World → Nat → Prop} {P2 : Nat → Prop} {W2 A : World} (h : Pers Safe P2 W2 A) {b o : Nat} {u : Value} (hb : P2 b) (hu : W2.cell? ⟨b, o, none⟩ = some u) : A.cell? ⟨b, o, none⟩ = some u := by
  obtain ⟨c, e, f, hk⟩ := cell_cells hu
  rw [World.cell?_of_block ((h.2 b c e f hb hk).1.trans hk.symm)]
  exact hu

theorem flat17 : ∀ (vs : List (Array Value)) (i : Nat) (cs : Array Value), (∀ x ∈ vs, x.size = 17) → vs[i]? = some cs → ∀ j u, cs[j]? = some u → (vs.flatMap Array.toList)[i * 17 + j]? = some u
  | [], i, cs, _, h, _, _, _ => by simp at h
  | x :: vs, 0, cs, hs, h, j, u, hj => by
    simp at h
    subst h
    have hx := hs x (by simp)
    have hjl := (Array.getElem?_eq_some_iff.1 hj).1
    rw [List.flatMap_cons, Nat.zero_mul, Nat.zero_add, List.getElem?_append_left (by simpa using hjl)]
    simpa using hj
  | x :: vs, i + 1, cs, hs, h, j, u, hj => by
    have hx := hs x (by simp)
    rw [List.flatMap_cons, List.getElem?_append_right (by simp [hx]; omega)]
    have := flat17 vs i cs (fun y hy => hs y (by simp [hy])) (by simpa using h) j u hj
    rw [show (i + 1) * 17 + j - x.toList.length = i * 17 + j by simp [hx]; omega]
    exact this

theorem ownBlock_ge {w : World} {base e size n : Nat} {v : Value} {xs : List Value} (h : w.ownsRow base e size v n xs) (k : Nat) (hk : v.ownBlock = some k) : base ≤ k := by
  rcases h.2 with ⟨rfl, _⟩ | ⟨g, cap, cur, rfl, hb, _⟩
  · simp [Value.ownBlock] at hk
  · simp [Value.ownBlock] at hk; omega

set_option maxHeartbeats 4000000 in
theorem told_tells (Safe : World → Nat → Prop) (S0 : Nat → Prop) (w : World) (bt : Nat) (M : List (Key × Nd)) (N : Nat) (hT : TreeAt S0 w bt M N) (hsafe : ∀ k, S0 k → Safe w k) (bw btb fw : Nat) (bnd cap : Array Value)
    (hcw : w.cell? ⟨bw, 0, none⟩ = some (.func (.func fw) bnd cap)) (hct : w.cell? ⟨btb, 0, none⟩ = some (.pointer (some ⟨bt, 0, none⟩)))
    (hen : ∀ args w, (callFunc fw args).run Tryd.prog w = .ok (.enter fw args) w) (ks : List Key) (hw : ∀ W, Ext w W → Calls Tryd.prog fw (bnd ++ cap) W (SortedOut ks W)) (hks : ks.length * 168 ≤ 140737488355328) (hkl : ∀ k ∈ ks, k.length ≤ maxLen) :
    Tells Fence.wide 5 Tryd.prog 65 #[.pointer (some ⟨bw, 0, none⟩), .pointer (some ⟨btb, 0, none⟩)] (fun x : Value × Nd => #[x.1]) (GS Safe) (KeepS Safe) Safe
      (fun xs => xs.map (·.2) = nodesOf M ks) (fun pre => ∃ rest, pre.map (·.2) ++ rest = nodesOf M ks) w := by
  intro l J Jx W hW hSW hJ hY h0
  refine callsIn_wide.2 ?_
  have hTW := hT.ext hW
  have hbnd := hT.bound
  have hbtl := hT.bound
  have hcwW : W.cell? ⟨bw, 0, none⟩ = some (.func (.func fw) bnd cap) := (hW.cell (p := ⟨bw, 0, none⟩) (World.block_lt_of_cell? _ _ hcw)).trans hcw
  have hctW : W.cell? ⟨btb, 0, none⟩ = some (.pointer (some ⟨bt, 0, none⟩)) := (hW.cell (p := ⟨btb, 0, none⟩) (World.block_lt_of_cell? _ _ hct)).trans hct
  have hbtlt : btb < W.heap.size := World.block_lt_of_cell? _ _ hctW
  have CW := hw W hW
  have HY := Lib.hid hY
  have HJ := Lib.hid hJ
  have HT := Lib.hid hTW
  have CW := Lib.hid CW
  have HSW := Lib.hid hSW
  have HSafe := Lib.hid hsafe
  clear hcw hct hT hw hY hJ hTW hSW hsafe
  go_enter Tryd.func65, Tryd.ntmps65
  go_wp2_with fail
  refine CW.out.mono ?_
  rintro e W1 ⟨v, rfl, hrow, hnil, hE1⟩
  obtain ⟨sa, sc, rfl, hcs⟩ := ownsRow_cells hrow
  have hT1 := HT.out.ext hE1
  have hz1 := hE1.size
  have hct1 : W1.cell? ⟨btb, 0, none⟩ = some (.pointer (some ⟨bt, 0, none⟩)) := (hE1.cell (p := ⟨btb, 0, none⟩) hbtlt).trans hctW
  have hlen : ks.length ≤ 9223372036854775807 := by omega
  clear CW hrow hnil hcwW hctW
  go_wp2
  go_loopw [4, 12] (fun lv i wr => ∃ (k : Nat) (vs : List (Array Value)), k ≤ ks.length ∧ i = .int .i64 k ∧ vs.length = k ∧ wr.ownsRow W1.heap.size 37 17 lv k (vs.flatMap Array.toList) ∧ Ext W1 wr ∧ (∀ x ∈ vs, x.size = 17) ∧ Hid (∀ (j : Nat) (cs : Array Value), vs[j]? = some cs → ∃ n, (nodesOf M ks)[j]? = some n ∧ NdS S0 W1 (.agg cs) n)) (fun _ i _ => ks.length - (intOf i).toNat)
  case atStart => exact ⟨0, [], Nat.zero_le _, rfl, rfl, World.ownsRow_nil _ _ _ _, Ext.refl _, by simp, by unfold Hid; simp⟩
  case round =>
    obtain ⟨k, vs, hk, rfl, hvl, hown, hEr, hv17, HV⟩ := hrel
    by_cases hlt : k < ks.length
    · obtain ⟨b, off, rfl, hb, hc⟩ := hcs k (encStr ks[k]) (by rw [List.getElem?_map, List.getElem?_eq_getElem hlt]; rfl)
      have hcr : wr.cell? ⟨b, off + k, none⟩ = some (encStr ks[k]) := (hEr.cell (p := ⟨b, off + k, none⟩) hb).trans hc
      have hkz : (⟨ks[k].toArray⟩ : ByteArray).size ≤ maxLen := by
        have := hkl ks[k] (List.getElem_mem hlt)
        rw [← size_list]; simpa using this
      have hTr := hT1.ext hEr
      obtain ⟨bn, bk, K, hd, hNd, hKd⟩ := hTr
      have hx := TreeAt.box hd
      obtain ⟨vv, hvv, _, hq⟩ := hNd.look' ⟨ks[k].toArray⟩ hkz
      rw [key_back] at hvv
      have hvv1 : NdS S0 W1 vv ((mget M ks[k]).getD zeroN) := hvv.imp (fun _ h => h) (fun b o u hb hu => (hEr.cell (p := ⟨b, o, none⟩) (hT1.bound b hb)).symm.trans hu)
      obtain ⟨da, dc, aa, ac, rfl, _⟩ := hvv
      generalize hn : (mget M ks[k]).getD zeroN = n at *
      have hsnoc : (vs ++ [ndC n (.slice da n.data.length dc) (.slice aa n.acl.length ac)]).flatMap Array.toList = vs.flatMap Array.toList ++ (ndC n (.slice da n.data.length dc) (.slice aa n.acl.length ac)).toList := by simp
      have HV2 : Hid (∀ (j : Nat) (cs : Array Value), (vs ++ [ndC n (.slice da n.data.length dc) (.slice aa n.acl.length ac)])[j]? = some cs → ∃ n, (nodesOf M ks)[j]? = some n ∧ NdS S0 W1 (.agg cs) n) := by
        intro j cs hj
        by_cases hjk : j < vs.length
        · rw [List.getElem?_append_left hjk] at hj
          exact HV.out j cs hj
        · rw [List.getElem?_append_right (by omega)] at hj
          have hj0 : j = vs.length := by
            have := (List.getElem?_eq_some_iff.1 hj).1
            simp at this; omega
          subst hj0
          simp at hj
          subst hj
          refine ⟨n, ?_, hvv1⟩
          unfold nodesOf
          rw [List.getElem?_map, hvl, List.getElem?_eq_getElem hlt, Option.map_some, hn]
      have hct : wr.cell? ⟨btb, 0, none⟩ = some (.pointer (some ⟨bt, 0, none⟩)) := (hEr.cell (p := ⟨btb, 0, none⟩) (show btb < W1.heap.size by omega)).trans hct1
      have hs17 : Cells (wr.alloc (.cells (ndC n (.slice da n.data.length dc) (.slice aa n.acl.length ac)) 37)).heap.size (wr.alloc (.cells (ndC n (.slice da n.data.length dc) (.slice aa n.acl.length ac)) 37)) (some ⟨wr.heap.size, 0, none⟩) (ndC n (.slice da n.data.length dc) (.slice aa n.acl.length ac)).toList := fun j u hj => by
        refine ⟨_, 0, rfl, by simp, ?_⟩
        rw [Nat.zero_add, cell_of_row _ _ _ _ _ _ (heap_alloc_new wr _)]
        simpa using hj
      have hsrc : Src Tryd.prog 17 22 (.slice (some ⟨wr.heap.size, 0, none⟩) 1 1) 1 (ndC n (.slice da n.data.length dc) (.slice aa n.acl.length ac)).toList (wr.alloc (.cells (ndC n (.slice da n.data.length dc) (.slice aa n.acl.length ac)) 37)) :=
        hs17.src Tryd.underlying22 1 1 (by simp [ndC]) (fun u hu => by
          have := cells_node n da aa n.data.length n.acl.length dc ac
          rw [← Array.all_toList] at this
          exact List.all_eq_true.1 this u hu)
      obtain ⟨i0, hi, hz0, hz1', hz2⟩ := info_parts infoNd
      have hownA := hown.alloc (.cells (ndC n (.slice da n.data.length dc) (.slice aa n.acl.length ac)) 37)
      have hzr := hEr.size
      have HSN := Lib.hid hsnoc
      unfold Box treeC at hx
      unfold ndC at hq hsrc hownA
      clear hsnoc hd hNd hKd hs17 hvv1 hcs hn hc HV
      go_wp2_with (at_builtin; refine wpList_append_src _ rfl (.tmp 16) (.tmp 23) 22 22 rfl W1.heap.size 37 i0 (.agg zeroNd) 17 168 Tryd.underlying22 hi hz0 hz1' hz2 rfl (by decide) _ k _ rfl hownA _ 1 _ rfl hsrc ?c1 ?c2 ?c3 ?_)
      case c1 => unfold maxLen; omega
      case c2 => omega
      case c3 => first | omega | (simp; omega)
      intro v' w5 hown5 hg5 _ _
      have hE5 : Ext W1 w5 := (Below.alloc hEr hzr _).grown hg5 (by simp; omega) (fun g hg => ownBlock_ge hown g hg)
      rw [show [Value.string n.path, .slice da n.data.length dc, .slice aa n.acl.length ac, .int .i64 n.owner, .int .i64 n.czxid, .int .i64 n.mzxid, .int .i64 n.pzxid, .int .i64 n.azxid, .int .i64 n.qzxid, .int .i64 n.ctime, .int .i64 n.mtime, .int .i32 n.version, .int .i32 n.creates, .int .i32 n.aversion, .bool n.has, .int .i64 n.count, .int .i64 n.bytes] = (ndC n (.slice da n.data.length dc) (.slice aa n.acl.length ac)).toList from rfl, ← HSN.out] at hown5
      have HO5 := Lib.hid hown5
      clear hown5 hg5 hown hownA hsrc hEr hcr hct hx hq
      go_wp2
      go_roundw
      case rel =>
        refine ⟨k + 1, _, by omega, by go_num, by simp [hvl], HO5.out, hE5, fun x hx => ?_, HV2⟩
        rcases List.mem_append.1 hx with hx | hx
        · exact hv17 x hx
        · simp at hx; subst hx; rfl
      case measure => simp [intOf]; omega
    · obtain rfl : k = ks.length := by omega
      obtain ⟨la, lc, rfl, hrows⟩ := ownsRow_from hown
      have hJ2 := HJ.out [] W wr h0 (hE1.trans hEr)
      obtain ⟨hJ0, hSm, hSn⟩ := hJ2
      obtain ⟨W2, hW2⟩ : ∃ W2, W2 = wr := ⟨_, rfl⟩
      have hP0 : Pers Safe (fun b => S0 b ∨ W1.heap.size ≤ b) W2 wr := by
        rw [hW2]
        refine ⟨Nat.le_refl _, fun b c e f hb hc => ⟨hc, ?_⟩⟩
        rcases hb with hb | hb
        · exact hSm b (HSW.out b (hbnd b hb) (HSafe.out b hb))
        · exact hSn b (by omega)
      rw [← hW2] at hrows hEr
      clear hW2 hSm hSn hown h0 hcs hct1 HSW HSafe HT hW
      have hvs : ∀ (k : Nat), k < ks.length → ∃ (n : Nd) (da : Option Addr) (dc : Nat) (aa : Option Addr) (ac : Nat), (nodesOf M ks)[k]? = some n ∧ vs[k]? = some (ndC n (.slice da n.data.length dc) (.slice aa n.acl.length ac)) ∧ CellsS S0 W1 da (n.data.map u8v) ∧ CellsS S0 W1 aa (acCs n.acl) ∧ Fit n := fun k hk => by
        have hvk : vs[k]? = some (vs[k]'(by omega)) := List.getElem?_eq_getElem (by omega)
        obtain ⟨n, hn, da, dc, aa, ac, e, h1, h2⟩ := HV.out k _ hvk
        refine ⟨n, da, dc, aa, ac, hn, ?_, h1, h2, ?_⟩
        · rw [hvk]; simp only [Value.agg.injEq] at e; rw [e]
        · unfold nodesOf at hn
          rw [List.getElem?_map, List.getElem?_eq_getElem hk] at hn
          simp at hn
          rw [← hn]
          obtain ⟨_, _, _, _, hNd, _⟩ := hT1
          exact hNd.ok.fit _
      have HVS := Lib.hid hvs
      have HRows := Lib.hid hrows
      have HEr := Lib.hid hEr
      have hnl : (nodesOf M ks).length = ks.length := by simp [nodesOf]
      have HNL := Lib.hid hnl
      have H17 := Lib.hid hv17
      clear hvs hrows hEr hv17 HV hnl hE1 hvl
      go_wp2
      go_loopw [28] (fun i wt => ∃ (k : Nat) (pre : List (Value × Nd)), k ≤ ks.length ∧ i = .int .i64 k ∧ Hid (pre.map (·.2) = (nodesOf M ks).take k) ∧ J pre wt ∧ Pers Safe (fun b => S0 b ∨ W1.heap.size ≤ b) W2 wt) (fun i _ => ks.length - (intOf i).toNat)
      case atStart => exact ⟨0, [], Nat.zero_le _, rfl, rfl, hJ0, hP0⟩
      case round =>
        obtain ⟨k, pre, hk, rfl, HPre, hJk, hPk⟩ := hrel
        by_cases hlt : k < ks.length
        · obtain ⟨n, da, dc, aa, ac, hn, hv, hD, hA, hfit⟩ := HVS.out k hlt
          have hfl := flat17 vs k _ H17.out hv
          obtain ⟨g, off, rfl, _, _, _⟩ := HRows.out (k * 17 + 0) _ (hfl 0 (.string n.path) rfl)
          have hcw : ∀ j u, (ndC n (.slice da n.data.length dc) (.slice aa n.acl.length ac))[j]? = some u → wr.cell? ((⟨g, off + k * 17, none⟩ : Addr).add j) = some u := fun j u hj => by
            obtain ⟨g', off', e, h1, h2, h3⟩ := HRows.out (k * 17 + j) u (hfl j u hj)
            simp only [Option.some.injEq, Addr.mk.injEq, and_true] at e
            obtain ⟨rfl, rfl⟩ := e
            rw [addr_add, Nat.add_assoc]
            exact hPk.cell (.inr h1) h3
          obtain ⟨W4, hW4⟩ : ∃ W4, W4 = wr.alloc (.cells (ndC n (.slice da n.data.length dc) (.slice aa n.acl.length ac)) 37) := ⟨_, rfl⟩
          have hE4 : Ext wr W4 := by rw [hW4]; exact Ext.alloc _ _
          have hz4 : W4.heap.size = wr.heap.size + 1 := by rw [hW4]; simp
          have hn4 : W4.heap[wr.heap.size]? = some (.cells (ndC n (.slice da n.data.length dc) (.slice aa n.acl.length ac)) 37 (0, 0)) := by rw [hW4]; exact heap_alloc_new wr _
          obtain ⟨hJ4, hSm4, _⟩ := HJ.out pre wr W4 hJk hE4
          have hP4 := hPk.ext hE4 hSm4
          have hcell4 : ∀ (b o : Nat) u, S0 b → W1.cell? ⟨b, o, none⟩ = some u → W4.cell? ⟨b, o, none⟩ = some u := fun b o u hb hu =>
            hP4.cell (.inl hb) ((HEr.out.cell (p := ⟨b, o, none⟩) (hT1.bound b hb)).trans hu)
          have hbz : ∀ b, S0 b → b < W4.heap.size := fun b hb => by
            have := hT1.bound b hb
            have := HEr.out.size
            have := hP4.1
            omega
          have hD4 : Cells W4.heap.size W4 da (n.data.map u8v) := (hD.imp (fun _ h => h) hcell4).cells hbz
          have hA4 : Cells W4.heap.size W4 aa (acCs n.acl) := (hA.imp (fun _ h => h) hcell4).cells hbz
          have C4 := sclone_nd n da aa dc ac W4 hfit hD4 hA4
          have HC := Lib.hid hcw
          have HN := Lib.hid hn4
          have HSET := Lib.hid ((setRow_alloc wr zeroNd (ndC n (.slice da n.data.length dc) (.slice aa n.acl.length ac)) 37).trans hW4.symm)
          have HNew := Lib.hid (heap_alloc_new wr (.cells zeroNd 37))
          have HNk := Lib.hid hn
          have C4 := Lib.hid C4
          unfold ndC at HC HN HSET
          unfold zeroNd at HSET HNew
          clear hcw hW4 hn4 hfl hv hD hA hJk hPk hcell4 hD4 hA4 hE4 hSm4 hbz hn
          go_upto_region 9 with (first | (refine wpList_load_at rfl 37 (.tmp 30) rfl _ rfl _ _ HC.out Tryd.underlying37 rfl sizeNd ?_) | (refine wpList_store_row rfl 37 (.tmp 8) (.tmp 31) rfl wr.heap.size _ rfl rfl 37 _ HNew.out sizeNd rfl (cells_node n da aa _ _ dc ac) ?_; rw [HSET.out]))
          rw [put_none]
          refine (wpIn_wide (n := 5)).1 (wpIn_region_list ?_)
          refine wpListIn_plain rfl fun K1 hK1 => operIn_value (ex_move rfl) (hK1 _ _ ?_)
          refine wpListIn_plain rfl fun K2 hK2 => operIn_value (ex_load_row rfl wr.heap.size rfl 37 _ (0, 0) _ HN.out Tryd.underlying37 rfl sizeNd) (hK2 _ _ ?_)
          refine wpListIn_plain rfl fun K3 hK3 => operIn_enter (ex_call rfl (enters_f Tryd.func43 (by kernel_rfl) rfl)) (R := CloneS n W4) (by simp only [List.map_toArray, List.map_cons, List.map_nil]; exact C4.out) ?_
          rintro e W5 ⟨v, rfl, hv, hE5⟩
          refine ⟨_, rfl, hK3 _ _ ?_⟩
          have hq5 := HJ.out pre W4 W5 hJ4 hE5
          have hJ5 := hq5.1
          have hP5 := hP4.ext hE5 hq5.2.1
          have hG5 : GS Safe (v, n) W5 := hv.imp (fun b hb => ⟨hq5.2.2 b hb.1, hb.2⟩) (fun _ _ _ _ h => h)
          have HPre2 : Hid ((pre ++ [(v, n)]).map (·.2) = (nodesOf M ks).take (k + 1)) := by
            unfold Hid
            rw [List.map_append, HPre.out, List.take_add_one, HNk.out]
            rfl
          have hY5 := HY.out pre (v, n) W5 ⟨(nodesOf M ks).drop (k + 1), by rw [HPre2.out, List.take_append_drop]⟩ hJ5 hG5
          clear hq5 hG5 hv HPre
          revert hY5
          rintro ⟨fn, tmps, assign, body, hy, hR⟩
          refine wpListIn_plain rfl fun K4 hK4 => operIn_round (ex_yield rfl rfl (by simp only [List.map_toArray, List.map_cons, List.map_nil]; exact hy)) hR ?_
          rintro e W6 (⟨rfl, hJ6, hKp⟩ | ⟨rfl, hJx6⟩)
          · refine ⟨_, rfl, hK4 _ _ ?_⟩
            refine wpListIn_plain rfl fun K5 hK5 => operIn_value (v := .bool false) (w' := W6) (by kernel_rfl) (hK5 _ _ ?_)
            refine wpListIn_nil ?_
            have hP6 := hP5.keep hKp
            clear hK1 hK2 hK3 hK4 hK5 hy hR hJ5 hP5 hJ4 hP4 C4 HC HN HSET HNew hKp
            simp only [Exit.then, Act.put]
            go_simp
            rename_i hKd
            refine hKd _ _ ?_
            clear hKd
            go_wp2
            go_roundw
            case rel => exact ⟨k + 1, _, by omega, by go_num, HPre2, hJ6, hP6⟩
            case measure => simp [intOf]; omega
          · refine ⟨_, rfl, hK4 _ _ ?_⟩
            refine wpListIn_plain rfl fun K5 hK5 => operIn_value (v := .bool true) (w' := W6) (by kernel_rfl) (hK5 _ _ ?_)
            refine wpListIn_nil ?_
            clear hK1 hK2 hK3 hK4 hK5 hy hR hJ5 hP5 hJ4 hP4 C4 HC HN HSET HNew
            simp only [Exit.then, Act.put]
            go_simp
            rename_i hKd
            refine hKd _ _ ?_
            clear hKd
            go_wp2
            refine ⟨rfl, _, results_none rfl _ _ _, ⟨_, rfl⟩, .inr ⟨_, ⟨(nodesOf M ks).drop (k + 1), ?_⟩, hJx6⟩⟩
            rw [HPre2.out, List.take_append_drop]
        · obtain rfl : k = ks.length := by omega
          have hPre := HPre.out
          rw [List.take_of_length_le (by rw [HNL.out]; exact Nat.le_refl _)] at hPre
          have HPre2 := Lib.hid hPre
          clear hPre HPre HVS HRows H17
          go_wp2
          exact ⟨rfl, _, results_none rfl _ _ _, ⟨_, rfl⟩, .inl ⟨_, HPre2.out, hJk⟩⟩
end Go.Proofs.YtamolbegmkngdaaDoor
namespace Go.Proofs.YtamolbegmkngdaaDoor
open Go.RowKit Go.Sort
set_option maxHeartbeats 2000000
set_option maxRecDepth 100000

section
variable {F : Fence} {n : Nat} {P : Program} {ops : Array Oper} {Q : Exit → Act → World → Prop} {a : Act} {w : World} {rest : List Oper} {o : Oper}
theorem wpListIn_value {v : Value} {w' : World} (hF : ∀ f, F.fn f) (hgd : o.guard = none) (hnd : ∀ c, o.op ≠ .defer c) (h : (execOp a.eval o).run P w = .ok (.value v) w')
    (hK : wpListIn F n P ops Q rest (a.put o.dst v) w') : wpListIn F n P ops Q (o :: rest) a w :=
  wpListIn_plain hgd fun K hk => by
    refine ⟨fun _ _ => hF _, ?_⟩
    rw [Oper.semAt_eq _ _ _ hnd, h]
    exact hk _ _ hK
theorem wpListIn_skipped {w' : World} (hF : ∀ f, F.fn f) (hgd : o.guard = none) (hnd : ∀ c, o.op ≠ .defer c) (h : (execOp a.eval o).run P w = .ok .skip w')
    (hK : wpListIn F n P ops Q rest (a.put o.dst undef) w') : wpListIn F n P ops Q (o :: rest) a w :=
  wpListIn_plain hgd fun K hk => by
    refine ⟨fun _ _ => hF _, ?_⟩
    rw [Oper.semAt_eq _ _ _ hnd, h]
    exact hk _ _ hK
theorem ex_store_row (ty : TypeId) (x y : Operand) (ho : o.op = .store ty x y)
    (g : Nat) (cells : Array Value) (hx : a.eval x = .pointer (some ⟨g, 0, none⟩)) (hy : a.eval y = .agg cells)
    (t : TypeId) (old : Array Value) (hg : w.heap[g]? = some (.cells old t (0, 0))) (hi : (P.info? ty).map (·.size) = some cells.size)
    (hold : old.size = cells.size) (h1 : cells.all (·.oneCell') = true) : (execOp a.eval o).run P w = .ok .skip (w.setRow g cells) := by
  unfold execOp
  simp only [ho, hx, hy, Instr.storeAt, Instr.sureAddr, Sem.run_bind, Sem.run_pure, Result.andThen_ok, run_storeVar_row w g t ty old cells hg hi hold h1]
theorem wpListIn_load_row (hF : ∀ f, F.fn f) (hgd : o.guard = none) (ty : TypeId) (x : Operand) (ho : o.op = .load ty x) (g : Nat) (hx : a.eval x = .pointer (some ⟨g, 0, none⟩)) (t : TypeId) (cs : Array Value) (fr : Nat × Nat) (d : TypeDesc) (hg : w.heap[g]? = some (.cells cs t fr))
    (hu : P.underlying ty = some d) (hd : (match d with | .struct _ | .array _ _ => true | _ => false) = true) (hi : (P.info? ty).map (·.size) = some cs.size)
    (hK : wpListIn F n P ops Q rest (a.put o.dst (.agg cs)) w) : wpListIn F n P ops Q (o :: rest) a w :=
  wpListIn_value hF hgd (fun c h => by rw [ho] at h; cases h) (ex_load_row ho g hx t cs fr d hg hu hd hi) hK
theorem wpListIn_store_row (hF : ∀ f, F.fn f) (hgd : o.guard = none) (ty : TypeId) (x y : Operand) (ho : o.op = .store ty x y)
    (g : Nat) (cells : Array Value) (hx : a.eval x = .pointer (some ⟨g, 0, none⟩)) (hy : a.eval y = .agg cells)
    (t : TypeId) (old : Array Value) (hg : w.heap[g]? = some (.cells old t (0, 0))) (hi : (P.info? ty).map (·.size) = some cells.size)
    (hold : old.size = cells.size) (h1 : cells.all (·.oneCell') = true)
    (hK : wpListIn F n P ops Q rest (a.put o.dst undef) (w.setRow g cells)) : wpListIn F n P ops Q (o :: rest) a w :=
  wpListIn_skipped hF hgd (fun c h => by rw [ho] at h; cases h) (ex_store_row ty x y ho g cells hx hy t old hg hi hold h1) hK
theorem wpListIn_append_src (hF : ∀ f, F.fn f) (hgd : o.guard = none) (s x : Operand) (t tx : TypeId)
    (ho : o.op = .call { callee := .builtin .append, args := #[s, x], argTypes := #[t, tx] })
    (base : Nat) (e : TypeId) (i : TypeInfo) (z : Value) (size bytes : Nat) (ht : P.underlying t = some (.slice e)) (hi : P.info? e = some i) (hz : i.zero = some z)
    (hsize : i.size = size) (hby : i.bytes = bytes) (hzs : z.cells.size = size) (hsz : 0 < size)
    (v : Value) (m0 : Nat) (xs : List Value) (hv : a.eval s = v) (hown : w.ownsRow base e size v m0 xs)
    (xv : Value) (m : Nat) (news : List Value) (hx : a.eval x = xv) (hs : Src P size tx xv m news w)
    (h63 : m0 + m ≤ maxLen) (hbytes : (m0 + m) * bytes ≤ 140737488355328) (hbase : base ≤ w.heap.size)
    (h : ∀ v' w', w'.ownsRow base e size v' (m0 + m) (xs ++ news) → w.grownBy w' v.ownBlock → (v' = .slice none 0 0 ↔ v = .slice none 0 0 ∧ m = 0) → (v'.ownBlock = v.ownBlock ∨ v'.ownBlock = some w.heap.size) → wpListIn F n P ops Q rest (a.put o.dst v') w') : wpListIn F n P ops Q (o :: rest) a w := by
  obtain ⟨v', w', hr, h2, h3, h4, h5⟩ := run_append_own_src (P := P) w base t tx o.type e i z size bytes ht hi hz hsize hby hzs hsz v m0 xs hown xv m news hs h63 hbytes hbase
  exact wpListIn_value hF hgd (fun c h => by rw [ho] at h; cases h) (ex_append ho (by rw [hv, hx]; exact hr)) (h v' w' h2 h3 h4 h5)
end

/-- An operation within a round, from its walk outside of one. -/
theorem oper_in {n : Nat} {P : Program} {Q : Exit → Act → World → Prop} {a : Act} {w : World} {o : Oper} {K : Act → World → Prop} (l : Nat) (hnd : ∀ c, o.op ≠ .defer c) (h : o.wp P a w K Q) : o.wpIn (Fence.wide.inRound l) n P a w K Q := by
  unfold Oper.wp at h
  refine ⟨fun _ _ => trivial, ?_⟩
  rw [Oper.semAt_eq _ _ _ hnd]
  generalize (execOp a.eval o).run P w = r at h ⊢
  match r, h with
  | .ok (.value v) w', h => exact h
  | .ok .skip w', h => exact h
  | .ok (.defer d) w', h => exact h
  | .ok (.enter f args) w', h => exact ⟨(fun h => by cases h), callsIn_wide.2 h⟩
  | .ok (.row row args) w', h => exact ⟨(fun h => by cases h), fun c cs _ => let ⟨v, w'', r, s⟩ := h c cs; ⟨v, w'', r, stepsIn_wide.2 s⟩⟩
  | .halt (.panic v) w', h => exact h
theorem wpAnyIn_of_P {n : Nat} {P : Program} {ops : Array Oper} {Q : Exit → Act → World → Prop} {md : Region.Mode} (l : Nat) (hnd : ∀ o ∈ ops.toList, ∀ c, o.op ≠ .defer c) : ∀ (fuel : Nat) (lst : Array Bool) (a : Act) (w : World), wpAnyP P md ops Q fuel lst a w → wpAnyIn (Fence.wide.inRound l) n P md ops Q fuel lst a w
  | 0, _, _, _, h => h
  | fuel + 1, _, a, w, h => ⟨h.1, fun i hi => by
    have hh := wpOpP_mono (wpAnyIn_of_P (n := n) l hnd fuel _) (h.2 i hi)
    unfold wpOpP at hh
    unfold wpOpIn
    cases ho : ops[i]? with
    | none => rw [ho] at hh; exact hh
    | some o =>
      rw [ho] at hh
      simp only [] at hh ⊢
      by_cases hw : Region.wanted o (yielded ops a.tmps) = true
      · rw [if_pos hw] at hh ⊢
        exact oper_in l (hnd o (List.mem_of_getElem? (i := i) (by simpa using ho))) hh
      · rw [if_neg hw] at hh ⊢
        exact ⟨fun _ _ => trivial, hh⟩⟩
def noDefer (ops : Array Oper) : Bool := ops.toList.all fun o => match o.op with | .defer _ => false | _ => true
theorem wpIn_region_P {n : Nat} {P : Program} {ops : Array Oper} {Q : Exit → Act → World → Prop} {a : Act} {w : World} {id : Nat} (l : Nat) (hm : P.follows .mixedOrders = true) (hnd : noDefer ops = true) (h : RegionP P ops Q a w) : (Code.region id ops true).wpIn (Fence.wide.inRound l) n P Q a w :=
  wpIn_region_any hm (wpAnyIn_of_P l (fun o ho c e => by have := List.all_eq_true.1 hnd o ho; rw [e] at this; cases this) _ _ _ _ h)

/-- What All hands back: a function that tells the nodes. -/
def SeqOut (bt : Nat) (w : World) (e : Ending) (w' : World) : Prop :=
  ∃ bw btb, e = .returned (.func (.func 65) #[] #[.pointer (some ⟨bw, 0, none⟩), .pointer (some ⟨btb, 0, none⟩)]) ∧
    w'.cell? ⟨bw, 0, none⟩ = some (.func (.func 46) #[.pointer (some ⟨bt, 0, none⟩)] #[]) ∧ w'.cell? ⟨btb, 0, none⟩ = some (.pointer (some ⟨bt, 0, none⟩)) ∧ Ext w w'

theorem told_any (bt : Nat) (w : World) : Calls Tryd.prog 45 #[.pointer (some ⟨bt, 0, none⟩), .func (.func 46) #[.pointer (some ⟨bt, 0, none⟩)] #[]] w (SeqOut bt w) := by
  have h1 : ∀ t u, ((w.alloc (.cells #[Value.pointer (some ⟨bt, 0, none⟩)] t)).alloc (.cells #[Value.func (.func 46) #[.pointer (some ⟨bt, 0, none⟩)] #[]] u)).cell? ⟨w.heap.size, 0, none⟩ = some (.pointer (some ⟨bt, 0, none⟩)) := fun t u =>
    cell_of_row _ _ _ _ _ _ ((heap_alloc_old _ _ (by simp)).trans (heap_alloc_new w _))
  have h2 : ∀ t u, ((w.alloc (.cells #[Value.pointer (some ⟨bt, 0, none⟩)] t)).alloc (.cells #[Value.func (.func 46) #[.pointer (some ⟨bt, 0, none⟩)] #[]] u)).cell? ⟨w.heap.size + 1, 0, none⟩ = some (.func (.func 46) #[.pointer (some ⟨bt, 0, none⟩)] #[]) := fun t u =>
    cell_of_row _ _ _ _ _ _ (by have := heap_alloc_new (w.alloc (.cells #[Value.pointer (some ⟨bt, 0, none⟩)] t)) (.cells #[Value.func (.func 46) #[.pointer (some ⟨bt, 0, none⟩)] #[]] u); rwa [World.size_alloc] at this)
  have H1 := Lib.hid h1
  have H2 := Lib.hid h2
  clear h1 h2
  go_enter Tryd.func45, Tryd.ntmps45
  go_wp2
  go_ret
  exact ⟨_, _, rfl, H2.out _ _, H1.out _ _, (Ext.alloc w _).trans (Ext.alloc _ _)⟩

theorem tall_any (bt : Nat) (w : World) : Calls Tryd.prog 25 #[.pointer (some ⟨bt, 0, none⟩)] w (SeqOut bt w) := by
  have C1 := told_any bt w
  go_enter Tryd.func25, Tryd.ntmps25
  go_wp2_with fail
  refine C1.mono ?_
  rintro e w1 ⟨bw, btb, rfl, h1, h2, hE⟩
  have hfin : SeqOut bt w (.returned (.func (.func 65) #[] #[.pointer (some ⟨bw, 0, none⟩), .pointer (some ⟨btb, 0, none⟩)])) w1 := ⟨_, _, rfl, h1, h2, hE⟩
  have HFIN := Lib.hid hfin
  clear hfin h1 h2 hE C1
  go_wp2
  go_ret
  exact HFIN.out
end Go.Proofs.YtamolbegmkngdaaDoor
