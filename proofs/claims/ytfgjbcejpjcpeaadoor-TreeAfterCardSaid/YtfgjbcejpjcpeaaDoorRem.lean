/- The walk of Remove. -/
import Derived.Test.YtfgjbcejpjcpeaaDoorAdd
namespace Go.Proofs.YtfgjbcejpjcpeaaDoor
open Go.RowKit
set_option maxHeartbeats 2000000
set_option maxRecDepth 100000

theorem NodesAt.del {S : Nat → Prop} {w w' : World} {bn : Nat} {M : List (Key × Nd)} {N : Nat} (h : NodesAt S w bn M N) {k : Key} {m : List (Key × Value)} (hr : Rel2 (fun n v => NdS S w v n) M m)
    (hs : SMap Tryd.prog 9 w' bn (mdel m k)) (hT : w.mapTurned w' bn) : NodesAt S w' bn (mdel M k) N := by
  have hc : ∀ (b o : Nat) u, S b → w.cell? ⟨b, o, none⟩ = some u → w'.cell? ⟨b, o, none⟩ = some u := fun b o u _ hu => (Mod.turned (S := fun _ => True) hT trivial).cell hu
  exact ⟨⟨_, hs, (hr.mdel k).imp fun _ _ _ hx => hx.imp (fun _ h => h) hc⟩, h.ok.del k, Nat.le_trans (List.length_filter_le _ _) h.len⟩

theorem apart_key {K : List (Key × Nat)} (h : K.Pairwise fun x y => x.2 ≠ y.2) {k : Key} {b : Nat} (hm : (k, b) ∈ K) {x : Key × Nat} (hx : x ∈ K) (e : x.2 = b) : x.1 = k := by
  obtain ⟨i, hi, ei⟩ := List.getElem_of_mem hx
  obtain ⟨j, hj, ej⟩ := List.getElem_of_mem hm
  have hp := List.pairwise_iff_getElem.1 h
  have : i = j := by
    rcases Nat.lt_trichotomy i j with hlt | he | hlt
    · exact absurd (by rw [ei, ej]; exact e) (hp i j hi hj hlt)
    · exact he
    · exact absurd (by rw [ei, ej]; exact e.symm) (hp j i hj hi hlt)
  subst this
  rw [ei] at ej
  rw [ej]

theorem kidsV_mem {K : List (Key × Nat)} (h : MSorted (kidsV K)) {x : Key × Nat} (hx : x ∈ K) : mget K x.1 = some x.2 := by
  have := mget_of_mem h (k := x.1) (v := .map (some x.2)) (List.mem_map.2 ⟨x, hx, rfl⟩)
  rw [kidsV_get] at this
  cases hg : mget K x.1 with
  | none => rw [hg] at this; cases this
  | some b => rw [hg] at this; simpa using this

/-- A node without children is struck: its own map goes, its name goes out of its parent's. -/
theorem KidsAt.del {S : Nat → Prop} {w w1 w2 w3 : World} {bn bk : Nat} {K : List (Key × Nat)} {M : List (Key × Nd)} {N : Nat} (h : KidsAt S w bn bk K M N) (hM : MOk M) {n : Nd} (hg : mget M (keyN n) = some n) (hroot : n.path.size ≠ 1) (hno : kidsOf M n.path = [])
    {b : Nat} (hb : mget K (parentB n.path).data.toList = some b) (hne : bn ≠ bk)
    (hT1 : w.mapTurned w1 bn) (hT2 : w1.mapTurned w2 bk) (hs2 : SMap Tryd.prog 9 w2 bk (mdel (kidsV K) (keyN n)))
    (hT3 : w2.mapTurned w3 b) (hs3 : SMap Tryd.prog 9 w3 b (mdel (kidsOf M (parentB n.path)) (nameB n.path).data.toList)) :
    KidsAt S w3 bn bk (mdel K (keyN n)) (mdel M (keyN n)) N := by
  have hr := (hM.at hg).2
  have hmem := mget_some_mem hb
  have hE := h.each _ hmem
  have hc : childOf (parentB n.path) n = true := childOf_iff.2 ⟨hroot, rfl⟩
  have hoth : ∀ p, p ≠ parentB n.path → kidsOf (mdel M (keyN n)) p = kidsOf M p := fun p hp => by
    rw [kids_del hM hg p, if_neg (fun hc => hp (childOf_iff.1 hc).2.symm)]
  have hsort := SMap.sorted (Maps.string_keyed strT) h.map
  refine ⟨?_, Nat.le_trans (List.length_filter_le _ _) h.len, fun x hx => ?_, h.apart.filter _, fun p hp => ?_⟩
  · unfold kidsV
    rw [mdel_map (fun b => Value.map (some b))]
    exact hs2.keep (turned_other hT3 hE.2.2.1.symm)
  · obtain ⟨hx, hxk⟩ := mem_mdel.1 hx
    obtain ⟨h1, h2, h3, h4⟩ := h.each x hx
    refine ⟨h1, h2, h3, ?_⟩
    by_cases e : x.2 = b
    · have hk := apart_key h.apart hmem hx e
      rw [hk, key_bytes, kids_del hM hg, if_pos hc, e]
      exact hs3
    · rw [hoth _ (fun e1 => e (by
        have : x.1 = (parentB n.path).data.toList := by rw [← e1, key_back]
        have h5 := kidsV_mem hsort hx
        rw [this, hb] at h5
        exact (Option.some.inj h5).symm))]
      exact h4.keep ((turned_other hT3 e).trans ((turned_other hT2 h3).trans (turned_other hT1 h2)))
  · by_cases e : p = n.path
    · rw [e, kids_del hM hg]
      split
      · rw [hno]; rfl
      · exact hno
    · by_cases e2 : p = parentB n.path
      · exfalso
        refine mget_none hp ((parentB n.path).data.toList, b) (mem_mdel.2 ⟨hmem, fun e3 => ?_⟩) (by rw [e2])
        exact e (e2.trans (ba_ext e3))
      · rw [hoth p e2]
        refine h.rest p (mget_none_of fun x hx e3 => ?_)
        exact mget_none hp x (mem_mdel.2 ⟨hx, fun e4 => e (ba_ext (e3.symm.trans e4))⟩) e3

/-- What Remove answers, and what it makes of the nodes. -/
def remE (M : List (Key × Nd)) (s : ByteArray) : Int :=
  if ¬ (vpath s = true ∧ s.size ≠ 1) then 30 else if mget M s.data.toList = none then 70 else if (kidsOf M s).length ≠ 0 then 72 else 0
def remM (M : List (Key × Nd)) (s : ByteArray) : List (Key × Nd) := if remE M s = 0 then mdel M s.data.toList else M

theorem run_len_nil_map {P : Program} (w : World) (t k e ty : TypeId) (h : P.underlying t = some (.map k e)) : (Builtin.len_ #[t] ty #[.map none]).run P w = .ok (.int .i64 0) w := by
  simp [Builtin.len_, run_underlying h, goInt, Result.andThen]

/-- What Remove leaves: the tree in the blocks that it had. -/
def RemTo (S : Nat → Prop) (w : World) (bt : Nat) (M' : List (Key × Nd)) (N' : Nat) (v : Value) (e : Ending) (w' : World) : Prop :=
  e = .returned v ∧ TreeAt S w' bt M' N' ∧ Mod S w w'
theorem remTo_same {S : Nat → Prop} {w w' : World} {bt : Nat} {M : List (Key × Nd)} {N : Nat} (hT : TreeAt S w bt M N) (hE : Ext w w') (v : Value) : RemTo S w bt M N v (.returned v) w' := ⟨rfl, hT.ext hE, Mod.of_ext hE⟩

theorem rem_to (S : Nat → Prop) (w : World) (bt : Nat) (M : List (Key × Nd)) (N : Nat) (hT : TreeAt S w bt M N) (s : ByteArray) (hs : s.size ≤ 9223372036854775800) (hN : N < 4611686018427387904) :
    Calls Tryd.prog 15 #[.pointer (some ⟨bt, 0, none⟩), .string s] w (RemTo S w bt (remM M s) N (.int .i64 (remE M s))) := by
  have CP := parent_any s w hs
  have HTW := Lib.hid hT
  by_cases hvr : vpath s = true ∧ s.size ≠ 1
  · have hps : s.size ≤ maxLen := by
      have := (vpath_facts hvr.1).2.1
      unfold maxLen; omega
    have hsp := path_split hvr.1 hvr.2
    have hpp : (parentB s).size ≤ maxLen := by
      have := hsp.2.2.1
      omega
    have hns : (nameB s).size ≤ maxLen := by
      have h1 : (nameB s).size ≤ s.size := by unfold nameB; rw [ByteArray.size_extract]; omega
      omega
    rw [show parV s = .tuple #[.string (parentB s), .int .i64 0] by unfold parV; rw [if_pos hvr]] at CP
    have CN := fun w => name_any s w hs
    rw [show namV s = .tuple #[.string (nameB s), .int .i64 0] by unfold namV; rw [if_pos hvr.1]] at CN
    have HVR := Lib.hid hvr
    have CN := Lib.hid CN
    have CP := Lib.hid CP
    clear hvr hsp
    go_enter Tryd.func15, Tryd.ntmps15
    go_wp2_with fail
    refine CP.out.mono ?_
    rintro e w5 ⟨rfl, hb5⟩
    have hE5 : Ext w w5 := hb5
    have hT5 := hT.ext hE5
    have hok := hT.ok
    obtain ⟨bn, bk, K, hd, hNd, hKd⟩ := hT5
    have hT5 : TreeAt S w5 bt M N := ⟨bn, bk, K, hd, hNd, hKd⟩
    have hbox := TreeAt.box hd
    obtain ⟨cs, ⟨hc17, hc1⟩, hq, hq2, _⟩ := hNd.look s hps
    clear hq2
    have hsz17 : (Tryd.prog.info? 37).map (·.size) = some cs.size := by rw [hc17]; exact sizeNd
    have hzs : zeroNd.size = cs.size := by rw [hc17]; rfl
    obtain ⟨W6, hW6⟩ : ∃ W6, W6 = w5.alloc (.cells cs 37) := ⟨_, rfl⟩
    have HSET6 := Lib.hid ((setRow_alloc w5 zeroNd cs 37).trans hW6.symm)
    have HNew6 := Lib.hid (heap_alloc_new w5 (.cells zeroNd 37))
    have hE6 : Ext w5 W6 := by rw [hW6]; exact Ext.alloc _ _
    have hEw6 := hE5.trans hE6
    have hhid : Hid (zeroNd.size = cs.size) := hzs
    unfold zeroNd at HSET6 HNew6
    unfold Box treeC at hbox
    have HC1 := Lib.hid hc1
    have H17 := Lib.hid hsz17
    clear hW6 hzs hc1 hc17 hsz17 CP hb5
    cases hg : mget M s.data.toList with
    | none =>
      rw [hg] at hq
      have hq' : (Instr.lookup 84 (.map (some bn)) (.string s) true).run Tryd.prog w5 = .ok (.tuple #[.agg cs, .bool false]) w5 := hq
      have hfin : RemTo S w bt (remM M s) N (.int .i64 (remE M s)) (.returned (.int .i64 70)) W6 := by
        have e : remE M s = 70 := by unfold remE; rw [if_neg (fun h => h HVR.out), if_pos hg]
        have e2 : remM M s = M := by unfold remM; rw [if_neg (by rw [e]; decide)]
        rw [e, e2]
        exact remTo_same HTW.out hEw6 _
      have HFIN := Lib.hid hfin
      clear hq hg hfin hE5 hE6 hEw6 hT hT5 hd hNd hKd hok
      go_wp2_with (refine wpList_store_row rfl 37 (.tmp 7) (.tmp 27) rfl w5.heap.size _ rfl rfl 37 _ HNew6.out H17.out hhid.out HC1.out ?_; rw [HSET6.out])
      go_ret
      exact HFIN.out
    | some n =>
      rw [hg] at hq
      have hq' : (Instr.lookup 84 (.map (some bn)) (.string s) true).run Tryd.prog w5 = .ok (.tuple #[.agg cs, .bool true]) w5 := hq
      obtain ⟨hkey, hrn⟩ := hok.at hg
      obtain rfl : s = n.path := ba_ext hkey
      have hT6 := hT5.ext hE6
      clear hd hNd hKd hT5
      obtain ⟨bn', bk', K', hd, hNd, hKd⟩ := hT6
      have ebn : bn' = bn ∧ bk' = bk := by
        have h1 := hd.blk
        have h2 : W6.cell? ⟨bt, 0, none⟩ = some (.map (some bn)) := (hE6.cell (p := ⟨bt, 0, none⟩) (by have := hT.bound bt; have := hE5.size; obtain ⟨_, _, _, hd0, _⟩ := hT; have := hd0.bound _ hd0.st; show bt < _; omega)).trans (hbox 0)
        have h3 : W6.cell? ⟨bt, 1, none⟩ = some (.map (some bk)) := (hE6.cell (p := ⟨bt, 1, none⟩) (by have := hE5.size; obtain ⟨_, _, _, hd0, _⟩ := hT; have := hd0.bound _ hd0.st; show bt < _; omega)).trans (hbox 1)
        rw [cell_of_row _ _ _ _ _ _ h1] at h2 h3
        simp [treeC] at h2 h3
        exact ⟨h2, h3⟩
      obtain ⟨rfl, rfl⟩ := ebn
      have hbox6 := TreeAt.box hd
      have hl6 := SMap.look (e := 94) hKd.map strT Tryd.underlying85 (z := .map none) (by kernel_rfl) hps
      have hln : ∀ ty, (Builtin.len_ #[94] ty #[(mget (kidsV K') n.path.data.toList).getD (.map none)]).run Tryd.prog W6 = .ok (.int .i64 (kidsOf M n.path).length) W6 := fun ty => by
        rw [kidsV_get]
        cases hgk : mget K' n.path.data.toList with
        | none =>
          rw [hKd.rest n.path hgk]
          exact run_len_nil_map W6 _ _ _ ty Tryd.underlying94
        | some b' =>
          have h4 := (hKd.each _ (mget_some_mem hgk)).2.2.2
          rw [key_bytes] at h4
          exact h4.len Tryd.underlying94 ty
      generalize (mget (kidsV K') n.path.data.toList).getD (.map none) = kv at hl6 hln
      unfold Box treeC at hbox6
      have HG := Lib.hid hg
      clear hq hg hkey
      by_cases hk0 : (kidsOf M n.path).length = 0
      · have hno : kidsOf M n.path = [] := List.eq_nil_of_length_eq_zero hk0
        have hd0 : decide ((0 : Int) < ((kidsOf M n.path).length : Int)) = false := by rw [hk0]; decide
        have hpar : ∃ b, mget K' (parentB n.path).data.toList = some b := by
          cases hgp : mget K' (parentB n.path).data.toList with
          | some b => exact ⟨b, rfl⟩
          | none =>
            have h1 := hKd.rest _ hgp
            have h2 : (nameK n, Value.agg #[]) ∈ kidsOf M (parentB n.path) := mem_kids.2 ⟨_, mget_some_mem HG.out, childOf_iff.2 ⟨HVR.out.2, rfl⟩, rfl⟩
            rw [h1] at h2; simp at h2
        obtain ⟨b, hgb⟩ := hpar
        have hEb := hKd.each _ (mget_some_mem hgb)
        have HGB := Lib.hid hgb
        have HNO := Lib.hid hno
        have HKD := Lib.hid hKd
        have HND := Lib.hid hNd
        have HHD := Lib.hid hd
        have HE := Lib.hid hEw6
        have hz6 : decide ((0 : Int) < 0) = false := by decide
        rw [hk0] at hln
        clear hk0 hno hd0 hgb hd hNd hKd hEw6 hE5 hE6 hT hok
        go_wp2_with (refine wpList_store_row rfl 37 (.tmp 7) (.tmp 27) rfl w5.heap.size _ rfl rfl 37 _ HNew6.out H17.out hhid.out HC1.out ?_; rw [HSET6.out])
        refine (CN.out _).mono ?_
        rintro e w7 ⟨rfl, hb7⟩
        have hE7 : Ext W6 w7 := hb7
        have hd7 : Hd S w7 bt bn' bk' := HHD.out.keep (hE7.block _ (HHD.out.bound _ HHD.out.st)) (fun _ h => h) (fun k h => Nat.lt_of_lt_of_le (HHD.out.bound k h) hE7.size)
        have hN7 : NodesAt S w7 bn' M N := HND.out.keep (hE7.block _ (HHD.out.bound _ HHD.out.sn)) (fun _ h => h) (fun b o u hb hu => (hE7.cell (p := ⟨b, o, none⟩) (HHD.out.bound b hb)).trans hu) (Nat.le_refl _)
        have hK7 : KidsAt S w7 bn' bk' K' M N := HKD.out.keep (hE7.block _ (HHD.out.bound _ HHD.out.sk)) (fun _ h => h) (fun x hx => hE7.block _ (HHD.out.bound _ (HKD.out.each x hx).1)) (Nat.le_refl _)
        have hEw7 := HE.out.trans hE7
        clear CN HHD HND HKD HE hb7 hE7 HSET6 HNew6 H17 hhid HC1 hbox hbox6 hq' hl6 hln hz6
        obtain ⟨m7, hm7, hr7⟩ := hN7.ex
        have hx7 := TreeAt.box hd7
        have hst1 : ∀ w8 : World, w7.mapTurned w8 bn' → Box w8 bt (treeC bn' bk') ∧ SMap Tryd.prog 9 w8 bk' (kidsV K') := fun w8 ht8 =>
          ⟨fun j => cell_of_row _ _ _ _ _ _ ((Mod.turned (S := S) ht8 hd7.sn).cells hd7.blk), hK7.map.keep (turned_other ht8 hd7.ne.symm)⟩
        have hst2 : ∀ w8 w9 : World, w7.mapTurned w8 bn' → w8.mapTurned w9 bk' → SMap Tryd.prog 9 w9 bk' (mdel (kidsV K') n.path.data.toList) →
            Box w9 bt (treeC bn' bk') ∧ SMap Tryd.prog 9 w9 b (kidsOf M (parentB n.path)) ∧
            (Instr.lookup 85 (.map (some bk')) (.string (parentB n.path)) false).run Tryd.prog w9 = .ok (.map (some b)) w9 := fun w8 w9 ht8 ht9 hs9 => by
          refine ⟨fun j => cell_of_row _ _ _ _ _ _ (((Mod.turned (S := S) ht8 hd7.sn).trans (Mod.turned ht9 hd7.sk)).cells hd7.blk), ?_, ?_⟩
          · have h4 := hEb.2.2.2
            rw [key_bytes] at h4
            have h5 := (hK7.each _ (mget_some_mem HGB.out)).2.2.2
            rw [key_bytes] at h5
            exact h5.keep ((turned_other ht9 hEb.2.2.1).trans (turned_other ht8 hEb.2.1))
          · have h6 := SMap.look (e := 94) hs9 strT Tryd.underlying85 (z := .map none) (by kernel_rfl) hpp
            have hsrt := mdel_sorted (SMap.sorted (Maps.string_keyed strT) hK7.map) n.path.data.toList
            have hlt := (path_split HVR.out.1 HVR.out.2).2.2.1
            rw [mget_of_mem (v := .map (some b)) hsrt (mem_mdel.2 ⟨List.mem_map.2 ⟨_, mget_some_mem HGB.out, rfl⟩, fun e => by
              have := congrArg List.length e
              rw [size_list, size_list] at this
              omega⟩)] at h6
            exact h6
        have hfin : ∀ w8 w9 w10 : World, w7.mapTurned w8 bn' → SMap Tryd.prog 9 w8 bn' (mdel m7 n.path.data.toList) → w8.mapTurned w9 bk' → SMap Tryd.prog 9 w9 bk' (mdel (kidsV K') n.path.data.toList) →
            w9.mapTurned w10 b → SMap Tryd.prog 9 w10 b (mdel (kidsOf M (parentB n.path)) (nameB n.path).data.toList) →
            RemTo S w bt (remM M n.path) N (.int .i64 (remE M n.path)) (.returned (.int .i64 0)) w10 := fun w8 w9 w10 ht8 hs8 ht9 hs9 ht10 hs10 => by
          have e : remE M n.path = 0 := by
            unfold remE
            rw [if_neg (fun h => h HVR.out), if_neg (by rw [HG.out]; simp), if_neg (by rw [HNO.out]; simp)]
          have e2 : remM M n.path = mdel M n.path.data.toList := by unfold remM; rw [if_pos e]
          have hM : Mod S w7 w10 := ((Mod.turned ht8 hd7.sn).trans (Mod.turned ht9 hd7.sk)).trans (Mod.turned ht10 hEb.1)
          have hM9 : Mod S w8 w10 := (Mod.turned ht9 hd7.sk).trans (Mod.turned ht10 hEb.1)
          have hz10 : w10.heap.size = w7.heap.size := by rw [turned_size ht10, turned_size ht9, turned_size ht8]
          have hd10 : Hd S w10 bt bn' bk' := ⟨hM.cells hd7.blk, hd7.st, hd7.sn, hd7.sk, hd7.ne, fun k h => by rw [hz10]; exact hd7.bound k h⟩
          have hN8 : NodesAt S w8 bn' (mdel M n.path.data.toList) N := hN7.del hr7 hs8 ht8
          have hN10 : NodesAt S w10 bn' (mdel M n.path.data.toList) N := hN8.keep ((turned_other ht10 hEb.2.1.symm).trans (turned_other ht9 hd7.ne)) (fun _ h => h) (fun b o u _ hu => hM9.cell hu) (Nat.le_refl _)
          have hK10 := hK7.del hN7.ok HG.out HVR.out.2 HNO.out HGB.out hd7.ne ht8 ht9 hs9 ht10 hs10
          have hT10 : TreeAt S w10 bt (mdel M n.path.data.toList) N := ⟨bn', bk', _, hd10, hN10, hK10⟩
          rw [e, e2]
          exact ⟨rfl, hT10, (Mod.of_ext hEw7).trans hM⟩
        have H1 := Lib.hid hst1
        have H2 := Lib.hid hst2
        have H3 := Lib.hid hfin
        unfold Box treeC at hx7
        clear hst1 hst2 hfin hd7 hN7 hK7 hEw7 hEb hr7
        go_wp2_with (first | (refine wpList_del _ rfl (.tmp 47) (.tmp 48) 84 9 37 rfl strT Tryd.underlying84 bn' _ hm7 rfl n.path hps rfl ?_; intro w8 hs8 ht8; have hq8 := H1.out w8 ht8; have hx8 := hq8.1; have hm8 := hq8.2; unfold Box treeC at hx8; clear hq8 hx7 hm7) | (refine wpList_del _ rfl (.tmp 52) (.tmp 53) 85 9 94 rfl strT Tryd.underlying85 bk' _ hm8 rfl n.path hps rfl ?_; intro w9 hs9 ht9; have hq9 := H2.out w8 w9 ht8 ht9 hs9; have hx9 := hq9.1; have hm9 := hq9.2.1; have hl9 := hq9.2.2; unfold Box treeC at hx9; clear hq9 hx8 hm8) | (refine wpList_del _ rfl (.tmp 59) (.tmp 60) 94 9 115 rfl strT Tryd.underlying94 b _ hm9 rfl (nameB n.path) hns rfl ?_; intro w10 hs10 ht10))
        go_ret
        exact H3.out w8 w9 w10 ht8 hs8 ht9 hs9 ht10 hs10
      · have hpos : 0 < (kidsOf M n.path).length := by omega
        have hfin : RemTo S w bt (remM M n.path) N (.int .i64 (remE M n.path)) (.returned (.int .i64 72)) W6 := by
          have e : remE M n.path = 72 := by
            unfold remE
            rw [if_neg (fun h => h HVR.out), if_neg (by rw [HG.out]; simp), if_pos hk0]
          have e2 : remM M n.path = M := by unfold remM; rw [if_neg (by rw [e]; decide)]
          rw [e, e2]
          exact remTo_same HTW.out hEw6 _
        have HFIN := Lib.hid hfin
        clear hk0 hfin hE5 hE6 hEw6 hT hd hNd hKd hok
        go_wp2_with (refine wpList_store_row rfl 37 (.tmp 7) (.tmp 27) rfl w5.heap.size _ rfl rfl 37 _ HNew6.out H17.out hhid.out HC1.out ?_; rw [HSET6.out])
        go_ret
        exact HFIN.out
  · rw [show parV s = .tuple #[.string ⟨#[]⟩, .int .i64 30] by unfold parV; rw [if_neg hvr]] at CP
    have hfin : ∀ w3, Ext w w3 → RemTo S w bt (remM M s) N (.int .i64 (remE M s)) (.returned (.int .i64 30)) w3 := fun w3 hE => by
      have e : remE M s = 30 := by unfold remE; rw [if_pos hvr]
      have e2 : remM M s = M := by unfold remM; rw [if_neg (by rw [e]; decide)]
      rw [e, e2]
      exact remTo_same HTW.out hE _
    have HFIN := Lib.hid hfin
    have CP := Lib.hid CP
    clear hvr hfin hT
    go_enter Tryd.func15, Tryd.ntmps15
    go_wp2_with fail
    refine CP.out.mono ?_
    rintro e w3 ⟨rfl, hb3⟩
    clear CP
    go_wp2
    go_ret
    exact HFIN.out w3 hb3

theorem rem_any (S : Nat → Prop) (w : World) (bt : Nat) (M : List (Key × Nd)) (N : Nat) (hT : TreeAt S w bt M N) (s : ByteArray) (hs : s.size ≤ 9223372036854775800) (hN : N < 4611686018427387904) :
    Calls Tryd.prog 15 #[.pointer (some ⟨bt, 0, none⟩), .string s] w (TreeTo S w bt (remM M s) N (.int .i64 (remE M s))) :=
  (rem_to S w bt M N hT s hs hN).mono fun e w' ⟨h1, h2, h3⟩ =>
    ⟨h1, h2.keep (fun _ _ => rfl) (fun _ h => .inl h) (fun k hk => hk.elim (fun h => h2.bound k h) (fun h => h.2)) (Nat.le_refl _), h3⟩
end Go.Proofs.YtfgjbcejpjcpeaaDoor
