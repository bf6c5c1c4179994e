/- The walk of Add. -/
import Derived.Test.YtfgjbcejpjcpeaaDoorGet
namespace Go.Proofs.YtfgjbcejpjcpeaaDoor
open Go.RowKit
set_option maxHeartbeats 2000000
set_option maxRecDepth 100000

/-- What Add answers, and what it makes of the nodes. -/
def addE (M : List (Key × Nd)) (n : Nd) : Int :=
  if rightN n ≠ 0 then rightN n else if (mget M (keyN n)).isSome = true then 71 else if n.path.size = 1 ∨ mget M (parentB n.path).data.toList = none then 73 else 0
def addM (M : List (Key × Nd)) (n : Nd) : List (Key × Nd) := if addE M n = 0 then mput M (keyN n) n else M

def TreeTo (S : Nat → Prop) (w : World) (bt : Nat) (M' : List (Key × Nd)) (N' : Nat) (v : Value) (e : Ending) (w' : World) : Prop :=
  e = .returned v ∧ TreeAt (fun k => S k ∨ (w.heap.size ≤ k ∧ k < w'.heap.size)) w' bt M' N' ∧ Mod S w w'

theorem treeTo_same {S : Nat → Prop} {w w' : World} {bt : Nat} {M : List (Key × Nd)} {N N' : Nat} (hT : TreeAt S w bt M N) (hE : Ext w w') (hN : N ≤ N') (v : Value) : TreeTo S w bt M N' v (.returned v) w' :=
  ⟨rfl, (hT.ext hE).keep (fun _ _ => rfl) (fun _ h => .inl h) (fun k hk => hk.elim (fun h => Nat.lt_of_lt_of_le (hT.bound k h) hE.size) (fun h => h.2)) hN, Mod.of_ext hE⟩

theorem add_any (S : Nat → Prop) (w : World) (bt : Nat) (M : List (Key × Nd)) (N : Nat) (hT : TreeAt S w bt M N) (n : Nd) (da aa : Option Addr) (dc ac : Nat) (hu : Tabs w) (hf : Fit n) (hN : N < 4611686018427387904)
    (hD : Cells w.heap.size w da (n.data.map u8v)) (hA : Cells w.heap.size w aa (acCs n.acl)) :
    Calls Tryd.prog 41 #[.pointer (some ⟨bt, 0, none⟩), .agg (ndC n (.slice da n.data.length dc) (.slice aa n.acl.length ac))] w (TreeTo S w bt (addM M n) (N + 1) (.int .i64 (addE M n))) := by
  obtain ⟨W2, hW2⟩ : ∃ W2, W2 = w.alloc (.cells (ndC n (.slice da n.data.length dc) (.slice aa n.acl.length ac)) 37) := ⟨_, rfl⟩
  have he2 : Ext w W2 := by rw [hW2]; exact Ext.alloc _ _
  have hz2 : W2.heap.size = w.heap.size + 1 := by rw [hW2]; simp
  have hn2 : W2.heap[w.heap.size]? = some (.cells (ndC n (.slice da n.data.length dc) (.slice aa n.acl.length ac)) 37 (0, 0)) := by rw [hW2]; exact heap_alloc_new w _
  have hT2 := hT.ext he2
  have hD2 := hD.ext he2
  have hA2 := hA.ext he2
  have hu2 : Tabs W2 := hu.below he2 hu.size
  have CR := right_any n da aa dc ac W2 hf hu2 hA2
  rw [hW2] at CR
  have HW2 := Lib.hid hW2
  have HN := Lib.hid hn2
  have HTW := Lib.hid hT
  have HNW := Lib.hid (hW2 ▸ hn2)
  unfold ndC at CR HW2 HN HNW ⊢
  have CR := Lib.hid CR
  clear hW2 hn2 hT
  by_cases hr : rightN n = 0
  · have hM := hT2.ok
    have HR := Lib.hid hr
    have hps : n.path.size ≤ maxLen := by
      have := (vpath_facts (right_vpath hr)).2.1
      unfold maxLen; omega
    have hvp := right_vpath hr
    have hvf := vpath_facts hvp
    rw [hr] at CR
    clear hr
    go_enter Tryd.func41, Tryd.ntmps41
    go_wp2_with (refine wpList_load_row rfl 37 (.tmp 3) rfl w.heap.size rfl 37 _ (0, 0) _ HNW.out Tryd.underlying37 rfl sizeNd ?_)
    refine CR.out.mono ?_
    rintro e w3 ⟨rfl, hb3⟩
    rw [← HW2.out] at hb3
    have hE3 : Ext W2 w3 := hb3
    have hT3 := hT2.ext hE3
    have hn3 := (hE3.block w.heap.size (by omega)).trans HN.out
    have hD3 := hD2.ext hE3
    have hA3 := hA2.ext hE3
    have hEw3 := he2.trans hE3
    obtain ⟨bn, bk, K, hd, hNd, hKd⟩ := hT3
    clear CR HW2 HN HNW hb3 hz2 hD2 hA2 hu2 hT2
    go_wp2
    refine there_region _ _ _ _ _ _ _ _ _ _ _ _ 0 3 _ 54 rfl (by decide) (by decide) (by decide) hd hNd w.heap.size n.path _ hn3 rfl hps rfl rfl ?_
    intro v0 v1 v2 v3 v4 v5 v6 v7 v8 v9 v10 w4 hE4
    simp only [Act.put]
    go_simp
    rename_i hK
    refine hK _ _ ?_
    have hEw4 := hEw3.trans hE4
    have hT4 : TreeAt S w4 bt M N := TreeAt.ext ⟨bn, bk, K, hd, hNd, hKd⟩ hE4
    have hD4 := hD3.ext hE4
    have hA4 := hA3.ext hE4
    have hn4 := (hE4.block w.heap.size (Array.getElem?_eq_some_iff.1 hn3).1).trans hn3
    clear hd hNd hKd hn3 hD3 hA3 hEw3
    cases hg : mget M n.path.data.toList with
    | some y =>
      have hfin : TreeTo S w bt (addM M n) (N + 1) (.int .i64 (addE M n)) (.returned (.int .i64 71)) w4 := by
        have e : addE M n = 71 := by unfold addE; rw [if_neg (by rw [HR.out]; simp), if_pos (by unfold keyN; rw [hg]; rfl)]
        have e2 : addM M n = M := by unfold addM; rw [if_neg (by rw [e]; decide)]
        rw [e, e2]
        exact treeTo_same HTW.out hEw4 (by omega) _
      have HFIN := Lib.hid hfin
      clear hfin hT4 hEw4 hD4 hA4 hn4 hg
      go_wp2
      go_ret
      exact HFIN.out
    | none =>
      have HG := Lib.hid hg
      have hx4 : Box w4 w.heap.size (ndC n (.slice da n.data.length dc) (.slice aa n.acl.length ac)) := fun j => cell_of_row _ _ _ _ _ _ hn4
      have CP := parent_any n.path w4 (by omega)
      have hlt4 := (Array.getElem?_eq_some_iff.1 hn4).1
      have HN4 := Lib.hid hn4
      unfold Box ndC at hx4
      clear hg hn4
      have hpp : ∃ (pp : ByteArray) (ee : Int), parV n.path = .tuple #[.string pp, .int .i64 ee] ∧ pp.size ≤ maxLen ∧ ((n.path.size = 1 ∨ mget M (parentB n.path).data.toList = none) ↔ (mget M pp.data.toList = none ∨ ee ≠ 0)) ∧ (ee = 0 → pp = parentB n.path) := by
        by_cases hroot : n.path.size = 1
        · exact ⟨⟨#[]⟩, 30, by unfold parV; rw [if_neg (fun h => h.2 hroot)], by unfold maxLen; decide, ⟨fun _ => .inr (by decide), fun _ => .inl hroot⟩, fun h => by cases h⟩
        · have h1 := (path_split hvp hroot).2.2.1
          exact ⟨parentB n.path, 0, by unfold parV; rw [if_pos ⟨hvp, hroot⟩], by unfold maxLen; omega, ⟨fun h => .inl (h.resolve_left hroot), fun h => .inr (h.resolve_right (by simp))⟩, fun _ => rfl⟩
      obtain ⟨pp, ee, hpv, hpz, hiff, hpe⟩ := hpp
      rw [hpv] at CP
      have CP := Lib.hid CP
      have HIFF := Lib.hid hiff
      have HPE := Lib.hid hpe
      clear hpv hiff hpe hvp hvf
      go_wp2_with fail
      refine CP.out.mono ?_
      rintro e w5 ⟨rfl, hb5⟩
      have hE5 : Ext w4 w5 := hb5
      have hEw5 := hEw4.trans hE5
      have hT5 := hT4.ext hE5
      have hD5 := hD4.ext hE5
      have hA5 := hA4.ext hE5
      have hn5 := (hE5.block w.heap.size hlt4).trans HN4.out
      obtain ⟨bn, bk, K, hd, hNd, hKd⟩ := hT5
      have hT5 : TreeAt S w5 bt M N := ⟨bn, bk, K, hd, hNd, hKd⟩
      have hbox := TreeAt.box hd
      obtain ⟨cs, ⟨hc17, hc1⟩, hq, hq2, _⟩ := hNd.look pp hpz
      clear hq2
      have hsz17 : (Tryd.prog.info? 37).map (·.size) = some cs.size := by rw [hc17]; exact sizeNd
      have hzs : zeroNd.size = cs.size := by rw [hc17]; rfl
      obtain ⟨W6, hW6⟩ : ∃ W6, W6 = w5.alloc (.cells cs 37) := ⟨_, rfl⟩
      have HSET6 := Lib.hid ((setRow_alloc w5 zeroNd cs 37).trans hW6.symm)
      have HNew6 := Lib.hid (heap_alloc_new w5 (.cells zeroNd 37))
      have hE6 : Ext w5 W6 := by rw [hW6]; exact Ext.alloc _ _
      have hEw6 := hEw5.trans hE6
      have hT6 := hT5.ext hE6
      have hD6 := hD5.ext hE6
      have hA6 := hA5.ext hE6
      have hn6 := (hE6.block w.heap.size (Array.getElem?_eq_some_iff.1 hn5).1).trans hn5
      have HN6 := Lib.hid hn6
      have hhid : Hid (zeroNd.size = cs.size) := hzs
      unfold zeroNd at HSET6 HNew6
      unfold Box treeC at hbox
      unfold ndC at HN6
      have HC1 := Lib.hid hc1
      have H17 := Lib.hid hsz17
      clear hW6 hd hNd hKd hT5 hzs hc1 hc17 hsz17 CP hx4 hb5 HN4 hE6 hE5 hEw5 hn6 hn5 hD5 hA5 hT4 hD4 hA4 hEw4
      have bad : mget M pp.data.toList = none ∨ ee ≠ 0 → TreeTo S w bt (addM M n) (N + 1) (.int .i64 (addE M n)) (.returned (.int .i64 73)) W6 := fun h => by
        have e : addE M n = 73 := by
          unfold addE
          rw [if_neg (by rw [HR.out]; simp), if_neg (by unfold keyN; rw [HG.out]; simp), if_pos (HIFF.out.2 h)]
        have e2 : addM M n = M := by unfold addM; rw [if_neg (by rw [e]; decide)]
        rw [e, e2]
        exact treeTo_same HTW.out hEw6 (by omega) _
      have BAD := Lib.hid bad
      clear bad
      cases hg : mget M pp.data.toList with
      | none =>
        rw [hg] at hq
        have hq' : (Instr.lookup 84 (.map (some bn)) (.string pp) true).run Tryd.prog w5 = .ok (.tuple #[.agg cs, .bool false]) w5 := hq
        have HFIN := Lib.hid (BAD.out (.inl hg))
        clear hq hg hT6 hD6 hA6 hEw6
        go_wp2_with (refine wpList_store_row rfl 37 (.tmp 10) (.tmp 43) rfl w5.heap.size _ rfl rfl 37 _ HNew6.out H17.out hhid.out HC1.out ?_; rw [HSET6.out])
        go_ret
        exact HFIN.out
      | some y1 =>
        rw [hg] at hq
        have hq' : (Instr.lookup 84 (.map (some bn)) (.string pp) true).run Tryd.prog w5 = .ok (.tuple #[.agg cs, .bool true]) w5 := hq
        by_cases hee : ee = 0
        · subst hee
          have C3 := lay_any S W6 bt M N hT6 n da aa dc ac HR.out HG.out hN hD6 hA6
          have e : addE M n = 0 := by
            unfold addE
            rw [if_neg (by rw [HR.out]; simp), if_neg (by unfold keyN; rw [HG.out]; simp), if_neg (fun h => by
              rcases HIFF.out.1 h with h | h
              · rw [hg] at h; cases h
              · exact h rfl)]
          have e2 : addM M n = mput M (keyN n) n := by unfold addM; rw [if_pos e]
          have E1 := Lib.hid e
          have E2 := Lib.hid e2
          unfold ndC at C3
          have C3 := Lib.hid C3
          have hszw := hEw6.size
          clear hq hg hT6 hD6 hA6 e e2 BAD
          go_wp2_with (first | (refine wpList_store_row rfl 37 (.tmp 10) (.tmp 43) rfl w5.heap.size _ rfl rfl 37 _ HNew6.out H17.out hhid.out HC1.out ?_; rw [HSET6.out]) | (refine wpList_load_row rfl 37 (.tmp 3) rfl w.heap.size rfl 37 _ (0, 0) _ HN6.out Tryd.underlying37 rfl sizeNd ?_))
          refine C3.out.mono ?_
          rintro e w7 ⟨rfl, hT7, hM7⟩
          have hz7 := hM7.size
          have hb7 := HTW.out.bound
          have hfin : TreeTo S w bt (addM M n) (N + 1) (.int .i64 (addE M n)) (.returned (.int .i64 0)) w7 := by
            rw [E1.out, E2.out]
            exact ⟨rfl, hT7.keep (fun _ _ => rfl) (fun k hk => hk.imp id fun h => ⟨by omega, h.2⟩) (fun k hk => hk.elim (fun h => by have := hb7 k h; omega) (fun h => h.2)) (Nat.le_refl _), (Mod.of_ext hEw6).trans hM7⟩
          have HFIN := Lib.hid hfin
          clear C3 hT7 hM7 hEw6 hfin hb7
          go_wp2
          go_ret
          exact HFIN.out
        · have hne : (ee != 0) = true := by simpa using hee
          have HFIN := Lib.hid (BAD.out (.inr hee))
          clear hq hg hT6 hD6 hA6 hEw6 BAD hee
          go_wp2_with (refine wpList_store_row rfl 37 (.tmp 10) (.tmp 43) rfl w5.heap.size _ rfl rfl 37 _ HNew6.out H17.out hhid.out HC1.out ?_; rw [HSET6.out])
          go_ret
          exact HFIN.out
  · have hne : (rightN n != 0) = true := by simpa using hr
    have e : addE M n = rightN n := by unfold addE; rw [if_pos hr]
    have e2 : addM M n = M := by unfold addM; rw [if_neg (by rw [e]; exact hr)]
    have E1 := Lib.hid e
    have E2 := Lib.hid e2
    clear hr e e2
    go_enter Tryd.func41, Tryd.ntmps41
    go_wp2_with (refine wpList_load_row rfl 37 (.tmp 3) rfl w.heap.size rfl 37 _ (0, 0) _ HNW.out Tryd.underlying37 rfl sizeNd ?_)
    refine CR.out.mono ?_
    rintro e w3 ⟨rfl, hb3⟩
    rw [← HW2.out] at hb3
    have hfin : TreeTo S w bt (addM M n) (N + 1) (.int .i64 (addE M n)) (.returned (.int .i64 (rightN n))) w3 := by
      rw [E1.out, E2.out]
      exact treeTo_same HTW.out (he2.trans hb3) (by omega) _
    have HFIN := Lib.hid hfin
    clear hfin CR hb3 hT2 hD2 hA2 HN HNW HW2 hu2
    go_wp2
    go_ret
    exact HFIN.out
end Go.Proofs.YtfgjbcejpjcpeaaDoor
