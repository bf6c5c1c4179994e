/- The walk of Put. The nodes of a tree in another order are the same tree: the plain law; a list turned round and about. Plain law: a change that passes no quota makes none passed that was not. No program in sight. Plain laws: what an add, a put, a removal leave as it was: closed, in range, short. No program in sight. The walks of layer 10's over and passed: is a quota passed, which of these are. The walk of layer 10's passed: which of these quotas are. Weigh, of trees that have grown past what one slice of nodes holds. A slice of changes, opened. What the loop of QuotaGrowth keeps, and how a step turns it. What From takes is of the list. -/
import Derived.Test.YtamolbegmkngdaaGreatDoorJQuotaMore6
import Derived.Test.YtamolbegmkngdaaGreatDoorJQuotaMore10
import Derived.Test.YtamolbegmkngdaaGreatDoorJQuotaExceeds1
import Derived.Test.YtamolbegmkngdaaGreatDoorJQuotaExceeds2
import Derived.Test.YtamolbegmkngdaaGreatDoorJQuotaMore15
import Derived.Test.YtamolbegmkngdaaGreatDoorJQuotaMore11
import Derived.Test.YtamolbegmkngdaaGreatDoorJQuotaMore14
import Derived.Test.YtamolbegmkngdaaGreatDoorJQuotaMore16
namespace Go.Proofs.YtamolbegmkngdaaGreatDoor
open Go.RowKit
set_option maxHeartbeats 4000000
set_option maxRecDepth 100000

/-- What Put answers, and what it makes of the nodes. -/
def putE (M : List (Key × Nd)) (n : Nd) : Int := if rightN n ≠ 0 then rightN n else if (mget M (keyN n)).isSome = true then 0 else 70
def putM (M : List (Key × Nd)) (n : Nd) : List (Key × Nd) := if putE M n = 0 then mput M (keyN n) n else M

theorem KidsAt.put_same {S : Nat → Prop} {w : World} {bn bk : Nat} {K : List (Key × Nat)} {M : List (Key × Nd)} {N : Nat} (h : KidsAt S w bn bk K M N) (hM : MOk M) {n n0 : Nd} (hn : rightN n = 0) (hg : mget M (keyN n) = some n0) : KidsAt S w bn bk K (mput M (keyN n) n) (N + 1) :=
  ⟨h.map, by have := h.len; omega, fun x hx => by rw [kids_put_same hM hn hg]; exact h.each x hx, h.apart, fun p hp => by rw [kids_put_same hM hn hg]; exact h.rest p hp⟩

theorem tput_any (S : Nat → Prop) (w : World) (bt : Nat) (M : List (Key × Nd)) (N : Nat) (hT : TreeAt S w bt M N) (n : Nd) (da aa : Option Addr) (dc ac : Nat) (hu : Tabs w) (hf : Fit n) (hN : N < 4611686018427387904)
    (hD : Cells w.heap.size w da (n.data.map u8v)) (hA : Cells w.heap.size w aa (acCs n.acl)) :
    Calls Tryz.prog 41 #[.pointer (some ⟨bt, 0, none⟩), .agg (ndC n (.slice da n.data.length dc) (.slice aa n.acl.length ac))] w (TreeTo S w bt (putM M n) (N + 1) (.int .i64 (putE M n))) := by
  obtain ⟨W2, hW2⟩ : ∃ W2, W2 = w.alloc (.cells (ndC n (.slice da n.data.length dc) (.slice aa n.acl.length ac)) 47) := ⟨_, rfl⟩
  have he2 : Ext w W2 := by rw [hW2]; exact Ext.alloc _ _
  have hz2 : W2.heap.size = w.heap.size + 1 := by rw [hW2]; simp
  have hn2 : W2.heap[w.heap.size]? = some (.cells (ndC n (.slice da n.data.length dc) (.slice aa n.acl.length ac)) 47 (0, 0)) := by rw [hW2]; exact heap_alloc_new w _
  have hT2 := hT.ext he2
  have hD2 := hD.ext he2
  have hA2 := hA.ext he2
  have hu2 : Tabs W2 := hu.below he2 hu.size
  have CR := right_any n da aa dc ac W2 hf hu2 hA2
  rw [hW2] at CR
  have HW2 := Lib.hid hW2
  have HN := Lib.hid hn2
  have HTW := Lib.hid hT
  have HNW := Lib.hid (hW2 ▸ hn2)
  unfold ndC at CR HW2 HN HNW ⊢
  have CR := Lib.hid CR
  clear hW2 hn2 hT
  by_cases hr : rightN n = 0
  · have hM := hT2.ok
    have HR := Lib.hid hr
    have hps : n.path.size ≤ maxLen := by
      have := (vpath_facts (right_vpath hr)).2.1
      unfold maxLen; omega
    have hvp := right_vpath hr
    have hvf := vpath_facts hvp
    rw [hr] at CR
    clear hr
    go_enter Tryz.func41, Tryz.ntmps41
    go_wp2_with (refine wpList_load_row rfl 47 (.tmp 3) rfl w.heap.size rfl 47 _ (0, 0) _ HNW.out Tryz.underlying47 rfl sizeNd ?_)
    refine CR.out.mono ?_
    rintro e w3 ⟨rfl, hb3⟩
    rw [← HW2.out] at hb3
    have hE3 : Ext W2 w3 := hb3
    have hT3 := hT2.ext hE3
    have hn3 := (hE3.block w.heap.size (by omega)).trans HN.out
    have hD3 := hD2.ext hE3
    have hA3 := hA2.ext hE3
    have hEw3 := he2.trans hE3
    obtain ⟨bn, bk, K, hd, hNd, hKd⟩ := hT3
    clear CR HW2 HN HNW hb3 hz2 hD2 hA2 hu2 hT2
    go_wp2
    refine there_region _ _ _ _ _ _ _ _ _ _ _ _ 0 3 _ 35 rfl (by decide) (by decide) (by decide) hd hNd w.heap.size n.path _ hn3 rfl hps rfl rfl ?_
    intro v0 v1 v2 v3 v4 v5 v6 v7 v8 v9 v10 w4 hE4
    simp only [Act.put]
    go_simp
    rename_i hK
    refine hK _ _ ?_
    have hEw4 := hEw3.trans hE4
    have hT4 : TreeAt S w4 bt M N := TreeAt.ext ⟨bn, bk, K, hd, hNd, hKd⟩ hE4
    have hD4 := hD3.ext hE4
    have hA4 := hA3.ext hE4
    have hn4 := (hE4.block w.heap.size (Array.getElem?_eq_some_iff.1 hn3).1).trans hn3
    clear hd hNd hKd hn3 hD3 hA3 hEw3
    cases hg : mget M n.path.data.toList with
    | none =>
      have hfin : TreeTo S w bt (putM M n) (N + 1) (.int .i64 (putE M n)) (.returned (.int .i64 70)) w4 := by
        have e : putE M n = 70 := by unfold putE; rw [if_neg (by rw [HR.out]; simp), if_neg (by unfold keyN; rw [hg]; simp)]
        have e2 : putM M n = M := by unfold putM; rw [if_neg (by rw [e]; decide)]
        rw [e, e2]
        exact treeTo_same HTW.out hEw4 (by omega) _
      have HFIN := Lib.hid hfin
      clear hfin hT4 hEw4 hD4 hA4 hn4 hg
      go_wp2
      go_ret
      exact HFIN.out
    | some y =>
      have e : putE M n = 0 := by unfold putE; rw [if_neg (by rw [HR.out]; simp), if_pos (by unfold keyN; rw [hg]; rfl)]
      have e2 : putM M n = mput M (keyN n) n := by unfold putM; rw [if_pos e]
      obtain ⟨bn, bk, K, hd, hNd, hKd⟩ := HTW.out
      obtain ⟨m, hm, hr⟩ := hNd.ex
      have hml : m.length ≤ N := by rw [← hr.length]; exact hNd.len
      have hfit := right_fit HR.out
      have hbt4 : w4.heap[bt]? = some (.cells (treeC bn bk) 118 (0, 0)) := (hEw4.block bt (hd.bound _ hd.st)).trans hd.blk
      have hm4 : SMap Tryz.prog 9 w4 bn m := hm.keep (hEw4.block bn (hd.bound _ hd.sn))
      have HG := Lib.hid hg
      have HEE := Lib.hid (And.intro e e2)
      have hz4 := hEw4.size
      have hbl4 := (Array.getElem?_eq_some_iff.1 hn4).1
      clear hg e e2 hT4
      go_wp2
      have hen := fun (f : FuncId) (fn : Func) (c : Code) (hf : Tryz.prog.funcs[f]? = some fn) (hname : (fn.name == "runtime.NumGoroutine") = false) (hb : fn.body = some c) => enters_f hf hname hb
      refine wp_region_last_e 35 (by kernel_rfl) (PhiL w.heap.size bt bn n (ndC n (.slice da n.data.length dc) (.slice aa n.acl.length ac))) (PhiL.stab _ _ _ _ _) (by decide) rfl 8 _ rfl rfl rfl rfl ?_ ?fin
      · refine ⟨?_, ?_, ?_, ?_, ?_, ?_, ?_, ?_, trivial⟩
        · exact duty_free rfl fun a w' hE hF hA => wp_value (w' := w') (ex_move rfl) ⟨_, rfl, hF.slot 0 _ (by decide) rfl, Ext.refl _⟩
        · refine duty_free rfl fun a w' hE hF hA => ?_
          have x1 : a.eval (.tmp 27) = _ := hA.slot 0 27 rfl rfl ⟨⟨0, .data⟩, by simp, rfl, rfl⟩
          exact wp_value (ex_nilCheck rfl _ x1) ⟨_, rfl, rfl, Ext.refl _⟩
        · refine duty_free rfl fun a w' hE hF hA => ?_
          have x1 : a.eval (.tmp 28) = _ := hA.slot 1 28 rfl rfl ⟨⟨1, .data⟩, by simp, rfl, rfl⟩
          exact wp_value (v := .pointer (some ⟨bt, 0, none⟩)) (w' := w') (by simp only [execOp, x1]; simp [go_sem]) ⟨_, rfl, rfl, Ext.refl _⟩
        · refine duty_free rfl fun a w' hE hF hA => ?_
          have x1 : a.eval (.tmp 29) = _ := hA.slot 2 29 rfl rfl ⟨⟨2, .data⟩, by simp, rfl, rfl⟩
          refine wp_value (ex_cell rfl _ (.map (some bn)) x1 ?_ rfl Tryz.underlying115) ⟨_, rfl, rfl, Ext.refl _⟩
          exact cell_of_row w' bt 0 _ _ _ ((hE.block bt (Array.getElem?_eq_some_iff.1 hbt4).1).trans hbt4)
        · refine duty_free rfl fun a w' hE hF hA => ?_
          have x1 : a.eval (.tmp 3) = _ := hF.slot 3 (.pointer (some ⟨w.heap.size, 0, none⟩)) (by decide) rfl
          exact wp_value (v := .pointer (some ⟨w.heap.size, 0, none⟩)) (w' := w') (by simp only [execOp, x1]; simp [go_sem]) ⟨_, rfl, rfl, Ext.refl _⟩
        · refine duty_free rfl fun a w' hE hF hA => ?_
          have x1 : a.eval (.tmp 31) = _ := hA.slot 4 31 rfl rfl ⟨⟨4, .data⟩, by simp, rfl, rfl⟩
          refine wp_value (ex_cell rfl _ (.string n.path) x1 ?_ rfl Tryz.underlying9) ⟨_, rfl, rfl, Ext.refl _⟩
          exact cell_of_row w' w.heap.size 0 _ _ _ ((hE.block w.heap.size hbl4).trans hn4)
        · refine duty_free rfl fun a w' hE hF hA => ?_
          have x1 : a.eval (.tmp 3) = _ := hF.slot 3 (.pointer (some ⟨w.heap.size, 0, none⟩)) (by decide) rfl
          exact wp_value (ex_load_row rfl w.heap.size x1 47 _ (0, 0) _ ((hE.block w.heap.size hbl4).trans hn4) Tryz.underlying47 rfl sizeNd) ⟨_, rfl, rfl, Ext.refl _⟩
        · refine duty_free rfl fun a w' hE hF hA => ?_
          have x1 : a.eval (.tmp 33) = _ := hA.slot 6 33 rfl rfl ⟨⟨6, .data⟩, by simp, rfl, rfl⟩
          refine wp_enter (ex_call rfl (hen _ _ _ Tryz.func100 (by kernel_rfl) rfl)) (by simp only [List.map_toArray, List.map_cons, List.map_nil, x1]; exact sclone_nd n da aa dc ac w' hfit.1 (hD4.ext hE) (hA4.ext hE)) ?_
          rintro e w5 ⟨v, rfl, hv, hb⟩
          exact ⟨_, rfl, v, rfl, hv.imp (fun b hb' => ⟨by have := hE.size; omega, hb'.2⟩) (fun _ _ _ _ h => h), hb⟩
      case fin =>
        intro us w2 hE hl hP
        have hl' : us.length = 8 := by simpa using hl
        obtain ⟨u0, u1, u2, u3, u4, u5, u6, u7, rfl⟩ := us8 us hl'
        have h3 : u3 = .map (some bn) := hP 3 u3 rfl
        have h5 : u5 = .string n.path := hP 5 u5 rfl
        have h7 : NdS (fun b => w.heap.size < b ∧ b < w2.heap.size) w2 u7 n := hP 7 u7 rfl
        subst h3 h5
        clear hP hl hl' hen
        have hm2 : SMap Tryz.prog 9 w2 bn m := hm4.keep (hE.block bn (by have := hd.bound _ hd.sn; omega))
        have q1 : m.length < maxLen := by unfold maxLen; omega
        have hQ := SMap.store hm2 strT Tryz.underlying115 q1 hps u7
        have hQ1 := hQ.choose_spec
        generalize hQ.choose = w3 at hQ1
        have hrun := hQ1.1
        have hs3 := hQ1.2.1
        have ht3 := hQ1.2.2
        clear hQ1 hQ
        have he2 : Ext w w2 := hEw4.trans hE
        have hNn := lay_nodes hd hNd hm hr he2 HR.out h7 hs3 ht3
        have hKn := lay_kids hd hKd he2 ht3
        have hMod : Mod S w w3 := (Mod.of_ext he2).trans (Mod.turned ht3 hd.sn)
        have hw3 : w.heap.size ≤ w3.heap.size := hMod.size
        have hbl : w3.heap[bt]? = some (.cells (treeC bn bk) 118 (0, 0)) := hMod.cells hd.blk
        have fin : TreeTo S w bt (putM M n) (N + 1) (.int .i64 (putE M n)) (.returned (.int .i64 0)) w3 := by
          rw [HEE.out.1, HEE.out.2]
          exact ⟨rfl, ⟨bn, bk, K, ⟨hbl, .inl hd.st, .inl hd.sn, .inl hd.sk, hd.ne, fun k hk => hk.elim (fun h => Nat.lt_of_lt_of_le (hd.bound k h) hw3) (fun h => h.2)⟩, hNn,
            (hKn.put_same hNd.ok HR.out HG.out).keep rfl (fun _ h => .inl h) (fun _ _ => rfl) (Nat.le_refl _)⟩, hMod⟩
        have FIN := Lib.hid fin
        clear fin hMod hNn hKn hs3 ht3 h7 he2 hbl hm2 hm4 hn4 hD4 hA4 hbt4 hE hr
        simp only [filled, List.take_succ_cons, List.take_zero, List.zip_cons_cons, List.zip_nil_right, List.foldl_cons, List.foldl_nil, Act.put]
        go_simp
        rename_i hK
        refine hK _ _ ?_
        clear hrun
        go_wp2
        go_ret
        exact FIN.out
  · have hne : (rightN n != 0) = true := by simpa using hr
    have e : putE M n = rightN n := by unfold putE; rw [if_pos hr]
    have e2 : putM M n = M := by unfold putM; rw [if_neg (by rw [e]; exact hr)]
    have E1 := Lib.hid e
    have E2 := Lib.hid e2
    clear hr e e2
    go_enter Tryz.func41, Tryz.ntmps41
    go_wp2_with (refine wpList_load_row rfl 47 (.tmp 3) rfl w.heap.size rfl 47 _ (0, 0) _ HNW.out Tryz.underlying47 rfl sizeNd ?_)
    refine CR.out.mono ?_
    rintro e w3 ⟨rfl, hb3⟩
    rw [← HW2.out] at hb3
    have hfin : TreeTo S w bt (putM M n) (N + 1) (.int .i64 (putE M n)) (.returned (.int .i64 (rightN n))) w3 := by
      rw [E1.out, E2.out]
      exact treeTo_same HTW.out (he2.trans hb3) (by omega) _
    have HFIN := Lib.hid hfin
    clear hfin CR hb3 hT2 hD2 hA2 HN HNW HW2 hu2
    go_wp2
    go_ret
    exact HFIN.out
end Go.Proofs.YtamolbegmkngdaaGreatDoor
namespace Go.Proofs.YtamolbegmkngdaaGreatDoor
open Go.RowKit
set_option maxHeartbeats 1000000

theorem fromL_distinct : ∀ (l : List Nd) (i : Nat) (M0 : List (Key × Nd)), MOk M0 → (∀ n ∈ l, rightN n = 0) → (l.map keyN).Nodup → (∀ n ∈ l, mget M0 (keyN n) = none) → ∃ M1, fromL l i M0 = .ok M1 ∧ MOk M1 ∧ ∀ x, x ∈ M1 ↔ x ∈ M0 ∨ ∃ n ∈ l, x = (keyN n, n)
  | [], i, M0, h0, _, _, _ => ⟨M0, rfl, h0, fun x => by simp⟩
  | n :: l, i, M0, h0, hr, hd, hn => by
    rw [List.map_cons] at hd
    obtain ⟨d1, d2⟩ := List.nodup_cons.1 hd
    have hr0 := hr n (List.mem_cons_self ..)
    have hn0 := hn n (List.mem_cons_self ..)
    have hne : ∀ m ∈ l, keyN m ≠ keyN n := fun m hm e => d1 (e ▸ List.mem_map.2 ⟨m, hm, rfl⟩)
    obtain ⟨M1, e1, e2, e3⟩ := fromL_distinct l (i + 1) (mput M0 (keyN n) n) (h0.put n hr0) (fun m hm => hr m (List.mem_cons_of_mem _ hm)) d2 (fun m hm => mget_none_of fun x hx e => by
      rcases mem_mput.1 hx with rfl | ⟨hx, _⟩
      · exact hne m hm e.symm
      · exact mget_none (hn m (List.mem_cons_of_mem _ hm)) x hx e)
    refine ⟨M1, ?_, e2, fun x => ?_⟩
    · unfold fromL
      rw [if_neg (by simpa using hr0), if_neg (by rw [hn0]; simp)]
      exact e1
    · rw [e3, mem_mput]
      constructor
      · rintro ((rfl | ⟨h, _⟩) | ⟨m, hm, rfl⟩)
        · exact .inr ⟨n, List.mem_cons_self .., rfl⟩
        · exact .inl h
        · exact .inr ⟨m, List.mem_cons_of_mem _ hm, rfl⟩
      · rintro (h | ⟨m, hm, rfl⟩)
        · exact .inl (.inr ⟨h, mget_none hn0 x h⟩)
        · rcases List.mem_cons.1 hm with rfl | hm
          · exact .inl (.inl rfl)
          · exact .inr ⟨m, hm, rfl⟩
theorem parL_ok {M : List (Key × Nd)} : ∀ (l : List Nd) (i : Nat), (∀ n ∈ l, n.path.size ≠ 1 → mget M (parentB n.path).data.toList ≠ none) → parL M l i = .ok ()
  | [], _, _ => rfl
  | n :: l, i, h => by
    unfold parL
    rw [if_neg fun hh => h n (List.mem_cons_self ..) hh.1 hh.2]
    exact parL_ok l (i + 1) fun m hm => h m (List.mem_cons_of_mem _ hm)

/-- A list with just a tree's nodes, each once. -/
theorem fromN_perm {M : List (Key × Nd)} (hM : MOk M) (hc : Clo M) (hroot : mget M [47] ≠ none) {L : List Nd} (h1 : ∀ n ∈ L, (keyN n, n) ∈ M) (h2 : ∀ x ∈ M, x.2 ∈ L) (hd : (L.map keyN).Nodup) : fromN L = .ok M := by
  obtain ⟨M1, e1, e2, e3⟩ := fromL_distinct L 0 [] MOk.nil (fun n hn => hM.right _ (h1 n hn)) hd (fun n _ => rfl)
  have he : M1 = M := mem_ext_sorted e2.sorted hM.sorted fun x => by
    rw [e3]
    constructor
    · rintro (h | ⟨n, hn, rfl⟩)
      · simp at h
      · exact h1 n hn
    · intro hx
      refine .inr ⟨x.2, h2 x hx, ?_⟩
      rw [← hM.key x hx]
  subst he
  unfold fromN
  rw [e1]
  simp only
  rw [if_neg hroot, parL_ok L 0 fun n hn hs => ?_]
  obtain ⟨y, hy, ey⟩ := hc _ (h1 n hn) hs
  rw [← ey]
  rw [there_of hM hy]
  simp

/-- The place i of the list that is turned by k: of n places. -/
def rotI (n k i : Nat) : Nat := if i + k < n then i + k else i + k - n
theorem rotI_mod {n k i : Nat} (hk : k < n) (hi : i < n) : (i + k) % n = rotI n k i := by
  unfold rotI
  split
  · rename_i h; exact Nat.mod_eq_of_lt h
  · rename_i h
    rw [Nat.mod_eq_sub_mod (by omega), Nat.mod_eq_of_lt (by omega)]
theorem rotI_lt {n k i : Nat} (hk : k < n) (hi : i < n) : rotI n k i < n := by unfold rotI; split <;> omega
theorem rotI_inj {n k i j : Nat} (hk : k < n) (hi : i < n) (hj : j < n) (h : rotI n k i = rotI n k j) : i = j := by
  unfold rotI at h
  split at h <;> split at h <;> omega
theorem rotI_onto {n k t : Nat} (hk : k < n) (ht : t < n) : ∃ i, i < n ∧ rotI n k i = t := by
  by_cases h : k ≤ t
  · exact ⟨t - k, by omega, by unfold rotI; rw [if_pos (by omega)]; omega⟩
  · exact ⟨t + n - k, by omega, by unfold rotI; rw [if_neg (by omega)]; omega⟩

/-- The list from behind, turned by k: its first j places. -/
def rotL (L : List Nd) (k : Nat) : Nat → List Nd
  | 0 => []
  | j + 1 => rotL L k j ++ [(L[rotI L.length k (L.length - 1 - j)]?).getD zeroN]
theorem rotL_length (L : List Nd) (k : Nat) : ∀ j, (rotL L k j).length = j
  | 0 => rfl
  | j + 1 => by unfold rotL; rw [List.length_append, rotL_length L k j]; rfl
theorem rotL_get (L : List Nd) (k : Nat) : ∀ (j i : Nat), i < j → (rotL L k j)[i]? = some ((L[rotI L.length k (L.length - 1 - i)]?).getD zeroN)
  | 0, i, h => by omega
  | j + 1, i, h => by
    unfold rotL
    by_cases e : i < j
    · rw [List.getElem?_append_left (by rw [rotL_length]; exact e)]
      exact rotL_get L k j i e
    · obtain rfl : i = j := by omega
      rw [List.getElem?_append_right (by rw [rotL_length]; exact Nat.le_refl _), rotL_length, Nat.sub_self]
      rfl
theorem rotL_at {L : List Nd} {k : Nat} (hk : k < L.length) {i : Nat} (hi : i < L.length) : (rotL L k L.length)[i]? = L[rotI L.length k (L.length - 1 - i)]? := by
  rw [rotL_get L k L.length i hi]
  have := rotI_lt hk (show L.length - 1 - i < L.length by omega)
  rw [List.getElem?_eq_getElem this]
  rfl

theorem rot_from {M : List (Key × Nd)} (hM : MOk M) (hc : Clo M) (hroot : mget M [47] ≠ none) {k : Nat} (hk : k < (M.map (·.2)).length) : fromN (rotL (M.map (·.2)) k (M.map (·.2)).length) = .ok M := by
  generalize hL : M.map (·.2) = L at *
  have hmem : ∀ n ∈ L, (keyN n, n) ∈ M := fun n hn => by
    rw [← hL] at hn
    obtain ⟨x, hx, rfl⟩ := List.mem_map.1 hn
    rw [← hM.key x hx]; exact hx
  have hkey : ∀ i j (hi : i < L.length) (hj : j < L.length), keyN L[i] = keyN L[j] → i = j := fun i j hi hj e => by
    subst hL
    simp only [List.length_map] at hi hj
    simp only [List.getElem_map] at e
    rw [← hM.key _ (List.getElem_mem hi), ← hM.key _ (List.getElem_mem hj)] at e
    rcases Nat.lt_trichotomy i j with h | h | h
    · have := sorted_at hM.sorted h hj
      rw [e] at this; exact (before_asymm this this).elim
    · exact h
    · have := sorted_at hM.sorted h hi
      rw [e] at this; exact (before_asymm this this).elim
  refine fromN_perm hM hc hroot (fun n hn => ?_) (fun x hx => ?_) ?_
  · obtain ⟨i, hi, ei⟩ := List.getElem_of_mem hn
    rw [rotL_length] at hi
    have h := rotL_at hk hi
    have hlt := rotI_lt hk (show L.length - 1 - i < L.length by omega)
    rw [List.getElem?_eq_getElem (by rw [rotL_length]; exact hi), ei, List.getElem?_eq_getElem hlt] at h
    rw [Option.some.inj h]
    exact hmem _ (List.getElem_mem hlt)
  · have hx' : x.2 ∈ L := by rw [← hL]; exact List.mem_map.2 ⟨x, hx, rfl⟩
    obtain ⟨t, ht, et⟩ := List.getElem_of_mem hx'
    obtain ⟨i, hi, hr⟩ := rotI_onto hk ht
    have h := rotL_at hk (show L.length - 1 - i < L.length by omega)
    rw [show L.length - 1 - (L.length - 1 - i) = i by omega, hr, List.getElem?_eq_getElem ht, et] at h
    exact List.mem_of_getElem? h
  · unfold List.Nodup
    rw [List.pairwise_map, List.pairwise_iff_getElem]
    intro i j hi hj hij
    rw [rotL_length] at hi hj
    have h1 := rotL_at hk hi
    have h2 := rotL_at hk hj
    have l1 := rotI_lt hk (show L.length - 1 - i < L.length by omega)
    have l2 := rotI_lt hk (show L.length - 1 - j < L.length by omega)
    rw [List.getElem?_eq_getElem (by rw [rotL_length]; exact hi), List.getElem?_eq_getElem l1] at h1
    rw [List.getElem?_eq_getElem (by rw [rotL_length]; exact hj), List.getElem?_eq_getElem l2] at h2
    rw [Option.some.inj h1, Option.some.inj h2]
    intro e
    have := rotI_inj hk (show L.length - 1 - i < L.length by omega) (show L.length - 1 - j < L.length by omega) (hkey _ _ l1 l2 e)
    omega

/-- Everything is under the root. -/
theorem und_root {M : List (Key × Nd)} (hM : MOk M) (hc : Clo M) : ∀ (f : Nat) (x : Key × Nd), x ∈ M → x.2.path.size ≤ f → und x.2.path ⟨#[47]⟩ = true
  | 0, x, hx, hf => by have := hM.pos hx; omega
  | f + 1, x, hx, hf => by
    by_cases h1 : x.2.path.size = 1
    · rw [und_one hM hx h1]
      have := (root_iff (right_vpath (hM.right x hx))).1 h1
      rw [show x.2.path = ⟨#[47]⟩ from ba_ext this]
      rfl
    · obtain ⟨y, hy, ey⟩ := hc x hx h1
      have hs := (path_split (right_vpath (hM.right x hx)) h1).2.2.1
      rw [und_up hM hc hx hy h1 ey, und_root hM hc f y hy (by rw [ey]; omega), Bool.or_true]
theorem undK_root {M : List (Key × Nd)} (hM : MOk M) (hc : Clo M) : (undK M ⟨#[47]⟩).length = M.length := by
  unfold undK
  rw [List.length_map, List.filter_eq_self.2 fun x hx => und_root hM hc _ x hx (Nat.le_refl _)]
end Go.Proofs.YtamolbegmkngdaaGreatDoor
namespace Go.Proofs.YtamolbegmkngdaaGreatDoor
open Go.RowKit

theorem mget_mput_same {α : Type} {M : List (Key × α)} (hs : MSorted M) (k : Key) (v : α) : mget (mput M k v) k = some v := mget_of_mem (mput_sorted hs k v) (mem_mput.2 (.inl rfl))
theorem mget_mput_other {α : Type} {M : List (Key × α)} (hs : MSorted M) {k k' : Key} (v : α) (h : k' ≠ k) : mget (mput M k v) k' = mget M k' := by
  cases hg : mget M k' with
  | some u => exact mget_of_mem (mput_sorted hs k v) (mem_mput.2 (.inr ⟨mget_some_mem hg, h⟩))
  | none =>
    refine mget_none_of fun x hx e => ?_
    rcases mem_mput.1 hx with rfl | ⟨h1, _⟩
    · exact h e.symm
    · exact mget_none hg x h1 e
theorem mget_mdel_same {α : Type} (M : List (Key × α)) (k : Key) : mget (mdel M k) k = none := mget_none_of fun x hx => (mem_mdel.1 hx).2
theorem mget_mdel_other {α : Type} {M : List (Key × α)} (hs : MSorted M) {k k' : Key} (h : k' ≠ k) : mget (mdel M k) k' = mget M k' := by
  cases hg : mget M k' with
  | some u => exact mget_of_mem (mdel_sorted hs k) (mem_mdel.2 ⟨mget_some_mem hg, h⟩)
  | none => exact mget_none_of fun x hx => mget_none hg x (mem_mdel.1 hx).1
theorem mdel_back {α : Type} {M : List (Key × α)} (hs : MSorted M) {k : Key} {v : α} (hg : mget M k = some v) : M = mins (k, v) (mdel M k) := by
  have h : mput M k v = M := mem_ext_sorted (mput_sorted hs k v) hs fun x => by
    rw [mem_mput]
    constructor
    · rintro (rfl | ⟨h, _⟩)
      · exact mget_some_mem hg
      · exact h
    · intro hx
      by_cases e : x.1 = k
      · refine .inl ?_
        have h1 : mget M x.1 = some x.2 := mget_of_mem hs hx
        rw [e, hg] at h1
        exact Prod.ext e (Option.some.inj h1).symm
      · exact .inr ⟨hx, e⟩
  exact h.symm

theorem sum_mins (P : Key × Nd → Bool) (f : Key × Nd → Nat) (x : Key × Nd) : ∀ m : List (Key × Nd), (((mins x m).filter P).map f).sum = ((m.filter P).map f).sum + if P x = true then f x else 0
  | [] => by
    show (([x].filter P).map f).sum = _
    by_cases h : P x = true
    · simp [h]
    · simp [h]
  | y :: m => by
    show (((if bytesBefore x.1 y.1 = true then x :: y :: m else y :: mins x m).filter P).map f).sum = _
    by_cases hb : bytesBefore x.1 y.1 = true
    · rw [if_pos hb]
      by_cases h : P x = true
      · rw [List.filter_cons_of_pos h, if_pos h, List.map_cons, List.sum_cons]; omega
      · rw [List.filter_cons_of_neg h, if_neg h]; rfl
    · rw [if_neg hb]
      have ih := sum_mins P f x m
      by_cases h : P y = true
      · rw [List.filter_cons_of_pos h, List.filter_cons_of_pos h, List.map_cons, List.map_cons, List.sum_cons, List.sum_cons, ih]; omega
      · rw [List.filter_cons_of_neg h, List.filter_cons_of_neg h, ih]
theorem wt_put (M : List (Key × Nd)) (n : Nd) (q : ByteArray) (a : Nd → Nat) : wtN (mput M (keyN n) n) q a = wtN (mdel M (keyN n)) q a + if und n.path q = true then a n else 0 := by
  unfold wtN mput
  exact sum_mins (fun x => und x.2.path q) (fun x => a x.2) (keyN n, n) _
theorem wt_del {M : List (Key × Nd)} (hM : MOk M) {k : Key} {y : Nd} (hg : mget M k = some y) (q : ByteArray) (a : Nd → Nat) : wtN M q a = wtN (mdel M k) q a + if und y.path q = true then a y else 0 := by
  have h := mdel_back hM.sorted hg
  conv => lhs; rw [h]
  unfold wtN
  exact sum_mins (fun x => und x.2.path q) (fun x => a x.2) (k, y) _

/-- Is the quota of a path passed? -/
def passedB (M : List (Key × Nd)) (q : ByteArray) : Bool := match mget M q.data.toList with
  | some n => n.has && ((n.count != -1 && decide (n.count < (undK M q).length)) || (n.bytes != -1 && decide (n.bytes < bytesK M (undK M q))))
  | none => false
theorem passedB_of {M : List (Key × Nd)} (hM : MOk M) {q : ByteArray} {n : Nd} (h : mget M q.data.toList = some n) : passedB M q = (n.has && ((n.count != -1 && decide (n.count < (wtN M q fun _ => 1))) || (n.bytes != -1 && decide (n.bytes < (wtN M q fun n => n.data.length))))) := by
  unfold passedB
  rw [h, wtN_one, ← bytesK_und hM]

/-- What is not passed by more is not passed behind it. -/
theorem pass_stay {bound : Int} {used more : Nat} {d : Int} (hb : bound ≤ 9223372036854775807) (hu : (used : Int) ≤ 4611686018427387904) (hm : (more : Int) ≤ used + d) (hp : passB bound used d = false) (h : (bound != -1 && decide (bound < (more : Int))) = true) : (bound != -1 && decide (bound < (used : Int))) = true := by
  simp only [Bool.and_eq_true, bne_iff_ne, ne_eq, decide_eq_true_eq] at h ⊢
  obtain ⟨h1, h2⟩ := h
  refine ⟨h1, ?_⟩
  by_cases hd : d ≤ 0
  · omega
  · unfold passB at hp
    have e1 : decide (d > 0) = true := by simpa using Int.not_le.1 hd
    have e2 : (bound != -1) = true := by simpa using h1
    rw [e1, e2, Bool.true_and, Bool.true_and, Bool.or_eq_false_iff] at hp
    obtain ⟨p1, p2⟩ := hp
    simp only [decide_eq_false_iff_not, gt_iff_lt, Int.not_lt] at p1 p2
    unfold wrap64 at p2
    by_cases hl : bound < 0
    · omega
    · omega
theorem not_first {M : List (Key × Nd)} {s : ByteArray} {dn db : Int} (h : firstO M s dn db = none) {n : Nd} (hn : n ∈ overL M s) : passB n.count (undK M n.path).length dn = false ∧ passB n.bytes (bytesK M (undK M n.path)) db = false := by
  unfold firstO at h
  have := List.find?_eq_none.1 h n hn
  unfold overB at this
  simpa using this

theorem grow_core {M M' : List (Key × Nd)} (hM : MOk M) (hM' : MOk M') (hir : ∀ x ∈ M, Ir x.2) (hl : M.length ≤ 4398046511104) {s : ByteArray} {dn db : Int} (h : firstO M s dn db = none) {q q' : Nd} (hq : q ∈ overL M s)
    (hg' : mget M' q.path.data.toList = some q') (e1 : q'.has = q.has) (e2 : q'.count = q.count) (e3 : q'.bytes = q.bytes)
    (hc : ((wtN M' q.path fun _ => 1 : Nat) : Int) ≤ (wtN M q.path fun _ => 1 : Nat) + dn) (hb : ((wtN M' q.path fun n => n.data.length : Nat) : Int) ≤ (wtN M q.path fun n => n.data.length : Nat) + db)
    (hp : passedB M' q.path = true) : passedB M q.path = true := by
  obtain ⟨hg, hh, _⟩ := overL_there hM hq
  obtain ⟨n1, n2⟩ := not_first h hq
  have hi := hir _ (mget_some_mem hg)
  have ic := wf_i64 (hi.1 q.count (by simp))
  have ib := wf_i64 (hi.1 q.bytes (by simp))
  have u1 := wtN_le M q.path (fun _ => 1) 1 (fun _ _ => Nat.le_refl _)
  have u2 := wtN_le M q.path (fun n => n.data.length) 1048575 (fun y hy => (right_fit (hM.right y hy)).2.1)
  rw [passedB_of hM' hg', e1, e2, e3] at hp
  rw [passedB_of hM hg]
  rw [← wtN_one] at n1
  rw [bytesK_und hM] at n2
  rw [hh, Bool.true_and, Bool.or_eq_true] at hp ⊢
  refine hp.imp (fun h => ?_) fun h => ?_
  · exact pass_stay ic.2 (by omega) hc n1 h
  · exact pass_stay ib.2 (by omega) hb n2 h

theorem over_und {M : List (Key × Nd)} (hM : MOk M) {s : ByteArray} {q : Nd} (hq : q ∈ overL M s) : und s q.path = true := (overL_there hM hq).2.2

theorem grow_add {M : List (Key × Nd)} {n : Nd} (hM : MOk M) (hir : ∀ x ∈ M, Ir x.2) (hl : M.length ≤ 4398046511104) (hno : mget M (keyN n) = none) (h : firstO M n.path 1 n.data.length = none) {q : Nd} (hq : q ∈ overL M n.path) (hp : passedB (addM M n) q.path = true) : passedB M q.path = true := by
  unfold addM at hp
  split at hp
  · rename_i he
    have hr : rightN n = 0 := by
      unfold addE at he
      split at he
      · rename_i h1; exact absurd he h1
      · rename_i h1; simpa using h1
    obtain ⟨hg, _, hu⟩ := overL_there hM hq
    have hne : q.path.data.toList ≠ keyN n := fun e => by rw [e, hno] at hg; cases hg
    have hd : mdel M (keyN n) = M := mdel_none (mget_none hno)
    refine grow_core hM (hM.put n hr) hir hl h hq ((mget_mput_other hM.sorted n hne).trans hg) rfl rfl rfl ?_ ?_ hp
    · rw [wt_put, hd, if_pos hu]; push_cast; omega
    · rw [wt_put, hd, if_pos hu]; push_cast; omega
  · exact hp

theorem grow_put {M : List (Key × Nd)} {n y : Nd} (hM : MOk M) (hir : ∀ x ∈ M, Ir x.2) (hl : M.length ≤ 4398046511104) (hy : mget M (keyN n) = some y) (q1 : n.has = y.has) (q2 : n.count = y.count) (q3 : n.bytes = y.bytes) (h : firstO M n.path 0 ((n.data.length : Int) - y.data.length) = none) {q : Nd} (hq : q ∈ overL M n.path) (hp : passedB (putM M n) q.path = true) : passedB M q.path = true := by
  unfold putM at hp
  split at hp
  · rename_i he
    have hr : rightN n = 0 := by
      unfold putE at he
      split at he
      · rename_i h1; exact absurd he h1
      · rename_i h1; simpa using h1
    obtain ⟨hg, _, hu⟩ := overL_there hM hq
    have hyp : y.path = n.path := keyN_inj (hM.at hy).1.symm
    have w1 := fun a => wt_del hM hy q.path a
    rw [hyp] at w1
    have c1 := w1 fun _ => 1
    have c2 := w1 fun n => n.data.length
    rw [if_pos hu] at c1 c2
    have b1 : (((wtN (mput M (keyN n) n) q.path fun _ => 1 : Nat)) : Int) ≤ (wtN M q.path fun _ => 1 : Nat) + 0 := by
      rw [wt_put, if_pos hu, c1]; omega
    have b2 : (((wtN (mput M (keyN n) n) q.path fun n => n.data.length : Nat)) : Int) ≤ (wtN M q.path fun n => n.data.length : Nat) + ((n.data.length : Int) - y.data.length) := by
      rw [wt_put, if_pos hu, c2]; push_cast; omega
    by_cases hk : q.path.data.toList = keyN n
    · have hqy : q = y := by rw [hk, hy] at hg; exact (Option.some.inj hg).symm
      subst hqy
      exact grow_core hM (hM.put n hr) hir hl h hq (by rw [hk]; exact mget_mput_same hM.sorted _ n) q1 q2 q3 b1 b2 hp
    · exact grow_core hM (hM.put n hr) hir hl h hq ((mget_mput_other hM.sorted n hk).trans hg) rfl rfl rfl b1 b2 hp
  · exact hp

theorem grow_rem {M : List (Key × Nd)} {s : ByteArray} (hM : MOk M) (hir : ∀ x ∈ M, Ir x.2) (hl : M.length ≤ 4398046511104) {dn db : Int} (hdn : dn = -1) (hdb : db = -(((mget M s.data.toList).getD zeroN).data.length : Int)) (h : firstO M s dn db = none) {q : Nd} (hq : q ∈ overL M s) (hp : passedB (remM M s) q.path = true) : passedB M q.path = true := by
  unfold remM at hp
  split at hp
  · rename_i he
    obtain ⟨hg, _, hu⟩ := overL_there hM hq
    by_cases hk : q.path.data.toList = s.data.toList
    · unfold passedB at hp
      rw [hk, mget_mdel_same] at hp
      cases hp
    · cases hy : mget M s.data.toList with
      | none =>
        have hd : mdel M s.data.toList = M := mdel_none (mget_none hy)
        rwa [hd] at hp
      | some y =>
        have hys : y.path = s := (ba_ext (hM.at hy).1).symm
        have w1 := fun a => wt_del hM hy q.path a
        rw [hys] at w1
        have c1 := w1 fun _ => 1
        have c2 := w1 fun n => n.data.length
        rw [if_pos hu] at c1 c2
        rw [hy] at hdb
        simp only [Option.getD_some] at hdb
        refine grow_core hM (hM.del _) hir hl h hq ((mget_mdel_other hM.sorted hk).trans hg) rfl rfl rfl ?_ ?_ hp
        · rw [c1, hdn]; push_cast; omega
        · rw [c2, hdb]; push_cast; omega
  · exact hp
end Go.Proofs.YtamolbegmkngdaaGreatDoor
namespace Go.Proofs.YtamolbegmkngdaaGreatDoor
open Go.RowKit

/-- What the growing tree's nodes keep. -/
structure Well (K : Nat) (M : List (Key × Nd)) : Prop where
  clo : Clo M
  ir : ∀ x ∈ M, Ir x.2
  len : M.length ≤ K
theorem Well.more {K K' : Nat} {M : List (Key × Nd)} (h : Well K M) (hk : K ≤ K') : Well K' M := ⟨h.clo, h.ir, Nat.le_trans h.len hk⟩
theorem mdel_len {α : Type} (M : List (Key × α)) (k : Key) : (mdel M k).length ≤ M.length := List.length_filter_le _ _
theorem mput_len {α : Type} (M : List (Key × α)) (k : Key) (v : α) : (mput M k v).length ≤ M.length + 1 := by
  unfold mput
  rw [mins_length]
  have := mdel_len M k
  omega
theorem ir_put {M : List (Key × Nd)} (h : ∀ x ∈ M, Ir x.2) {n : Nd} (hn : Ir n) : ∀ x ∈ mput M (keyN n) n, Ir x.2 := fun x hx => by
  rcases mem_mput.1 hx with rfl | ⟨h1, _⟩
  · exact hn
  · exact h x h1

theorem well_add {K : Nat} {M : List (Key × Nd)} {n : Nd} (hM : MOk M) (h : Well K M) (hn : Ir n) : Well (K + 1) (addM M n) := by
  unfold addM
  split
  · rename_i he
    unfold addE at he
    split at he
    · rename_i h1; exact absurd he h1
    split at he
    · cases he
    split at he
    · cases he
    rename_i hr hno hp
    have hno' : mget M (keyN n) = none := by simpa using hno
    obtain ⟨hp1, hp2⟩ := not_or.1 hp
    obtain ⟨y, hy⟩ := Option.ne_none_iff_exists'.1 hp2
    have hyp : y.path = parentB n.path := (ba_ext (hM.at hy).1).symm
    have keep : ∀ z ∈ M, z ∈ mput M (keyN n) n := fun z hz => mem_mput.2 (.inr ⟨hz, mget_none hno' z hz⟩)
    refine ⟨fun x hx hs => ?_, ir_put h.ir hn, Nat.le_trans (mput_len _ _ _) (Nat.succ_le_succ h.len)⟩
    rcases mem_mput.1 hx with rfl | ⟨h1, _⟩
    · exact ⟨_, keep _ (mget_some_mem hy), hyp⟩
    · obtain ⟨z, hz, e⟩ := h.clo x h1 hs
      exact ⟨z, keep z hz, e⟩
  · exact h.more (by omega)

theorem well_put {K : Nat} {M : List (Key × Nd)} {n : Nd} (hM : MOk M) (h : Well K M) (hn : Ir n) : Well (K + 1) (putM M n) := by
  unfold putM
  split
  · rename_i he
    unfold putE at he
    split at he
    · rename_i h1; exact absurd he h1
    split at he
    rotate_left
    · cases he
    rename_i hr hy0
    obtain ⟨y, hy⟩ := Option.isSome_iff_exists.1 hy0
    have hyp : y.path = n.path := keyN_inj (hM.at hy).1.symm
    have keep : ∀ p, (∃ z ∈ M, z.2.path = p) → ∃ z ∈ mput M (keyN n) n, z.2.path = p := by
      rintro p ⟨z, hz, e⟩
      by_cases hk : z.1 = keyN n
      · refine ⟨(keyN n, n), mem_mput.2 (.inl rfl), ?_⟩
        have := keyN_inj ((hM.key z hz).symm.trans hk)
        rw [← e, this]
      · exact ⟨z, mem_mput.2 (.inr ⟨hz, hk⟩), e⟩
    refine ⟨fun x hx hs => ?_, ir_put h.ir hn, Nat.le_trans (mput_len _ _ _) (Nat.succ_le_succ h.len)⟩
    rcases mem_mput.1 hx with rfl | ⟨h1, _⟩
    · refine keep _ ?_
      have := h.clo _ (mget_some_mem hy) (by show y.path.size ≠ 1; rw [hyp]; exact hs)
      rw [show (keyN n, y).2.path = n.path from hyp] at this
      exact this
    · exact keep _ (h.clo x h1 hs)
  · exact h.more (by omega)

theorem well_rem {K : Nat} {M : List (Key × Nd)} {s : ByteArray} (hM : MOk M) (h : Well K M) : Well (K + 1) (remM M s) := by
  unfold remM
  split
  · rename_i he
    unfold remE at he
    split at he
    · cases he
    split at he
    · cases he
    split at he
    · cases he
    rename_i hv hg hk
    have hk0 : kidsOf M s = [] := List.eq_nil_of_length_eq_zero (by simpa using hk)
    refine ⟨fun x hx hs => ?_, fun x hx => h.ir x (mem_mdel.1 hx).1, Nat.le_trans (mdel_len _ _) (by have := h.len; omega)⟩
    obtain ⟨h1, _⟩ := mem_mdel.1 hx
    obtain ⟨z, hz, e⟩ := h.clo x h1 hs
    refine ⟨z, mem_mdel.2 ⟨hz, fun hzk => ?_⟩, e⟩
    have hzs : z.2.path = s := ba_ext ((hM.key z hz).symm.trans hzk)
    have : (nameK x.2, Value.agg #[]) ∈ kidsOf M s := mem_kids.2 ⟨x, h1, by
      unfold childOf
      rw [Bool.and_eq_true]
      exact ⟨by simpa using hs, by rw [← hzs, e]; exact beq_self_eq_true _⟩, rfl⟩
    rw [hk0] at this
    simp at this
  · exact h.more (by omega)
end Go.Proofs.YtamolbegmkngdaaGreatDoor
namespace Go.Proofs.YtamolbegmkngdaaGreatDoor
open Go.RowKit Go.Sort
set_option maxHeartbeats 4000000
set_option maxRecDepth 100000

theorem pover_any (pv : Value) (hpv : ∃ po, pv = .pointer po) (M : List (Key × Nd)) (w : World) (hM : MOk M) (hG : GetsM pv M w) (hWe : WeighsM pv M w) (q : ByteArray) (hq : q.size ≤ 9223372036854775800) :
    Calls Tryz.prog 101 #[pv, .string q] w fun e w' => e = .returned (.bool (passedB M q)) ∧ Ext w w' := by
  obtain ⟨po, rfl⟩ := hpv
  have CG := Lib.hid (hG w q (Ext.refl _) hq)
  have HPB : Hid (passedB M q = match mget M q.data.toList with | some n => n.has && ((n.count != -1 && decide (n.count < (undK M q).length)) || (n.bytes != -1 && decide (n.bytes < bytesK M (undK M q)))) | none => false) := rfl
  have HAT : Hid (∀ n, mget M q.data.toList = some n → n.path = q) := fun n h => (ba_ext (hM.at h).1).symm
  have HW := Lib.hid hWe
  clear hG hWe hM
  generalize passedB M q = pb at *
  go_enter Tryz.func101, Tryz.ntmps101
  go_wp2_with fail
  refine CG.out.mono ?_
  rintro e w3 ⟨v3, rfl, hv3, hE3⟩
  obtain ⟨d1, e1, a1, f1, X1, e0, hset1, hbx1, hEX1, hD1, hA1⟩ := box_node hv3 fun b hb => hb.2
  subst e0
  have hE3 : Ext w w3 := hE3
  have hE13 := hE3.trans hEX1
  have HSET1 := Lib.hid hset1
  have HNEW1 := Lib.hid (heap_alloc_new w3 (.cells zeroNd 47))
  have HB1 := Lib.hid hbx1
  have HE13 := Lib.hid hE13
  generalize hn : (mget M q.data.toList).getD zeroN = n at *
  have hh : X1.cell? ⟨w3.heap.size, 14, none⟩ = some (.bool n.has) := cell_of_row _ _ _ _ _ _ HB1.out
  clear CG hset1 hbx1 hEX1 hD1 hA1 hE3 hE13
  unfold ndC at HSET1 HB1 ⊢
  unfold zeroNd at HSET1 HNEW1
  cases hg : mget M q.data.toList with
  | none =>
    have HFIN : Hid (pb = false) := by have := HPB.out; rw [hg] at this; exact this
    clear hg hn hv3
    go_wp2_with (refine wpList_store_row rfl 47 (.tmp 5) (.tmp 14) rfl w3.heap.size _ rfl rfl 47 _ HNEW1.out sizeNd rfl (cells_node n d1 a1 _ _ e1 f1) ?_; rw [HSET1.out])
    go_ret
    exact ⟨by rw [HFIN.out]; rfl, HE13.out⟩
  | some y =>
    have hny : n = y := by rw [hg] at hn; exact hn.symm
    subst hny
    have hnp := HAT.out n hg
    have CW := Lib.hid (HW.out X1 n HE13.out (by rw [hnp]; exact hg))
    rw [hnp] at CW
    have HP : Hid (pb = (n.has && ((n.count != -1 && decide (n.count < (undK M q).length)) || (n.bytes != -1 && decide (n.bytes < bytesK M (undK M q)))))) := by have := HPB.out; rw [hg] at this; exact this
    clear HPB HAT HW hnp
    cases hhas : n.has with
    | false =>
      rw [hhas] at hh HSET1 HP
      have HFIN : Hid (pb = false) := HP.out
      clear hg hn hv3 CW
      go_wp2_with (refine wpList_store_row rfl 47 (.tmp 5) (.tmp 14) rfl w3.heap.size _ rfl rfl 47 _ HNEW1.out sizeNd rfl (by have := cells_node n d1 a1 n.data.length n.acl.length e1 f1; unfold ndC at this; rw [hhas] at this; exact this) ?_; rw [HSET1.out])
      go_ret
      exact ⟨by rw [HFIN.out]; rfl, HE13.out⟩
    | true =>
      rw [hhas] at hh HSET1 HP
      clear hg hn hv3
      go_wp2_with (refine wpList_store_row rfl 47 (.tmp 5) (.tmp 14) rfl w3.heap.size _ rfl rfl 47 _ HNEW1.out sizeNd rfl (by have := cells_node n d1 a1 n.data.length n.acl.length e1 f1; unfold ndC at this; rw [hhas] at this; exact this) ?_; rw [HSET1.out])
      refine CW.out.mono ?_
      rintro e X2 ⟨rfl, hE2⟩
      have hE2 : Ext X1 X2 := hE2
      have hb2 := (hE2.block w3.heap.size (Array.getElem?_eq_some_iff.1 HB1.out).1).trans HB1.out
      have n15 : X2.cell? ⟨w3.heap.size, 15, none⟩ = some (.int .i64 n.count) := cell_of_row _ _ _ _ _ _ hb2
      have n16 : X2.cell? ⟨w3.heap.size, 16, none⟩ = some (.int .i64 n.bytes) := cell_of_row _ _ _ _ _ _ hb2
      have HE2 := Lib.hid (HE13.out.trans hE2)
      clear CW HSET1 HNEW1 HB1 hb2 hE2 hh
      generalize (undK M q).length = uc at *
      generalize bytesK M (undK M q) = ub at *
      generalize n.count = nc at *
      generalize n.bytes = nb at *
      have fin : ∀ b, ((nc != -1 && decide (nc < (uc : Int))) || (nb != -1 && decide (nb < (ub : Int)))) = b → pb = b := fun b h => by rw [HP.out, h]; rfl
      have FIN := Lib.hid fin
      clear fin HP
      have E1 : nc = -1 ∨ nc ≠ -1 := Decidable.em _
      have E2 : nb = -1 ∨ nb ≠ -1 := Decidable.em _
      have F1 : decide (nc < (uc : Int)) = true ∨ decide (nc < (uc : Int)) = false := by cases decide (nc < (uc : Int)) <;> simp
      have F2 : decide (nb < (ub : Int)) = true ∨ decide (nb < (ub : Int)) = false := by cases decide (nb < (ub : Int)) <;> simp
      rcases E1 with E1 | E1
      · subst E1
        rcases E2 with E2 | E2
        · subst E2
          have HX := Lib.hid (FIN.out false (by simp))
          clear FIN F1 F2
          go_wp2
          go_ret
          exact ⟨by rw [HX.out]; rfl, HE2.out⟩
        · have d2 : (nb != -1) = true := by simpa using E2
          have d2' : (nb == -1) = false := by simpa using E2
          rcases F2 with F2 | F2
          · have HX := Lib.hid (FIN.out true (by rw [d2, F2]; simp))
            clear FIN F1 E2
            go_wp2
            go_ret
            exact ⟨by rw [HX.out]; rfl, HE2.out⟩
          · have HX := Lib.hid (FIN.out false (by rw [d2, F2]; simp))
            clear FIN F1 E2
            go_wp2
            go_ret
            exact ⟨by rw [HX.out]; rfl, HE2.out⟩
      · have d1 : (nc != -1) = true := by simpa using E1
        have d1' : (nc == -1) = false := by simpa using E1
        rcases F1 with F1 | F1
        · have HX := Lib.hid (FIN.out true (by rw [d1, F1]; simp))
          clear FIN F2 E1 E2
          go_wp2
          go_ret
          exact ⟨by rw [HX.out]; rfl, HE2.out⟩
        · rcases E2 with E2 | E2
          · subst E2
            have HX := Lib.hid (FIN.out false (by rw [F1]; simp))
            clear FIN F2 E1
            go_wp2
            go_ret
            exact ⟨by rw [HX.out]; rfl, HE2.out⟩
          · have d2 : (nb != -1) = true := by simpa using E2
            have d2' : (nb == -1) = false := by simpa using E2
            rcases F2 with F2 | F2
            · have HX := Lib.hid (FIN.out true (by rw [d2, F2]; simp))
              clear FIN E1 E2
              go_wp2
              go_ret
              exact ⟨by rw [HX.out]; rfl, HE2.out⟩
            · have HX := Lib.hid (FIN.out false (by rw [F1, F2]; simp))
              clear FIN E1 E2
              go_wp2
              go_ret
              exact ⟨by rw [HX.out]; rfl, HE2.out⟩
end Go.Proofs.YtamolbegmkngdaaGreatDoor
namespace Go.Proofs.YtamolbegmkngdaaGreatDoor
open Go.RowKit Go.Sort
set_option maxHeartbeats 4000000
set_option maxRecDepth 100000

theorem infoBoolW : (Tryz.prog.info? 4).map (fun i => (i.zero, i.size, i.bytes)) = some (some (.bool false), 1, 1) := by kernel_rfl
theorem boolInfo : ∃ i, Tryz.prog.info? 4 = some i ∧ i.zero = some (.bool false) ∧ i.size = 1 ∧ i.bytes = 1 := info_parts infoBoolW
theorem wpList_append_b {ops : Array Oper} {rest : List Oper} {o : Oper} {a : Act} {Q : Exit → Act → World → Prop} {W5 : World} (hgd : o.guard = none) (s x : Operand)
    (ho : o.op = .call { callee := .builtin .append, args := #[s, x], argTypes := #[76, 76] })
    (base n : Nat) (xs : List Value) (ov : Value) (hown : W5.ownsRow base 4 1 ov n xs) (hb : base ≤ W5.heap.size) (t : Bool) (hl : (n + 1) ≤ 140737488355328)
    (hs : a.eval s = ov) (hx : a.eval x = .slice (some ⟨W5.heap.size, 0, none⟩) 1 1)
    (hK : ∀ v' W6, W6.ownsRow base 4 1 v' (n + 1) (xs ++ [.bool t]) → (∀ w0, Ext w0 W5 → w0.heap.size ≤ base → Ext w0 W6) → wpList Tryz.prog ops Q rest (a.put o.dst v') W6) : wpList Tryz.prog ops Q (o :: rest) a (W5.alloc (.cells #[.bool t] 4)) := by
  have hrow8 := hown.alloc (.cells #[.bool t] 4)
  have hs1 : Cells (W5.alloc (.cells #[.bool t] 4)).heap.size (W5.alloc (.cells #[.bool t] 4)) (some ⟨W5.heap.size, 0, none⟩) [.bool t] := fun j u hj => by
    refine ⟨_, 0, rfl, by simp, ?_⟩
    rw [Nat.zero_add, cell_of_row _ _ _ _ _ _ (heap_alloc_new W5 _)]
    simpa using hj
  have hsrc : Src Tryz.prog 1 76 (.slice (some ⟨W5.heap.size, 0, none⟩) 1 1) 1 [.bool t] (W5.alloc (.cells #[.bool t] 4)) := hs1.src Tryz.underlying76 1 1 (by simp) (fun u hu => by simp at hu; subst hu; rfl)
  obtain ⟨i0, hi, hz0, hz1', hz2'⟩ := boolInfo
  refine wpList_append_src _ hgd s x 76 76 ho base 4 i0 (.bool false) 1 1 Tryz.underlying76 hi hz0 hz1' hz2' rfl (by decide) ov n xs hs hrow8 _ 1 _ hx hsrc (by unfold maxLen; omega) (by omega) (by simp; omega) ?_
  intro v' w9 hown9 hg9 _ _
  refine hK v' w9 hown9 fun w0 hE0 hb0 => ?_
  have hE8 : Ext w0 (W5.alloc (.cells #[.bool t] 4)) := hE0.trans (Ext.alloc _ _)
  exact hE8.trans' ⟨hg9.os, hg9.tape, hg9.output, hg9.size, fun i hi => hg9.block i (Nat.lt_of_lt_of_le hi hE8.size) (fun e => by
    have := (hown.lt i e.symm).1
    omega)⟩

/-- A slice that shows these bools. -/
def BoolsAt (B : Nat) (w : World) (a : Option Addr) (L : List Bool) : Prop := ∀ i s, L[i]? = some s → ∃ b off, a = some ⟨b, off, none⟩ ∧ b < B ∧ w.cell? ⟨b, off + i, none⟩ = some (.bool s)
theorem BoolsAt.of_own {w : World} {base : Nat} {v : Value} {L : List Bool} (h : w.ownsRow base 4 1 v L.length (L.map .bool)) : ∃ a c, v = .slice a L.length c ∧ BoolsAt w.heap.size w a L := by
  obtain ⟨a, c, rfl, hc⟩ := ownsRow_cells h
  refine ⟨a, c, rfl, fun i s hi => ?_⟩
  obtain ⟨b, off, rfl, hb, hcc⟩ := hc i (.bool s) (by rw [List.getElem?_map, hi]; rfl)
  exact ⟨b, off, rfl, hb, hcc⟩

theorem passed_any (pv : Value) (hpv : ∃ po, pv = .pointer po) (f : ByteArray → Bool) (L : List ByteArray) (a : Option Addr) (c : Nat) (w : World) (hL : StrsAt w.heap.size w a L) (hl : L.length ≤ 4096)
    (hf : ∀ W q, Ext w W → q ∈ L → Calls Tryz.prog 101 #[pv, .string q] W fun e w' => e = .returned (.bool (f q)) ∧ Ext W w') :
    Calls Tryz.prog 39 #[pv, .slice a L.length c] w fun e w' => ∃ b d, e = .returned (.slice b L.length d) ∧ BoolsAt w'.heap.size w' b (L.map f) ∧ Ext w w' := by
  obtain ⟨po, rfl⟩ := hpv
  have HL := Lib.hid hL
  have HF := Lib.hid hf
  clear hL hf
  go_enter Tryz.func39, Tryz.ntmps39
  go_wp2
  go_loopw [5, 6] (fun lv i wr => ∃ k : Nat, k ≤ L.length ∧ i = .int .i64 k ∧ Hid (wr.ownsRow w.heap.size 4 1 lv k (((L.take k).map f).map .bool)) ∧ Ext w wr) (fun _ i _ => L.length - (intOf i).toNat)
  case atStart => exact ⟨0, Nat.zero_le _, rfl, ⟨rfl, .inl ⟨rfl, rfl⟩⟩, Ext.refl _⟩
  case round =>
    obtain ⟨k, hk, rfl, HO, hE⟩ := hrel
    by_cases hlt : k < L.length
    · obtain ⟨b, off, rfl, hb, hc⟩ := HL.out k L[k] (List.getElem?_eq_getElem hlt)
      have htk : ((L.take (k + 1)).map f).map Value.bool = ((L.take k).map f).map .bool ++ [.bool (f L[k])] := by
        rw [List.take_succ_eq_append_getElem hlt, List.map_append, List.map_append]; rfl
      generalize ((L.take k).map f).map Value.bool = xs at HO htk
      have hmem := List.getElem_mem hlt
      have hcr := (hE.cell (p := ⟨b, off + k, none⟩) hb).trans hc
      generalize L[k] = q at *
      have CF := Lib.hid (HF.out wr q hE hmem)
      have HTK := Lib.hid htk
      have HE := Lib.hid hE
      clear hc hE htk hmem
      generalize f q = fq at *
      go_wp2_with fail
      refine CF.out.mono ?_
      rintro e W5 ⟨rfl, hE5⟩
      have hE5 : Ext wr W5 := hE5
      have HO5 : Hid (W5.ownsRow w.heap.size 4 1 u5 k xs) := World.ownsRow.kept HO.out (grown_of_ext hE5 none) (Classical.em _)
      have HE5 := Lib.hid (HE.out.trans hE5)
      have hz5 : w.heap.size ≤ W5.heap.size := HE5.out.size
      clear CF hE5 hcr
      go_wp2_with (at_builtin; refine wpList_append_b rfl (.tmp 13) (.tmp 20) rfl w.heap.size k _ _ HO5.out hz5 fq (by omega) rfl rfl ?_)
      intro v' W6 hO6 hE6
      have HO6 := Lib.hid hO6
      have HE6 := Lib.hid (hE6 w HE5.out (Nat.le_refl _))
      clear hO6 hE6
      go_wp2
      go_roundw
      case rel => exact ⟨k + 1, by omega, by go_num, by unfold Hid; rw [HTK.out]; exact HO6.out, HE6.out⟩
      case measure => simp [intOf]; omega
    · obtain rfl : k = L.length := by omega
      have hO := HO.out
      rw [List.take_length] at hO
      obtain ⟨b, d, rfl, hB⟩ := BoolsAt.of_own (L := L.map f) (by rw [List.length_map]; exact hO)
      rw [List.length_map]
      have HFIN := Lib.hid (And.intro hB hE)
      clear hO hB hE HO
      go_wp2
      go_ret
      exact ⟨_, _, rfl, HFIN.out⟩
end Go.Proofs.YtamolbegmkngdaaGreatDoor
namespace Go.Proofs.YtamolbegmkngdaaGreatDoor
open Go.RowKit Go.Sort
set_option maxHeartbeats 2000000
set_option maxRecDepth 100000

theorem weigh_more (S : Nat → Prop) (w : World) (bt : Nat) (M : List (Key × Nd)) (N : Nat) (hT : TreeAt S w bt M N) (hc : Clo M) (s : ByteArray) (hs : s.size ≤ maxLen) (hN : M.length ≤ 4398046511104) :
    Calls Tryz.prog 60 #[.pointer (some ⟨bt, 0, none⟩), .string s] w (WeighOut M s w) := by
  have C1 := Lib.hid (under_any S w bt M N hT hc s hs (by omega))
  have HT := Lib.hid hT
  have hM := hT.ok
  clear hT
  go_enter Tryz.func60, Tryz.ntmps60
  go_wp2_with fail
  refine C1.out.mono ?_
  rintro e w1 ⟨v, rfl, hrow, hnil, hE1⟩
  clear C1
  obtain ⟨sa, sc, rfl, hcs⟩ := ownsRow_cells hrow
  cases hg : mget M s.data.toList with
  | none =>
    have hfin : WeighOut M s w (.returned (.tuple #[.int .i64 0, .int .i64 0, .int .i64 70])) w1 := ⟨by rw [hg]; rfl, hE1⟩
    have HFIN := Lib.hid hfin
    have e0 : (UndL M s).length = 0 := by rw [UndL_none hg]; rfl
    rw [e0] at *
    clear hfin hg hrow hnil hE1 hcs
    go_wp2
    go_ret3
    exact HFIN.out
  | some y =>
    have hU := UndL_some hg
    have hpos := und_self_mem hM hg
    rw [hU] at hcs
    rw [hU]
    generalize hks : undK M s = ks at *
    have hkl : ks.length ≤ M.length := by rw [← hks]; exact undK_length_le M s
    have hkey : ∀ k ∈ ks, k.length ≤ maxLen := fun k hk => by
      rw [← hks] at hk
      unfold undK at hk
      obtain ⟨x, hx, rfl⟩ := List.mem_map.1 hk
      have hxM := (List.mem_filter.1 hx).1
      have h1 := hM.key x hxM
      have h2 := (vpath_facts (right_vpath (hM.right x hxM))).2.1
      rw [h1]
      unfold keyN maxLen
      rw [size_list]; omega
    have hfin : WeighOut M s w (.returned (.tuple #[.int .i64 ks.length, .int .i64 (bytesK M ks), .int .i64 0])) w1 := ⟨by rw [hg, hks]; rfl, hE1⟩
    have HFIN := Lib.hid hfin
    have HCS := Lib.hid hcs
    have HKEY := Lib.hid hkey
    have hT1 := HT.out.ext hE1
    have HT1 := Lib.hid hT1
    have hlp : ¬ ks.length = 0 := by omega
    have hlb : ((ks.length : Int) == 0) = false := by simp; exact fun e => hlp (by rw [e]; rfl)
    have hl64 : ks.length ≤ 9223372036854775807 := by omega
    clear hfin hg hrow hnil hE1 hcs hkey hT1 hks HT hU hpos
    go_wp2
    go_loopw [8, 19] (fun sm i wr => ∃ k : Nat, k ≤ ks.length ∧ i = .int .i64 k ∧ sm = .int .i64 (bytesK M (ks.take k)) ∧ wr = w1) (fun _ i _ => ks.length - (intOf i).toNat)
    case atStart => exact ⟨0, Nat.zero_le _, rfl, rfl, rfl⟩
    case round =>
      obtain ⟨k, hk, rfl, rfl, rfl⟩ := hrel
      by_cases hlt : k < ks.length
      · obtain ⟨b, off, rfl, hb, hc⟩ := HCS.out k (encStr ks[k]) (by rw [List.getElem?_map, List.getElem?_eq_getElem hlt]; rfl)
        have hkz : (⟨ks[k].toArray⟩ : ByteArray).size ≤ maxLen := by
          have := HKEY.out ks[k] (List.getElem_mem hlt)
          rw [← size_list]; simpa using this
        obtain ⟨bn, bk, K, hd, hNd, hKd⟩ := HT1.out
        have hx := TreeAt.box hd
        obtain ⟨vv, hvv, _, hq⟩ := hNd.look' ⟨ks[k].toArray⟩ hkz
        rw [key_back] at hvv
        have hsucc := bytesK_succ M ks k hlt
        have hle1 := bytesK_le hM (ks.take k)
        have hle2 := data_le hM ks[k]
        have hln : (ks.take k).length ≤ ks.length := by simp; omega
        obtain ⟨ea, ec, fa, fc, rfl, _⟩ := hvv
        generalize (mget M ks[k]).getD zeroN = n at *
        have HSC := Lib.hid hsucc
        have hb1 : (0 : Int) ≤ (bytesK M (ks.take k) : Int) + (n.data.length : Int) := by omega
        have hb2 : (bytesK M (ks.take k) : Int) + (n.data.length : Int) < 9223372036854775808 := by omega
        unfold Box treeC at hx
        unfold ndC at hq
        clear hd hNd hKd hsucc
        go_wp2_with (refine wpList_field rfl 47 (.tmp 29) 1 rfl _ rfl (.slice ea n.data.length ec) field_data ?_)
        go_roundw
        case rel => exact ⟨k + 1, by omega, by go_num, by rw [HSC.out]; push_cast; go_num, by first | rfl | trivial⟩
        case measure => simp [intOf]; omega
      · obtain rfl : k = ks.length := by omega
        rw [List.take_length]
        go_wp2
        go_ret3
        exact HFIN.out

theorem WeighsM.of_more {S : Nat → Prop} {w : World} {bt : Nat} {M : List (Key × Nd)} {N : Nat} (hT : TreeAt S w bt M N) (hc : Clo M) (hl : M.length ≤ 4398046511104) : WeighsM (.pointer (some ⟨bt, 0, none⟩)) M w := fun W n hE hg => by
  have hp := (right_fit (hT.ok.at hg).2).1.path
  refine (weigh_more S W bt M N (hT.ext hE) hc n.path (by unfold maxLen; omega) hl).mono fun e w' h => ?_
  obtain ⟨rfl, h2⟩ := h
  rw [hg]
  exact ⟨rfl, h2⟩
end Go.Proofs.YtamolbegmkngdaaGreatDoor
namespace Go.Proofs.YtamolbegmkngdaaGreatDoor
open Go.ChangeShapes Go.WideShapes Go.ChangeAt Go.RowKit Go.Deep
set_option maxHeartbeats 2000000
set_option maxRecDepth 100000

theorem Tryz.cells_change : Tryz.prog.cellsOf 73 = 19 := by kernel_rfl
theorem Tryz.bytes_change : Tryz.prog.bytesOf 73 = 184 := by kernel_rfl
theorem Tryz.cells_int : Tryz.prog.cellsOf 3 = 1 := by kernel_rfl

/-- A change: its kind, its node, its last flag. -/
structure Cg where
  k : Int
  n : Nd
  p : Bool
instance : Inhabited Cg := ⟨⟨0, zeroN, false⟩⟩
def chC (k : Int) (n : Nd) (p : Bool) (d a : Value) : Array Value :=
  #[.int .i64 k, .string n.path, d, a, .int .i64 n.owner, .int .i64 n.czxid, .int .i64 n.mzxid, .int .i64 n.pzxid, .int .i64 n.azxid, .int .i64 n.qzxid, .int .i64 n.ctime, .int .i64 n.mtime, .int .i32 n.version, .int .i32 n.creates, .int .i32 n.aversion, .bool n.has, .int .i64 n.count, .int .i64 n.bytes, .bool p]

/-- A slice that shows these changes. -/
def CgsAt (B : Nat) (w : World) (a : Option Addr) (L : List Cg) : Prop := ∀ i c, L[i]? = some c → ∃ b off da dc aa ac, a = some ⟨b, off, none⟩ ∧ b < B ∧ Cells B w da (c.n.data.map u8v) ∧ Cells B w aa (acCs c.n.acl) ∧
  ∀ r u, (chC c.k c.n c.p (.slice da c.n.data.length dc) (.slice aa c.n.acl.length ac))[r]? = some u → w.cell? ⟨b, off + i * 19 + r, none⟩ = some u

section
variable {H : Type} {enc : TypeId × Value → H} {w : World} {fuel : Nat}
theorem open_change {n : Nat} {cs : List Value} {y : DataW H × List MemPlace} (h : DataW.trod enc Tryz.prog w 0 (fun _ => true) true n 73 cs = some y) (hz : Light 73 y.1) :
    ∃ (c : Cg) (da aa : Option Addr) (dc ac : Nat), cs = (chC c.k c.n c.p (.slice da c.n.data.length dc) (.slice aa c.n.acl.length ac)).toList ∧ (Fit c.n ∧ Ir c.n) ∧ Cells w.heap.size w da (c.n.data.map u8v) ∧ Cells w.heap.size w aa (acCs c.n.acl) := by
  obtain ⟨y0, y1, y2, m, rfl, hl, h0, h1, h2⟩ := trod_struct3 Tryz.underlying73 h
  rw [Tryz.cells_change] at hl
  match cs, hl with
  | [c0, c1, c2, c3, c4, c5, c6, c7, c8, c9, c10, c11, c12, c13, c14, c15, c16, c17, c18], _ =>
    simp only [Tryz.cells_int, Tryz.cells_node, Tryz.cells_bool, List.drop_succ_cons, List.drop_zero, List.take_succ_cons, List.take_zero] at h0 h1 h2
    obtain ⟨k, e0, _, _⟩ := DataW.trod_int Tryz.underlying3 h0
    have e2 := DataW.trod_bool Tryz.underlying4 h2
    obtain ⟨p, e2, _⟩ := e2
    have q1 : Light 47 y1.1 := light_agg Tryz.underlying73 hz (j := 1) rfl rfl
    obtain ⟨nd, da, aa, dc, ac, he, hf, hD, hA⟩ := open_node h1 q1
    rw [he] at h1
    have hr := node_rng h1
    refine ⟨⟨k, nd, p⟩, da, aa, dc, ac, ?_, ⟨hf, hr⟩, hD, hA⟩
    have hcs : [c0, c1, c2, c3, c4, c5, c6, c7, c8, c9, c10, c11, c12, c13, c14, c15, c16, c17, c18] = [c0] ++ ([c1, c2, c3, c4, c5, c6, c7, c8, c9, c10, c11, c12, c13, c14, c15, c16, c17] ++ [c18]) := rfl
    rw [hcs, he, e0, e2]
    rfl

/-- A slice of changes, opened. -/
theorem open_changes {v : Value} {x : DataW H × List MemPlace} (h : DataW.trod enc Tryz.prog w 0 (fun _ => true) true fuel 71 [v] = some x) (hz : Light 71 x.1) :
    ∃ (l : List Cg) (a : Option Addr) (cap : Nat), v = .slice a l.length cap ∧ l.length * 184 ≤ 140737488355328 ∧ (∀ c ∈ l, Fit c.n ∧ Ir c.n) ∧ CgsAt w.heap.size w a l := by
  rcases open_slice Tryz.underlying71 h with ⟨hcs, rfl⟩ | ⟨a, len, cap, m, n, D, Pl, hcs, _, hl, hm, hmm, rfl, hx⟩
  · simp only [List.cons.injEq, and_true] at hcs
    subst hcs
    exact ⟨[], none, 0, rfl, by simp, by simp, fun i n h => (by simp at h)⟩
  · simp only [List.cons.injEq, and_true] at hcs
    subst hcs
    simp only [if_true] at hmm
    subst hmm
    have hw := light_len Tryz.underlying71 hz
    rw [Tryz.bytes_change] at hw
    simp only [List.length_map, List.length_range] at hw
    obtain ⟨X, hX⟩ := choose_lt (n := len) (p := fun i (c : Cg) => ∃ (da aa : Option Addr) (dc ac : Nat), (Cells w.heap.size w da (c.n.data.map u8v) ∧ Cells w.heap.size w aa (acCs c.n.acl)) ∧ (∀ r u, (chC c.k c.n c.p (.slice da c.n.data.length dc) (.slice aa c.n.acl.length ac))[r]? = some u → w.cell? ((a.add (i * 19)).add r) = some u) ∧ (Fit c.n ∧ Ir c.n)) fun i hi => by
      obtain ⟨cs', h1, h2⟩ := hx i (by omega)
      obtain ⟨c, da, aa, dc, ac, rfl, hf, hD, hA⟩ := open_change h2 (light_elem Tryz.underlying71 hz (List.mem_map.2 ⟨i, List.mem_range.2 hi, rfl⟩))
      rw [Tryz.cells_change] at h1
      obtain ⟨_, _, h3⟩ := World.cells?_some h1
      refine ⟨c, da, aa, dc, ac, ⟨hD, hA⟩, fun r u hr => ?_, hf⟩
      rw [h3 r (by have := (Array.getElem?_eq_some_iff.1 hr).1; simpa [chC] using this)]
      simpa using hr
    refine ⟨(List.range len).map X, some a, m, by simp, by simp; omega, fun x hx' => ?_, fun j n hj => ?_⟩
    · obtain ⟨i, hi, rfl⟩ := List.mem_map.1 hx'
      obtain ⟨_, _, _, _, _, _, h⟩ := hX i (List.mem_range.1 hi)
      exact h
    · simp only [List.getElem?_map] at hj
      by_cases hi : j < len
      · rw [List.getElem?_range hi] at hj
        simp only [Option.map_some, Option.some.injEq] at hj
        subst hj
        obtain ⟨da, aa, dc, ac, ⟨hD, hA⟩, hc, _⟩ := hX j hi
        obtain ⟨_, _, _, _, _, hc00, _⟩ := hX 0 (by omega)
        have hc0 := hc00 0 _ rfl
        have hsp := World.cell?_spot hc0
        have hlt := World.block_lt_of_cell? _ _ hc0
        obtain ⟨b, off, sp⟩ := a
        obtain rfl : sp = none := by simpa [Addr.add] using hsp
        refine ⟨b, off, da, dc, aa, ac, rfl, by simpa [Addr.add] using hlt, hD, hA, fun r u hr => ?_⟩
        have := hc r u hr
        rw [add_plain, add_plain] at this
        rw [← this]
      · rw [List.getElem?_eq_none (by simp; omega)] at hj
        simp at hj
end
end Go.Proofs.YtamolbegmkngdaaGreatDoor
namespace Go.Proofs.YtamolbegmkngdaaGreatDoor
open Go.RowKit Go.Sort
set_option maxHeartbeats 2000000
set_option maxRecDepth 100000

/-- The tree between two changes. -/
structure GAt (B : Nat) (w wr : World) (bt K : Nat) (M : List (Key × Nd)) : Prop where
  tree : TreeAt (fun k => B ≤ k ∧ k < wr.heap.size) wr bt M K
  well : Well K M
  bel : Below B w wr
theorem GAt.ext {B : Nat} {w wr X : World} {bt K : Nat} {M : List (Key × Nd)} (h : GAt B w wr bt K M) (hE : Ext wr X) (hB : B ≤ wr.heap.size) : GAt B w X bt K M :=
  ⟨(h.tree.ext hE).keep (fun _ _ => rfl) (fun k hk => ⟨hk.1, Nat.lt_of_lt_of_le hk.2 hE.size⟩) (fun k hk => hk.2) (Nat.le_refl _), h.well, h.bel.trans (hE.mono hB)⟩
theorem GAt.more {B : Nat} {w wr : World} {bt K K' : Nat} {M : List (Key × Nd)} (h : GAt B w wr bt K M) (hk : K ≤ K') : GAt B w wr bt K' M :=
  ⟨h.tree.keep (fun _ _ => rfl) (fun _ h => h) (fun k hk => hk.2) hk, h.well.more hk, h.bel⟩
theorem GAt.step {B : Nat} {w X X' : World} {bt K N' : Nat} {M M' : List (Key × Nd)} {v : Value} {e : Ending} (h : GAt B w X bt K M) (hB : B ≤ X.heap.size) (hT : TreeTo (fun k => B ≤ k ∧ k < X.heap.size) X bt M' N' v e X') (hN : N' ≤ K + 1) (hW : Well (K + 1) M') : GAt B w X' bt (K + 1) M' := by
  obtain ⟨_, h2, h3⟩ := hT
  refine ⟨h2.keep (fun _ _ => rfl) (fun k hk => ⟨?_, h2.bound k hk⟩) (fun k hk => hk.2) hN, hW, h.bel.trans (h3.below (fun k hk => hk.1) hB)⟩
  rcases hk with hk | hk
  · exact hk.1
  · exact Nat.le_trans hB hk.1
theorem StrsAt.mod {S : Nat → Prop} {w w' : World} {a : Option Addr} {L : List ByteArray} (h : StrsAt w.heap.size w a L) (hM : Mod S w w') : StrsAt w'.heap.size w' a L := fun i s hi => by
  obtain ⟨b, off, e, hb, hc⟩ := h i s hi
  exact ⟨b, off, e, Nat.lt_of_lt_of_le hb hM.size, hM.cell hc⟩
theorem BoolsAt.mod {S : Nat → Prop} {w w' : World} {a : Option Addr} {L : List Bool} (h : BoolsAt w.heap.size w a L) (hM : Mod S w w') : BoolsAt w'.heap.size w' a L := fun i s hi => by
  obtain ⟨b, off, e, hb, hc⟩ := h i s hi
  exact ⟨b, off, e, Nat.lt_of_lt_of_le hb hM.size, hM.cell hc⟩

def zeroCh : Array Value := #[.int .i64 0, .string ⟨#[]⟩, .slice none 0 0, .slice none 0 0, .int .i64 0, .int .i64 0, .int .i64 0, .int .i64 0, .int .i64 0, .int .i64 0, .int .i64 0, .int .i64 0, .int .i32 0, .int .i32 0, .int .i32 0, .bool false, .int .i64 0, .int .i64 0, .bool false]
theorem sizeCh : (Tryz.prog.info? 73).map (·.size) = some 19 := by kernel_rfl
theorem sizeQuota : (Tryz.prog.info? 45).map (·.size) = some 3 := by kernel_rfl
theorem cells_ch (k : Int) (n : Nd) (p : Bool) (d a : Option Addr) (l l' c c' : Nat) : (chC k n p (.slice d l c) (.slice a l' c')).all (·.oneCell') = true := by
  simp [chC, Value.oneCell']
theorem ch_nd {k : Int} {n : Nd} {p : Bool} {d a : Value} {j : Nat} {u : Value} (h : (ndC n d a)[j]? = some u) : (chC k n p d a)[1 + j]? = some u := by
  have hj := (Array.getElem?_eq_some_iff.1 h).1
  have hj : j < 17 := hj
  rw [Nat.add_comm]
  match j, hj with
  | 0, _ | 1, _ | 2, _ | 3, _ | 4, _ | 5, _ | 6, _ | 7, _ | 8, _ | 9, _ | 10, _ | 11, _ | 12, _ | 13, _ | 14, _ | 15, _ | 16, _ => exact h
/-- A node with another quota. -/
def quoted (n : Nd) (h : Bool) (c b : Int) : Nd := { n with has := h, count := c, bytes := b }
theorem quoted_fit {n : Nd} (hf : Fit n) (h : Bool) (c b : Int) : Fit (quoted n h c b) := ⟨hf.path, hf.data, hf.acl, hf.texts⟩
theorem quoted_ir {n : Nd} (hi : Ir n) {h : Bool} {c b : Int} (hc : (Lit.int .i64 c).wf = true) (hb : (Lit.int .i64 b).wf = true) : Ir (quoted n h c b) := by
  refine ⟨fun z hz => ?_, hi.2⟩
  have h1 := hi.1
  simp only [quoted, List.mem_cons, List.not_mem_nil, or_false] at hz
  simp only [List.mem_cons, List.not_mem_nil, or_false, forall_eq_or_imp, forall_eq] at h1
  obtain ⟨h1, h2, h3, h4, h5, h6, h7, h8, _, _⟩ := h1
  rcases hz with rfl | rfl | rfl | rfl | rfl | rfl | rfl | rfl | rfl | rfl <;> assumption

/-- What Exceeds, Over and passed answer about the growing tree. -/
theorem gexc {B : Nat} {w X : World} {bt K : Nat} {M : List (Key × Nd)} (h : GAt B w X bt K M) (hK : K ≤ 4398046511104) (s : ByteArray) (hs : s.size ≤ 9223372036854775800) (dn db : Int) :
    Calls Tryz.prog 19 #[.pointer (some ⟨bt, 0, none⟩), .string s, .int .i64 dn, .int .i64 db] X fun e w' => e = .returned (.tuple #[.string (excP (firstO M s dn db)), .bool (firstO M s dn db).isSome]) ∧ Ext X w' :=
  (qExceeds_any _ ⟨_, rfl⟩ M X h.tree.ok (GetsM.of_tree h.tree) (WeighsM.of_more h.tree h.well.clo (Nat.le_trans h.well.len hK)) s hs dn db).mono fun _ _ h => exc_out h
theorem gover {B : Nat} {w X : World} {bt K : Nat} {M : List (Key × Nd)} (h : GAt B w X bt K M) (s : ByteArray) (hs : s.size ≤ 9223372036854775800) :
    Calls Tryz.prog 20 #[.pointer (some ⟨bt, 0, none⟩), .string s] X fun e w' => ∃ a c, e = .returned (.slice a ((overL M s).map (·.path)).length c) ∧ StrsAt w'.heap.size w' a ((overL M s).map (·.path)) ∧ Ext X w' :=
  (qOver_any _ M X h.tree.ok (GetsM.of_tree h.tree) s hs).mono fun _ _ h => texts_out h
theorem gpassed {B : Nat} {w X : World} {bt K : Nat} {M : List (Key × Nd)} (h : GAt B w X bt K M) (hK : K ≤ 4398046511104) (L : List ByteArray) (a : Option Addr) (c : Nat) (hL : StrsAt X.heap.size X a L) (hl : L.length ≤ 4096) (hs : ∀ q ∈ L, q.size ≤ 9223372036854775800) :
    Calls Tryz.prog 39 #[.pointer (some ⟨bt, 0, none⟩), .slice a L.length c] X fun e w' => ∃ b d, e = .returned (.slice b L.length d) ∧ BoolsAt w'.heap.size w' b (L.map (passedB M)) ∧ Ext X w' :=
  passed_any _ ⟨_, rfl⟩ (passedB M) L a c X hL hl fun W q hE hq => pover_any _ ⟨_, rfl⟩ M W h.tree.ok (GetsM.of_tree (h.tree.ext hE)) (WeighsM.of_more (h.tree.ext hE) h.well.clo (Nat.le_trans h.well.len hK)) q (hs q hq)
theorem over_sizes {M : List (Key × Nd)} (hM : MOk M) (s : ByteArray) : ∀ q ∈ (overL M s).map (·.path), q.size ≤ 9223372036854775800 := fun q hq => by
  obtain ⟨n, hn, rfl⟩ := List.mem_map.1 hq
  exact (overL_fit hM hn).path
end Go.Proofs.YtamolbegmkngdaaGreatDoor
namespace Go.Proofs.YtamolbegmkngdaaGreatDoor
open Go.RowKit
theorem fromN_mem {L : List Nd} {M : List (Key × Nd)} (hfr : fromN L = .ok M) : ∀ x ∈ M, x.2 ∈ L := by
  intro x hx
  unfold fromN at hfr
  cases hf : fromL L 0 [] with
  | error e => rw [hf] at hfr; cases hfr
  | ok M1 =>
    rw [hf] at hfr
    simp only at hfr
    split at hfr
    · cases hfr
    cases hp : parL M1 L 0 with
    | error e => rw [hp] at hfr; cases hfr
    | ok u =>
      rw [hp] at hfr
      simp only [Except.ok.injEq] at hfr
      subst hfr
      rcases fromL_mem L 0 [] M1 hf x hx with h | h
      · simp at h
      · exact h
end Go.Proofs.YtamolbegmkngdaaGreatDoor
