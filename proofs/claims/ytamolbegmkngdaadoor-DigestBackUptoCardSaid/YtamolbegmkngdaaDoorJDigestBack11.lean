/- Plain laws for DigestBack: a tree's number behind an add, a put, a removal; a tree's nodes from behind are the same tree; what the loop keeps. A region that draws its order, whose operations' values are either told or have a property that new memory leaves. A region that draws its order and ends in a call that may turn what it likes; rows of one node. The document's tree, plainly: a list of nodes in order; where a path stands in it. A row of the call's own that shows nodes that were cloned for it; how it grows by one. A node put into a new box. The walks of a book's functions: NewBook, Note, Len. The walk of layer 9's alive; the first note in a book. The walk of layer 9's alive. -/
import Derived.Test.YtamolbegmkngdaaDoorJDigestBack8
import Derived.Test.YtamolbegmkngdaaDoorJDigestBack9
import Derived.Test.YtamolbegmkngdaaDoorJDigestBack6
import Derived.Test.YtamolbegmkngdaaDoorJDigestBack10
import Derived.Test.YtamolbegmkngdaaDoorJDigestBack5
namespace Go.Proofs.YtamolbegmkngdaaDoor
open Go.RowKit
set_option maxHeartbeats 2000000

theorem mget_mput_same_b {α : Type} {M : List (Key × α)} (hs : MSorted M) (k : Key) (v : α) : mget (mput M k v) k = some v := mget_of_mem (mput_sorted hs k v) (mem_mput.2 (.inl rfl))
theorem mget_mput_other_b {α : Type} {M : List (Key × α)} (hs : MSorted M) {k k' : Key} (v : α) (h : k' ≠ k) : mget (mput M k v) k' = mget M k' := by
  cases hg : mget M k' with
  | some u => exact mget_of_mem (mput_sorted hs k v) (mem_mput.2 (.inr ⟨mget_some_mem hg, h⟩))
  | none =>
    refine mget_none_of fun x hx e => ?_
    rcases mem_mput.1 hx with rfl | ⟨h1, _⟩
    · exact h e.symm
    · exact mget_none hg x h1 e
theorem mget_mdel_same_b {α : Type} (M : List (Key × α)) (k : Key) : mget (mdel M k) k = none := mget_none_of fun x hx => (mem_mdel.1 hx).2
theorem mget_mdel_other_b {α : Type} {M : List (Key × α)} (hs : MSorted M) {k k' : Key} (h : k' ≠ k) : mget (mdel M k) k' = mget M k' := by
  cases hg : mget M k' with
  | some u => exact mget_of_mem (mdel_sorted hs k) (mem_mdel.2 ⟨mget_some_mem hg, h⟩)
  | none => exact mget_none_of fun x hx => mget_none hg x (mem_mdel.1 hx).1
theorem mdel_back_b {α : Type} {M : List (Key × α)} (hs : MSorted M) {k : Key} {v : α} (hg : mget M k = some v) : M = mins (k, v) (mdel M k) := by
  have h : mput M k v = M := mem_ext_sorted (mput_sorted hs k v) hs fun x => by
    rw [mem_mput]
    constructor
    · rintro (rfl | ⟨h, _⟩)
      · exact mget_some_mem hg
      · exact h
    · intro hx
      by_cases e : x.1 = k
      · refine .inl ?_
        have h1 : mget M x.1 = some x.2 := mget_of_mem hs hx
        rw [e, hg] at h1
        exact Prod.ext e (Option.some.inj h1).symm
      · exact .inr ⟨hx, e⟩
  exact h.symm

theorem fromN_mem_b {L : List Nd} {M : List (Key × Nd)} (hfr : fromN L = .ok M) : ∀ x ∈ M, x.2 ∈ L := by
  intro x hx
  unfold fromN at hfr
  cases hf : fromL L 0 [] with
  | error e => rw [hf] at hfr; cases hfr
  | ok M1 =>
    rw [hf] at hfr
    simp only at hfr
    split at hfr
    · cases hfr
    cases hp : parL M1 L 0 with
    | error e => rw [hp] at hfr; cases hfr
    | ok u =>
      rw [hp] at hfr
      simp only [Except.ok.injEq] at hfr
      subst hfr
      rcases fromL_mem L 0 [] M1 hf x hx with h | h
      · simp at h
      · exact h
/-- What the growing tree's nodes keep. -/
structure WellB (K : Nat) (M : List (Key × Nd)) : Prop where
  clo : Clo M
  len : M.length ≤ K
theorem WellB.more {K K' : Nat} {M : List (Key × Nd)} (h : WellB K M) (hk : K ≤ K') : WellB K' M := ⟨h.clo, Nat.le_trans h.len hk⟩
theorem mdel_len_b {α : Type} (M : List (Key × α)) (k : Key) : (mdel M k).length ≤ M.length := List.length_filter_le _ _
theorem mput_len_b {α : Type} (M : List (Key × α)) (k : Key) (v : α) : (mput M k v).length ≤ M.length + 1 := by
  unfold mput
  rw [mins_length]
  have := mdel_len_b M k
  omega
theorem wellb_add {K : Nat} {M : List (Key × Nd)} {n : Nd} (hM : MOk M) (h : WellB K M) : WellB (K + 1) (addM M n) := by
  unfold addM
  split
  · rename_i he
    unfold addE at he
    split at he
    · rename_i h1; exact absurd he h1
    split at he
    · cases he
    split at he
    · cases he
    rename_i hr hno hp
    have hno' : mget M (keyN n) = none := by simpa using hno
    obtain ⟨hp1, hp2⟩ := not_or.1 hp
    obtain ⟨y, hy⟩ := Option.ne_none_iff_exists'.1 hp2
    have hyp : y.path = parentB n.path := (ba_ext (hM.at hy).1).symm
    have keep : ∀ z ∈ M, z ∈ mput M (keyN n) n := fun z hz => mem_mput.2 (.inr ⟨hz, mget_none hno' z hz⟩)
    refine ⟨fun x hx hs => ?_, Nat.le_trans (mput_len_b _ _ _) (Nat.succ_le_succ h.len)⟩
    rcases mem_mput.1 hx with rfl | ⟨h1, _⟩
    · exact ⟨_, keep _ (mget_some_mem hy), hyp⟩
    · obtain ⟨z, hz, e⟩ := h.clo x h1 hs
      exact ⟨z, keep z hz, e⟩
  · exact h.more (by omega)

theorem wellb_put {K : Nat} {M : List (Key × Nd)} {n : Nd} (hM : MOk M) (h : WellB K M) : WellB (K + 1) (putM M n) := by
  unfold putM
  split
  · rename_i he
    unfold putE at he
    split at he
    · rename_i h1; exact absurd he h1
    split at he
    rotate_left
    · cases he
    rename_i hr hy0
    obtain ⟨y, hy⟩ := Option.isSome_iff_exists.1 hy0
    have hyp : y.path = n.path := keyN_inj (hM.at hy).1.symm
    have keep : ∀ p, (∃ z ∈ M, z.2.path = p) → ∃ z ∈ mput M (keyN n) n, z.2.path = p := by
      rintro p ⟨z, hz, e⟩
      by_cases hk : z.1 = keyN n
      · refine ⟨(keyN n, n), mem_mput.2 (.inl rfl), ?_⟩
        have := keyN_inj ((hM.key z hz).symm.trans hk)
        rw [← e, this]
      · exact ⟨z, mem_mput.2 (.inr ⟨hz, hk⟩), e⟩
    refine ⟨fun x hx hs => ?_, Nat.le_trans (mput_len_b _ _ _) (Nat.succ_le_succ h.len)⟩
    rcases mem_mput.1 hx with rfl | ⟨h1, _⟩
    · refine keep _ ?_
      have := h.clo _ (mget_some_mem hy) (by show y.path.size ≠ 1; rw [hyp]; exact hs)
      rw [show (keyN n, y).2.path = n.path from hyp] at this
      exact this
    · exact keep _ (h.clo x h1 hs)
  · exact h.more (by omega)

theorem wellb_rem {K : Nat} {M : List (Key × Nd)} {s : ByteArray} (hM : MOk M) (h : WellB K M) : WellB (K + 1) (remM M s) := by
  unfold remM
  split
  · rename_i he
    unfold remE at he
    split at he
    · cases he
    split at he
    · cases he
    split at he
    · cases he
    rename_i hv hg hk
    have hk0 : kidsOf M s = [] := List.eq_nil_of_length_eq_zero (by simpa using hk)
    refine ⟨fun x hx hs => ?_, Nat.le_trans (mdel_len_b _ _) (by have := h.len; omega)⟩
    obtain ⟨h1, _⟩ := mem_mdel.1 hx
    obtain ⟨z, hz, e⟩ := h.clo x h1 hs
    refine ⟨z, mem_mdel.2 ⟨hz, fun hzk => ?_⟩, e⟩
    have hzs : z.2.path = s := ba_ext ((hM.key z hz).symm.trans hzk)
    have : (nameK x.2, Value.agg #[]) ∈ kidsOf M s := mem_kids.2 ⟨x, h1, by
      unfold childOf
      rw [Bool.and_eq_true]
      exact ⟨by simpa using hs, by rw [← hzs, e]; exact beq_self_eq_true _⟩, rfl⟩
    rw [hk0] at this
    simp at this
  · exact h.more (by omega)
theorem sumI_mins (x : Key × Nd) : ∀ m : List (Key × Nd), sumI ((mins x m).map (·.2)) = sumI (m.map (·.2)) + nodeN x.2
  | [] => by
    show nodeN x.2 + sumI [] = sumI [] + nodeN x.2
    omega
  | y :: m => by
    show sumI ((if bytesBefore x.1 y.1 = true then x :: y :: m else y :: mins x m).map (·.2)) = nodeN y.2 + sumI (m.map (·.2)) + nodeN x.2
    split
    · show nodeN x.2 + (nodeN y.2 + sumI (m.map (·.2))) = _
      omega
    · show nodeN y.2 + sumI ((mins x m).map (·.2)) = _
      rw [sumI_mins x m]
      omega
theorem sumI_put (M : List (Key × Nd)) (k : Key) (n : Nd) : sumI ((mput M k n).map (·.2)) = sumI ((mdel M k).map (·.2)) + nodeN n := sumI_mins (k, n) _
theorem sumI_del {M : List (Key × Nd)} (hs : MSorted M) {k : Key} {y : Nd} (hg : mget M k = some y) : sumI (M.map (·.2)) = sumI ((mdel M k).map (·.2)) + nodeN y := by
  conv => lhs; rw [mdel_back_b hs hg]
  exact sumI_mins (k, y) _
theorem mdel_same {M : List (Key × Nd)} {k : Key} (h : mget M k = none) : mdel M k = M :=
  List.filter_eq_self.2 fun x hx => by simpa using mget_none h x hx

/-- A tree's number. -/
def digV (M : List (Key × Nd)) : Int := addN 0 (M.map (·.2))
theorem digV_in (M : List (Key × Nd)) : 0 ≤ digV M ∧ digV M < 18446744073709551616 := addN_in _ 0 (by omega) (by omega)
theorem digV_mod (M : List (Key × Nd)) : digV M = sumI (M.map (·.2)) % 18446744073709551616 := by
  unfold digV
  rw [addN_mod _ 0 (by omega) (by omega)]
  congr 1
  omega
theorem back_turn (M : List (Key × Nd)) (A B : List Nd) : addN (subN (digV M) A) B = (sumI (M.map (·.2)) - sumI A + sumI B) % 18446744073709551616 := by
  have h := digV_in M
  have h1 := subN_in A _ h.1 h.2
  rw [addN_mod _ _ h1.1 h1.2, subN_mod _ _ h.1 h.2, digV_mod]
  omega
theorem sumI_one (n : Nd) : sumI [n] = nodeN n := by show nodeN n + 0 = _; omega
theorem back_put {M : List (Key × Nd)} (hs : MSorted M) {n y : Nd} (hg : mget M (keyN n) = some y) : addN (subN (digV M) [y]) [n] = digV (mput M (keyN n) n) := by
  rw [back_turn, digV_mod, sumI_put, sumI_del hs hg, sumI_one, sumI_one]
  congr 1
  omega
theorem back_rem {M : List (Key × Nd)} (hs : MSorted M) {k : Key} {y : Nd} (hg : mget M k = some y) : addN (subN (digV M) [y]) [] = digV (mdel M k) := by
  rw [back_turn, digV_mod, sumI_del hs hg, sumI_one]
  congr 1
  show _ - _ + 0 = _
  omega
theorem back_add {M : List (Key × Nd)} {n : Nd} (hg : mget M (keyN n) = none) : addN (subN (digV M) []) [n] = digV (mput M (keyN n) n) := by
  rw [back_turn, digV_mod, sumI_put, mdel_same hg, sumI_one]
  congr 1
  show _ - 0 + _ = _
  omega

/-- A tree's nodes from behind are the same tree. -/
theorem back_from {M : List (Key × Nd)} (hM : MOk M) (hc : Clo M) (hroot : mget M [47] ≠ none) : fromN (M.map (·.2)).reverse = .ok M := by
  have hmem : ∀ n ∈ M.map (·.2), (keyN n, n) ∈ M := fun n hn => by
    obtain ⟨x, hx, rfl⟩ := List.mem_map.1 hn
    rw [← hM.key x hx]; exact hx
  refine fromN_perm hM hc hroot (fun n hn => hmem n (List.mem_reverse.1 hn)) (fun x hx => List.mem_reverse.2 (List.mem_map.2 ⟨x, hx, rfl⟩)) ?_
  rw [List.map_reverse]
  unfold List.Nodup
  rw [List.pairwise_reverse, List.map_map, List.pairwise_map]
  refine hM.sorted.imp_of_mem fun {a b} ha hb h e => ?_
  simp only [Function.comp] at e
  rw [hM.key a ha, hM.key b hb, e] at h
  exact before_asymm h h

theorem root_put {M : List (Key × Nd)} (hs : MSorted M) (h : mget M [47] ≠ none) (k : Key) (n : Nd) : mget (mput M k n) [47] ≠ none := by
  by_cases e : ([47] : Key) = k
  · subst e; rw [mget_mput_same_b hs]; simp
  · rw [mget_mput_other_b hs n e]; exact h
theorem root_putM {M : List (Key × Nd)} (hs : MSorted M) (h : mget M [47] ≠ none) (n : Nd) : mget (putM M n) [47] ≠ none := by
  unfold putM; split
  · exact root_put hs h _ _
  · exact h
theorem root_addM {M : List (Key × Nd)} (hs : MSorted M) (h : mget M [47] ≠ none) (n : Nd) : mget (addM M n) [47] ≠ none := by
  unfold addM; split
  · exact root_put hs h _ _
  · exact h
theorem root_remM {M : List (Key × Nd)} (hs : MSorted M) (h : mget M [47] ≠ none) (s : ByteArray) : mget (remM M s) [47] ≠ none := by
  unfold remM; split
  · rename_i he
    unfold remE at he
    split at he
    · cases he
    rename_i hv
    have hv := (Decidable.not_not.1 hv).2
    rw [mget_mdel_other_b hs (fun e => hv (by rw [← size_list, ← e]; rfl))]
    exact h
  · exact h

/-- The tree and its number between two changes. -/
structure BAt (B : Nat) (w wr : World) (bt br K : Nat) (M : List (Key × Nd)) (v : Int) : Prop where
  tree : TreeAt (fun k => B ≤ k ∧ k < wr.heap.size ∧ k ≠ br) wr bt M K
  well : WellB K M
  root : mget M [47] ≠ none
  bel : Below B w wr
  run : RunAt wr br v
  own : B ≤ br
theorem BAt.ext {B : Nat} {w wr X : World} {bt br K : Nat} {M : List (Key × Nd)} {v : Int} (h : BAt B w wr bt br K M v) (hE : Ext wr X) (hB : B ≤ wr.heap.size) : BAt B w X bt br K M v :=
  ⟨(h.tree.ext hE).keep (fun _ _ => rfl) (fun k hk => ⟨hk.1, Nat.lt_of_lt_of_le hk.2.1 hE.size, hk.2.2⟩) (fun k hk => hk.2.1) (Nat.le_refl _), h.well, h.root, h.bel.trans (hE.mono hB), (hE.block br (Array.getElem?_eq_some_iff.1 h.run).1).trans h.run, h.own⟩
theorem BAt.more {B : Nat} {w wr : World} {bt br K K' : Nat} {M : List (Key × Nd)} {v : Int} (h : BAt B w wr bt br K M v) (hk : K ≤ K') : BAt B w wr bt br K' M v :=
  ⟨h.tree.keep (fun _ _ => rfl) (fun _ h => h) (fun k hk => hk.2.1) hk, h.well.more hk, h.root, h.bel, h.run, h.own⟩
theorem BAt.lt {B : Nat} {w wr : World} {bt br K : Nat} {M : List (Key × Nd)} {v : Int} (h : BAt B w wr bt br K M v) : br < wr.heap.size := (Array.getElem?_eq_some_iff.1 h.run).1
theorem BAt.step {B : Nat} {w X X' : World} {bt br K N' : Nat} {M M' : List (Key × Nd)} {r : Int} {v : Value} {e : Ending} (h : BAt B w X bt br K M r) (hB : B ≤ X.heap.size) (hT : TreeTo (fun k => B ≤ k ∧ k < X.heap.size ∧ k ≠ br) X bt M' N' v e X') (hN : N' ≤ K + 1) (hW : WellB (K + 1) M') (hr : mget M' [47] ≠ none) : BAt B w X' bt br (K + 1) M' r := by
  obtain ⟨_, h2, h3⟩ := hT
  have hlt := h.lt
  refine ⟨h2.keep (fun _ _ => rfl) (fun k hk => ⟨?_, h2.bound k hk, ?_⟩) (fun k hk => hk.2.1) hN, hW, hr, h.bel.trans (h3.below (fun k hk => hk.1) hB), h3.cells h.run, h.own⟩
  · rcases hk with hk | hk
    · exact hk.1
    · exact Nat.le_trans hB hk.1
  · rcases hk with hk | hk
    · exact hk.2.2
    · omega
theorem BAt.turn {B : Nat} {w X X' : World} {bt br K : Nat} {M : List (Key × Nd)} {v v' : Int} (h : BAt B w X bt br K M v) (hB : B ≤ X.heap.size) (hU : But br X X') (hr : RunAt X' br v') : BAt B w X' bt br K M v' :=
  ⟨h.tree.keep (fun k hk => hU.same k hk.2.1 hk.2.2) (fun k hk => ⟨hk.1, Nat.lt_of_lt_of_le hk.2.1 hU.size, hk.2.2⟩) (fun k hk => hk.2.1) (Nat.le_refl _), h.well, h.root, h.bel.trans (hU.below h.own hB), hr, h.own⟩
end Go.Proofs.YtamolbegmkngdaaDoor
namespace Go.Proofs.YtamolbegmkngdaaDoor
open Go.RowKit
inductive Sp where
  | val (v : Value)
  | prop (p : Value → World → Prop)
def Sp.ok : Sp → Value → World → Prop
  | .val x, v, _ => v = x
  | .prop p, v, w => p v w
def spP (l : List Sp) (i : Nat) (v : Value) (w : World) : Prop := match l[i]? with
  | some s => s.ok v w
  | none => False
/-- The properties stay. -/
def stayS : List Sp → Prop
  | [] => True
  | .val _ :: r => stayS r
  | .prop p :: r => (∀ v w w', p v w → Ext w w' → p v w') ∧ stayS r
theorem stayS.at : ∀ {l : List Sp}, stayS l → ∀ (i : Nat) (s : Sp), l[i]? = some s → ∀ v w w', s.ok v w → Ext w w' → s.ok v w'
  | [], _, i, s, h, _, _, _, _, _ => by simp at h
  | .val _ :: r, h, 0, s, hs, v, w, w', hv, _ => by simp at hs; subst hs; exact hv
  | .prop p :: r, h, 0, s, hs, v, w, w', hv, hE => by simp at hs; subst hs; exact h.1 v w w' hv hE
  | .val _ :: r, h, i + 1, s, hs, v, w, w', hv, hE => stayS.at (l := r) h i s (by simpa using hs) v w w' hv hE
  | .prop p :: r, h, i + 1, s, hs, v, w, w', hv, hE => stayS.at (l := r) h.2 i s (by simpa using hs) v w w' hv hE
/-- For all values that are as told. -/
def forS : List Sp → World → (List Value → Prop) → Prop
  | [], _, K => K []
  | .val v :: r, w, K => forS r w fun t => K (v :: t)
  | .prop p :: r, w, K => ∀ u, p u w → forS r w fun t => K (u :: t)
theorem forS_all : ∀ (l : List Sp) (w : World) (K : List Value → Prop), forS l w K → ∀ us : List Value, us.length = l.length → (∀ i u, us[i]? = some u → spP l i u w) → K us
  | [], w, K, h, us, hl, _ => by
    obtain rfl := List.eq_nil_of_length_eq_zero (by simpa using hl)
    exact h
  | .val v :: r, w, K, h, [], hl, _ => by simp at hl
  | .prop v :: r, w, K, h, [], hl, _ => by simp at hl
  | .val v :: r, w, K, h, u :: us, hl, hP => by
    have hu : u = v := hP 0 u rfl
    subst hu
    exact forS_all r w _ h us (by simpa using hl) fun i x hx => hP (i + 1) x (by simpa using hx)
  | .prop p :: r, w, K, h, u :: us, hl, hP => by
    have hu : p u w := hP 0 u rfl
    exact forS_all r w _ (h u hu) us (by simpa using hl) fun i x hx => hP (i + 1) x (by simpa using hx)
section
variable {P : Program} {ops : Array Oper} {Q : Exit → Act → World → Prop} {a0 : Act} {w0 : World}
theorem Ahead.pick {Φ : Nat → Value → World → Prop} {o p : Oper} {a : Act} {w : World} (h : Ahead ops Φ o a w) (j : Nat) (d : Tmp) (v : Value) (hp : ops[j]? = some p) (hd : p.dst = some d) (he : ∃ e ∈ o.after.toList, e.on = j ∧ Region.binds .any e = true) (hv : ∀ u, Φ j u w → u = v) : a.eval (.tmp d) = v :=
  hv _ (h.slot j d hp hd he)
/-- An operation whose guard says no. -/
theorem duty_no {Φ : Nat → Value → World → Prop} {i j : Nat} {b : Bool} {o p : Oper} {d : Tmp} (hg : o.guard = some (j, b)) (hp : ops[j]? = some p) (hd : p.dst = some d) (hin : d < a0.tmps.size) (he : ∃ e ∈ o.after.toList, e.on = j ∧ Region.binds .any e = true)
    (hv : ∀ v w, Φ j v w → v = .bool (!b)) (h : ∀ w, Φ i undef w) : Duty P ops Q Φ a0 w0 i o := by
  intro a w hE hF hA
  obtain ⟨e, hem, rfl, heb⟩ := he
  have hval := hv _ _ (hA e hem heb p hp)
  have : Region.wanted o (yielded ops a.tmps) = false := by
    unfold Region.wanted
    rw [hg]
    have hlt : d < a.tmps.size := by rw [hF.2.1]; exact hin
    unfold valOf at hval
    rw [hd] at hval
    simp only [Array.getD_eq_getD_getElem?, Array.getElem?_eq_getElem hlt, Option.getD_some] at hval
    cases b <;> simp [yielded, hp, hd, Array.getElem?_eq_getElem hlt, hval]
  rw [this]
  simp only [Bool.false_eq_true, if_false]
  exact h w
theorem region_sp (m : Nat) (sp : List Sp) (hst : stayS sp) (hlen : sp.length = ops.toList.length) (hchk : (dstsOk ops && aheadB ops && (ops.toList.all fun o => o.dst.any fun d => decide (d < m))) = true) (hsz : a0.tmps.size = m)
    (hd : Duties P ops Q (spP sp) a0 w0 0 ops.toList)
    (hend : ∀ w, Ext w0 w → forS sp w fun us => Q .normal (filled ops.toList us a0) w) : RegionP P ops Q a0 w0 := by
  have hall := hchk
  simp only [Bool.and_eq_true] at hall
  refine region_rel_e m Ext Ext.refl (fun _ _ _ => Ext.trans) Ext.drew (spP sp) (fun i v w w' h hE => ?_) (fun i v w h ho => ?_) ?_ hsz (duties_rel _ _ hd) fun us w hE hl hP => ?_
  · unfold spP at h ⊢
    cases hs : sp[i]? with
    | none => rw [hs] at h; exact h.elim
    | some s => rw [hs] at h; exact hst.at i s hs v w w' h hE
  · exfalso
    cases hoi : ops[i]? with
    | none => rw [hoi] at ho; cases ho
    | some o =>
      rw [hoi] at ho
      have := List.all_eq_true.1 hall.2 o (List.mem_of_getElem? (i := i) (by simpa using hoi))
      cases hd : o.dst with
      | none => rw [hd] at this; cases this
      | some d => simp [hd] at ho
  · simp only [Bool.and_eq_true]
    refine ⟨hall.1, List.all_eq_true.2 fun o ho => ?_⟩
    have := List.all_eq_true.1 hall.2 o ho
    cases hd : o.dst with
    | none => rfl
    | some d => rw [hd] at this; simpa using this
  · exact forS_all sp w _ (hend w hE) us (by rw [hl, hlen]) hP
/-- The same, but for the last operation, which all others are ahead of: it may turn what it likes. -/
theorem region_sp_last (m : Nat) (sp : List Sp) (hst : stayS sp) (k : Nat) (ol : Oper) (hk : ops[k]? = some ol) (hks : ops.size = k + 1) (hlen : sp.length = k) (hg : ol.guard = none) (hdn : ol.dst = none)
    (hchk : (dstsOk ops && aheadB ops && coverOk ops && ((ops.toList.take (ops.size - 1)).all fun o => o.dst.any fun d => decide (d < m))) = true) (hsz : a0.tmps.size = m)
    (hd : Duties P ops Q (spP sp) a0 w0 0 (ops.toList.take k))
    (hlast : ∀ w, Ext w0 w → forS sp w fun us => ol.wp P (filled (ops.toList.take k) us a0) w (fun a' w' => Q .normal a' w') Q) : RegionP P ops Q a0 w0 := by
  refine region_last_e m (spP sp) (fun i v w w' h hE => ?_) hchk hsz k ol hk hks hg hdn hd fun us w hE hl hP => ?_
  · unfold spP at h ⊢
    cases hs : sp[i]? with
    | none => rw [hs] at h; exact h.elim
    | some s => rw [hs] at h; exact hst.at i s hs v w w' h hE
  · exact forS_all sp w _ (hlast w hE) us (by rw [hl, List.length_take, Array.length_toList, hks, hlen]; omega) hP
end
end Go.Proofs.YtamolbegmkngdaaDoor
namespace Go.Proofs.YtamolbegmkngdaaDoor
open Go.RowKit
set_option maxHeartbeats 2000000
section
variable {P : Program} {ops : Array Oper} {Q : Exit → Act → World → Prop} {a0 : Act} {w0 : World}
/-- A region that draws its order, whose last operation all others are ahead of: it may turn what it likes, and hand back a value. -/
theorem region_sp_call (m : Nat) (sp : List Sp) (hst : stayS sp) (k : Nat) (ol : Oper) (hk : ops[k]? = some ol) (hks : ops.size = k + 1) (hlen : sp.length = k) (hg : ol.guard = none)
    (hchk : (dstsOk ops && aheadB ops && coverOk ops && (ops.toList.all fun o => o.dst.any fun d => decide (d < m))) = true) (hsz : a0.tmps.size = m)
    (hd : Duties P ops Q (spP sp) a0 w0 0 (ops.toList.take k))
    (hlast : ∀ w, Ext w0 w → forS sp w fun us => ∀ a u, a = filled ops.toList (us ++ [u]) a0 → (∀ i d v, i < k → (ops[i]?.bind (·.dst)) = some d → us[i]? = some v → a.eval (.tmp d) = v) → ol.wp P a w (fun a' w' => Q .normal a' w') Q) : RegionP P ops Q a0 w0 := by
  have hall := hchk
  simp only [Bool.and_eq_true] at hall
  refine region_last m (spP sp) (fun i v w w' h hE => ?_) ?_ hsz k ol hk hks hg hd fun a w hE hF hP => ?_
  · unfold spP at h ⊢
    cases hs : sp[i]? with
    | none => rw [hs] at h; exact h.elim
    | some s => rw [hs] at h; exact hst.at i s hs v w w' h hE
  · simp only [Bool.and_eq_true]
    exact ⟨hall.1, List.all_eq_true.2 fun o ho => List.all_eq_true.1 hall.2 o (List.mem_of_mem_take ho)⟩
  have hin : ∀ o ∈ ops.toList, ∀ d, o.dst = some d → d < a0.tmps.size := fun o ho d hd => by
    have := List.all_eq_true.1 hall.2 o ho
    rw [hd] at this
    rw [hsz]; simpa using this
  have hfr := framed_filled hF ops.toList (fun _ h => h) (fun _ h => .inl h) hin
  have hs2 : ops.toList.length = k + 1 := by simpa using hks
  have hsplit : (ops.toList.map fun o => valOf o a) = ((ops.toList.take k).map fun o => valOf o a) ++ [valOf ol a] := by
    have h1 : ops.toList = ops.toList.take k ++ [ol] := by
      have h2 : ops.toList[k]? = some ol := by simpa using hk
      have h3 : ops.toList.take (k + 1) = ops.toList.take k ++ [ol] := by
        rw [List.take_add_one, h2]; rfl
      rw [List.take_of_length_le (by omega)] at h3
      exact h3
    conv => lhs; rw [h1]
    rw [List.map_append]; rfl
  have hat : ∀ i o, i < k → ops[i]? = some o → ((ops.toList.take k).map fun o => valOf o a)[i]? = some (valOf o a) := fun i o hi ho => by
    rw [List.getElem?_map, List.getElem?_take, if_pos hi]
    have : ops.toList[i]? = some o := by simpa using ho
    rw [this]; rfl
  refine forS_all sp w _ (hlast w hE) ((ops.toList.take k).map fun o => valOf o a) (by rw [List.length_map, List.length_take, hs2, hlen]; omega) (fun i u hi => ?_) a (valOf ol a) ?_ fun i d v hi hd hv => ?_
  · have hik : i < k := by
      have := (List.getElem?_eq_some_iff.1 hi).1
      rw [List.length_map, List.length_take] at this
      omega
    have ho : ops[i]? = some (ops[i]'(by omega)) := Array.getElem?_eq_getElem (by omega)
    rw [hat i _ hik ho] at hi
    rw [← Option.some.inj hi]
    exact hP i _ hik ho
  · rw [← hsplit]; exact hfr
  · cases ho : ops[i]? with
    | none => rw [ho] at hd; cases hd
    | some o =>
      rw [ho] at hd
      have hd' : o.dst = some d := hd
      rw [hat i o hi ho] at hv
      have := Option.some.inj hv
      unfold valOf at this
      rw [hd'] at this
      exact this
end

/-- A slice of one node in a row of its own. -/
def RowOne (cs : Array Value) (B : Nat) (v : Value) (w : World) : Prop := ∃ g, v = .slice (some ⟨g, 0, none⟩) 1 1 ∧ B ≤ g ∧ w.heap[g]? = some (.cells cs 37 (0, 0))
theorem rowOne_ext (cs : Array Value) (B : Nat) : ∀ v w w', RowOne cs B v w → Ext w w' → RowOne cs B v w' := fun v w w' ⟨g, h1, h2, h3⟩ hE => ⟨g, h1, h2, (hE.block g (Array.getElem?_eq_some_iff.1 h3).1).trans h3⟩
theorem nds_one {S S' : Nat → Prop} {w : World} {g : Nat} {n : Nd} {da aa : Option Addr} {dc ac : Nat} (h : w.heap[g]? = some (.cells (ndC n (.slice da n.data.length dc) (.slice aa n.acl.length ac)) 37 (0, 0))) (hg : S g)
    (hD : CellsS S' w da (n.data.map u8v)) (hA : CellsS S' w aa (acCs n.acl)) (hS : ∀ k, S' k → S k) : NdsS S w (some ⟨g, 0, none⟩) [n] := fun i m hi => by
  match i, hi with
  | 0, hi =>
    simp only [List.getElem?_cons_zero, Option.some.injEq] at hi
    subst hi
    refine ⟨g, 0, _, rfl, hg, ⟨da, dc, aa, ac, rfl, hD.imp hS fun _ _ _ _ h => h, hA.imp hS fun _ _ _ _ h => h⟩, fun j u hj => ?_⟩
    rw [show 0 + 0 * 17 + j = j by omega, cell_of_row _ _ _ _ _ _ h]
    exact hj
  | i + 1, hi => simp at hi
theorem CellsS.kept {S : Nat → Prop} {w w' : World} {a : Option Addr} {xs : List Value} (h : CellsS S w a xs) (hk : ∀ (p : Addr) (u : Value), w.cell? p = some u → w'.cell? p = some u) : CellsS S w' a xs := h.imp (fun _ h => h) fun b o u _ hu => hk _ _ hu
theorem cellE {w w' : World} (hE : Ext w w') {p : Addr} {u : Value} (hu : w.cell? p = some u) : w'.cell? p = some u := (hE.cell (World.block_lt_of_cell? _ _ hu)).trans hu
end Go.Proofs.YtamolbegmkngdaaDoor
namespace Go.Proofs.YtamolbegmkngdaaDoor
open Go.RowKit
set_option maxHeartbeats 1000000

/-- Two texts, byte by byte. -/
def ordL : List UInt8 → List UInt8 → Int
  | [], [] => 0
  | [], _ :: _ => -1
  | _ :: _, [] => 1
  | x :: a, y :: b => if x.toNat < y.toNat then -1 else if y.toNat < x.toNat then 1 else ordL a b
theorem ordL_eq : ∀ a b : List UInt8, ordL a b = if a = b then 0 else if bytesBefore a b = true then -1 else 1
  | [], [] => by simp [ordL]
  | [], y :: b => by simp [ordL, bytesBefore]
  | x :: a, [] => by simp [ordL, bytesBefore]
  | x :: a, y :: b => by
    simp only [ordL, ordL_eq a b, bytesBefore, Bool.or_eq_true, decide_eq_true_eq, Bool.and_eq_true, beq_iff_eq, List.cons.injEq, UInt8.lt_iff_toNat_lt]
    by_cases h1 : x.toNat < y.toNat
    · have hne : x ≠ y := fun e => by rw [e] at h1; omega
      rw [if_pos h1, if_neg (fun h => hne h.1), if_pos (.inl h1)]
    · by_cases h2 : y.toNat < x.toNat
      · have hne : x ≠ y := fun e => by rw [e] at h2; omega
        rw [if_neg h1, if_pos h2, if_neg (fun h => hne h.1), if_neg (fun h => h.elim h1 fun h => hne h.1)]
      · have he : x = y := UInt8.toNat_inj.1 (by omega)
        subst he
        rw [if_neg h1, if_neg h2]
        by_cases h3 : a = b
        · rw [if_pos h3, if_pos ⟨rfl, h3⟩]
        · have e1 : ¬ (x = x ∧ a = b) := fun h => h3 h.2
          rw [if_neg h3, if_neg e1]
          by_cases h4 : bytesBefore a b = true
          · rw [if_pos h4, if_pos (.inr ⟨rfl, h4⟩)]
          · have e2 : ¬ (x.toNat < x.toNat ∨ x = x ∧ bytesBefore a b = true) := fun h => h.elim h1 fun h => h4 h.2
            rw [if_neg h4, if_neg e2]

/-- The nodes alone. -/
def nds (M : List (Key × Nd)) : List Nd := M.map (·.2)
theorem nds_length (M : List (Key × Nd)) : (nds M).length = M.length := List.length_map _
/-- The place of a path; is it there? -/
def rfind : List Nd → ByteArray → Nat × Bool
  | [], _ => (0, false)
  | n :: r, s => if ordL n.path.data.toList s.data.toList = 0 then (0, true) else if 0 < ordL n.path.data.toList s.data.toList then (0, false) else ((rfind r s).1 + 1, (rfind r s).2)
theorem rfind_le : ∀ (L : List Nd) (s : ByteArray), (rfind L s).1 ≤ L.length
  | [], _ => Nat.zero_le _
  | n :: r, s => by
    have := rfind_le r s
    unfold rfind
    split
    · exact Nat.zero_le _
    split
    · exact Nat.zero_le _
    · simp only [List.length_cons]; omega
theorem rfind_lt : ∀ (L : List Nd) (s : ByteArray), (rfind L s).2 = true → ∃ n, L[(rfind L s).1]? = some n ∧ n.path = s
  | [], _, h => by cases h
  | n :: r, s, h => by
    unfold rfind at h ⊢
    split at h
    · rename_i h0
      rw [if_pos h0]
      refine ⟨n, rfl, ?_⟩
      rw [ordL_eq] at h0
      split at h0
      · rename_i e; exact ba_ext e
      · split at h0 <;> simp at h0
    split at h
    · cases h
    · rename_i h0 h1
      rw [if_neg h0, if_neg h1]
      obtain ⟨m, hm, e⟩ := rfind_lt r s h
      exact ⟨m, by simpa using hm, e⟩

theorem rfind_there : ∀ {M : List (Key × Nd)}, MSorted M → (∀ x ∈ M, x.1 = keyN x.2) → ∀ s : ByteArray, (rfind (nds M) s).2 = (mget M s.data.toList).isSome
  | [], _, _, _ => rfl
  | y :: r, hs, hk, s => by
    obtain ⟨h1, h2⟩ := List.pairwise_cons.1 hs
    have ih := rfind_there h2 (fun x hx => hk x (List.mem_cons_of_mem _ hx)) s
    have hy : y.1 = y.2.path.data.toList := hk y (List.mem_cons_self ..)
    show (rfind (y.2 :: nds r) s).2 = _
    unfold rfind
    rw [ordL_eq, ← hy]
    by_cases e : y.1 = s.data.toList
    · rw [if_pos e, if_pos rfl]
      have : mget (y :: r) s.data.toList = some y.2 := mget_of_mem hs (by rw [← e]; exact List.mem_cons_self ..)
      rw [this]; rfl
    · have hg : mget (y :: r) s.data.toList = mget r s.data.toList := by
        unfold mget
        rw [List.find?_cons_of_neg (by simpa using e)]
      rw [if_neg e, hg]
      by_cases hb : bytesBefore y.1 s.data.toList = true
      · rw [if_pos hb, if_neg (by decide), if_neg (by decide)]
        exact ih
      · rw [if_neg hb, if_neg (by decide), if_pos (by decide)]
        have hsy : bytesBefore s.data.toList y.1 = true := by
          rcases WideAt.bytes_total _ _ e with h | h
          · exact absurd h hb
          · exact h
        have : mget r s.data.toList = none := mget_none_of fun x hx e' => by
          have := h1 x hx
          rw [e'] at this
          exact before_asymm this hsy
        rw [this]; rfl

theorem mdel_none {M : List (Key × Nd)} {k : Key} (h : ∀ x ∈ M, x.1 ≠ k) : mdel M k = M := by
  unfold mdel
  exact List.filter_eq_self.2 fun x hx => by simpa using h x hx
theorem rfind_ins' : ∀ {M : List (Key × Nd)}, (∀ x ∈ M, x.1 = keyN x.2) → ∀ n : Nd, (∀ x ∈ M, x.1 ≠ keyN n) → nds (mins (keyN n, n) M) = (nds M).take (rfind (nds M) n.path).1 ++ n :: (nds M).drop (rfind (nds M) n.path).1
  | [], _, _, _ => rfl
  | y :: r, hk, n, hn => by
    have ih := rfind_ins' (fun x hx => hk x (List.mem_cons_of_mem _ hx)) n (fun x hx => hn x (List.mem_cons_of_mem _ hx))
    have hy : y.1 = y.2.path.data.toList := hk y (List.mem_cons_self ..)
    have he : ¬ y.1 = n.path.data.toList := hn y (List.mem_cons_self ..)
    show nds (mins (keyN n, n) (y :: r)) = (y.2 :: nds r).take (rfind (y.2 :: nds r) n.path).1 ++ n :: (y.2 :: nds r).drop (rfind (y.2 :: nds r) n.path).1
    unfold rfind mins
    rw [ordL_eq, ← hy, if_neg he]
    by_cases hb : bytesBefore y.1 n.path.data.toList = true
    · have hnb : ¬ bytesBefore (keyN n, n).1 y.1 = true := fun h => before_asymm h hb
      rw [if_pos hb, if_neg hnb, if_neg (show ¬ ((-1 : Int) = 0) by decide), if_neg (show ¬ ((0 : Int) < -1) by decide)]
      simp only [List.take_succ_cons, List.drop_succ_cons, List.cons_append]
      rw [← ih]; rfl
    · have hnb : bytesBefore (keyN n, n).1 y.1 = true := by
        rcases WideAt.bytes_total _ _ he with h | h
        · exact absurd h hb
        · exact h
      rw [if_neg hb, if_pos hnb, if_neg (show ¬ ((1 : Int) = 0) by decide), if_pos (show (0 : Int) < 1 by decide)]
      rfl
theorem rfind_ins {M : List (Key × Nd)} (hM : MOk M) (n : Nd) (hn : mget M (keyN n) = none) : nds (mput M (keyN n) n) = (nds M).take (rfind (nds M) n.path).1 ++ n :: (nds M).drop (rfind (nds M) n.path).1 := by
  have h := mget_none hn
  unfold mput
  rw [mdel_none h]
  exact rfind_ins' hM.key n h
end Go.Proofs.YtamolbegmkngdaaDoor
namespace Go.Proofs.YtamolbegmkngdaaDoor
open Go.RowKit Go.Sort
set_option maxHeartbeats 2000000
set_option maxRecDepth 100000

/-- What a clone of the row's nodes may lie in. -/
def NewN (base : Nat) (v : Value) (w : World) (b : Nat) : Prop := base ≤ b ∧ b < w.heap.size ∧ v.ownBlock ≠ some b
def OwnN (base : Nat) (L : List Nd) (v : Value) (w : World) : Prop :=
  ∃ vs : List (Array Value), w.ownsRow base 37 17 v L.length (vs.flatMap Array.toList) ∧ EachN (NewN base v w) w vs L

theorem EachN.imp {S S' : Nat → Prop} {w w' : World} {vs : List (Array Value)} {L : List Nd} (h : EachN S w vs L) (hS : ∀ b, S b → S' b) (hw : ∀ (b o : Nat) u, S b → w.cell? ⟨b, o, none⟩ = some u → w'.cell? ⟨b, o, none⟩ = some u) : EachN S' w' vs L :=
  ⟨h.1, fun j cs hj => by
    obtain ⟨n, hn, hN⟩ := h.2 j cs hj
    exact ⟨n, hn, NdS.imp hN hS fun b o u hb hu => hw b o u hb hu⟩⟩

theorem OwnN.nil (base : Nat) (w : World) : OwnN base [] (.slice none 0 0) w :=
  ⟨[], World.ownsRow_nil _ _ _ _, ⟨rfl, fun j cs h => by simp at h⟩⟩

theorem cell_ext {w w' : World} (h : Ext w w') (b o : Nat) (u : Value) (hu : w.cell? ⟨b, o, none⟩ = some u) : w'.cell? ⟨b, o, none⟩ = some u :=
  (h.cell (p := ⟨b, o, none⟩) (World.block_lt_of_cell? _ _ hu)).trans hu

theorem OwnN.ext {base : Nat} {L : List Nd} {v : Value} {w w' : World} (h : OwnN base L v w) (hE : Ext w w') : OwnN base L v w' := by
  obtain ⟨vs, h1, h2⟩ := h
  exact ⟨vs, h1.kept (grown_of_ext hE none) (Classical.em _), h2.imp (fun b hb => ⟨hb.1, Nat.lt_of_lt_of_le hb.2.1 hE.size, hb.2.2⟩) fun b o u _ hu => cell_ext hE b o u hu⟩

/-- A new node is handed to the row. -/
theorem OwnN.step {base : Nat} {L : List Nd} {v v' : Value} {w w5 : World} {vs : List (Array Value)} {cs : Array Value} {n : Nd} {t : TypeId} (hE : EachN (NewN base v w) w vs L) (hN : NdS (NewN base v w) w (.agg cs) n)
    (hown : w5.ownsRow base 37 17 v' (L.length + 1) (vs.flatMap Array.toList ++ cs.toList)) (hg : (w.alloc (.cells cs t)).grownBy w5 v.ownBlock) (ho : v'.ownBlock = v.ownBlock ∨ v'.ownBlock = some (w.heap.size + 1)) :
    OwnN base (L ++ [n]) v' w5 := by
  have hz := hg.size
  simp only [World.size_alloc] at hz
  have hS : ∀ b, NewN base v w b → NewN base v' w5 b := fun b hb => ⟨hb.1, by have := hb.2.1; omega, fun e => by
    rcases ho with h | h
    · rw [h] at e; exact hb.2.2 e
    · rw [h] at e; cases e; have := hb.2.1; omega⟩
  have hw : ∀ (b o : Nat) u, NewN base v w b → w.cell? ⟨b, o, none⟩ = some u → w5.cell? ⟨b, o, none⟩ = some u := fun b o u hb hu => by
    rw [World.cell?_of_block ((hg.block b (by simp; have := hb.2.1; omega) (fun e => hb.2.2 e.symm)).trans (heap_alloc_old w _ hb.2.1))]
    exact hu
  refine ⟨vs ++ [cs], by simpa using hown, (hE.imp hS hw).append ((EachN.one hN).imp hS hw)⟩

/-- Memory as it was, but the row. -/
theorem OwnN.keep {base : Nat} {v : Value} {w w5 : World} {cs : Array Value} {n : Nat} {xs : List Value} {t : TypeId} {w0 : World} (hE0 : Ext w0 w) (hb : w0.heap.size ≤ base) (hown : w.ownsRow base 37 17 v n xs) (hg : (w.alloc (.cells cs t)).grownBy w5 v.ownBlock) : Ext w0 w5 := by
  refine hE0.trans' ⟨hg.os, hg.tape, hg.output, by have := hg.size; simp at this; omega, fun k hk => ?_⟩
  have hz := hE0.size
  refine (hg.block k (by simp; omega) (fun e => ?_)).trans (heap_alloc_old w _ (by omega))
  have := ownBlock_ge hown k e.symm
  omega

/-- The row as rows that show nodes. -/
theorem OwnN.rows {base : Nat} {L : List Nd} {v : Value} {w : World} (h : OwnN base L v w) : ∃ a c vs, v = .slice a L.length c ∧ L.length ≤ c ∧ c ≤ maxLen ∧ RowsOf (fun k => base ≤ k ∧ k < w.heap.size) w a vs L ∧ PlainA a c := by
  obtain ⟨vs, h1, h2⟩ := h
  obtain ⟨a, c, e, h3, h4, h5, h6⟩ := RowsOf.of_own (S := fun k => base ≤ k ∧ k < w.heap.size) h1 rfl h2.1 (fun k h1 h2 => ⟨h1, h2⟩) (h2.imp (fun b hb => ⟨hb.1, hb.2.1⟩) fun _ _ _ _ h => h).2
  exact ⟨a, c, vs, e, h3, h4, h5, h6⟩

theorem nds_cons (x : Key × Nd) (M : List (Key × Nd)) : nds (x :: M) = x.2 :: nds M := rfl
theorem nds_take_succ {M : List (Key × Nd)} {k : Nat} (hk : k < M.length) : nds (M.take (k + 1)) = nds (M.take k) ++ [M[k].2] := by
  unfold nds
  rw [List.take_succ_eq_append_getElem hk, List.map_append]; rfl
end Go.Proofs.YtamolbegmkngdaaDoor
namespace Go.Proofs.YtamolbegmkngdaaDoor
open Go.RowKit Go.Sort
set_option maxHeartbeats 2000000
set_option maxRecDepth 100000

/-- A node put into a new box. -/
theorem box_node {S : Nat → Prop} {w1 : World} {v : Value} {n : Nd} (hv : NdS S w1 v n) (hS : ∀ b, S b → b < w1.heap.size) :
    ∃ da dc aa ac W2, v = .agg (ndC n (.slice da n.data.length dc) (.slice aa n.acl.length ac)) ∧ (w1.alloc (.cells zeroNd 37)).setRow w1.heap.size (ndC n (.slice da n.data.length dc) (.slice aa n.acl.length ac)) = W2 ∧
      W2.heap[w1.heap.size]? = some (.cells (ndC n (.slice da n.data.length dc) (.slice aa n.acl.length ac)) 37 (0, 0)) ∧ Ext w1 W2 ∧ Cells W2.heap.size W2 da (n.data.map u8v) ∧ Cells W2.heap.size W2 aa (acCs n.acl) := by
  obtain ⟨da, dc, aa, ac, rfl, hD, hA⟩ := hv
  have hE : Ext w1 (w1.alloc (.cells (ndC n (.slice da n.data.length dc) (.slice aa n.acl.length ac)) 37)) := Ext.alloc _ _
  exact ⟨da, dc, aa, ac, _, rfl, setRow_alloc w1 zeroNd _ 37, heap_alloc_new w1 _, hE, (hD.cells hS).ext hE, (hA.cells hS).ext hE⟩
theorem OwnN.base {b b' : Nat} {L : List Nd} {v : Value} {w : World} (h : OwnN b L v w) (hb : b' ≤ b) : OwnN b' L v w := by
  obtain ⟨vs, h1, h2⟩ := h
  exact ⟨vs, ⟨h1.1, h1.2.imp id fun ⟨g, cap, cur, q1, q2, q3⟩ => ⟨g, cap, cur, q1, Nat.le_trans hb q2, q3⟩⟩, h2.imp (fun k hk => ⟨Nat.le_trans hb hk.1, hk.2⟩) fun _ _ _ _ h => h⟩
end Go.Proofs.YtamolbegmkngdaaDoor
namespace Go.Proofs.YtamolbegmkngdaaDoor
open Go.RowKit
set_option maxHeartbeats 4000000
set_option maxRecDepth 100000

theorem infoEnt : (Tryd.prog.info? 110).map (fun i => (i.zero, i.size, i.bytes)) = some (some (.agg #[.int .i64 0, .int .u64 0]), 2, 16) := by kernel_rfl
theorem sizeEnt : (Tryd.prog.info? 110).map (·.size) = some 2 := by kernel_rfl
theorem infoI64 : (Tryd.prog.info? 2).map (·.size) = some 1 := by kernel_rfl
theorem infoEnts : (Tryd.prog.info? 106).map (·.size) = some 1 := by kernel_rfl

/-- Entries in a row. -/
def entC (R : List (Int × Int)) : List Value := R.flatMap fun e => [.int .i64 e.1, .int .u64 e.2]
theorem entC_length (R : List (Int × Int)) : (entC R).length = R.length * 2 := by
  induction R with
  | nil => rfl
  | cons x R ih => simp only [entC, List.flatMap_cons, List.length_append, List.length_cons, List.length_nil] at ih ⊢; omega

def bookC (every most last : Int) (v : Value) (first : Nat) : Array Value := #[.int .i64 every, .int .i64 most, .int .i64 last, v, .int .i64 first]

/-- A book in memory, its blocks in S. -/
structure BookAt (S : Nat → Prop) (w : World) (bb : Nat) (every most last : Int) (R : List (Int × Int)) (first : Nat) (v : Value) : Prop where
  blk : w.heap[bb]? = some (.cells (bookC every most last v first) 108 (0, 0))
  ring : w.ownsRow 0 110 2 v R.length (entC R)
  own : ∀ k, v.ownBlock = some k → S k ∧ k ≠ bb
  mine : S bb
  bound : ∀ k, S k → k < w.heap.size

def NewBookOut (every most : Int) (w : World) (e : Ending) (w' : World) : Prop :=
  if 1 ≤ every ∧ 1 ≤ most then ∃ bb, e = .returned (.tuple #[.pointer (some ⟨bb, 0, none⟩), .int .i64 0]) ∧ w.heap.size ≤ bb ∧ BookAt (fun k => w.heap.size ≤ k ∧ k < w'.heap.size) w' bb every most 0 [] 0 (.slice none 0 0) ∧ Ext w w'
  else e = .returned (.tuple #[.pointer none, .int .i64 1]) ∧ w = w'

theorem newbook_any (every most : Int) (w : World) : Calls Tryd.prog 38 #[.int .i64 every, .int .i64 most] w (NewBookOut every most w) := by
  unfold NewBookOut
  by_cases h1 : every < 1
  · have h2 : ¬ (1 ≤ every ∧ 1 ≤ most) := by omega
    have hd : decide (every < 1) = true := by simpa using h1
    simp only [if_neg h2]
    clear h2
    go_enter Tryd.func38, Tryd.ntmps38
    go_wp2
    go_ret2
    exact ⟨rfl, rfl⟩
  · have hd : decide (every < 1) = false := by simpa using h1
    by_cases h3 : most < 1
    · have h2 : ¬ (1 ≤ every ∧ 1 ≤ most) := by omega
      have hd3 : decide (most < 1) = true := by simpa using h3
      simp only [if_neg h2]
      clear h2
      go_enter Tryd.func38, Tryd.ntmps38
      go_wp2
      go_ret2
      exact ⟨rfl, rfl⟩
    · have h2 : 1 ≤ every ∧ 1 ≤ most := by omega
      have hd3 : decide (most < 1) = false := by simpa using h3
      simp only [if_pos h2]
      have hfin : ∃ bb, (Ending.returned (.tuple #[.pointer (some ⟨w.heap.size, 0, none⟩), .int .i64 0])) = .returned (.tuple #[.pointer (some ⟨bb, 0, none⟩), .int .i64 0]) ∧ w.heap.size ≤ bb ∧
          BookAt (fun k => w.heap.size ≤ k ∧ k < (w.alloc (.cells (bookC every most 0 (.slice none 0 0) 0) 108)).heap.size) (w.alloc (.cells (bookC every most 0 (.slice none 0 0) 0) 108)) bb every most 0 [] 0 (.slice none 0 0) ∧ Ext w (w.alloc (.cells (bookC every most 0 (.slice none 0 0) 0) 108)) :=
        ⟨w.heap.size, rfl, Nat.le_refl _, ⟨heap_alloc_new w _, World.ownsRow_nil _ _ _ _, fun k hk => (by cases hk), ⟨Nat.le_refl _, by simp⟩, fun k hk => hk.2⟩, Ext.alloc _ _⟩
      have HFIN := Lib.hid hfin
      unfold bookC at HFIN
      clear hfin h2
      go_enter Tryd.func38, Tryd.ntmps38
      go_wp2
      go_ret2
      exact HFIN.out

theorem blen_any (S : Nat → Prop) (w : World) (bb : Nat) (every most last : Int) (R : List (Int × Int)) (first : Nat) (v : Value) (h : BookAt S w bb every most last R first v) : Calls Tryd.prog 41 #[.pointer (some ⟨bb, 0, none⟩)] w fun e w' => e = .returned (.int .i64 R.length) ∧ w = w' := by
  have hx : Box w bb (bookC every most last v first) := fun j => cell_of_row _ _ _ _ _ _ h.blk
  obtain ⟨a, c, rfl⟩ : ∃ a c, v = .slice a R.length c := by
    rcases h.ring.2 with ⟨rfl, h0⟩ | ⟨g, cap, cur, rfl, _⟩
    · exact ⟨none, 0, by rw [h0]⟩
    · exact ⟨_, _, rfl⟩
  unfold Box bookC at hx
  clear h
  go_enter Tryd.func41, Tryd.ntmps41
  go_wp2
  go_ret
  exact ⟨rfl, rfl⟩
end Go.Proofs.YtamolbegmkngdaaDoor
namespace Go.Proofs.YtamolbegmkngdaaDoor
open Go.RowKit
set_option maxHeartbeats 4000000
set_option maxRecDepth 100000

/-- The cells of a book of every second number, two at the most. -/
def bkC (l : Int) (v : Value) : Array Value := #[.int .i64 2, .int .i64 2, .int .i64 l, v, .int .i64 0]

def FirstOut (w : World) (bb : Nat) (e : Ending) (w' : World) : Prop :=
  e = .returned (.bool true) ∧ (∃ v, w'.heap[bb]? = some (.cells (bkC 2 v) 108 (0, 0)) ∧ ∃ a c, v = .slice a 1 c) ∧ But bb w w'

/-- What the appending of an entry to a nil ring leaves, operation by operation. -/
def PhiF (bb : Nat) (i : Nat) (v : Value) (w : World) : Prop :=
  match i with
  | 0 | 1 | 2 | 8 => v = .pointer (some ⟨bb, 0, none⟩)
  | 3 | 9 => v = .pointer (some ⟨bb, 3, none⟩)
  | 4 => v = .slice none 0 0
  | 5 => v = .agg #[.int .i64 2, .int .u64 6]
  | 6 => ∃ g, v = .slice (some ⟨g, 0, none⟩) 1 1 ∧ w.heap[g]? = some (.cells #[.int .i64 2, .int .u64 6] 110 (0, 0))
  | 7 => ∃ a c, v = .slice a 1 c
  | _ => False
theorem PhiF.stab (bb : Nat) : ∀ i v w w', PhiF bb i v w → Ext w w' → PhiF bb i v w' := by
  intro i v w w' h hE
  unfold PhiF at *
  split <;> rename_i hi <;> simp only [] at h ⊢ <;> try exact h
  obtain ⟨g, rfl, hg⟩ := h
  exact ⟨g, rfl, (hE.block g (Array.getElem?_eq_some_iff.1 hg).1).trans hg⟩

theorem notefirst_any (w : World) (bb : Nat) (hb : w.heap[bb]? = some (.cells (bkC 0 (.slice none 0 0)) 108 (0, 0))) :
    Calls Tryd.prog 40 #[.pointer (some ⟨bb, 0, none⟩), .int .i64 2, .int .u64 6] w (FirstOut w bb) := by
  have hx : Box w bb (bkC 0 (.slice none 0 0)) := fun j => cell_of_row _ _ _ _ _ _ hb
  obtain ⟨W1, hW1⟩ : ∃ W1, W1 = w.setRow bb (bkC 2 (.slice none 0 0)) := ⟨_, rfl⟩
  have hb1 : W1.heap[bb]? = some (.cells (bkC 2 (.slice none 0 0)) 108 (0, 0)) := by rw [hW1]; exact setRow_heap _ _ _ _ _ _ hb
  have hx1 : Box W1 bb (bkC 2 (.slice none 0 0)) := fun j => cell_of_row _ _ _ _ _ _ hb1
  have hC1 : But bb w W1 := by rw [hW1]; exact But.set _ _ _
  have hbl : bb < W1.heap.size := (Array.getElem?_eq_some_iff.1 hb1).1
  obtain ⟨W2, hW2⟩ : ∃ W2, W2 = W1.alloc (.cells #[.int .i64 2, .int .u64 6] 110) := ⟨_, rfl⟩
  have hE2 : Ext W1 W2 := by rw [hW2]; exact Ext.alloc _ _
  have HSET := Lib.hid ((setRow_alloc W1 #[.int .i64 0, .int .u64 0] #[.int .i64 2, .int .u64 6] 110).trans hW2.symm)
  have HNew := Lib.hid (heap_alloc_new W1 (.cells #[.int .i64 0, .int .u64 0] 110))
  have ce : W2.heap[W1.heap.size]? = some (.cells #[.int .i64 2, .int .u64 6] 110 (0, 0)) := by rw [hW2]; exact heap_alloc_new _ _
  have hb2 := (hE2.block bb hbl).trans hb1
  have HB2 := Lib.hid hb2
  have HCE := Lib.hid ce
  have HC2 := Lib.hid (hC1.trans (But.of_ext hE2))
  have HC1' := Lib.hid (show W2.cell? ⟨bb, 1, none⟩ = some (.int .i64 2) from cell_of_row _ _ 1 _ _ _ hb2)
  have HC3' := Lib.hid (show W2.cell? ⟨bb, 3, none⟩ = some (.slice none 0 0) from cell_of_row _ _ 3 _ _ _ hb2)
  have hbl2 : bb ≠ W1.heap.size := by omega
  have HBLK := Lib.hid hb
  have HW1 := Lib.hid hW1
  have hdm : ((bits .and .i64 2 4294967295).tmod 2 != 0) = false := by decide +kernel
  unfold Box bkC at hx hx1
  unfold bkC at HBLK HW1
  clear hW1 hb1 hC1 hW2 hE2 ce hb2 hb
  go_enter Tryd.func40, Tryd.ntmps40
  go_wp2_with (first | (refine wpList_store_in rfl 2 (.tmp 25) (.tmp 23) rfl bb 2 (.int .i64 2) rfl rfl (by simp [Value.cells, Value.oneCell']) 108 _ HBLK.out (by simp [Value.cells]) infoI64 #[.int .i64 2, .int .i64 2, .int .i64 2, .slice none 0 0, .int .i64 0] (by simp [Value.cells]) ?_; rw [← HW1.out]) | (refine wpList_store_row rfl 110 (.tmp 7) (.tmp 36) rfl W1.heap.size _ rfl rfl 110 _ HNew.out sizeEnt rfl (by simp [Value.oneCell']) ?_; rw [HSET.out]))
  have c1 := HC1'.out
  have c3 := HC3'.out
  refine wp_region_P (by kernel_rfl) (region_vals 80 [.pointer (some ⟨bb, 0, none⟩), .pointer (some ⟨bb, 0, none⟩), .pointer (some ⟨bb, 3, none⟩), .slice none 0 0, .int .i64 0, .pointer (some ⟨bb, 0, none⟩), .pointer (some ⟨bb, 0, none⟩), .pointer (some ⟨bb, 1, none⟩), .int .i64 2, .bool true] rfl (by decide) rfl ?duties ?rest)
  case duties =>
    refine ⟨?_, ?_, ?_, ?_, ?_, ?_, ?_, ?_, ?_, ?_, trivial⟩
    · refine duty_free rfl fun a w' hE hF hA => ?_
      have x1 := hF.slot 0 _ (by decide) rfl
      exact wp_value (w' := w') (v := .pointer (some ⟨bb, 0, none⟩)) (by simp only [execOp, x1]; simp [go_sem]) ⟨_, rfl, rfl, Ext.refl _⟩
    · refine duty_free rfl fun a w' hE hF hA => ?_
      have x1 := hA.val 0 37 rfl rfl ⟨⟨0, .data⟩, by simp, rfl, rfl⟩ rfl
      exact wp_value (w' := w') (v := .pointer (some ⟨bb, 0, none⟩)) (by simp only [execOp, x1]; simp [go_sem]) ⟨_, rfl, rfl, Ext.refl _⟩
    · refine duty_free rfl fun a w' hE hF hA => ?_
      have x1 := hA.val 1 38 rfl rfl ⟨⟨1, .data⟩, by simp, rfl, rfl⟩ rfl
      exact wp_value (w' := w') (v := .pointer (some ⟨bb, 3, none⟩)) (by simp only [execOp, x1]; simp [go_sem]) ⟨_, rfl, rfl, Ext.refl _⟩
    · refine duty_free rfl fun a w' hE hF hA => ?_
      have x1 := hA.val 2 39 rfl rfl ⟨⟨2, .data⟩, by simp, rfl, rfl⟩ rfl
      exact wp_value (ex_cell rfl _ _ x1 ((hE.cell (World.block_lt_of_cell? _ _ c3)).trans c3) rfl Tryd.underlying106) ⟨_, rfl, rfl, Ext.refl _⟩
    · refine duty_free rfl fun a w' hE hF hA => ?_
      have x1 := hA.val 3 40 rfl rfl ⟨⟨3, .data⟩, by simp, rfl, rfl⟩ rfl
      exact wp_value (w' := w') (v := .int .i64 0) (by simp only [execOp, resolve, List.map_toArray, List.map_cons, List.map_nil, x1]; simp [go_sem, invoke, builtin, Builtin.len_]) ⟨_, rfl, rfl, Ext.refl _⟩
    · refine duty_free rfl fun a w' hE hF hA => ?_
      have x1 := hF.slot 0 _ (by decide) rfl
      exact wp_value (w' := w') (v := .pointer (some ⟨bb, 0, none⟩)) (by simp only [execOp, x1]; simp [go_sem]) ⟨_, rfl, rfl, Ext.refl _⟩
    · refine duty_free rfl fun a w' hE hF hA => ?_
      have x1 := hA.val 5 42 rfl rfl ⟨⟨5, .data⟩, by simp, rfl, rfl⟩ rfl
      exact wp_value (w' := w') (v := .pointer (some ⟨bb, 0, none⟩)) (by simp only [execOp, x1]; simp [go_sem]) ⟨_, rfl, rfl, Ext.refl _⟩
    · refine duty_free rfl fun a w' hE hF hA => ?_
      have x1 := hA.val 6 43 rfl rfl ⟨⟨6, .data⟩, by simp, rfl, rfl⟩ rfl
      exact wp_value (w' := w') (v := .pointer (some ⟨bb, 1, none⟩)) (by simp only [execOp, x1]; simp [go_sem]) ⟨_, rfl, rfl, Ext.refl _⟩
    · refine duty_free rfl fun a w' hE hF hA => ?_
      have x1 := hA.val 7 44 rfl rfl ⟨⟨7, .data⟩, by simp, rfl, rfl⟩ rfl
      exact wp_value (ex_cell rfl _ _ x1 ((hE.cell (World.block_lt_of_cell? _ _ c1)).trans c1) rfl Tryd.underlying3) ⟨_, rfl, rfl, Ext.refl _⟩
    · refine duty_free rfl fun a w' hE hF hA => ?_
      have x1 := hA.val 4 41 rfl rfl ⟨⟨4, .data⟩, by simp, rfl, rfl⟩ rfl
      have x2 := hA.val 8 45 rfl rfl ⟨⟨8, .data⟩, by simp, rfl, rfl⟩ rfl
      exact wp_value (w' := w') (v := .bool true) (by simp only [execOp, x1, x2]; simp [go_sem]) ⟨_, rfl, rfl, Ext.refl _⟩
  case rest =>
    intro W3 hE3
    clear c1 c3
    simp only [filled, List.zip_cons_cons, List.zip_nil_left, List.foldl_cons, List.foldl_nil, Act.put, List.setIfInBounds_toArray, List.set_cons_succ, List.set_cons_zero, Exit.then]
    rename_i hK
    refine hK _ _ ?_
    go_wp2
    have hb3 := (hE3.block bb (Array.getElem?_eq_some_iff.1 HB2.out).1).trans HB2.out
    have ce3 := (hE3.block _ (Array.getElem?_eq_some_iff.1 HCE.out).1).trans HCE.out
    have c3 : W3.cell? ⟨bb, 3, none⟩ = some (.slice none 0 0) := cell_of_row _ _ 3 _ _ _ hb3
    obtain ⟨i0, hi, hz0, hz1', hz2⟩ := info_parts infoEnt
    refine wp_region_last_e 80 (by kernel_rfl) (PhiF bb) (PhiF.stab bb) (by decide) rfl 10 _ rfl rfl rfl rfl ?duties2 ?last
    case duties2 =>
      refine ⟨?_, ?_, ?_, ?_, ?_, ?_, ?_, ?_, ?_, ?_, trivial⟩
      · exact duty_free rfl fun a w' hE hF hA => wp_value (w' := w') (ex_move rfl) ⟨_, rfl, hF.slot 0 _ (by decide) rfl, Ext.refl _⟩
      · exact duty_free rfl fun a w' hE hF hA => wp_value (w' := w') (ex_move rfl) ⟨_, rfl, hF.slot 0 _ (by decide) rfl, Ext.refl _⟩
      · refine duty_free rfl fun a w' hE hF hA => ?_
        have x1 : a.eval (.tmp 48) = _ := hA.slot 1 48 rfl rfl ⟨⟨1, .data⟩, by simp, rfl, rfl⟩
        exact wp_value (ex_nilCheck rfl _ x1) ⟨_, rfl, rfl, Ext.refl _⟩
      · refine duty_free rfl fun a w' hE hF hA => ?_
        have x1 : a.eval (.tmp 49) = _ := hA.slot 2 49 rfl rfl ⟨⟨2, .data⟩, by simp, rfl, rfl⟩
        exact wp_value (v := .pointer (some ⟨bb, 3, none⟩)) (w' := w') (by simp only [execOp, x1]; simp [go_sem]) ⟨_, rfl, rfl, Ext.refl _⟩
      · refine duty_free rfl fun a w' hE hF hA => ?_
        have x1 : a.eval (.tmp 50) = _ := hA.slot 3 50 rfl rfl ⟨⟨3, .data⟩, by simp, rfl, rfl⟩
        exact wp_value (ex_cell rfl _ _ x1 ((hE.cell (World.block_lt_of_cell? _ _ c3)).trans c3) rfl Tryd.underlying106) ⟨_, rfl, rfl, Ext.refl _⟩
      · refine duty_free rfl fun a w' hE hF hA => ?_
        have x1 := hF.slot 7 _ (by decide) rfl
        exact wp_value (ex_load_row rfl _ x1 110 _ (0, 0) _ ((hE.block _ (Array.getElem?_eq_some_iff.1 ce3).1).trans ce3) Tryd.underlying110 rfl sizeEnt) ⟨_, rfl, rfl, Ext.refl _⟩
      · refine duty_free rfl fun a w' hE hF hA => ?_
        have x1 : a.eval (.tmp 52) = _ := hA.slot 5 52 rfl rfl ⟨⟨5, .data⟩, by simp, rfl, rfl⟩
        refine wp_buildSlice 106 110 1 _ rfl #[.int .i64 2, .int .u64 6] i0 (.agg #[.int .i64 0, .int .u64 0]) Tryd.underlying106 hi hz0 (by rw [hz1']; decide) (by rw [hz1']; decide) (by simp only [List.map_toArray, List.map_cons, List.map_nil, x1, hz1']; kernel_rfl) ⟨_, rfl, ⟨w'.heap.size, rfl, heap_alloc_new _ _⟩, Ext.alloc _ _⟩
      · refine duty_free rfl fun a w' hE hF hA => ?_
        have x1 : a.eval (.tmp 51) = _ := hA.slot 4 51 rfl rfl ⟨⟨4, .data⟩, by simp, rfl, rfl⟩
        obtain ⟨g, x2, hg⟩ : ∃ g, a.eval (.tmp 53) = .slice (some ⟨g, 0, none⟩) 1 1 ∧ w'.heap[g]? = some (.cells #[.int .i64 2, .int .u64 6] 110 (0, 0)) := hA.slot 6 53 rfl rfl ⟨⟨6, .data⟩, by simp, rfl, rfl⟩
        have hcs : Cells w'.heap.size w' (some ⟨g, 0, none⟩) [.int .i64 2, .int .u64 6] := fun j u hj => ⟨g, 0, rfl, (Array.getElem?_eq_some_iff.1 hg).1, by rw [Nat.zero_add, cell_of_row _ _ _ _ _ _ hg]; simpa using hj⟩
        have hsrc : Src Tryd.prog 2 106 (.slice (some ⟨g, 0, none⟩) 1 1) 1 [.int .i64 2, .int .u64 6] w' := hcs.src Tryd.underlying106 1 1 rfl (by simp [Value.oneCell'])
        obtain ⟨v', w2, hr, hown, hgr, _, _⟩ := run_append_own_src (P := Tryd.prog) w' w'.heap.size 106 106 106 110 i0 (.agg #[.int .i64 0, .int .u64 0]) 2 16 Tryd.underlying106 hi hz0 hz1' hz2 rfl (by decide) (.slice none 0 0) 0 [] (World.ownsRow_nil _ _ _ _) _ 1 _ hsrc (by unfold maxLen; omega) (by omega) (Nat.le_refl _)
        obtain ⟨a', c', rfl, _⟩ := ownsRow_from hown
        exact wp_value (ex_append rfl (by rw [x1, x2]; exact hr)) ⟨_, rfl, ⟨a', c', rfl⟩, ⟨hgr.os, hgr.tape, hgr.output, hgr.size, fun k hk => hgr.block k hk (by simp [Value.ownBlock])⟩⟩
      · refine duty_free rfl fun a w' hE hF hA => ?_
        have x1 : a.eval (.tmp 47) = _ := hA.slot 0 47 rfl rfl ⟨⟨0, .data⟩, by simp, rfl, rfl⟩
        exact wp_value (ex_nilCheck rfl _ x1) ⟨_, rfl, rfl, Ext.refl _⟩
      · refine duty_free rfl fun a w' hE hF hA => ?_
        have x1 : a.eval (.tmp 55) = _ := hA.slot 8 55 rfl rfl ⟨⟨8, .data⟩, by simp, rfl, rfl⟩
        exact wp_value (v := .pointer (some ⟨bb, 3, none⟩)) (w' := w') (by simp only [execOp, x1]; simp [go_sem]) ⟨_, rfl, rfl, Ext.refl _⟩
    case last =>
      intro us W4 hE4 hl hP
      have hl' : us.length = 10 := by simpa using hl
      clear hl
      obtain ⟨u0, u1, u2, u3, u4, u5, u6, u7, u8, u9, rfl⟩ := us10 us hl'
      have h7 : ∃ a c, u7 = .slice a 1 c := hP 7 u7 rfl
      have h7a := h7.choose_spec
      generalize h7.choose = a' at h7a
      have h7b := h7a.choose_spec
      generalize h7a.choose = c' at h7b
      have h9 : u9 = .pointer (some ⟨bb, 3, none⟩) := hP 9 u9 rfl
      subst h7b h9
      clear h7 h7a
      have hb4 := (hE4.block bb (Array.getElem?_eq_some_iff.1 hb3).1).trans hb3
      have hfin : FirstOut w bb (.returned (.bool true)) (W4.setRow bb #[.int .i64 2, .int .i64 2, .int .i64 2, .slice a' 1 c', .int .i64 0]) :=
        ⟨rfl, ⟨_, setRow_heap _ _ _ _ _ _ hb4, a', c', rfl⟩, ((HC2.out.trans (But.of_ext hE3)).trans (But.of_ext hE4)).trans (But.set _ _ _)⟩
      have HFIN := Lib.hid hfin
      have HB4 := Lib.hid hb4
      unfold bkC at HB4
      clear hfin hb4 hb3 ce3 c3 hP hl'
      simp only [filled, List.take_succ_cons, List.take_zero, List.zip_cons_cons, List.zip_nil_left, List.foldl_cons, List.foldl_nil, Act.put, List.setIfInBounds_toArray, List.set_cons_succ, List.set_cons_zero]
      refine wp_store_in 106 (.tmp 56) (.tmp 54) bb 3 (.slice a' 1 c') 108 _ #[.int .i64 2, .int .i64 2, .int .i64 2, .slice a' 1 c', .int .i64 0] HB4.out (by simp [Value.cells]) infoEnts (by simp [Value.cells]) (by simp [Value.cells, Value.oneCell']) ?_ rfl rfl rfl
      simp only [Exit.inBlock, Exit.then, Act.put]
      rename_i hK2
      refine hK2 _ _ ?_
      go_wp2
      go_ret
      exact HFIN.out
end Go.Proofs.YtamolbegmkngdaaDoor
namespace Go.Proofs.YtamolbegmkngdaaDoor
open Go.RowKit
set_option maxHeartbeats 4000000
set_option maxRecDepth 100000

theorem blen_row (w : World) (bb : Nat) (a : Option Addr) (n c : Nat) (h3 : w.cell? ⟨bb, 3, none⟩ = some (.slice a n c)) : Calls Tryd.prog 41 #[.pointer (some ⟨bb, 0, none⟩)] w fun e w' => e = .returned (.int .i64 n) ∧ w = w' := by
  go_enter Tryd.func41, Tryd.ntmps41
  go_wp2
  go_ret
  exact ⟨rfl, rfl⟩

theorem root_number : addN 0 [rootN] ≠ 0 := by decide +kernel

theorem alive9_any (w : World) (hT : Tabs w) : Calls Tryd.prog 16 #[] w fun e w' => e = .returned (.bool true) ∧ Ext w w' := by
  have hsz := hT.size
  have C1 := newbook_any 2 2 w
  unfold NewBookOut at C1
  simp only [show ((1 : Int) ≤ 2 ∧ (1 : Int) ≤ 2) from by decide, if_true, and_self] at C1
  have C1 := Lib.hid C1
  have HT := Lib.hid hT
  clear hT
  go_enter Tryd.func16, Tryd.ntmps16
  go_wp2_with fail
  refine C1.out.mono ?_
  rintro e W1 ⟨bb, rfl, hbb, hB, hE1⟩
  have hbl := hB.bound _ hB.mine
  have C2 : Calls Tryd.prog 39 #[.slice none 0 0] W1 fun e w' => e = .returned (.int .u64 14695981039346656037) ∧ W1 = w' := sum_any none 0 [] W1 (Cells.nil _ _ _) (by simp)
  have C2 := Lib.hid C2
  have C3 := Lib.hid (notefirst_any W1 bb hB.blk)
  have HE1 := Lib.hid hE1
  have hz1 := hE1.size
  clear hB hE1 C1
  go_wp2_with fail
  refine C2.out.mono ?_
  rintro e W2 ⟨rfl, rfl⟩
  clear C2
  go_wp2_with fail
  refine C3.out.mono ?_
  rintro e W2 ⟨rfl, ⟨v, hrow, a, c, rfl⟩, hBut⟩
  have hB2 : Ext w W2 := HE1.out.trans' (hBut.below hbb (by omega))
  have C4 := Lib.hid (blen_row W2 bb a 1 c (cell_of_row _ _ 3 _ _ _ hrow))
  have C5 := Lib.hid (new_any W2)
  have HB2 := Lib.hid hB2
  clear C3 hrow hBut hB2
  go_wp2_with fail
  refine C4.out.mono ?_
  rintro e W3 ⟨rfl, rfl⟩
  clear C4
  go_wp2_with fail
  refine C5.out.mono ?_
  rintro e W3 ⟨bt, rfl, hTr, hE3⟩
  have hE3 : Ext W2 W3 := hE3
  have hB3 := HB2.out.trans hE3
  have C6 := dof_any _ W3 bt _ _ hTr (HT.out.below hB3 hsz) (by simp)
  simp only [List.map_cons, List.map_nil] at C6
  have C6 := Lib.hid C6
  have HB3 := Lib.hid hB3
  have hne : (addN 0 [rootN] != 0) = true := by simpa using root_number
  have hne2 : decide (addN 0 [rootN] = 0) = false := by simpa using root_number
  clear hTr hE3 hB3 C5
  go_wp2_with fail
  refine C6.out.mono ?_
  rintro e W4 ⟨rfl, hE4⟩
  have HFIN := Lib.hid (HB3.out.trans hE4)
  clear hE4 C6
  go_wp2
  go_ret
  exact ⟨rfl, HFIN.out⟩
end Go.Proofs.YtamolbegmkngdaaDoor
