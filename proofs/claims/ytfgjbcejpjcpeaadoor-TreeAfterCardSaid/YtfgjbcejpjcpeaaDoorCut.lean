/- A tree is cut down from the last path on: what is left. -/
import Derived.Test.YtfgjbcejpjcpeaaDoorRem
namespace Go.Proofs.YtfgjbcejpjcpeaaDoor
open Go.RowKit
set_option maxHeartbeats 1000000

theorem before_prefix (a b : List UInt8) (hb : b ≠ []) : bytesBefore a (a ++ b) = true := by
  induction a with
  | nil => cases b with
    | nil => exact absurd rfl hb
    | cons x b => rfl
  | cons x a ih => simp [bytesBefore, ih]

/-- A child comes after its parent. -/
theorem parent_before {s : ByteArray} (h : vpath s = true) (h1 : s.size ≠ 1) : bytesBefore (parentB s).data.toList s.data.toList = true := by
  obtain ⟨e, hn, _, _⟩ := path_split h h1
  have hn' : (nameB s).data.toList ≠ [] := fun e => hn (by rw [← size_list, e]; rfl)
  rw [e]
  unfold preL
  split
  · exact before_prefix _ _ hn'
  · rw [List.append_assoc]
    exact before_prefix _ _ (by simp)

theorem before_asymm : ∀ {a b : List UInt8}, bytesBefore a b = true → bytesBefore b a = true → False
  | [], [], h, _ => by simp [bytesBefore] at h
  | [], _ :: _, _, h => by simp [bytesBefore] at h
  | _ :: _, [], h, _ => by simp [bytesBefore] at h
  | x :: a, y :: b, h, k => by
    simp only [bytesBefore, Bool.or_eq_true, Bool.and_eq_true, decide_eq_true_eq, beq_iff_eq] at h k
    rcases h with h | ⟨rfl, h⟩
    · rcases k with k | ⟨rfl, k⟩
      · exact absurd h (UInt8.lt_asymm k)
      · exact absurd h (UInt8.lt_irrefl _)
    · rcases k with k | ⟨_, k⟩
      · exact absurd k (UInt8.lt_irrefl _)
      · exact before_asymm h k

theorem MOk.take {M : List (Key × Nd)} (h : MOk M) (m : Nat) : MOk (M.take m) :=
  ⟨List.Pairwise.sublist (List.take_sublist m M) h.sorted, fun x hx => h.key x (List.mem_of_mem_take hx), fun x hx => h.right x (List.mem_of_mem_take hx)⟩

theorem sorted_at {M : List (Key × Nd)} (h : MSorted M) {i j : Nat} (hij : i < j) (hj : j < M.length) : bytesBefore (M[i]'(by omega)).1 M[j].1 = true := List.pairwise_iff_getElem.1 h i j (by omega) hj hij

theorem cut_kids {M : List (Key × Nd)} (hM : MOk M) {k : Nat} (hk : k < M.length) : kidsOf (M.take (k + 1)) (M[k].2.path) = [] := by
  unfold kidsOf
  rw [List.map_eq_nil_iff, List.filter_eq_nil_iff]
  intro x hx hc
  obtain ⟨h1, h2⟩ := childOf_iff.1 hc
  have hxM := List.mem_of_mem_take hx
  have hb := parent_before (right_vpath (hM.right x hxM)) h1
  rw [h2] at hb
  obtain ⟨i, hi, e⟩ := List.getElem_of_mem hx
  simp only [List.length_take] at hi
  rw [List.getElem_take] at e
  have ek := hM.key x hxM
  have ek2 := hM.key M[k] (List.getElem_mem hk)
  unfold keyN at ek ek2
  rw [← ek, ← ek2] at hb
  by_cases hik : i = k
  · subst hik
    rw [e] at hb
    exact before_asymm hb hb
  · have := sorted_at hM.sorted (i := i) (j := k) (by omega) hk
    rw [e] at this
    exact before_asymm this hb

theorem root_first {M : List (Key × Nd)} (hM : MOk M) (h : mget M [47] ≠ none) : ∃ h0 : 0 < M.length, (M[0]'h0).1 = [47] := by
  cases hg : mget M [47] with
  | none => exact absurd hg h
  | some n =>
    obtain ⟨i, hi, e⟩ := List.getElem_of_mem (mget_some_mem hg)
    refine ⟨by omega, ?_⟩
    by_cases h0 : i = 0
    · subst h0; rw [e]
    · exfalso
      have hb := sorted_at hM.sorted (i := 0) (j := i) (by omega) hi
      rw [e] at hb
      have hv := vpath_facts (right_vpath (hM.right _ (List.getElem_mem (show 0 < M.length by omega))))
      rw [hM.key _ (List.getElem_mem (show 0 < M.length by omega))] at hb
      obtain ⟨h1, _, h47, _⟩ := hv
      unfold keyN at hb
      have hs : 0 < (M[0]'(by omega)).2.path.data.toList.length := by rw [size_list]; omega
      cases hl : (M[0]'(by omega)).2.path.data.toList with
      | nil => rw [hl] at hs; simp at hs
      | cons x r =>
        have hx : x = 47 := by
          have := (bat_toList _ 0 (by omega)).2 h47
          simpa [hl] using this
        rw [hl, hx] at hb
        cases r <;> simp [bytesBefore] at hb

theorem path_one {n : Nd} (h : rightN n = 0) (h1 : n.path.size = 1) : keyN n = [47] := by
  obtain ⟨_, _, h47, _⟩ := vpath_facts (right_vpath h)
  unfold keyN
  have h2 := (bat_toList n.path 0 (by omega)).2 h47
  have hs : n.path.data.toList.length = 1 := by rw [size_list]; exact h1
  cases hl : n.path.data.toList with
  | nil => rw [hl] at hs; simp at hs
  | cons x r =>
    simp only [hl, List.getElem_cons_zero] at h2
    rw [hl] at hs
    simp at hs
    rw [h2, hs]

theorem cut_ne {M : List (Key × Nd)} (hM : MOk M) (h : mget M [47] ≠ none) {k : Nat} (hk0 : 0 < k) (hk : k < M.length) : M[k].2.path.size ≠ 1 := fun e => by
  obtain ⟨h0, hr⟩ := root_first hM h
  have h1 := path_one (hM.right _ (List.getElem_mem hk)) e
  rw [← hM.key _ (List.getElem_mem hk)] at h1
  have := sorted_at hM.sorted hk0 hk
  rw [hr, h1] at this
  exact before_asymm this this

theorem cut_del {M : List (Key × Nd)} (hM : MOk M) {k : Nat} (hk : k < M.length) : mdel (M.take (k + 1)) M[k].1 = M.take k := by
  unfold mdel
  rw [List.take_add_one, List.getElem?_eq_getElem hk, Option.toList_some, List.filter_append]
  have h1 : (M.take k).filter (fun x => !(x.1 == M[k].1)) = M.take k := by
    rw [List.filter_eq_self]
    intro x hx
    obtain ⟨i, hi, e⟩ := List.getElem_of_mem hx
    simp only [List.length_take] at hi
    rw [List.getElem_take] at e
    have := sorted_at hM.sorted (i := i) (j := k) (by omega) hk
    rw [e] at this
    simp only [Bool.not_eq_true', beq_eq_false_iff_ne, ne_eq]
    intro e2
    rw [e2] at this
    exact before_asymm this this
  rw [h1]
  simp

theorem cut_step {M : List (Key × Nd)} (hM : MOk M) (h : mget M [47] ≠ none) {k : Nat} (hk0 : 0 < k) (hk : k < M.length) : remM (M.take (k + 1)) M[k].2.path = M.take k := by
  have hkey := hM.key _ (List.getElem_mem hk)
  have hmem : (M[k].1, M[k].2) ∈ M.take (k + 1) := List.mem_of_getElem? (i := k) (by rw [List.getElem?_take, if_pos (by omega), List.getElem?_eq_getElem hk])
  have hg := mget_of_mem (hM.take (k + 1)).sorted hmem
  have e : remE (M.take (k + 1)) M[k].2.path = 0 := by
    unfold remE
    rw [if_neg (fun h' => h' ⟨right_vpath (hM.right _ (List.getElem_mem hk)), cut_ne hM h hk0 hk⟩), if_neg, if_neg]
    · rw [cut_kids hM hk]; simp
    · unfold keyN at hkey
      rw [← hkey, hg]; simp
  unfold remM
  rw [if_pos e]
  unfold keyN at hkey
  rw [← hkey]
  exact cut_del hM hk

theorem cut_none {M : List (Key × Nd)} (hM : MOk M) {k m : Nat} (hm : m ≤ k) (hk : k < M.length) : remM (M.take m) M[k].2.path = M.take m := by
  have hkey := hM.key _ (List.getElem_mem hk)
  have hg : mget (M.take m) M[k].2.path.data.toList = none := mget_none_of fun x hx e2 => by
    obtain ⟨i, hi, e⟩ := List.getElem_of_mem hx
    simp only [List.length_take] at hi
    rw [List.getElem_take] at e
    have := sorted_at hM.sorted (i := i) (j := k) (by omega) hk
    unfold keyN at hkey
    rw [e, e2, hkey] at this
    exact before_asymm this this
  have e : remE (M.take m) M[k].2.path ≠ 0 := by
    unfold remE
    rw [if_pos hg]
    split <;> decide
  unfold remM
  rw [if_neg e]

/-- One removal, from a tree that is cut down this far. -/
theorem cut_one {M : List (Key × Nd)} (hM : MOk M) (h : mget M [47] ≠ none) {k m : Nat} (hk0 : 0 < k) (hk : k < M.length) (hm : m ≤ k + 1) (hm1 : 1 ≤ m) : ∃ m', 1 ≤ m' ∧ m' ≤ k ∧ remM (M.take m) M[k].2.path = M.take m' := by
  by_cases e : m = k + 1
  · subst e
    exact ⟨k, hk0, Nat.le_refl _, cut_step hM h hk0 hk⟩
  · exact ⟨m, hm1, by omega, cut_none hM (by omega) hk⟩


theorem fromL_err : ∀ {L : List Nd} {i : Nat} {M : List (Key × Nd)} {e : Nat × Int}, fromL L i M = .error e → e.2 ≠ 0
  | [], _, _, _, h => by simp [fromL] at h
  | n :: l, i, M, e, h => by
    unfold fromL at h
    split at h
    · rename_i hr; cases h; exact hr
    · split at h
      · cases h; exact (by decide : (71 : Int) ≠ 0)
      · exact fromL_err h
theorem parL_err {M : List (Key × Nd)} : ∀ {L : List Nd} {i : Nat} {e : Nat × Int}, parL M L i = .error e → e.2 ≠ 0
  | [], _, _, h => by simp [parL] at h
  | n :: l, i, e, h => by
    unfold parL at h
    split at h
    · cases h; exact (by decide : (73 : Int) ≠ 0)
    · exact parL_err h
theorem fromN_err {L : List Nd} {e : Nat × Int} (h : fromN L = .error e) : e.2 ≠ 0 := by
  unfold fromN at h
  split at h
  · rename_i h1; cases h; exact fromL_err h1
  · split at h
    · cases h; decide
    · split at h
      · rename_i h1; cases h; exact parL_err h1
      · cases h
theorem fromN_root {L : List Nd} {M : List (Key × Nd)} (h : fromN L = .ok M) : mget M [47] ≠ none := by
  unfold fromN at h
  split at h
  · cases h
  · split at h
    · cases h
    · split at h
      · cases h
      · rename_i h1 _ _ _; cases h; exact h1
end Go.Proofs.YtfgjbcejpjcpeaaDoor
