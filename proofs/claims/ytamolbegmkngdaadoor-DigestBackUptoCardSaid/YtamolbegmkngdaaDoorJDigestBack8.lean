/- A tree is cut down from the last path on: what is left. What is under a path: itself and what is under its children. The list that grows while its places are gone through: in the end it holds what is under the first. The list under a path, sorted. The walk of paths.Join. Joining a node's path and a child's last part gives the child's path. The plain sums of TreeSums. The nodes of a tree in another order are the same tree: the plain law; a list turned round and about. What From makes of nodes has as many, and a root. A range over a tree's nodes: the loop variable in a box of its own. -/
import Derived.Test.YtamolbegmkngdaaDoorJDigestBack6
import Derived.Test.YtamolbegmkngdaaDoorJDigestBack4
import Derived.Lib.IndexLaws
import Derived.Test.YtamolbegmkngdaaDoorJDigestBack5
import Derived.Test.YtamolbegmkngdaaDoorJDigestBack7
namespace Go.Proofs.YtamolbegmkngdaaDoor
open Go.RowKit
set_option maxHeartbeats 1000000

theorem before_prefix (a b : List UInt8) (hb : b ≠ []) : bytesBefore a (a ++ b) = true := by
  induction a with
  | nil => cases b with
    | nil => exact absurd rfl hb
    | cons x b => rfl
  | cons x a ih => simp [bytesBefore, ih]

/-- A child comes after its parent. -/
theorem parent_before {s : ByteArray} (h : vpath s = true) (h1 : s.size ≠ 1) : bytesBefore (parentB s).data.toList s.data.toList = true := by
  obtain ⟨e, hn, _, _⟩ := path_split h h1
  have hn' : (nameB s).data.toList ≠ [] := fun e => hn (by rw [← size_list, e]; rfl)
  rw [e]
  unfold preL
  split
  · exact before_prefix _ _ hn'
  · rw [List.append_assoc]
    exact before_prefix _ _ (by simp)

theorem before_asymm : ∀ {a b : List UInt8}, bytesBefore a b = true → bytesBefore b a = true → False
  | [], [], h, _ => by simp [bytesBefore] at h
  | [], _ :: _, _, h => by simp [bytesBefore] at h
  | _ :: _, [], h, _ => by simp [bytesBefore] at h
  | x :: a, y :: b, h, k => by
    simp only [bytesBefore, Bool.or_eq_true, Bool.and_eq_true, decide_eq_true_eq, beq_iff_eq] at h k
    rcases h with h | ⟨rfl, h⟩
    · rcases k with k | ⟨rfl, k⟩
      · exact absurd h (UInt8.lt_asymm k)
      · exact absurd h (UInt8.lt_irrefl _)
    · rcases k with k | ⟨_, k⟩
      · exact absurd k (UInt8.lt_irrefl _)
      · exact before_asymm h k

theorem MOk.take {M : List (Key × Nd)} (h : MOk M) (m : Nat) : MOk (M.take m) :=
  ⟨List.Pairwise.sublist (List.take_sublist m M) h.sorted, fun x hx => h.key x (List.mem_of_mem_take hx), fun x hx => h.right x (List.mem_of_mem_take hx)⟩

theorem sorted_at {M : List (Key × Nd)} (h : MSorted M) {i j : Nat} (hij : i < j) (hj : j < M.length) : bytesBefore (M[i]'(by omega)).1 M[j].1 = true := List.pairwise_iff_getElem.1 h i j (by omega) hj hij

theorem cut_kids {M : List (Key × Nd)} (hM : MOk M) {k : Nat} (hk : k < M.length) : kidsOf (M.take (k + 1)) (M[k].2.path) = [] := by
  unfold kidsOf
  rw [List.map_eq_nil_iff, List.filter_eq_nil_iff]
  intro x hx hc
  obtain ⟨h1, h2⟩ := childOf_iff.1 hc
  have hxM := List.mem_of_mem_take hx
  have hb := parent_before (right_vpath (hM.right x hxM)) h1
  rw [h2] at hb
  obtain ⟨i, hi, e⟩ := List.getElem_of_mem hx
  simp only [List.length_take] at hi
  rw [List.getElem_take] at e
  have ek := hM.key x hxM
  have ek2 := hM.key M[k] (List.getElem_mem hk)
  unfold keyN at ek ek2
  rw [← ek, ← ek2] at hb
  by_cases hik : i = k
  · subst hik
    rw [e] at hb
    exact before_asymm hb hb
  · have := sorted_at hM.sorted (i := i) (j := k) (by omega) hk
    rw [e] at this
    exact before_asymm this hb

theorem root_first {M : List (Key × Nd)} (hM : MOk M) (h : mget M [47] ≠ none) : ∃ h0 : 0 < M.length, (M[0]'h0).1 = [47] := by
  cases hg : mget M [47] with
  | none => exact absurd hg h
  | some n =>
    obtain ⟨i, hi, e⟩ := List.getElem_of_mem (mget_some_mem hg)
    refine ⟨by omega, ?_⟩
    by_cases h0 : i = 0
    · subst h0; rw [e]
    · exfalso
      have hb := sorted_at hM.sorted (i := 0) (j := i) (by omega) hi
      rw [e] at hb
      have hv := vpath_facts (right_vpath (hM.right _ (List.getElem_mem (show 0 < M.length by omega))))
      rw [hM.key _ (List.getElem_mem (show 0 < M.length by omega))] at hb
      obtain ⟨h1, _, h47, _⟩ := hv
      unfold keyN at hb
      have hs : 0 < (M[0]'(by omega)).2.path.data.toList.length := by rw [size_list]; omega
      cases hl : (M[0]'(by omega)).2.path.data.toList with
      | nil => rw [hl] at hs; simp at hs
      | cons x r =>
        have hx : x = 47 := by
          have := (bat_toList _ 0 (by omega)).2 h47
          simpa [hl] using this
        rw [hl, hx] at hb
        cases r <;> simp [bytesBefore] at hb

theorem path_one {n : Nd} (h : rightN n = 0) (h1 : n.path.size = 1) : keyN n = [47] := by
  obtain ⟨_, _, h47, _⟩ := vpath_facts (right_vpath h)
  unfold keyN
  have h2 := (bat_toList n.path 0 (by omega)).2 h47
  have hs : n.path.data.toList.length = 1 := by rw [size_list]; exact h1
  cases hl : n.path.data.toList with
  | nil => rw [hl] at hs; simp at hs
  | cons x r =>
    simp only [hl, List.getElem_cons_zero] at h2
    rw [hl] at hs
    simp at hs
    rw [h2, hs]

theorem cut_ne {M : List (Key × Nd)} (hM : MOk M) (h : mget M [47] ≠ none) {k : Nat} (hk0 : 0 < k) (hk : k < M.length) : M[k].2.path.size ≠ 1 := fun e => by
  obtain ⟨h0, hr⟩ := root_first hM h
  have h1 := path_one (hM.right _ (List.getElem_mem hk)) e
  rw [← hM.key _ (List.getElem_mem hk)] at h1
  have := sorted_at hM.sorted hk0 hk
  rw [hr, h1] at this
  exact before_asymm this this

theorem cut_del {M : List (Key × Nd)} (hM : MOk M) {k : Nat} (hk : k < M.length) : mdel (M.take (k + 1)) M[k].1 = M.take k := by
  unfold mdel
  rw [List.take_add_one, List.getElem?_eq_getElem hk, Option.toList_some, List.filter_append]
  have h1 : (M.take k).filter (fun x => !(x.1 == M[k].1)) = M.take k := by
    rw [List.filter_eq_self]
    intro x hx
    obtain ⟨i, hi, e⟩ := List.getElem_of_mem hx
    simp only [List.length_take] at hi
    rw [List.getElem_take] at e
    have := sorted_at hM.sorted (i := i) (j := k) (by omega) hk
    rw [e] at this
    simp only [Bool.not_eq_true', beq_eq_false_iff_ne, ne_eq]
    intro e2
    rw [e2] at this
    exact before_asymm this this
  rw [h1]
  simp

theorem cut_step {M : List (Key × Nd)} (hM : MOk M) (h : mget M [47] ≠ none) {k : Nat} (hk0 : 0 < k) (hk : k < M.length) : remM (M.take (k + 1)) M[k].2.path = M.take k := by
  have hkey := hM.key _ (List.getElem_mem hk)
  have hmem : (M[k].1, M[k].2) ∈ M.take (k + 1) := List.mem_of_getElem? (i := k) (by rw [List.getElem?_take, if_pos (by omega), List.getElem?_eq_getElem hk])
  have hg := mget_of_mem (hM.take (k + 1)).sorted hmem
  have e : remE (M.take (k + 1)) M[k].2.path = 0 := by
    unfold remE
    rw [if_neg (fun h' => h' ⟨right_vpath (hM.right _ (List.getElem_mem hk)), cut_ne hM h hk0 hk⟩), if_neg, if_neg]
    · rw [cut_kids hM hk]; simp
    · unfold keyN at hkey
      rw [← hkey, hg]; simp
  unfold remM
  rw [if_pos e]
  unfold keyN at hkey
  rw [← hkey]
  exact cut_del hM hk

theorem cut_none {M : List (Key × Nd)} (hM : MOk M) {k m : Nat} (hm : m ≤ k) (hk : k < M.length) : remM (M.take m) M[k].2.path = M.take m := by
  have hkey := hM.key _ (List.getElem_mem hk)
  have hg : mget (M.take m) M[k].2.path.data.toList = none := mget_none_of fun x hx e2 => by
    obtain ⟨i, hi, e⟩ := List.getElem_of_mem hx
    simp only [List.length_take] at hi
    rw [List.getElem_take] at e
    have := sorted_at hM.sorted (i := i) (j := k) (by omega) hk
    unfold keyN at hkey
    rw [e, e2, hkey] at this
    exact before_asymm this this
  have e : remE (M.take m) M[k].2.path ≠ 0 := by
    unfold remE
    rw [if_pos hg]
    split <;> decide
  unfold remM
  rw [if_neg e]

/-- One removal, from a tree that is cut down this far. -/
theorem cut_one {M : List (Key × Nd)} (hM : MOk M) (h : mget M [47] ≠ none) {k m : Nat} (hk0 : 0 < k) (hk : k < M.length) (hm : m ≤ k + 1) (hm1 : 1 ≤ m) : ∃ m', 1 ≤ m' ∧ m' ≤ k ∧ remM (M.take m) M[k].2.path = M.take m' := by
  by_cases e : m = k + 1
  · subst e
    exact ⟨k, hk0, Nat.le_refl _, cut_step hM h hk0 hk⟩
  · exact ⟨m, hm1, by omega, cut_none hM (by omega) hk⟩


theorem fromL_err : ∀ {L : List Nd} {i : Nat} {M : List (Key × Nd)} {e : Nat × Int}, fromL L i M = .error e → e.2 ≠ 0
  | [], _, _, _, h => by simp [fromL] at h
  | n :: l, i, M, e, h => by
    unfold fromL at h
    split at h
    · rename_i hr; cases h; exact hr
    · split at h
      · cases h; exact (by decide : (71 : Int) ≠ 0)
      · exact fromL_err h
theorem parL_err {M : List (Key × Nd)} : ∀ {L : List Nd} {i : Nat} {e : Nat × Int}, parL M L i = .error e → e.2 ≠ 0
  | [], _, _, h => by simp [parL] at h
  | n :: l, i, e, h => by
    unfold parL at h
    split at h
    · cases h; exact (by decide : (73 : Int) ≠ 0)
    · exact parL_err h
theorem fromN_err {L : List Nd} {e : Nat × Int} (h : fromN L = .error e) : e.2 ≠ 0 := by
  unfold fromN at h
  split at h
  · rename_i h1; cases h; exact fromL_err h1
  · split at h
    · cases h; decide
    · split at h
      · rename_i h1; cases h; exact parL_err h1
      · cases h
theorem fromN_root {L : List Nd} {M : List (Key × Nd)} (h : fromN L = .ok M) : mget M [47] ≠ none := by
  unfold fromN at h
  split at h
  · cases h
  · split at h
    · cases h
    · split at h
      · cases h
      · rename_i h1 _ _ _; cases h; exact h1
end Go.Proofs.YtamolbegmkngdaaDoor
namespace Go.Proofs.YtamolbegmkngdaaDoor
open Go.RowKit
set_option maxHeartbeats 1000000

/-- The steps from a path to the root: is s among them? -/
def undF : Nat → ByteArray → ByteArray → Bool
  | 0, p, s => p.data == s.data
  | f + 1, p, s => p.data == s.data || (p.size != 1 && undF f (parentB p) s)
def und (p s : ByteArray) : Bool := undF p.size p s

/-- Each node's parent is there. -/
def Clo (M : List (Key × Nd)) : Prop := ∀ x ∈ M, x.2.path.size ≠ 1 → ∃ y ∈ M, y.2.path = parentB x.2.path

theorem und_self (p : ByteArray) : und p p = true := by
  unfold und
  cases p.size <;> simp [undF]

theorem und_size {M : List (Key × Nd)} (hM : MOk M) (hc : Clo M) : ∀ (f : Nat) (x : Key × Nd), x ∈ M → ∀ s, undF f x.2.path s = true → s.size ≤ x.2.path.size
  | 0, x, _, s, h => by
    have : x.2.path = s := by
      simp only [undF, beq_iff_eq] at h
      exact ByteArray.ext h
    rw [this]; exact Nat.le_refl _
  | f + 1, x, hx, s, h => by
    simp only [undF, Bool.or_eq_true, beq_iff_eq, Bool.and_eq_true, bne_iff_ne, ne_eq] at h
    rcases h with h | ⟨h1, h⟩
    · have : x.2.path = s := ByteArray.ext h
      rw [this]; exact Nat.le_refl _
    · obtain ⟨y, hy, ey⟩ := hc x hx h1
      have := und_size hM hc f y hy s (by rw [ey]; exact h)
      have hs := (path_split (right_vpath (hM.right x hx)) h1).2.2.1
      rw [ey] at this
      omega

theorem MOk.pos {M : List (Key × Nd)} (hM : MOk M) {x : Key × Nd} (hx : x ∈ M) : 0 < x.2.path.size := by
  have := (vpath_facts (right_vpath (hM.right x hx))).1
  omega

theorem und_fuel {M : List (Key × Nd)} (hM : MOk M) (hc : Clo M) : ∀ (f g : Nat) (x : Key × Nd), x ∈ M → x.2.path.size ≤ f → x.2.path.size ≤ g → ∀ s, undF f x.2.path s = undF g x.2.path s
  | 0, _, x, hx, hf, _, s => by have := hM.pos hx; omega
  | _ + 1, 0, x, hx, _, hg, s => by have := hM.pos hx; omega
  | f + 1, g + 1, x, hx, hf, hg, s => by
    simp only [undF]
    by_cases h1 : x.2.path.size = 1
    · simp only [h1, bne_self_eq_false, Bool.false_and]
    · obtain ⟨y, hy, ey⟩ := hc x hx h1
      have hs := (path_split (right_vpath (hM.right x hx)) h1).2.2.1
      have e1 := und_fuel hM hc f g y hy (by rw [ey]; omega) (by rw [ey]; omega) s
      rw [ey] at e1
      rw [e1]

theorem und_one {M : List (Key × Nd)} (hM : MOk M) {x : Key × Nd} (hx : x ∈ M) (h1 : x.2.path.size = 1) (s : ByteArray) : und x.2.path s = (x.2.path.data == s.data) := by
  unfold und
  rw [h1]
  simp only [undF, h1, bne_self_eq_false, Bool.false_and, Bool.or_false]

theorem und_up {M : List (Key × Nd)} (hM : MOk M) (hc : Clo M) {x y : Key × Nd} (hx : x ∈ M) (hy : y ∈ M) (h1 : x.2.path.size ≠ 1) (ey : y.2.path = parentB x.2.path) (s : ByteArray) :
    und x.2.path s = (x.2.path.data == s.data || und y.2.path s) := by
  have hp := hM.pos hx
  have hs := (path_split (right_vpath (hM.right x hx)) h1).2.2.1
  obtain ⟨g, hg⟩ : ∃ g, x.2.path.size = g + 1 := ⟨x.2.path.size - 1, by omega⟩
  have e1 := und_fuel hM hc g y.2.path.size y hy (by rw [ey]; omega) (Nat.le_refl _) s
  have h2 : (x.2.path.size != 1) = true := by simpa using h1
  unfold und
  rw [hg]
  simp only [undF]
  rw [hg] at h2
  rw [hg, h2, ← ey, e1, Bool.true_and]

theorem und_le {M : List (Key × Nd)} (hM : MOk M) (hc : Clo M) {x : Key × Nd} (hx : x ∈ M) {s : ByteArray} (h : und x.2.path s = true) : s.size ≤ x.2.path.size := und_size hM hc _ x hx s h

section sums
variable {α β : Type}
theorem sum_add (l : List α) (a b : α → Nat) : (l.map fun x => a x + b x).sum = (l.map a).sum + (l.map b).sum := by
  induction l with
  | nil => rfl
  | cons x l ih => simp only [List.map_cons, List.sum_cons]; omega
theorem sum_zero (l : List α) (a : α → Nat) (h : ∀ x ∈ l, a x = 0) : (l.map a).sum = 0 := by
  induction l with
  | nil => rfl
  | cons x l ih => simp only [List.map_cons, List.sum_cons]; rw [h x (List.mem_cons_self ..), ih fun y hy => h y (List.mem_cons_of_mem _ hy)]
theorem sum_congr (l : List α) (a b : α → Nat) (h : ∀ x ∈ l, a x = b x) : (l.map a).sum = (l.map b).sum := by
  rw [List.map_congr_left h]
theorem sum_swap (l : List α) (m : List β) (a : α → β → Nat) : (l.map fun x => (m.map fun y => a x y).sum).sum = (m.map fun y => (l.map fun x => a x y).sum).sum := by
  induction l with
  | nil => exact (sum_zero m _ fun _ _ => rfl).symm
  | cons x l ih => simp only [List.map_cons, List.sum_cons]; rw [sum_add m (fun y => a x y), ih]
theorem sum_mul (l : List α) (a : α → Nat) (k : Nat) : k * (l.map a).sum = (l.map fun x => k * a x).sum := by
  induction l with
  | nil => rfl
  | cons x l ih => simp only [List.map_cons, List.sum_cons]; rw [Nat.mul_add, ih]
theorem sum_filter (l : List α) (p : α → Bool) (a : α → Nat) : ((l.filter p).map a).sum = (l.map fun x => if p x = true then a x else 0).sum := by
  induction l with
  | nil => rfl
  | cons x l ih =>
    rw [List.filter_cons]
    cases h : p x <;> simp [h, ih]
end sums

theorem mem_path {M : List (Key × Nd)} (hM : MOk M) {x y : Key × Nd} (hx : x ∈ M) (hy : y ∈ M) (h : x.2.path = y.2.path) : x = y := by
  have k1 : x.1 = y.1 := by rw [hM.key x hx, hM.key y hy]; unfold keyN; rw [h]
  rcases List.getElem_of_mem hx with ⟨i, hi, ei⟩
  rcases List.getElem_of_mem hy with ⟨j, hj, ej⟩
  rcases Nat.lt_trichotomy i j with hij | hij | hij
  · have := sorted_at hM.sorted hij hj
    rw [ei, ej, k1] at this
    exact (before_asymm this this).elim
  · subst hij; rw [← ei, ← ej]
  · have := sorted_at hM.sorted hij hi
    rw [ei, ej, k1] at this
    exact (before_asymm this this).elim

theorem sum_at {M : List (Key × Nd)} (hM : MOk M) {x : Key × Nd} (hx : x ∈ M) (a : Key × Nd → Nat) : (M.map fun c => if c.2.path = x.2.path then a c else 0).sum = a x := by
  obtain ⟨l, r, e⟩ := List.append_of_mem hx
  have hn : ∀ y, (y ∈ l ∨ y ∈ r) → y.2.path ≠ x.2.path := by
    intro y hy h
    have hyM : y ∈ M := by rw [e]; rcases hy with hy | hy <;> simp [hy]
    have hs := hM.sorted
    rw [e] at hs
    have k1 : y.1 = x.1 := by rw [hM.key x hx, hM.key y hyM]; unfold keyN; rw [h]
    have hs' := List.pairwise_append.1 hs
    rcases hy with hy | hy
    · have := hs'.2.2 y hy x (List.mem_cons_self ..)
      rw [k1] at this
      exact before_asymm this this
    · have := (List.pairwise_cons.1 hs'.2.1).1 y hy
      rw [k1] at this
      exact before_asymm this this
  rw [e, List.map_append, List.sum_append, List.map_cons, List.sum_cons, sum_zero l _ fun y hy => if_neg (hn y (.inl hy)), sum_zero r _ fun y hy => if_neg (hn y (.inr hy)), if_pos rfl]
  omega

def bN (b : Bool) : Nat := if b = true then 1 else 0
theorem und_split {M : List (Key × Nd)} (hM : MOk M) (hc : Clo M) {s : Key × Nd} (hs : s ∈ M) : ∀ (f : Nat) (x : Key × Nd), x ∈ M → x.2.path.size ≤ f →
    bN (und x.2.path s.2.path) = (if x.2.path = s.2.path then 1 else 0) + (M.map fun c => if childOf s.2.path c.2 = true then bN (und x.2.path c.2.path) else 0).sum
  | 0, x, hx, hf => by have := hM.pos hx; omega
  | f + 1, x, hx, hf => by
    have hsm : ∀ c ∈ M, childOf s.2.path c.2 = true → s.2.path.size < c.2.path.size := fun c hcM h => by
      obtain ⟨h1, h2⟩ := childOf_iff.1 h
      have := (path_split (right_vpath (hM.right c hcM)) h1).2.2.1
      rw [h2] at this
      exact this
    by_cases he : x.2.path = s.2.path
    · rw [if_pos he, sum_zero M _ fun c hcM => ?_, he, und_self]; rfl
      split
      · rename_i h
        have hb : und x.2.path c.2.path = false := by
          cases hb : und x.2.path c.2.path with
          | false => rfl
          | true =>
            have := und_le hM hc hx hb
            have := hsm c hcM h
            rw [he] at *
            omega
        rw [hb]; rfl
      · rfl
    · rw [if_neg he]
      have hd : (x.2.path.data == s.2.path.data) = false := by
        cases hb : (x.2.path.data == s.2.path.data) with
        | false => rfl
        | true => exact absurd (ByteArray.ext (beq_iff_eq.1 hb)) he
      by_cases h1 : x.2.path.size = 1
      · rw [und_one hM hx h1, hd, sum_zero M _ fun c hcM => ?_]; rfl
        split
        · rename_i h
          have hcs := (childOf_iff.1 h).1
          rw [und_one hM hx h1]
          cases hb : (x.2.path.data == c.2.path.data) with
          | false => rfl
          | true => rw [ByteArray.ext (beq_iff_eq.1 hb)] at h1; exact absurd h1 hcs
        · rfl
      · obtain ⟨y, hy, ey⟩ := hc x hx h1
        have hsz := (path_split (right_vpath (hM.right x hx)) h1).2.2.1
        have ih := und_split hM hc hs f y hy (by rw [ey]; omega)
        rw [und_up hM hc hx hy h1 ey, hd, Bool.false_or, ih]
        have hS := sum_at hM hx (fun c => if childOf s.2.path c.2 = true then 1 else 0)
        have hy' : (if y.2.path = s.2.path then 1 else 0) = (if childOf s.2.path x.2 = true then 1 else 0 : Nat) := by
          by_cases hq : y.2.path = s.2.path
          · rw [if_pos hq, if_pos (childOf_iff.2 ⟨h1, by rw [← ey]; exact hq⟩)]
          · rw [if_neg hq, if_neg fun h => hq (by rw [ey]; exact (childOf_iff.1 h).2)]
        rw [hy', ← hS, ← sum_add, Nat.zero_add]
        refine sum_congr M _ _ fun c hcM => ?_
        by_cases hch : childOf s.2.path c.2 = true
        · rw [if_pos hch, if_pos hch, if_pos hch, und_up hM hc hx hy h1 ey]
          by_cases hxc : c.2.path = x.2.path
          · have hb : und y.2.path c.2.path = false := by
              cases hb : und y.2.path c.2.path with
              | false => rfl
              | true =>
                have := und_le hM hc hy hb
                rw [hxc, ey] at this
                omega
            rw [if_pos hxc, hb, hxc]
            simp [bN]
          · have hb : (x.2.path.data == c.2.path.data) = false := by
              cases hb : (x.2.path.data == c.2.path.data) with
              | false => rfl
              | true => exact absurd (ByteArray.ext (beq_iff_eq.1 hb)).symm hxc
            rw [if_neg hxc, hb, Bool.false_or]
            omega
        · rw [if_neg hch, if_neg hch, if_neg hch]
          split <;> rfl

/-- What is under s, weighed. -/
def wtN (M : List (Key × Nd)) (s : ByteArray) (a : Nd → Nat) : Nat := ((M.filter fun x => und x.2.path s).map fun x => a x.2).sum
theorem wt_split {M : List (Key × Nd)} (hM : MOk M) (hc : Clo M) {s : Key × Nd} (hs : s ∈ M) (a : Nd → Nat) :
    wtN M s.2.path a = a s.2 + ((M.filter fun c => childOf s.2.path c.2).map fun c => wtN M c.2.path a).sum := by
  have h0 : ∀ t : ByteArray, wtN M t a = (M.map fun x => a x.2 * bN (und x.2.path t)).sum := fun t => by
    unfold wtN
    rw [sum_filter]
    refine sum_congr M _ _ fun x _ => ?_
    unfold bN
    split <;> simp
  have h1 : (M.map fun x => a x.2 * bN (und x.2.path s.2.path)).sum = (M.map fun x => (if x.2.path = s.2.path then a x.2 else 0) + (M.map fun c => if childOf s.2.path c.2 = true then a x.2 * bN (und x.2.path c.2.path) else 0).sum).sum := by
    refine sum_congr M _ _ fun x hx => ?_
    rw [und_split hM hc hs _ x hx (Nat.le_refl _), Nat.mul_add, sum_mul]
    congr 1
    · split <;> simp
    · refine sum_congr M _ _ fun c _ => ?_
      split <;> simp
  rw [h0, h1, sum_add, sum_at hM hs (fun x => a x.2), sum_swap, sum_filter]
  congr 1
  refine sum_congr M _ _ fun c _ => ?_
  by_cases h : childOf s.2.path c.2 = true
  · simp only [h, if_true]
    rw [h0]
  · simp only [h, if_false]
    exact sum_zero M _ fun _ _ => rfl

theorem fromL_mem : ∀ (L : List Nd) (i : Nat) (M M' : List (Key × Nd)), fromL L i M = .ok M' → ∀ x ∈ M', x ∈ M ∨ x.2 ∈ L
  | [], _, M, M', h, x, hx => by
    simp only [fromL, Except.ok.injEq] at h
    subst h; exact .inl hx
  | n :: l, i, M, M', h, x, hx => by
    simp only [fromL] at h
    split at h
    · cases h
    split at h
    · cases h
    rcases fromL_mem l _ _ _ h x hx with h' | h'
    · rcases mem_mput.1 h' with rfl | ⟨h', _⟩
      · exact .inr (List.mem_cons_self ..)
      · exact .inl h'
    · exact .inr (List.mem_cons_of_mem _ h')
theorem parL_mem {M : List (Key × Nd)} : ∀ (L : List Nd) (i : Nat), parL M L i = .ok () → ∀ n ∈ L, n.path.size ≠ 1 → mget M (parentB n.path).data.toList ≠ none
  | [], _, _, n, hn, _ => by simp at hn
  | m :: l, i, h, n, hn, h1 => by
    simp only [parL] at h
    split at h
    · cases h
    rename_i hm
    rcases List.mem_cons.1 hn with rfl | hn
    · exact fun h2 => hm ⟨h1, h2⟩
    · exact parL_mem l _ h n hn h1
theorem fromN_clo {L : List Nd} {M : List (Key × Nd)} (hM : MOk M) (h : fromN L = .ok M) : Clo M := by
  unfold fromN at h
  cases hf : fromL L 0 [] with
  | error e => rw [hf] at h; cases h
  | ok M1 =>
    rw [hf] at h
    simp only at h
    split at h
    · cases h
    cases hp : parL M1 L 0 with
    | error e => rw [hp] at h; cases h
    | ok u =>
      rw [hp] at h
      simp only [Except.ok.injEq] at h
      subst h
      intro x hx h1
      have hxL : x.2 ∈ L := by
        rcases fromL_mem L 0 [] _ hf x hx with h | h
        · simp at h
        · exact h
      have := parL_mem L 0 hp x.2 hxL h1
      cases hg : mget M1 (parentB x.2.path).data.toList with
      | none => exact absurd hg this
      | some n =>
        refine ⟨_, mget_some_mem hg, ?_⟩
        have := (hM.at hg).1
        unfold keyN at this
        exact (ba_ext this).symm

/-- A list that holds s and the children of each that it holds has all that is under s. -/
theorem und_closed {M : List (Key × Nd)} (hM : MOk M) (hc : Clo M) (s : ByteArray) (l : List ByteArray) (hs : s ∈ l) (hl : ∀ x ∈ M, x.2.path.size ≠ 1 → parentB x.2.path ∈ l → x.2.path ∈ l) :
    ∀ (f : Nat) (x : Key × Nd), x ∈ M → x.2.path.size ≤ f → und x.2.path s = true → x.2.path ∈ l
  | 0, x, hx, hf, _ => by have := hM.pos hx; omega
  | f + 1, x, hx, hf, h => by
    by_cases h1 : x.2.path.size = 1
    · rw [und_one hM hx h1] at h
      rw [ByteArray.ext (beq_iff_eq.1 h)]; exact hs
    · obtain ⟨y, hy, ey⟩ := hc x hx h1
      have hsz := (path_split (right_vpath (hM.right x hx)) h1).2.2.1
      rw [und_up hM hc hx hy h1 ey, Bool.or_eq_true] at h
      rcases h with h | h
      · rw [ByteArray.ext (beq_iff_eq.1 h)]; exact hs
      · exact hl x hx h1 (by rw [← ey]; exact und_closed hM hc s l hs hl f y hy (by rw [ey]; omega) h)

theorem und_child {M : List (Key × Nd)} (hM : MOk M) (hc : Clo M) {x y : Key × Nd} (hx : x ∈ M) (hy : y ∈ M) (h : childOf y.2.path x.2 = true) (s : ByteArray) (hu : und y.2.path s = true) : und x.2.path s = true := by
  obtain ⟨h1, h2⟩ := childOf_iff.1 h
  rw [und_up hM hc hx hy h1 h2.symm, hu, Bool.or_true]
end Go.Proofs.YtamolbegmkngdaaDoor
namespace Go.Proofs.YtamolbegmkngdaaDoor
open Go.RowKit
set_option maxHeartbeats 1000000

theorem nodup_at {l : List ByteArray} (h : l.Nodup) {i j : Nat} (hi : i < l.length) (hj : j < l.length) (e : l[i] = l[j]) : i = j := by
  have hp := List.pairwise_iff_getElem.1 h
  rcases Nat.lt_trichotomy i j with hij | hij | hij
  · exact absurd e (hp i j hi hj hij)
  · exact hij
  · exact absurd e.symm (hp j i hj hi hij)
theorem nodup_len : ∀ (l m : List ByteArray), l.Nodup → l ⊆ m → l.length ≤ m.length
  | [], m, _, _ => Nat.zero_le _
  | a :: l, m, h, hs => by
    obtain ⟨h1, h2⟩ := List.nodup_cons.1 h
    obtain ⟨u, v, e⟩ := List.append_of_mem (hs (List.mem_cons_self ..))
    have := nodup_len l (u ++ v) h2 fun b hb => by
      have hb' := hs (List.mem_cons_of_mem _ hb)
      rw [e] at hb'
      rcases List.mem_append.1 hb' with hb' | hb'
      · exact List.mem_append_left _ hb'
      · rcases List.mem_cons.1 hb' with hb' | hb'
        · subst hb'; exact absurd hb h1
        · exact List.mem_append_right _ hb'
    rw [e]
    simp only [List.length_append, List.length_cons] at this ⊢
    omega

/-- l's places ahead of i are done, of place i those children that are not left. -/
structure Bfs (M : List (Key × Nd)) (s : ByteArray) (l : List ByteArray) (i : Nat) (left : Key → Bool) : Prop where
  head : s ∈ l
  nodup : l.Nodup
  mem : ∀ p ∈ l, ∃ x ∈ M, x.2.path = p ∧ und p s = true
  done : ∀ j p, j < i → l[j]? = some p → ∀ x ∈ M, childOf p x.2 = true → x.2.path ∈ l
  part : ∀ p, l[i]? = some p → ∀ x ∈ M, childOf p x.2 = true → left (nameK x.2) = false → x.2.path ∈ l
  back : ∀ p ∈ l, p = s ∨ ∃ j q, l[j]? = some q ∧ p.size ≠ 1 ∧ parentB p = q ∧ (j < i ∨ (j = i ∧ left (nameB p).data.toList = false))

theorem Bfs.start {M : List (Key × Nd)} {x : Key × Nd} (hx : x ∈ M) : Bfs M x.2.path [x.2.path] 0 (fun _ => true) :=
  ⟨by simp, by simp, fun p hp => by
    have : p = x.2.path := by simpa using hp
    exact ⟨x, hx, this.symm, by rw [this]; exact und_self _⟩, fun j p hj => by omega, fun p _ y _ _ h => by simp at h, fun p hp => .inl (by simpa using hp)⟩

theorem Bfs.round {M : List (Key × Nd)} {s : ByteArray} {l : List ByteArray} {i : Nat} {left : Key → Bool} (h : Bfs M s l i left) {p : ByteArray} (hp : l[i]? = some p) (hl : ∀ y ∈ kidsOf M p, left y.1 = false) : Bfs M s l (i + 1) (fun _ => true) :=
  ⟨h.head, h.nodup, h.mem, fun j q hj hq x hx hc => by
    by_cases hji : j = i
    · subst hji
      have e : p = q := Option.some.inj (hp.symm.trans hq)
      subst e
      exact h.part p hp x hx hc (hl _ (mem_kids.2 ⟨x, hx, hc, rfl⟩))
    · exact h.done j q (by omega) hq x hx hc, fun p _ y _ _ hh => by simp at hh, fun q hq => by
    rcases h.back q hq with e | ⟨j, r, h1, h2, h3, h4⟩
    · exact .inl e
    · exact .inr ⟨j, r, h1, h2, h3, .inl (by rcases h4 with h4 | h4 <;> omega)⟩⟩

theorem Bfs.step {M : List (Key × Nd)} (hM : MOk M) (hc : Clo M) {s : ByteArray} {l : List ByteArray} {i : Nat} {left : Key → Bool} (h : Bfs M s l i left) {p : ByteArray} (hp : l[i]? = some p) {x : Key × Nd} (hx : x ∈ M) (hch : childOf p x.2 = true) (hleft : left (nameK x.2) = true) :
    Bfs M s (l ++ [x.2.path]) i (fun k => left k && !(k == nameK x.2)) := by
  obtain ⟨c1, c2⟩ := childOf_iff.1 hch
  obtain ⟨y, hy, ey, hu⟩ := h.mem p (List.mem_of_getElem? hp)
  have hsz := (path_split (right_vpath (hM.right x hx)) c1).2.2.1
  have hnew : x.2.path ∉ l := by
    intro hm
    rcases h.back _ hm with e | ⟨j, q, h1, h2, h3, h4⟩
    · have := und_le hM hc hy (by rw [ey]; exact hu)
      rw [← e, ey, ← c2] at this
      omega
    · rw [c2] at h3
      subst h3
      have hj : j = i := by
        obtain ⟨a1, a2⟩ := List.getElem?_eq_some_iff.1 h1
        obtain ⟨b1, b2⟩ := List.getElem?_eq_some_iff.1 hp
        exact nodup_at h.nodup a1 b1 (a2.trans b2.symm)
      rcases h4 with h4 | ⟨_, h4⟩
      · omega
      · rw [show (nameB x.2.path).data.toList = nameK x.2 from rfl, hleft] at h4; cases h4
  obtain ⟨hi, ei⟩ := List.getElem?_eq_some_iff.1 hp
  have old : ∀ j q, (l ++ [x.2.path])[j]? = some q → j ≤ i → l[j]? = some q := fun j q hq hji => by
    rwa [List.getElem?_append_left (by omega)] at hq
  refine ⟨by simp [h.head], ?_, fun q hq => ?_, fun j q hj hq z hz hcz => ?_, fun q hq z hz hcz hlz => ?_, fun q hq => ?_⟩
  · rw [List.nodup_append]
    refine ⟨h.nodup, by simp, fun a ha b hb => ?_⟩
    have : b = x.2.path := by simpa using hb
    subst this
    exact fun e => hnew (e ▸ ha)
  · rcases List.mem_append.1 hq with hq | hq
    · exact h.mem q hq
    · have : q = x.2.path := by simpa using hq
      subst this
      exact ⟨x, hx, rfl, und_child hM hc hx hy (by rw [ey]; exact hch) s (by rw [ey]; exact hu)⟩
  · exact List.mem_append_left _ (h.done j q hj (old j q hq (by omega)) z hz hcz)
  · have hq' := old i q hq (Nat.le_refl _)
    have e : p = q := Option.some.inj (hp.symm.trans hq')
    subst e
    by_cases hn : nameK z.2 = nameK x.2
    · obtain ⟨d1, d2⟩ := childOf_iff.1 hcz
      have : z.2.path = x.2.path := by
        have a1 := (path_split (right_vpath (hM.right z hz)) d1).1
        have a2 := (path_split (right_vpath (hM.right x hx)) c1).1
        apply ba_ext
        rw [a1, a2, d2, c2]
        unfold nameK at hn
        rw [hn]
      rw [this]; simp
    · refine List.mem_append_left _ (h.part p hq' z hz hcz ?_)
      simpa [hn] using hlz
  · rcases List.mem_append.1 hq with hq | hq
    · rcases h.back q hq with e | ⟨j, r, h1, h2, h3, h4⟩
      · exact .inl e
      · refine .inr ⟨j, r, ?_, h2, h3, ?_⟩
        · rw [List.getElem?_append_left (List.getElem?_eq_some_iff.1 h1).1]; exact h1
        · rcases h4 with h4 | ⟨h4, h5⟩
          · exact .inl h4
          · exact .inr ⟨h4, by rw [h5]; rfl⟩
    · have : q = x.2.path := by simpa using hq
      subst this
      refine .inr ⟨i, p, ?_, c1, c2, .inr ⟨rfl, ?_⟩⟩
      · rw [List.getElem?_append_left hi]; exact hp
      · rw [show (nameB x.2.path).data.toList = nameK x.2 from rfl]
        simp

/-- In the end: just what is under s. -/
theorem Bfs.all {M : List (Key × Nd)} (hM : MOk M) (hc : Clo M) {s : ByteArray} {l : List ByteArray} {left : Key → Bool} (h : Bfs M s l l.length left) (p : ByteArray) : p ∈ l ↔ ∃ x ∈ M, x.2.path = p ∧ und p s = true := by
  constructor
  · exact h.mem p
  · rintro ⟨x, hx, rfl, hu⟩
    refine und_closed hM hc s l h.head (fun z hz h1 hpz => ?_) _ x hx (Nat.le_refl _) hu
    obtain ⟨j, hj, ej⟩ := List.getElem_of_mem hpz
    exact h.done j _ hj (by rw [List.getElem?_eq_getElem hj, ej]) z hz (childOf_iff.2 ⟨h1, rfl⟩)

/-- How long it gets. -/
theorem Bfs.length_le {M : List (Key × Nd)} {s : ByteArray} {l : List ByteArray} {i : Nat} {left : Key → Bool} (h : Bfs M s l i left) : l.length ≤ M.length := by
  have hsub : l ⊆ M.map (fun x => x.2.path) := fun p hp => by
    obtain ⟨x, hx, e, _⟩ := h.mem p hp
    exact List.mem_map.2 ⟨x, hx, e⟩
  have := nodup_len l _ h.nodup hsub
  simpa using this
end Go.Proofs.YtamolbegmkngdaaDoor
namespace Go.Proofs.YtamolbegmkngdaaDoor
open Go.RowKit
set_option maxHeartbeats 1000000

theorem perm_nodup : ∀ (l m : List Key), l.Nodup → m.Nodup → (∀ x, x ∈ l ↔ x ∈ m) → l.Perm m
  | [], m, _, _, h => by
    cases m with
    | nil => exact .refl _
    | cons b m => exact absurd ((h b).2 (List.mem_cons_self ..)) (by simp)
  | a :: l, m, hl, hm, h => by
    obtain ⟨u, v, rfl⟩ := List.append_of_mem ((h a).1 (List.mem_cons_self ..))
    obtain ⟨h1, h2⟩ := List.nodup_cons.1 hl
    have hm' : (a :: (u ++ v)).Nodup := (List.perm_middle.nodup_iff).1 hm
    obtain ⟨k1, k2⟩ := List.nodup_cons.1 hm'
    refine ((perm_nodup l (u ++ v) h2 k2 fun x => ?_).cons a).trans List.perm_middle.symm
    constructor
    · intro hx
      have := (h x).1 (List.mem_cons_of_mem _ hx)
      have hne : x ≠ a := fun e => h1 (e ▸ hx)
      simp only [List.mem_append, List.mem_cons] at this ⊢
      rcases this with h | h | h
      · exact .inl h
      · exact absurd h hne
      · exact .inr h
    · intro hx
      have hne : x ≠ a := fun e => k1 (e ▸ hx)
      have : x ∈ u ++ a :: v := by
        simp only [List.mem_append, List.mem_cons] at hx ⊢
        rcases hx with h | h
        · exact .inl h
        · exact .inr (.inr h)
      rcases List.mem_cons.1 ((h x).2 this) with h | h
      · exact absurd h hne
      · exact h

/-- The keys under s, in order. -/
def undK (M : List (Key × Nd)) (s : ByteArray) : List Key := (M.filter fun x => und x.2.path s).map (·.1)

theorem undK_sorted {M : List (Key × Nd)} (hM : MOk M) (s : ByteArray) : (undK M s).Pairwise fun a b => bytesBefore a b = true := by
  unfold undK
  rw [List.pairwise_map, List.pairwise_filter]
  exact List.Pairwise.imp (fun h _ _ => h) hM.sorted

theorem Bfs.sorted {M : List (Key × Nd)} (hM : MOk M) (hc : Clo M) {s : ByteArray} {l : List ByteArray} {left : Key → Bool} (h : Bfs M s l l.length left) :
    (l.map fun p => p.data.toList).mergeSort (fun x y => decide (x ≤ y)) = undK M s := by
  refine sortedKeys (undK_sorted hM s) (perm_nodup _ _ ?_ ?_ fun k => ?_)
  · unfold List.Nodup
    rw [List.pairwise_map]
    exact List.Pairwise.imp (fun h e => h (ba_ext e)) h.nodup
  · refine List.Pairwise.imp (fun {a b} hab e => ?_) (undK_sorted hM s)
    rw [e] at hab
    exact before_asymm hab hab
  · unfold undK
    simp only [List.mem_map, List.mem_filter]
    constructor
    · rintro ⟨p, hp, rfl⟩
      obtain ⟨x, hx, e, hu⟩ := (h.all hM hc p).1 hp
      exact ⟨x, ⟨hx, by rw [e]; exact hu⟩, by rw [hM.key x hx]; unfold keyN; rw [e]⟩
    · rintro ⟨x, ⟨hx, hu⟩, rfl⟩
      exact ⟨x.2.path, (h.all hM hc _).2 ⟨x, hx, rfl, hu⟩, (hM.key x hx).symm⟩
end Go.Proofs.YtamolbegmkngdaaDoor
namespace Go.Proofs.YtamolbegmkngdaaDoor
open Go.RowKit
set_option maxHeartbeats 1000000
set_option maxRecDepth 100000

/-- What Join joins. -/
def joinP (a n : ByteArray) : ByteArray := ByteArray.mk (Lib.trimSuffix a.data.toList [47]).toArray ++ ByteArray.mk #[47] ++ n
def hasSl (n : ByteArray) : Bool := decide (0 ≤ Lib.indexByte n.data.toList 47)
def joinV (a n : ByteArray) : Value := if vpath a = true ∧ hasSl n = false ∧ vpath (joinP a n) = true ∧ n.size ≠ 0 then .tuple #[.string (joinP a n), .int .i64 0] else .tuple #[.string ⟨#[]⟩, .int .i64 30]

theorem join_any (a n : ByteArray) (w : World) (ha : a.size ≤ 140737488355328) (hn : n.size ≤ 140737488355328) : Calls Tryd.prog 57 #[.string a, .string n] w fun e w' => e = .returned (joinV a n) ∧ Below w.heap.size w w' := by
  have q1 : a.size ≤ 140737488355328 := ha
  have q2 : n.size ≤ 140737488355328 := hn
  have hT : (ByteArray.mk (Lib.trimSuffix a.data.toList [47]).toArray).size ≤ 140737488355328 := by
    refine Nat.le_trans ?_ q1
    rw [← size_list, ← size_list]
    unfold Lib.trimSuffix
    split <;> simp
  have hj : (joinP a n).size ≤ 9223372036854775800 := by
    unfold joinP
    rw [ByteArray.size_append, ByteArray.size_append]
    have : (ByteArray.mk #[47]).size = 1 := rfl
    omega
  have C1 : ∀ w, Calls Tryd.prog 74 #[.string a, .string ⟨#[47]⟩] w fun e w' => e = .returned (.string ⟨(Lib.trimSuffix a.data.toList [47]).toArray⟩) ∧ w' = w := fun w => Tryd.strings_TrimSuffix a ⟨#[47]⟩ w (by omega)
  have C2 : ∀ w, Calls Tryd.prog 48 #[.string a] w fun e w' => e = .returned (.bool (vpath a)) ∧ Below w.heap.size w w' := fun w => valid_any a w (by omega)
  have C3 : ∀ w, Calls Tryd.prog 75 #[.string n, .string ⟨#[47]⟩] w fun e w' => e = .returned (.bool (hasSl n)) ∧ w' = w := fun w => Tryd.strings_Contains_one n 47 w
  have C4 : ∀ w, Calls Tryd.prog 48 #[.string (joinP a n)] w fun e w' => e = .returned (.bool (vpath (joinP a n))) ∧ Below w.heap.size w w' := fun w => valid_any (joinP a n) w (by omega)
  have R : Hid (joinV a n = if vpath a = true ∧ hasSl n = false ∧ vpath (joinP a n) = true ∧ n.size ≠ 0 then .tuple #[.string (joinP a n), .int .i64 0] else .tuple #[.string ⟨#[]⟩, .int .i64 30]) := Lib.hid rfl
  have J : Hid (joinP a n = ByteArray.mk (Lib.trimSuffix a.data.toList [47]).toArray ++ ByteArray.mk #[47] ++ n) := Lib.hid rfl
  generalize joinV a n = V at R
  generalize joinP a n = q at C4 R J hj
  generalize ByteArray.mk (Lib.trimSuffix a.data.toList [47]).toArray = T at C1 J hT
  generalize vpath a = b1 at C2 R
  generalize hasSl n = b2 at C3 R
  generalize vpath q = b3 at C4 R
  have C1 := Lib.hid C1
  have C2 := Lib.hid C2
  have C3 := Lib.hid C3
  have C4 := Lib.hid C4
  have g1 : ¬ (9223372036854775807 : Int) < (T.size : Int) + 1 := by omega
  have g2 : ¬ (9223372036854775807 : Int) < (T.size : Int) + 1 + (n.size : Int) := by omega
  clear q1 q2 ha hn hj hT
  cases b1 with
  | false =>
    go_enter Tryd.func57, Tryd.ntmps57
    go_wp2_with fail
    refine (C1.out _).mono ?_
    rintro e w1 ⟨rfl, rfl⟩
    go_wp2_with fail
    refine (C2.out _).mono ?_
    rintro e w1 ⟨rfl, hb1⟩
    clear C1 C2 C3 C4
    go_wp2
    go_ret2
    exact ⟨by rw [R.out]; rfl, hb1⟩
  | true =>
  cases b2 with
  | true =>
    go_enter Tryd.func57, Tryd.ntmps57
    go_wp2_with fail
    refine (C1.out _).mono ?_
    rintro e w1 ⟨rfl, rfl⟩
    go_wp2_with fail
    refine (C2.out _).mono ?_
    rintro e w1 ⟨rfl, hb1⟩
    go_wp2_with fail
    refine (C3.out _).mono ?_
    rintro e w2 ⟨rfl, rfl⟩
    clear C1 C2 C3 C4
    go_wp2
    go_ret2
    exact ⟨by rw [R.out]; rfl, hb1⟩
  | false =>
  cases b3 with
  | false =>
    go_enter Tryd.func57, Tryd.ntmps57
    go_wp2_with fail
    refine (C1.out _).mono ?_
    rintro e w1 ⟨rfl, rfl⟩
    go_wp2_with fail
    refine (C2.out _).mono ?_
    rintro e w1 ⟨rfl, hb1⟩
    go_wp2_with fail
    refine (C3.out _).mono ?_
    rintro e w2 ⟨rfl, rfl⟩
    go_wp2_with fail
    rw [← J.out]
    refine (C4.out _).mono ?_
    rintro e w3 ⟨rfl, hb3⟩
    clear C1 C2 C3 C4
    go_wp2
    go_ret2
    exact ⟨by rw [R.out]; rfl, hb1.trans (hb3.mono hb1.size)⟩
  | true =>
  by_cases h0 : n.size = 0
  · have e1 : n.toList = [] := by rw [ByteArray.toList_eq]; exact List.eq_nil_of_length_eq_zero (by rw [← size_list] at h0; exact h0)
    go_enter Tryd.func57, Tryd.ntmps57
    go_wp2_with fail
    refine (C1.out _).mono ?_
    rintro e w1 ⟨rfl, rfl⟩
    go_wp2_with fail
    refine (C2.out _).mono ?_
    rintro e w1 ⟨rfl, hb1⟩
    go_wp2_with fail
    refine (C3.out _).mono ?_
    rintro e w2 ⟨rfl, rfl⟩
    go_wp2_with fail
    rw [← J.out]
    refine (C4.out _).mono ?_
    rintro e w3 ⟨rfl, hb3⟩
    clear C1 C2 C3 C4
    go_wp2
    go_ret2
    exact ⟨by rw [R.out, if_neg (by simp [h0])]; rfl, hb1.trans (hb3.mono hb1.size)⟩
  · have e0 : ¬ n.toList = [] := by rw [ByteArray.toList_eq]; exact fun e => h0 (by rw [← size_list, e]; rfl)
    have e1 : (n.toList == []) = false := by simpa using e0
    have H0 := Lib.hid h0
    clear h0
    go_enter Tryd.func57, Tryd.ntmps57
    go_wp2_with fail
    refine (C1.out _).mono ?_
    rintro e w1 ⟨rfl, rfl⟩
    go_wp2_with fail
    refine (C2.out _).mono ?_
    rintro e w1 ⟨rfl, hb1⟩
    go_wp2_with fail
    refine (C3.out _).mono ?_
    rintro e w2 ⟨rfl, rfl⟩
    go_wp2_with fail
    rw [← J.out]
    refine (C4.out _).mono ?_
    rintro e w3 ⟨rfl, hb3⟩
    clear C1 C2 C3 C4
    go_wp2
    go_ret2
    exact ⟨by rw [R.out, if_pos (by simp [H0.out])]; rfl, hb1.trans (hb3.mono hb1.size)⟩
end Go.Proofs.YtamolbegmkngdaaDoor
namespace Go.Proofs.YtamolbegmkngdaaDoor
open Go.RowKit
set_option maxHeartbeats 1000000

theorem no_slash {n : ByteArray} (h : ¬ (47 : UInt8) ∈ n.data.toList) : hasSl n = false := by
  unfold hasSl
  have hge := Lib.indexByte_ge n.data.toList 47
  rcases Int.lt_or_le (Lib.indexByte n.data.toList 47) 0 with h0 | h0
  · simp; omega
  · obtain ⟨o, ho⟩ := Int.eq_ofNat_of_zero_le h0
    exact absurd (List.mem_of_getElem? (Lib.indexByte_some ho).1) h

theorem joinP_pre {a : ByteArray} (h : vpath a = true) (n : ByteArray) : (joinP a n).data.toList = preL a ++ n.data.toList := by
  have e : (joinP a n).data.toList = Lib.trimSuffix a.data.toList [47] ++ [47] ++ n.data.toList := by
    unfold joinP
    simp [ByteArray.data_append]
  rw [e]
  congr 1
  by_cases h1 : a.size = 1
  · have hr := (root_iff h).1 h1
    unfold preL
    rw [if_pos h1, hr]
    rfl
  · unfold preL
    rw [if_neg h1]
    congr 1
    unfold Lib.trimSuffix
    rw [if_neg]
    intro hs
    unfold Lib.hasSuffix at hs
    obtain ⟨t, ht⟩ := List.isSuffixOf_iff_suffix.1 hs
    obtain ⟨f1, _, _, f4⟩ := vpath_facts h
    rcases f4 with f4 | f4
    · exact h1 f4
    · apply f4.1
      rw [← bat_toList a (a.size - 1) (by omega)]
      have hl : t.length + 1 = a.size := by rw [← size_list, ← ht]; simp
      have : a.size - 1 = t.length := by omega
      simp only [this, ← ht]
      simp

theorem join_child {M : List (Key × Nd)} (hM : MOk M) {x y : Key × Nd} (hx : x ∈ M) (hy : y ∈ M) (h : childOf y.2.path x.2 = true) {n : ByteArray} (hn : n.data.toList = nameK x.2) :
    joinP y.2.path n = x.2.path ∧ joinV y.2.path n = .tuple #[.string x.2.path, .int .i64 0] := by
  obtain ⟨c1, c2⟩ := childOf_iff.1 h
  obtain ⟨p1, p2, _, p4⟩ := path_split (right_vpath (hM.right x hx)) c1
  have en : n = nameB x.2.path := ba_ext hn
  subst en
  have e : joinP y.2.path (nameB x.2.path) = x.2.path := by
    apply ba_ext
    rw [joinP_pre (right_vpath (hM.right y hy)), p1, c2]
  refine ⟨e, ?_⟩
  unfold joinV
  rw [e, if_pos ⟨right_vpath (hM.right y hy), no_slash p4, right_vpath (hM.right x hx), p2⟩]
end Go.Proofs.YtamolbegmkngdaaDoor
namespace Go.Proofs.YtamolbegmkngdaaDoor
open Go.RowKit
set_option maxHeartbeats 1000000

/-- The children of a path, in order. -/
def kidN (M : List (Key × Nd)) (p : ByteArray) : List (Key × Nd) := M.filter fun c => childOf p c.2
theorem kidsOf_map (M : List (Key × Nd)) (p : ByteArray) : kidsOf M p = (kidN M p).map fun x => (nameK x.2, Value.agg #[]) := rfl
theorem kidN_length (M : List (Key × Nd)) (p : ByteArray) : (kidN M p).length = (kidsOf M p).length := by rw [kidsOf_map, List.length_map]
theorem kidN_mem {M : List (Key × Nd)} {p : ByteArray} {x : Key × Nd} : x ∈ kidN M p ↔ x ∈ M ∧ childOf p x.2 = true := by
  unfold kidN; rw [List.mem_filter]
/-- The sum behind k children. -/
def partN (M : List (Key × Nd)) (p : ByteArray) (own : Nat) (a : Nd → Nat) (k : Nat) : Nat := own + (((kidN M p).take k).map fun c => wtN M c.2.path a).sum
theorem partN_zero (M : List (Key × Nd)) (p : ByteArray) (own : Nat) (a : Nd → Nat) : partN M p own a 0 = own := by
  unfold partN; simp
theorem partN_succ {M : List (Key × Nd)} {p : ByteArray} {own : Nat} {a : Nd → Nat} {k : Nat} (hk : k < (kidN M p).length) : partN M p own a (k + 1) = partN M p own a k + wtN M (kidN M p)[k].2.path a := by
  unfold partN
  rw [List.take_succ_eq_append_getElem hk, List.map_append, List.sum_append]
  simp only [List.map_cons, List.map_nil, List.sum_cons, List.sum_nil]
  omega
theorem partN_all {M : List (Key × Nd)} (hM : MOk M) (hc : Clo M) {s : Key × Nd} (hs : s ∈ M) (a : Nd → Nat) : partN M s.2.path (a s.2) a (kidN M s.2.path).length = wtN M s.2.path a := by
  rw [wt_split hM hc hs]
  unfold partN
  rw [List.take_length]
  rfl
theorem sum_take_le (l : List Nat) (k : Nat) : (l.take k).sum ≤ l.sum := by
  induction l generalizing k with
  | nil => simp
  | cons x l ih =>
    cases k with
    | zero => simp
    | succ k => simp only [List.take_succ_cons, List.sum_cons]; have := ih k; omega
theorem partN_le {M : List (Key × Nd)} (hM : MOk M) (hc : Clo M) {s : Key × Nd} (hs : s ∈ M) (a : Nd → Nat) (k : Nat) : partN M s.2.path (a s.2) a k ≤ wtN M s.2.path a := by
  rw [← partN_all hM hc hs a]
  unfold partN
  rw [List.take_length, List.map_take]
  have := sum_take_le ((kidN M s.2.path).map fun c => wtN M c.2.path a) k
  omega
theorem wtN_one (M : List (Key × Nd)) (s : ByteArray) : wtN M s (fun _ => 1) = (undK M s).length := by
  unfold wtN undK
  rw [List.length_map]
  generalize M.filter (fun x => und x.2.path s) = l
  induction l with
  | nil => rfl
  | cons x l ih =>
    rw [List.map_cons, List.sum_cons, ih, List.length_cons, Nat.add_comm]
theorem sum_le_len {α : Type} (l : List α) (a : α → Nat) (B : Nat) (h : ∀ x ∈ l, a x ≤ B) : (l.map a).sum ≤ l.length * B := by
  induction l with
  | nil => simp
  | cons x l ih =>
    have h1 := h x (List.mem_cons_self ..)
    have h2 := ih fun y hy => h y (List.mem_cons_of_mem _ hy)
    simp only [List.map_cons, List.sum_cons, List.length_cons, Nat.add_mul]; omega
theorem wtN_le (M : List (Key × Nd)) (s : ByteArray) (a : Nd → Nat) (B : Nat) (h : ∀ x ∈ M, a x.2 ≤ B) : wtN M s a ≤ M.length * B := by
  unfold wtN
  refine Nat.le_trans (sum_le_len _ _ B fun x hx => h x (List.mem_filter.1 hx).1) ?_
  exact Nat.mul_le_mul_right _ (List.length_filter_le _ _)
theorem undK_length_le (M : List (Key × Nd)) (s : ByteArray) : (undK M s).length ≤ M.length := by
  unfold undK; rw [List.length_map]; exact List.length_filter_le _ _

/-- The bytes of the nodes at these paths. -/
def bytesK (M : List (Key × Nd)) (ks : List Key) : Nat := (ks.map fun k => ((mget M k).getD zeroN).data.length).sum
theorem bytesK_und {M : List (Key × Nd)} (hM : MOk M) (s : ByteArray) : bytesK M (undK M s) = wtN M s (fun n => n.data.length) := by
  unfold bytesK undK wtN
  rw [List.map_map]
  congr 1
  refine List.map_congr_left fun x hx => ?_
  have hx' := (List.mem_filter.1 hx).1
  show ((mget M x.1).getD zeroN).data.length = _
  rw [mget_of_mem hM.sorted (show (x.1, x.2) ∈ M from hx')]
  rfl
theorem bytesK_succ (M : List (Key × Nd)) (ks : List Key) (k : Nat) (hk : k < ks.length) : bytesK M (ks.take (k + 1)) = bytesK M (ks.take k) + ((mget M ks[k]).getD zeroN).data.length := by
  unfold bytesK
  rw [List.take_succ_eq_append_getElem hk, List.map_append, List.sum_append]
  simp
theorem data_le {M : List (Key × Nd)} (hM : MOk M) (k : Key) : ((mget M k).getD zeroN).data.length ≤ 1048575 := by
  cases hg : mget M k with
  | none => simp [zeroN]
  | some n => exact (right_fit (hM.at hg).2).2.1
theorem bytesK_le {M : List (Key × Nd)} (hM : MOk M) (ks : List Key) : bytesK M ks ≤ ks.length * 1048575 :=
  sum_le_len ks _ _ fun k _ => data_le hM k

/-- The children's paths as the law writes them. -/
theorem child_text {M : List (Key × Nd)} (hM : MOk M) {x y : Key × Nd} (hx : x ∈ M) (hy : y ∈ M) (h : childOf y.2.path x.2 = true) :
    (y.2.path.data.toList = [47] → (⟨#[47]⟩ : ByteArray) ++ ⟨(nameK x.2).toArray⟩ = x.2.path) ∧ (¬ y.2.path.data.toList = [47] → y.2.path ++ (⟨#[47]⟩ : ByteArray) ++ ⟨(nameK x.2).toArray⟩ = x.2.path) := by
  obtain ⟨c1, c2⟩ := childOf_iff.1 h
  have p1 := (path_split (right_vpath (hM.right x hx)) c1).1
  rw [c2] at p1
  have hv := right_vpath (hM.right y hy)
  constructor
  · intro hr
    apply ba_ext
    rw [p1]
    have h1 : y.2.path.size = 1 := by rw [← size_list, hr]; rfl
    unfold preL nameK
    rw [if_pos h1, hr]
    simp [ByteArray.data_append]
  · intro hr
    apply ba_ext
    rw [p1]
    have h1 : ¬ y.2.path.size = 1 := fun e => hr ((root_iff hv).1 e)
    unfold preL nameK
    rw [if_neg h1]
    simp [ByteArray.data_append]
theorem kid_get {M : List (Key × Nd)} (hM : MOk M) {p : ByteArray} {k : Nat} (hk : k < (kidN M p).length) : (kidN M p)[k] ∈ M ∧ childOf p (kidN M p)[k].2 = true := kidN_mem.1 (List.getElem_mem hk)
/-- A node is there. -/
theorem there_of {M : List (Key × Nd)} (hM : MOk M) {x : Key × Nd} (hx : x ∈ M) : mget M x.2.path.data.toList = some x.2 := by
  have hk := hM.key x hx
  have := mget_of_mem hM.sorted (show (x.1, x.2) ∈ M from hx)
  rw [hk] at this
  exact this
end Go.Proofs.YtamolbegmkngdaaDoor
namespace Go.Proofs.YtamolbegmkngdaaDoor
open Go.RowKit
set_option maxHeartbeats 1000000

theorem fromL_distinct : ∀ (l : List Nd) (i : Nat) (M0 : List (Key × Nd)), MOk M0 → (∀ n ∈ l, rightN n = 0) → (l.map keyN).Nodup → (∀ n ∈ l, mget M0 (keyN n) = none) → ∃ M1, fromL l i M0 = .ok M1 ∧ MOk M1 ∧ ∀ x, x ∈ M1 ↔ x ∈ M0 ∨ ∃ n ∈ l, x = (keyN n, n)
  | [], i, M0, h0, _, _, _ => ⟨M0, rfl, h0, fun x => by simp⟩
  | n :: l, i, M0, h0, hr, hd, hn => by
    rw [List.map_cons] at hd
    obtain ⟨d1, d2⟩ := List.nodup_cons.1 hd
    have hr0 := hr n (List.mem_cons_self ..)
    have hn0 := hn n (List.mem_cons_self ..)
    have hne : ∀ m ∈ l, keyN m ≠ keyN n := fun m hm e => d1 (e ▸ List.mem_map.2 ⟨m, hm, rfl⟩)
    obtain ⟨M1, e1, e2, e3⟩ := fromL_distinct l (i + 1) (mput M0 (keyN n) n) (h0.put n hr0) (fun m hm => hr m (List.mem_cons_of_mem _ hm)) d2 (fun m hm => mget_none_of fun x hx e => by
      rcases mem_mput.1 hx with rfl | ⟨hx, _⟩
      · exact hne m hm e.symm
      · exact mget_none (hn m (List.mem_cons_of_mem _ hm)) x hx e)
    refine ⟨M1, ?_, e2, fun x => ?_⟩
    · unfold fromL
      rw [if_neg (by simpa using hr0), if_neg (by rw [hn0]; simp)]
      exact e1
    · rw [e3, mem_mput]
      constructor
      · rintro ((rfl | ⟨h, _⟩) | ⟨m, hm, rfl⟩)
        · exact .inr ⟨n, List.mem_cons_self .., rfl⟩
        · exact .inl h
        · exact .inr ⟨m, List.mem_cons_of_mem _ hm, rfl⟩
      · rintro (h | ⟨m, hm, rfl⟩)
        · exact .inl (.inr ⟨h, mget_none hn0 x h⟩)
        · rcases List.mem_cons.1 hm with rfl | hm
          · exact .inl (.inl rfl)
          · exact .inr ⟨m, hm, rfl⟩
theorem parL_ok {M : List (Key × Nd)} : ∀ (l : List Nd) (i : Nat), (∀ n ∈ l, n.path.size ≠ 1 → mget M (parentB n.path).data.toList ≠ none) → parL M l i = .ok ()
  | [], _, _ => rfl
  | n :: l, i, h => by
    unfold parL
    rw [if_neg fun hh => h n (List.mem_cons_self ..) hh.1 hh.2]
    exact parL_ok l (i + 1) fun m hm => h m (List.mem_cons_of_mem _ hm)

/-- A list with just a tree's nodes, each once. -/
theorem fromN_perm {M : List (Key × Nd)} (hM : MOk M) (hc : Clo M) (hroot : mget M [47] ≠ none) {L : List Nd} (h1 : ∀ n ∈ L, (keyN n, n) ∈ M) (h2 : ∀ x ∈ M, x.2 ∈ L) (hd : (L.map keyN).Nodup) : fromN L = .ok M := by
  obtain ⟨M1, e1, e2, e3⟩ := fromL_distinct L 0 [] MOk.nil (fun n hn => hM.right _ (h1 n hn)) hd (fun n _ => rfl)
  have he : M1 = M := mem_ext_sorted e2.sorted hM.sorted fun x => by
    rw [e3]
    constructor
    · rintro (h | ⟨n, hn, rfl⟩)
      · simp at h
      · exact h1 n hn
    · intro hx
      refine .inr ⟨x.2, h2 x hx, ?_⟩
      rw [← hM.key x hx]
  subst he
  unfold fromN
  rw [e1]
  simp only
  rw [if_neg hroot, parL_ok L 0 fun n hn hs => ?_]
  obtain ⟨y, hy, ey⟩ := hc _ (h1 n hn) hs
  rw [← ey]
  rw [there_of hM hy]
  simp

/-- The place i of the list that is turned by k: of n places. -/
def rotI (n k i : Nat) : Nat := if i + k < n then i + k else i + k - n
theorem rotI_mod {n k i : Nat} (hk : k < n) (hi : i < n) : (i + k) % n = rotI n k i := by
  unfold rotI
  split
  · rename_i h; exact Nat.mod_eq_of_lt h
  · rename_i h
    rw [Nat.mod_eq_sub_mod (by omega), Nat.mod_eq_of_lt (by omega)]
theorem rotI_lt {n k i : Nat} (hk : k < n) (hi : i < n) : rotI n k i < n := by unfold rotI; split <;> omega
theorem rotI_inj {n k i j : Nat} (hk : k < n) (hi : i < n) (hj : j < n) (h : rotI n k i = rotI n k j) : i = j := by
  unfold rotI at h
  split at h <;> split at h <;> omega
theorem rotI_onto {n k t : Nat} (hk : k < n) (ht : t < n) : ∃ i, i < n ∧ rotI n k i = t := by
  by_cases h : k ≤ t
  · exact ⟨t - k, by omega, by unfold rotI; rw [if_pos (by omega)]; omega⟩
  · exact ⟨t + n - k, by omega, by unfold rotI; rw [if_neg (by omega)]; omega⟩

/-- The list from behind, turned by k: its first j places. -/
def rotL (L : List Nd) (k : Nat) : Nat → List Nd
  | 0 => []
  | j + 1 => rotL L k j ++ [(L[rotI L.length k (L.length - 1 - j)]?).getD zeroN]
theorem rotL_length (L : List Nd) (k : Nat) : ∀ j, (rotL L k j).length = j
  | 0 => rfl
  | j + 1 => by unfold rotL; rw [List.length_append, rotL_length L k j]; rfl
theorem rotL_get (L : List Nd) (k : Nat) : ∀ (j i : Nat), i < j → (rotL L k j)[i]? = some ((L[rotI L.length k (L.length - 1 - i)]?).getD zeroN)
  | 0, i, h => by omega
  | j + 1, i, h => by
    unfold rotL
    by_cases e : i < j
    · rw [List.getElem?_append_left (by rw [rotL_length]; exact e)]
      exact rotL_get L k j i e
    · obtain rfl : i = j := by omega
      rw [List.getElem?_append_right (by rw [rotL_length]; exact Nat.le_refl _), rotL_length, Nat.sub_self]
      rfl
theorem rotL_at {L : List Nd} {k : Nat} (hk : k < L.length) {i : Nat} (hi : i < L.length) : (rotL L k L.length)[i]? = L[rotI L.length k (L.length - 1 - i)]? := by
  rw [rotL_get L k L.length i hi]
  have := rotI_lt hk (show L.length - 1 - i < L.length by omega)
  rw [List.getElem?_eq_getElem this]
  rfl

theorem rot_from {M : List (Key × Nd)} (hM : MOk M) (hc : Clo M) (hroot : mget M [47] ≠ none) {k : Nat} (hk : k < (M.map (·.2)).length) : fromN (rotL (M.map (·.2)) k (M.map (·.2)).length) = .ok M := by
  generalize hL : M.map (·.2) = L at *
  have hmem : ∀ n ∈ L, (keyN n, n) ∈ M := fun n hn => by
    rw [← hL] at hn
    obtain ⟨x, hx, rfl⟩ := List.mem_map.1 hn
    rw [← hM.key x hx]; exact hx
  have hkey : ∀ i j (hi : i < L.length) (hj : j < L.length), keyN L[i] = keyN L[j] → i = j := fun i j hi hj e => by
    subst hL
    simp only [List.length_map] at hi hj
    simp only [List.getElem_map] at e
    rw [← hM.key _ (List.getElem_mem hi), ← hM.key _ (List.getElem_mem hj)] at e
    rcases Nat.lt_trichotomy i j with h | h | h
    · have := sorted_at hM.sorted h hj
      rw [e] at this; exact (before_asymm this this).elim
    · exact h
    · have := sorted_at hM.sorted h hi
      rw [e] at this; exact (before_asymm this this).elim
  refine fromN_perm hM hc hroot (fun n hn => ?_) (fun x hx => ?_) ?_
  · obtain ⟨i, hi, ei⟩ := List.getElem_of_mem hn
    rw [rotL_length] at hi
    have h := rotL_at hk hi
    have hlt := rotI_lt hk (show L.length - 1 - i < L.length by omega)
    rw [List.getElem?_eq_getElem (by rw [rotL_length]; exact hi), ei, List.getElem?_eq_getElem hlt] at h
    rw [Option.some.inj h]
    exact hmem _ (List.getElem_mem hlt)
  · have hx' : x.2 ∈ L := by rw [← hL]; exact List.mem_map.2 ⟨x, hx, rfl⟩
    obtain ⟨t, ht, et⟩ := List.getElem_of_mem hx'
    obtain ⟨i, hi, hr⟩ := rotI_onto hk ht
    have h := rotL_at hk (show L.length - 1 - i < L.length by omega)
    rw [show L.length - 1 - (L.length - 1 - i) = i by omega, hr, List.getElem?_eq_getElem ht, et] at h
    exact List.mem_of_getElem? h
  · unfold List.Nodup
    rw [List.pairwise_map, List.pairwise_iff_getElem]
    intro i j hi hj hij
    rw [rotL_length] at hi hj
    have h1 := rotL_at hk hi
    have h2 := rotL_at hk hj
    have l1 := rotI_lt hk (show L.length - 1 - i < L.length by omega)
    have l2 := rotI_lt hk (show L.length - 1 - j < L.length by omega)
    rw [List.getElem?_eq_getElem (by rw [rotL_length]; exact hi), List.getElem?_eq_getElem l1] at h1
    rw [List.getElem?_eq_getElem (by rw [rotL_length]; exact hj), List.getElem?_eq_getElem l2] at h2
    rw [Option.some.inj h1, Option.some.inj h2]
    intro e
    have := rotI_inj hk (show L.length - 1 - i < L.length by omega) (show L.length - 1 - j < L.length by omega) (hkey _ _ l1 l2 e)
    omega

/-- Everything is under the root. -/
theorem und_root {M : List (Key × Nd)} (hM : MOk M) (hc : Clo M) : ∀ (f : Nat) (x : Key × Nd), x ∈ M → x.2.path.size ≤ f → und x.2.path ⟨#[47]⟩ = true
  | 0, x, hx, hf => by have := hM.pos hx; omega
  | f + 1, x, hx, hf => by
    by_cases h1 : x.2.path.size = 1
    · rw [und_one hM hx h1]
      have := (root_iff (right_vpath (hM.right x hx))).1 h1
      rw [show x.2.path = ⟨#[47]⟩ from ba_ext this]
      rfl
    · obtain ⟨y, hy, ey⟩ := hc x hx h1
      have hs := (path_split (right_vpath (hM.right x hx)) h1).2.2.1
      rw [und_up hM hc hx hy h1 ey, und_root hM hc f y hy (by rw [ey]; omega), Bool.or_true]
theorem undK_root {M : List (Key × Nd)} (hM : MOk M) (hc : Clo M) : (undK M ⟨#[47]⟩).length = M.length := by
  unfold undK
  rw [List.length_map, List.filter_eq_self.2 fun x hx => und_root hM hc _ x hx (Nat.le_refl _)]
end Go.Proofs.YtamolbegmkngdaaDoor
namespace Go.Proofs.YtamolbegmkngdaaDoor
open Go.RowKit Go.Sort
set_option maxHeartbeats 2000000

theorem fromL_count : ∀ (l : List Nd) (i : Nat) (M0 M : List (Key × Nd)), fromL l i M0 = .ok M → M.length = M0.length + l.length
  | [], i, M0, M, h => by
    simp only [fromL, Except.ok.injEq] at h
    subst h; rfl
  | n :: l, i, M0, M, h => by
    unfold fromL at h
    split at h
    · cases h
    split at h
    · cases h
    rename_i hn
    have h1 := fromL_count l _ _ _ h
    have hn' : mget M0 (keyN n) = none := by
      cases hg : mget M0 (keyN n) with
      | none => rfl
      | some y => rw [hg] at hn; simp at hn
    have h2 : (mput M0 (keyN n) n).length = M0.length + 1 := by
      unfold mput
      rw [mins_length]
      have : mdel M0 (keyN n) = M0 := by
        unfold mdel
        exact List.filter_eq_self.2 fun x hx => by simpa using mget_none hn' x hx
      rw [this]
    rw [h1, h2, List.length_cons]; omega
theorem fromN_count {L : List Nd} {M : List (Key × Nd)} (h : fromN L = .ok M) : M.length = L.length := by
  unfold fromN at h
  cases hf : fromL L 0 [] with
  | error e => rw [hf] at h; cases h
  | ok M1 =>
    rw [hf] at h
    simp only at h
    split at h
    · cases h
    cases hp : parL M1 L 0 with
    | error e => rw [hp] at h; cases h
    | ok u =>
      rw [hp] at h
      simp only [Except.ok.injEq] at h
      subst h
      have := fromL_count L 0 [] _ hf
      simpa using this
theorem fromN_rootE {L : List Nd} {M : List (Key × Nd)} (h : fromN L = .ok M) : mget M [47] ≠ none := by
  unfold fromN at h
  cases hf : fromL L 0 [] with
  | error e => rw [hf] at h; cases h
  | ok M1 =>
    rw [hf] at h
    simp only at h
    split at h
    · cases h
    rename_i hr
    cases hp : parL M1 L 0 with
    | error e => rw [hp] at h; cases h
    | ok u =>
      rw [hp] at h
      simp only [Except.ok.injEq] at h
      subst h
      exact hr

theorem fromL_mok : ∀ (l : List Nd) (i : Nat) (M0 M : List (Key × Nd)), MOk M0 → fromL l i M0 = .ok M → MOk M
  | [], i, M0, M, h0, h => by
    simp only [fromL, Except.ok.injEq] at h
    subst h; exact h0
  | n :: l, i, M0, M, h0, h => by
    unfold fromL at h
    split at h
    · cases h
    rename_i hr
    split at h
    · cases h
    exact fromL_mok l _ _ _ (h0.put n (by simpa using hr)) h
theorem fromN_mok {L : List Nd} {M : List (Key × Nd)} (h : fromN L = .ok M) : MOk M := by
  unfold fromN at h
  cases hf : fromL L 0 [] with
  | error e => rw [hf] at h; cases h
  | ok M1 =>
    rw [hf] at h
    simp only at h
    split at h
    · cases h
    cases hp : parL M1 L 0 with
    | error e => rw [hp] at h; cases h
    | ok u =>
      rw [hp] at h
      simp only [Except.ok.injEq] at h
      subst h
      exact fromL_mok L 0 [] _ MOk.nil hf
end Go.Proofs.YtamolbegmkngdaaDoor
namespace Go.Proofs.YtamolbegmkngdaaDoor
open Go.RowKit Go.Sort
set_option maxHeartbeats 2000000
set_option maxRecDepth 100000

theorem ex_alloc_nd {o : Oper} {a : Act} {w : World} (ho : o.op = .alloc 37) : (execOp a.eval o).run Tryd.prog w = .ok (.value (.pointer (some ⟨w.heap.size, 0, none⟩))) (w.alloc (.cells zeroNd 37)) := by
  have hz : (zeroValue 37).run Tryd.prog w = .ok (.agg zeroNd) w := by kernel_rfl
  simp [execOp, ho, hz, newVar, newRow, go_sem]

theorem put_frame (T : Array Value) (p b : Tmp) (u v : Value) : ({ tmps := T.setIfInBounds p u, defers := [] } : Act).put (some b) v = { tmps := (T.setIfInBounds p u).setIfInBounds b v, defers := [] } := rfl
theorem eval_set_same {T : Array Value} {b : Tmp} {v : Value} (h : b < T.size) : ({ tmps := T.setIfInBounds b v, defers := [] } : Act).eval (.tmp b) = v := by
  simp [Act.eval, h]
theorem eval_set_other {T : Array Value} {b p : Tmp} {u v : Value} (h : p < T.size) (hne : b ≠ p) : ({ tmps := (T.setIfInBounds p u).setIfInBounds b v, defers := [] } : Act).eval (.tmp p) = u := by
  simp [Act.eval, Array.getElem?_setIfInBounds, h, hne]

/-- What the loop's own assignment leaves. -/
def AggA (T : Array Value) (p b : Tmp) (x : Value × Nd) (a' : Act) (W : World) : Prop :=
  ∃ bl da dc aa ac, x.1 = .agg (ndC x.2 (.slice da x.2.data.length dc) (.slice aa x.2.acl.length ac)) ∧ W.heap[bl]? = some (.cells (ndC x.2 (.slice da x.2.data.length dc) (.slice aa x.2.acl.length ac)) 37 (0, 0)) ∧
    a' = { tmps := (T.setIfInBounds p x.1).setIfInBounds b (.pointer (some ⟨bl, 0, none⟩)), defers := [] }

theorem wpIn_tells_nd {n : Nat} {Q : Exit → Act → World → Prop} {a : Act} {w : World} {g : Operand} {body : Code} {gf : Nat} {lb : Array Value} {Safe : World → Nat → Prop} {S Sp : List (Value × Nd) → Prop} {id : Nat} {p b : Tmp} {pos : String} {aft : Array Edge}
    (h1 : 1 ≤ n) (hg : a.eval g = .func (.func gf) #[] lb) (eg : ∀ args w, (callFunc gf args).run Tryd.prog w = .ok (.enter gf args) w)
    (hseq : Tells Fence.wide (n - 1) Tryd.prog gf lb (fun x : Value × Nd => #[x.1]) (GS Safe) (KeepS Safe) Safe S Sp w)
    (hp : p < a.tmps.size) (hb : b < a.tmps.size) (hne : b ≠ p)
    (I : List (Value × Nd) → World → Prop) (Ix : Code → List (Value × Nd) → World → Prop)
    (hSafe : ∀ X Y k, Turn w.heap.size X Y → Safe X k → Safe Y k)
    (hI : ∀ pre X Y, I pre X → Turn w.heap.size X Y → I pre Y ∧ ∀ k, X.heap.size ≤ k → Safe Y k)
    (hIx : ∀ c pre X Y, Ix c pre X → Turn w.heap.size X Y → Ix c pre Y)
    (h0 : I [] w)
    (hbody : ∀ (l : Nat) (pre : List (Value × Nd)) (m : Nd) (da : Option Addr) (dc : Nat) (aa : Option Addr) (ac bl : Nat) (W : World), w.heap.size ≤ l → (∃ r, W.heap[l]? = some (.loop r)) →
      Sp (pre ++ [(.agg (ndC m (.slice da m.data.length dc) (.slice aa m.acl.length ac)), m)]) → I pre W → GS Safe (.agg (ndC m (.slice da m.data.length dc) (.slice aa m.acl.length ac)), m) W →
      W.heap[bl]? = some (.cells (ndC m (.slice da m.data.length dc) (.slice aa m.acl.length ac)) 37 (0, 0)) →
      body.wpIn (Fence.wide.inRound l) (n - 1 - 1) Tryd.prog (tellPost w.heap.size (KeepS Safe) I Ix (pre ++ [(.agg (ndC m (.slice da m.data.length dc) (.slice aa m.acl.length ac)), m)]) W)
        { tmps := (a.tmps.setIfInBounds p (.agg (ndC m (.slice da m.data.length dc) (.slice aa m.acl.length ac)))).setIfInBounds b (.pointer (some ⟨bl, 0, none⟩)), defers := [] } W)
    (hdone : ∀ (D : Nat) (xs : List (Value × Nd)) (W : World), w.heap.size ≤ D → S xs → I xs W → W.heap[D]? = some (.deferred (some [])) → Q .normal { a with defers := { target := .collected D, args := #[] } :: a.defers } W)
    (hstop : ∀ (D : Nat) (c : Code) (pre : List (Value × Nd)) (W : World), w.heap.size ≤ D → Sp pre → Ix c pre W → W.heap[D]? = some (.deferred (some [])) → c.wpIn Fence.wide n Tryd.prog Q { a with defers := { target := .collected D, args := #[] } :: a.defers } W) :
    (Code.rangeFunc g #[p] (Code.region id #[{ dst := some b, op := Op.alloc 37, type := 0, pos := pos, after := #[], guard := none }, { dst := none, op := Op.store 37 (Operand.tmp b) (Operand.tmp p), type := 0, pos := pos, after := aft, guard := none }] false) body).wpIn Fence.wide n Tryd.prog Q a w := by
  refine wpIn_tells rfl h1 hg trivial eg hseq (fun _ => rfl) I Ix (AggA a.tmps p b) ?hKeep ?hI hIx ?hG ?hAx h0 ?assign ?body hdone hstop
  case hKeep =>
    intro A X Y Z h hk h2
    exact ⟨Nat.le_trans h.size (Nat.le_trans hk.1 h2.size), fun k c e f hc hs => by
      obtain ⟨h3, h4⟩ := hk.2 k c e f (h.cells hc) (hSafe _ _ _ h hs)
      exact ⟨h2.cells h3, hSafe _ _ _ h2 h4⟩⟩
  case hI => exact fun pre X Y h hT => ⟨(hI pre X Y h hT).1, fun k hk => hSafe _ _ _ hT hk, (hI pre X Y h hT).2⟩
  case hG => exact fun x X Y h hT => NdS.imp h (fun k hk => ⟨hSafe _ _ _ hT hk.1, Nat.lt_of_lt_of_le hk.2 hT.size⟩) fun _ _ _ _ hu => hT.cell hu
  case hAx =>
    rintro x a' X Y ⟨bl, da, dc, aa, ac, e1, e2, e3⟩ hT
    exact ⟨bl, da, dc, aa, ac, e1, hT.cells e2, e3⟩
  case assign =>
    rintro l pre ⟨xv, m⟩ W K hIp hG hK
    obtain ⟨da, dc, aa, ac, e, _⟩ := hG
    dsimp only at e
    subst e
    have hfr : ∀ v : Value, (#[p].zip #[v]).foldl (fun (t : Array Value) (x : Tmp × Value) => match x with | (p, v) => t.setIfInBounds p v) a.tmps = a.tmps.setIfInBounds p v := fun v => by simp
    refine wpIn_region_list ?_
    rw [hfr]
    show wpListIn _ _ _ _ _ [_, _] { tmps := a.tmps.setIfInBounds p (.agg (ndC m (.slice da m.data.length dc) (.slice aa m.acl.length ac))), defers := [] } W
    refine wpListIn_value (fun _ => trivial) rfl (fun c h => by cases h) (ex_alloc_nd rfl) ?_
    rw [put_frame]
    refine wpListIn_skipped (fun _ => trivial) rfl (fun c h => by cases h) (ex_store_row 37 (.tmp b) (.tmp p) rfl W.heap.size (ndC m (.slice da m.data.length dc) (.slice aa m.acl.length ac)) (eval_set_same (by simpa using hb)) (eval_set_other hp hne) 37 zeroNd (heap_alloc_new W _) sizeNd rfl (cells_node m da aa _ _ dc ac)) ?_
    rw [setRow_alloc]
    refine wpListIn_nil ?_
    refine hK _ _ (Ext.alloc _ _) ⟨W.heap.size, da, dc, aa, ac, rfl, heap_alloc_new W _, rfl⟩
  case body =>
    rintro l pre ⟨xv, m⟩ a' W hl hr hSp hIp hG ⟨bl, da, dc, aa, ac, e1, e2, rfl⟩
    dsimp only at e1
    subst e1
    exact hbody l pre m da dc aa ac bl W hl hr hSp hIp hG e2

section
variable {P : Program} {ops : Array Oper} {Q : Exit → Act → World → Prop} {Φ : Nat → Value → World → Prop} {a0 : Act} {w0 : World}
theorem duties_rel : ∀ (l : List Oper) (k : Nat), Duties P ops Q Φ a0 w0 k l → DutiesR Ext P ops Q Φ a0 w0 k l
  | [], _, _ => trivial
  | _ :: l, k, h => ⟨h.1, duties_rel l (k + 1) h.2⟩
theorem Ahead.val {vals : List Value} {o p : Oper} {a : Act} {w : World} (h : Ahead ops (fun i v _ => vals[i]? = some v) o a w) (j : Nat) (d : Tmp) (hp : ops[j]? = some p) (hd : p.dst = some d) (he : ∃ e ∈ o.after.toList, e.on = j ∧ Region.binds .any e = true) {v : Value} (hv : vals[j]? = some v) : a.eval (.tmp d) = v :=
  Option.some.inj ((h.slot j d hp hd he).symm.trans hv)
/-- A region that draws its order, each of whose operations has one value to give. -/
theorem region_vals (m : Nat) (vals : List Value) (hlen : vals.length = ops.toList.length) (hchk : (dstsOk ops && aheadB ops && (ops.toList.all fun o => o.dst.any fun d => decide (d < m))) = true) (hsz : a0.tmps.size = m)
    (hd : Duties P ops Q (fun i v _ => vals[i]? = some v) a0 w0 0 ops.toList)
    (hend : ∀ w, Ext w0 w → Q .normal (filled ops.toList vals a0) w) : RegionP P ops Q a0 w0 := by
  have hall := hchk
  simp only [Bool.and_eq_true] at hall
  refine region_rel_e m Ext Ext.refl (fun _ _ _ => Ext.trans) Ext.drew (fun i v _ => vals[i]? = some v) (fun _ _ _ _ h _ => h) (fun i v w h ho => ?_) ?_ hsz (duties_rel _ _ hd) fun us w hE hl hP => ?_
  · exfalso
    cases hoi : ops[i]? with
    | none => rw [hoi] at ho; cases ho
    | some o =>
      rw [hoi] at ho
      have := List.all_eq_true.1 hall.2 o (List.mem_of_getElem? (i := i) (by simpa using hoi))
      cases hd : o.dst with
      | none => rw [hd] at this; cases this
      | some d => simp [hd] at ho
  · simp only [Bool.and_eq_true]
    refine ⟨hall.1, List.all_eq_true.2 fun o ho => ?_⟩
    have := List.all_eq_true.1 hall.2 o ho
    cases hd : o.dst with
    | none => rfl
    | some d => rw [hd] at this; simpa using this
  · have : us = vals := List.ext_getElem? fun i => by
      by_cases hi : i < us.length
      · rw [hP i us[i] (List.getElem?_eq_getElem hi), List.getElem?_eq_getElem hi]
      · rw [List.getElem?_eq_none (by omega), List.getElem?_eq_none (by omega)]
    rw [this]
    exact hend w hE
/-- The same, but for the last operation, which all others are ahead of: it may turn what it likes. -/
theorem region_last_vals (m : Nat) (vals : List Value) (k : Nat) (ol : Oper) (hk : ops[k]? = some ol) (hks : ops.size = k + 1) (hlen : vals.length = k) (hg : ol.guard = none)
    (hchk : (dstsOk ops && aheadB ops && coverOk ops && (ops.toList.all fun o => o.dst.any fun d => decide (d < m))) = true) (hsz : a0.tmps.size = m)
    (hd : Duties P ops Q (fun i v _ => vals[i]? = some v) a0 w0 0 (ops.toList.take k))
    (hlast : ∀ a u w, Ext w0 w → a = filled ops.toList (vals ++ [u]) a0 → (∀ i d v, i < k → (ops[i]?.bind (·.dst)) = some d → vals[i]? = some v → a.eval (.tmp d) = v) → ol.wp P a w (fun a' w' => Q .normal a' w') Q) : RegionP P ops Q a0 w0 := by
  have hall := hchk
  simp only [Bool.and_eq_true] at hall
  refine region_last m (fun i v _ => vals[i]? = some v) (fun _ _ _ _ h _ => h) ?_ hsz k ol hk hks hg hd fun a w hE hF hP => ?_
  · simp only [Bool.and_eq_true]
    exact ⟨hall.1, List.all_eq_true.2 fun o ho => List.all_eq_true.1 hall.2 o (List.mem_of_mem_take ho)⟩
  have hin : ∀ o ∈ ops.toList, ∀ d, o.dst = some d → d < a0.tmps.size := fun o ho d hd => by
    have := List.all_eq_true.1 hall.2 o ho
    rw [hd] at this
    rw [hsz]; simpa using this
  have hfr := framed_filled hF ops.toList (fun _ h => h) (fun _ h => .inl h) hin
  have hl' : (ops.toList.map fun o => valOf o a).length = k + 1 := by simpa using hks
  refine hlast a (valOf ol a) w hE ?_ fun i d v hi hd hv => ?_
  · have : (ops.toList.map fun o => valOf o a) = vals ++ [valOf ol a] := List.ext_getElem? fun i => by
      by_cases hi : i < k
      · rw [List.getElem?_append_left (by omega)]
        have ho : ops[i]? = some (ops[i]'(by omega)) := Array.getElem?_eq_getElem (by omega)
        rw [hP i _ hi ho, List.getElem?_map]
        simp [ho]
      · by_cases hi2 : i = k
        · subst hi2
          rw [List.getElem?_append_right (by omega), hlen, Nat.sub_self, List.getElem?_map]
          simp [hk]
        · rw [List.getElem?_eq_none (by omega), List.getElem?_eq_none (by simp; omega)]
    rw [← this]
    exact hfr
  · cases ho : ops[i]? with
    | none => rw [ho] at hd; cases hd
    | some o =>
      rw [ho] at hd
      have := hP i o hi ho
      rw [hv] at this
      have hd' : o.dst = some d := hd
      unfold valOf at this
      rw [hd'] at this
      exact (Option.some.inj this).symm
end
end Go.Proofs.YtamolbegmkngdaaDoor
