/- The plain sums of TreeSums. The nodes of a tree in another order are the same tree: the plain law; a list turned round and about. Rows that show nodes: what they hold, their first places and those behind them, rows of the call's own; a slice of a slice. The walk of stat.Of. A region that draws its order and turns memory: operations without a slot (a store) among them. The walk of (*Tree).Stat. -/
import Derived.Test.YtamolbegmkngdaaDoorJTreeOrder9
import Derived.Test.YtamolbegmkngdaaDoorJTreeOrder8
import Derived.Test.YtamolbegmkngdaaDoorJTreeOrder6
import Derived.Test.YtamolbegmkngdaaDoorJTreeOrder7
namespace Go.Proofs.YtamolbegmkngdaaDoor
open Go.RowKit
set_option maxHeartbeats 1000000

/-- The children of a path, in order. -/
def kidN (M : List (Key × Nd)) (p : ByteArray) : List (Key × Nd) := M.filter fun c => childOf p c.2
theorem kidsOf_map (M : List (Key × Nd)) (p : ByteArray) : kidsOf M p = (kidN M p).map fun x => (nameK x.2, Value.agg #[]) := rfl
theorem kidN_length (M : List (Key × Nd)) (p : ByteArray) : (kidN M p).length = (kidsOf M p).length := by rw [kidsOf_map, List.length_map]
theorem kidN_mem {M : List (Key × Nd)} {p : ByteArray} {x : Key × Nd} : x ∈ kidN M p ↔ x ∈ M ∧ childOf p x.2 = true := by
  unfold kidN; rw [List.mem_filter]
/-- The sum behind k children. -/
def partN (M : List (Key × Nd)) (p : ByteArray) (own : Nat) (a : Nd → Nat) (k : Nat) : Nat := own + (((kidN M p).take k).map fun c => wtN M c.2.path a).sum
theorem partN_zero (M : List (Key × Nd)) (p : ByteArray) (own : Nat) (a : Nd → Nat) : partN M p own a 0 = own := by
  unfold partN; simp
theorem partN_succ {M : List (Key × Nd)} {p : ByteArray} {own : Nat} {a : Nd → Nat} {k : Nat} (hk : k < (kidN M p).length) : partN M p own a (k + 1) = partN M p own a k + wtN M (kidN M p)[k].2.path a := by
  unfold partN
  rw [List.take_succ_eq_append_getElem hk, List.map_append, List.sum_append]
  simp only [List.map_cons, List.map_nil, List.sum_cons, List.sum_nil]
  omega
theorem partN_all {M : List (Key × Nd)} (hM : MOk M) (hc : Clo M) {s : Key × Nd} (hs : s ∈ M) (a : Nd → Nat) : partN M s.2.path (a s.2) a (kidN M s.2.path).length = wtN M s.2.path a := by
  rw [wt_split hM hc hs]
  unfold partN
  rw [List.take_length]
  rfl
theorem sum_take_le (l : List Nat) (k : Nat) : (l.take k).sum ≤ l.sum := by
  induction l generalizing k with
  | nil => simp
  | cons x l ih =>
    cases k with
    | zero => simp
    | succ k => simp only [List.take_succ_cons, List.sum_cons]; have := ih k; omega
theorem partN_le {M : List (Key × Nd)} (hM : MOk M) (hc : Clo M) {s : Key × Nd} (hs : s ∈ M) (a : Nd → Nat) (k : Nat) : partN M s.2.path (a s.2) a k ≤ wtN M s.2.path a := by
  rw [← partN_all hM hc hs a]
  unfold partN
  rw [List.take_length, List.map_take]
  have := sum_take_le ((kidN M s.2.path).map fun c => wtN M c.2.path a) k
  omega
theorem wtN_one (M : List (Key × Nd)) (s : ByteArray) : wtN M s (fun _ => 1) = (undK M s).length := by
  unfold wtN undK
  rw [List.length_map]
  generalize M.filter (fun x => und x.2.path s) = l
  induction l with
  | nil => rfl
  | cons x l ih =>
    rw [List.map_cons, List.sum_cons, ih, List.length_cons, Nat.add_comm]
theorem sum_le_len {α : Type} (l : List α) (a : α → Nat) (B : Nat) (h : ∀ x ∈ l, a x ≤ B) : (l.map a).sum ≤ l.length * B := by
  induction l with
  | nil => simp
  | cons x l ih =>
    have h1 := h x (List.mem_cons_self ..)
    have h2 := ih fun y hy => h y (List.mem_cons_of_mem _ hy)
    simp only [List.map_cons, List.sum_cons, List.length_cons, Nat.add_mul]; omega
theorem wtN_le (M : List (Key × Nd)) (s : ByteArray) (a : Nd → Nat) (B : Nat) (h : ∀ x ∈ M, a x.2 ≤ B) : wtN M s a ≤ M.length * B := by
  unfold wtN
  refine Nat.le_trans (sum_le_len _ _ B fun x hx => h x (List.mem_filter.1 hx).1) ?_
  exact Nat.mul_le_mul_right _ (List.length_filter_le _ _)
theorem undK_length_le (M : List (Key × Nd)) (s : ByteArray) : (undK M s).length ≤ M.length := by
  unfold undK; rw [List.length_map]; exact List.length_filter_le _ _

/-- The bytes of the nodes at these paths. -/
def bytesK (M : List (Key × Nd)) (ks : List Key) : Nat := (ks.map fun k => ((mget M k).getD zeroN).data.length).sum
theorem bytesK_und {M : List (Key × Nd)} (hM : MOk M) (s : ByteArray) : bytesK M (undK M s) = wtN M s (fun n => n.data.length) := by
  unfold bytesK undK wtN
  rw [List.map_map]
  congr 1
  refine List.map_congr_left fun x hx => ?_
  have hx' := (List.mem_filter.1 hx).1
  show ((mget M x.1).getD zeroN).data.length = _
  rw [mget_of_mem hM.sorted (show (x.1, x.2) ∈ M from hx')]
  rfl
theorem bytesK_succ (M : List (Key × Nd)) (ks : List Key) (k : Nat) (hk : k < ks.length) : bytesK M (ks.take (k + 1)) = bytesK M (ks.take k) + ((mget M ks[k]).getD zeroN).data.length := by
  unfold bytesK
  rw [List.take_succ_eq_append_getElem hk, List.map_append, List.sum_append]
  simp
theorem data_le {M : List (Key × Nd)} (hM : MOk M) (k : Key) : ((mget M k).getD zeroN).data.length ≤ 1048575 := by
  cases hg : mget M k with
  | none => simp [zeroN]
  | some n => exact (right_fit (hM.at hg).2).2.1
theorem bytesK_le {M : List (Key × Nd)} (hM : MOk M) (ks : List Key) : bytesK M ks ≤ ks.length * 1048575 :=
  sum_le_len ks _ _ fun k _ => data_le hM k

/-- The children's paths as the law writes them. -/
theorem child_text {M : List (Key × Nd)} (hM : MOk M) {x y : Key × Nd} (hx : x ∈ M) (hy : y ∈ M) (h : childOf y.2.path x.2 = true) :
    (y.2.path.data.toList = [47] → (⟨#[47]⟩ : ByteArray) ++ ⟨(nameK x.2).toArray⟩ = x.2.path) ∧ (¬ y.2.path.data.toList = [47] → y.2.path ++ (⟨#[47]⟩ : ByteArray) ++ ⟨(nameK x.2).toArray⟩ = x.2.path) := by
  obtain ⟨c1, c2⟩ := childOf_iff.1 h
  have p1 := (path_split (right_vpath (hM.right x hx)) c1).1
  rw [c2] at p1
  have hv := right_vpath (hM.right y hy)
  constructor
  · intro hr
    apply ba_ext
    rw [p1]
    have h1 : y.2.path.size = 1 := by rw [← size_list, hr]; rfl
    unfold preL nameK
    rw [if_pos h1, hr]
    simp [ByteArray.data_append]
  · intro hr
    apply ba_ext
    rw [p1]
    have h1 : ¬ y.2.path.size = 1 := fun e => hr ((root_iff hv).1 e)
    unfold preL nameK
    rw [if_neg h1]
    simp [ByteArray.data_append]
theorem kid_get {M : List (Key × Nd)} (hM : MOk M) {p : ByteArray} {k : Nat} (hk : k < (kidN M p).length) : (kidN M p)[k] ∈ M ∧ childOf p (kidN M p)[k].2 = true := kidN_mem.1 (List.getElem_mem hk)
/-- A node is there. -/
theorem there_of {M : List (Key × Nd)} (hM : MOk M) {x : Key × Nd} (hx : x ∈ M) : mget M x.2.path.data.toList = some x.2 := by
  have hk := hM.key x hx
  have := mget_of_mem hM.sorted (show (x.1, x.2) ∈ M from hx)
  rw [hk] at this
  exact this
end Go.Proofs.YtamolbegmkngdaaDoor
namespace Go.Proofs.YtamolbegmkngdaaDoor
open Go.RowKit
set_option maxHeartbeats 1000000

theorem fromL_distinct : ∀ (l : List Nd) (i : Nat) (M0 : List (Key × Nd)), MOk M0 → (∀ n ∈ l, rightN n = 0) → (l.map keyN).Nodup → (∀ n ∈ l, mget M0 (keyN n) = none) → ∃ M1, fromL l i M0 = .ok M1 ∧ MOk M1 ∧ ∀ x, x ∈ M1 ↔ x ∈ M0 ∨ ∃ n ∈ l, x = (keyN n, n)
  | [], i, M0, h0, _, _, _ => ⟨M0, rfl, h0, fun x => by simp⟩
  | n :: l, i, M0, h0, hr, hd, hn => by
    rw [List.map_cons] at hd
    obtain ⟨d1, d2⟩ := List.nodup_cons.1 hd
    have hr0 := hr n (List.mem_cons_self ..)
    have hn0 := hn n (List.mem_cons_self ..)
    have hne : ∀ m ∈ l, keyN m ≠ keyN n := fun m hm e => d1 (e ▸ List.mem_map.2 ⟨m, hm, rfl⟩)
    obtain ⟨M1, e1, e2, e3⟩ := fromL_distinct l (i + 1) (mput M0 (keyN n) n) (h0.put n hr0) (fun m hm => hr m (List.mem_cons_of_mem _ hm)) d2 (fun m hm => mget_none_of fun x hx e => by
      rcases mem_mput.1 hx with rfl | ⟨hx, _⟩
      · exact hne m hm e.symm
      · exact mget_none (hn m (List.mem_cons_of_mem _ hm)) x hx e)
    refine ⟨M1, ?_, e2, fun x => ?_⟩
    · unfold fromL
      rw [if_neg (by simpa using hr0), if_neg (by rw [hn0]; simp)]
      exact e1
    · rw [e3, mem_mput]
      constructor
      · rintro ((rfl | ⟨h, _⟩) | ⟨m, hm, rfl⟩)
        · exact .inr ⟨n, List.mem_cons_self .., rfl⟩
        · exact .inl h
        · exact .inr ⟨m, List.mem_cons_of_mem _ hm, rfl⟩
      · rintro (h | ⟨m, hm, rfl⟩)
        · exact .inl (.inr ⟨h, mget_none hn0 x h⟩)
        · rcases List.mem_cons.1 hm with rfl | hm
          · exact .inl (.inl rfl)
          · exact .inr ⟨m, hm, rfl⟩
theorem parL_ok {M : List (Key × Nd)} : ∀ (l : List Nd) (i : Nat), (∀ n ∈ l, n.path.size ≠ 1 → mget M (parentB n.path).data.toList ≠ none) → parL M l i = .ok ()
  | [], _, _ => rfl
  | n :: l, i, h => by
    unfold parL
    rw [if_neg fun hh => h n (List.mem_cons_self ..) hh.1 hh.2]
    exact parL_ok l (i + 1) fun m hm => h m (List.mem_cons_of_mem _ hm)

/-- A list with just a tree's nodes, each once. -/
theorem fromN_perm {M : List (Key × Nd)} (hM : MOk M) (hc : Clo M) (hroot : mget M [47] ≠ none) {L : List Nd} (h1 : ∀ n ∈ L, (keyN n, n) ∈ M) (h2 : ∀ x ∈ M, x.2 ∈ L) (hd : (L.map keyN).Nodup) : fromN L = .ok M := by
  obtain ⟨M1, e1, e2, e3⟩ := fromL_distinct L 0 [] MOk.nil (fun n hn => hM.right _ (h1 n hn)) hd (fun n _ => rfl)
  have he : M1 = M := mem_ext_sorted e2.sorted hM.sorted fun x => by
    rw [e3]
    constructor
    · rintro (h | ⟨n, hn, rfl⟩)
      · simp at h
      · exact h1 n hn
    · intro hx
      refine .inr ⟨x.2, h2 x hx, ?_⟩
      rw [← hM.key x hx]
  subst he
  unfold fromN
  rw [e1]
  simp only
  rw [if_neg hroot, parL_ok L 0 fun n hn hs => ?_]
  obtain ⟨y, hy, ey⟩ := hc _ (h1 n hn) hs
  rw [← ey]
  rw [there_of hM hy]
  simp

/-- The place i of the list that is turned by k: of n places. -/
def rotI (n k i : Nat) : Nat := if i + k < n then i + k else i + k - n
theorem rotI_mod {n k i : Nat} (hk : k < n) (hi : i < n) : (i + k) % n = rotI n k i := by
  unfold rotI
  split
  · rename_i h; exact Nat.mod_eq_of_lt h
  · rename_i h
    rw [Nat.mod_eq_sub_mod (by omega), Nat.mod_eq_of_lt (by omega)]
theorem rotI_lt {n k i : Nat} (hk : k < n) (hi : i < n) : rotI n k i < n := by unfold rotI; split <;> omega
theorem rotI_inj {n k i j : Nat} (hk : k < n) (hi : i < n) (hj : j < n) (h : rotI n k i = rotI n k j) : i = j := by
  unfold rotI at h
  split at h <;> split at h <;> omega
theorem rotI_onto {n k t : Nat} (hk : k < n) (ht : t < n) : ∃ i, i < n ∧ rotI n k i = t := by
  by_cases h : k ≤ t
  · exact ⟨t - k, by omega, by unfold rotI; rw [if_pos (by omega)]; omega⟩
  · exact ⟨t + n - k, by omega, by unfold rotI; rw [if_neg (by omega)]; omega⟩

/-- The list from behind, turned by k: its first j places. -/
def rotL (L : List Nd) (k : Nat) : Nat → List Nd
  | 0 => []
  | j + 1 => rotL L k j ++ [(L[rotI L.length k (L.length - 1 - j)]?).getD zeroN]
theorem rotL_length (L : List Nd) (k : Nat) : ∀ j, (rotL L k j).length = j
  | 0 => rfl
  | j + 1 => by unfold rotL; rw [List.length_append, rotL_length L k j]; rfl
theorem rotL_get (L : List Nd) (k : Nat) : ∀ (j i : Nat), i < j → (rotL L k j)[i]? = some ((L[rotI L.length k (L.length - 1 - i)]?).getD zeroN)
  | 0, i, h => by omega
  | j + 1, i, h => by
    unfold rotL
    by_cases e : i < j
    · rw [List.getElem?_append_left (by rw [rotL_length]; exact e)]
      exact rotL_get L k j i e
    · obtain rfl : i = j := by omega
      rw [List.getElem?_append_right (by rw [rotL_length]; exact Nat.le_refl _), rotL_length, Nat.sub_self]
      rfl
theorem rotL_at {L : List Nd} {k : Nat} (hk : k < L.length) {i : Nat} (hi : i < L.length) : (rotL L k L.length)[i]? = L[rotI L.length k (L.length - 1 - i)]? := by
  rw [rotL_get L k L.length i hi]
  have := rotI_lt hk (show L.length - 1 - i < L.length by omega)
  rw [List.getElem?_eq_getElem this]
  rfl

theorem rot_from {M : List (Key × Nd)} (hM : MOk M) (hc : Clo M) (hroot : mget M [47] ≠ none) {k : Nat} (hk : k < (M.map (·.2)).length) : fromN (rotL (M.map (·.2)) k (M.map (·.2)).length) = .ok M := by
  generalize hL : M.map (·.2) = L at *
  have hmem : ∀ n ∈ L, (keyN n, n) ∈ M := fun n hn => by
    rw [← hL] at hn
    obtain ⟨x, hx, rfl⟩ := List.mem_map.1 hn
    rw [← hM.key x hx]; exact hx
  have hkey : ∀ i j (hi : i < L.length) (hj : j < L.length), keyN L[i] = keyN L[j] → i = j := fun i j hi hj e => by
    subst hL
    simp only [List.length_map] at hi hj
    simp only [List.getElem_map] at e
    rw [← hM.key _ (List.getElem_mem hi), ← hM.key _ (List.getElem_mem hj)] at e
    rcases Nat.lt_trichotomy i j with h | h | h
    · have := sorted_at hM.sorted h hj
      rw [e] at this; exact (before_asymm this this).elim
    · exact h
    · have := sorted_at hM.sorted h hi
      rw [e] at this; exact (before_asymm this this).elim
  refine fromN_perm hM hc hroot (fun n hn => ?_) (fun x hx => ?_) ?_
  · obtain ⟨i, hi, ei⟩ := List.getElem_of_mem hn
    rw [rotL_length] at hi
    have h := rotL_at hk hi
    have hlt := rotI_lt hk (show L.length - 1 - i < L.length by omega)
    rw [List.getElem?_eq_getElem (by rw [rotL_length]; exact hi), ei, List.getElem?_eq_getElem hlt] at h
    rw [Option.some.inj h]
    exact hmem _ (List.getElem_mem hlt)
  · have hx' : x.2 ∈ L := by rw [← hL]; exact List.mem_map.2 ⟨x, hx, rfl⟩
    obtain ⟨t, ht, et⟩ := List.getElem_of_mem hx'
    obtain ⟨i, hi, hr⟩ := rotI_onto hk ht
    have h := rotL_at hk (show L.length - 1 - i < L.length by omega)
    rw [show L.length - 1 - (L.length - 1 - i) = i by omega, hr, List.getElem?_eq_getElem ht, et] at h
    exact List.mem_of_getElem? h
  · unfold List.Nodup
    rw [List.pairwise_map, List.pairwise_iff_getElem]
    intro i j hi hj hij
    rw [rotL_length] at hi hj
    have h1 := rotL_at hk hi
    have h2 := rotL_at hk hj
    have l1 := rotI_lt hk (show L.length - 1 - i < L.length by omega)
    have l2 := rotI_lt hk (show L.length - 1 - j < L.length by omega)
    rw [List.getElem?_eq_getElem (by rw [rotL_length]; exact hi), List.getElem?_eq_getElem l1] at h1
    rw [List.getElem?_eq_getElem (by rw [rotL_length]; exact hj), List.getElem?_eq_getElem l2] at h2
    rw [Option.some.inj h1, Option.some.inj h2]
    intro e
    have := rotI_inj hk (show L.length - 1 - i < L.length by omega) (show L.length - 1 - j < L.length by omega) (hkey _ _ l1 l2 e)
    omega

/-- Everything is under the root. -/
theorem und_root {M : List (Key × Nd)} (hM : MOk M) (hc : Clo M) : ∀ (f : Nat) (x : Key × Nd), x ∈ M → x.2.path.size ≤ f → und x.2.path ⟨#[47]⟩ = true
  | 0, x, hx, hf => by have := hM.pos hx; omega
  | f + 1, x, hx, hf => by
    by_cases h1 : x.2.path.size = 1
    · rw [und_one hM hx h1]
      have := (root_iff (right_vpath (hM.right x hx))).1 h1
      rw [show x.2.path = ⟨#[47]⟩ from ba_ext this]
      rfl
    · obtain ⟨y, hy, ey⟩ := hc x hx h1
      have hs := (path_split (right_vpath (hM.right x hx)) h1).2.2.1
      rw [und_up hM hc hx hy h1 ey, und_root hM hc f y hy (by rw [ey]; omega), Bool.or_true]
theorem undK_root {M : List (Key × Nd)} (hM : MOk M) (hc : Clo M) : (undK M ⟨#[47]⟩).length = M.length := by
  unfold undK
  rw [List.length_map, List.filter_eq_self.2 fun x hx => und_root hM hc _ x hx (Nat.le_refl _)]
end Go.Proofs.YtamolbegmkngdaaDoor
namespace Go.Proofs.YtamolbegmkngdaaDoor
open Go.RowKit
set_option maxHeartbeats 2000000
set_option maxRecDepth 100000

/-- Rows that show nodes, all in blocks of a set. -/
structure RowsOf (S : Nat → Prop) (w : World) (a : Option Addr) (vs : List (Array Value)) (L : List Nd) : Prop where
  len : vs.length = L.length
  cells : CellsS S w a (vs.flatMap Array.toList)
  each : ∀ (j : Nat) (cs : Array Value), vs[j]? = some cs → ∃ n, L[j]? = some n ∧ NdS S w (.agg cs) n

/-- A slice's address: none, or a plain one. -/
def PlainA (a : Option Addr) (cap : Nat) : Prop := (a = none ∧ cap = 0) ∨ ∃ b off, a = some ⟨b, off, none⟩

theorem RowsOf.imp {S S' : Nat → Prop} {w w' : World} {a : Option Addr} {vs : List (Array Value)} {L : List Nd} (h : RowsOf S w a vs L) (hS : ∀ b, S b → S' b) (hw : ∀ k, S k → w'.heap[k]? = w.heap[k]?) : RowsOf S' w' a vs L :=
  ⟨h.len, h.cells.imp hS fun b o u hb hu => (World.cell?_of_block (hw b hb)).trans hu, fun j cs hj => by
    obtain ⟨n, hn, hN⟩ := h.each j cs hj
    exact ⟨n, hn, NdS.imp hN hS fun b o u hb hu => (World.cell?_of_block (hw b hb)).trans hu⟩⟩
theorem RowsOf.v17 {S : Nat → Prop} {w : World} {a : Option Addr} {vs : List (Array Value)} {L : List Nd} (h : RowsOf S w a vs L) : ∀ x ∈ vs, x.size = 17 := fun x hx => by
  obtain ⟨i, hi, ei⟩ := List.getElem_of_mem hx
  obtain ⟨n2, _, da2, dc2, aa2, ac2, e2, _⟩ := h.each i x (by rw [List.getElem?_eq_getElem hi, ei])
  simp only [Value.agg.injEq] at e2
  rw [e2]; rfl
/-- The j-th row. -/
theorem RowsOf.row {S : Nat → Prop} {w : World} {a : Option Addr} {vs : List (Array Value)} {L : List Nd} (h : RowsOf S w a vs L) {j : Nat} {n : Nd} (hj : L[j]? = some n) :
    ∃ b off da dc aa ac, a = some ⟨b, off, none⟩ ∧ S b ∧ (∀ r u, (ndC n (.slice da n.data.length dc) (.slice aa n.acl.length ac))[r]? = some u → w.cell? ⟨b, off + j * 17 + r, none⟩ = some u) ∧ CellsS S w da (n.data.map u8v) ∧ CellsS S w aa (acCs n.acl) ∧ vs[j]? = some (ndC n (.slice da n.data.length dc) (.slice aa n.acl.length ac)) := by
  have hjl := (List.getElem?_eq_some_iff.1 hj).1
  have hvk : vs[j]? = some (vs[j]'(by rw [h.len]; exact hjl)) := List.getElem?_eq_getElem _
  obtain ⟨n', hn', da, dc, aa, ac, e, hD, hA⟩ := h.each j _ hvk
  obtain rfl : n' = n := by rw [hj] at hn'; exact (Option.some.inj hn').symm
  simp only [Value.agg.injEq] at e
  rw [e] at hvk
  have hfl := flat17 vs j _ h.v17 hvk
  obtain ⟨b, off, rfl, hb, _⟩ := h.cells (j * 17 + 0) _ (hfl 0 (.string n'.path) rfl)
  refine ⟨b, off, da, dc, aa, ac, rfl, hb, fun r u hr => ?_, hD, hA, hvk⟩
  obtain ⟨b', off', e1, _, c1⟩ := h.cells (j * 17 + r) _ (hfl r u hr)
  simp only [Option.some.injEq, Addr.mk.injEq, and_true] at e1
  obtain ⟨rfl, rfl⟩ := e1
  rw [Nat.add_assoc]; exact c1

theorem infoNd17 : (Tryd.prog.info? 37).map (·.size) = some 17 := by kernel_rfl
theorem run_slice_to (a : Option Addr) (len cap i : Nat) (ha : ∀ p, a = some p → ∃ b off, p = ⟨b, off, none⟩) (hi : i ≤ cap) (W : World) : (Instr.slice 22 (.slice a len cap) none (some (.int .i64 i)) none).run Tryd.prog W = .ok (.slice a i cap) W := by
  have h1 : (0 : Int) ≤ i := by omega
  have h2 : (i : Int) ≤ cap := by omega
  obtain ⟨inf, hinf, hs⟩ := Option.map_eq_some_iff.1 infoNd17
  have hm : (if cap = 0 then a else a.map fun x => x.add 0) = a := by
    split
    · rfl
    · cases a with
      | none => rfl
      | some p =>
        obtain ⟨b, off, rfl⟩ := ha p rfl
        simp [Addr.add]
  simp [Instr.slice, Instr.sliceBounds, Instr.sliceBound, run_underlying Tryd.underlying22, asIntOf, Int.toNat_natCast, h1, h2, hi, sizeOf, typeInfo, hinf, hm, Sem.run, Result.andThen]
theorem run_slice_from (b off len cap i : Nat) (hi : i ≤ len) (hl : len ≤ cap) (W : World) : (Instr.slice 22 (.slice (some ⟨b, off, none⟩) len cap) (some (.int .i64 i)) none none).run Tryd.prog W = .ok (.slice (some (if cap = i then ⟨b, off, none⟩ else ⟨b, off + i * 17, none⟩)) (len - i) (cap - i)) W := by
  have h1 : (0 : Int) ≤ i := by omega
  have h2 : (i : Int) ≤ len := by omega
  obtain ⟨inf, hinf, hs⟩ := Option.map_eq_some_iff.1 infoNd17
  by_cases h0 : i = 0
  · subst h0
    by_cases hc : cap = 0 <;>
    simp [Instr.slice, Instr.sliceBounds, Instr.sliceBound, run_underlying Tryd.underlying22, asIntOf, sizeOf, typeInfo, hinf, hs, hc, Sem.run, Result.andThen, Addr.add]
  have h3 : ¬ i * 17 = 0 := by omega
  by_cases hc : cap = i <;>
  simp [Instr.slice, Instr.sliceBounds, Instr.sliceBound, run_underlying Tryd.underlying22, asIntOf, Int.toNat_natCast, h1, h2, hi, h0, h3, sizeOf, typeInfo, hinf, hs, hc, Sem.run, Result.andThen, Addr.add]
theorem run_slice_nil (W : World) : (Instr.slice 22 (.slice none 0 0) (some (.int .i64 0)) none none).run Tryd.prog W = .ok (.slice none 0 0) W := by
  obtain ⟨inf, hinf, hs⟩ := Option.map_eq_some_iff.1 infoNd17
  simp [Instr.slice, Instr.sliceBounds, Instr.sliceBound, run_underlying Tryd.underlying22, asIntOf, sizeOf, typeInfo, hinf, Sem.run, Result.andThen]

/-- A row of the call's own that shows nodes. -/
theorem RowsOf.of_own {S : Nat → Prop} {w : World} {base n : Nat} {v : Value} {vs : List (Array Value)} {L : List Nd} (h : w.ownsRow base 37 17 v n (vs.flatMap Array.toList)) (hn : n = L.length) (hl : vs.length = L.length) (hS : ∀ k, base ≤ k → k < w.heap.size → S k)
    (he : ∀ (j : Nat) (cs : Array Value), vs[j]? = some cs → ∃ n, L[j]? = some n ∧ NdS S w (.agg cs) n) : ∃ a c, v = .slice a n c ∧ n ≤ c ∧ c ≤ maxLen ∧ RowsOf S w a vs L ∧ PlainA a c := by
  rcases h.2 with ⟨rfl, h0⟩ | ⟨g, cap, cur, rfl, hb, hg, h1, h2, h3, h4⟩
  · have hL : L = [] := List.eq_nil_of_length_eq_zero (by omega)
    have hv : vs = [] := List.eq_nil_of_length_eq_zero (by rw [hl, hL]; rfl)
    subst h0 hL hv
    exact ⟨none, 0, rfl, Nat.le_refl _, Nat.zero_le _, ⟨rfl, fun j u hj => by simp at hj, he⟩, .inl ⟨rfl, rfl⟩⟩
  · refine ⟨some ⟨g, 0, none⟩, cap, rfl, h1, h2, ⟨hl, fun j u hj => ?_, he⟩, .inr ⟨g, 0, rfl⟩⟩
    have hc := h.cells (g := g) rfl j u hj
    rw [addr_add] at hc
    exact ⟨g, 0, rfl, hS g hb (Array.getElem?_eq_some_iff.1 hg).1, hc⟩

theorem flat_take (vs : List (Array Value)) (i : Nat) (h17 : ∀ x ∈ vs, x.size = 17) : (vs.flatMap Array.toList).take (i * 17) = (vs.take i).flatMap Array.toList := by
  induction vs generalizing i with
  | nil => simp
  | cons x vs ih =>
    cases i with
    | zero => simp
    | succ i =>
      have hx : x.toList.length = 17 := by simpa using h17 x (List.mem_cons_self ..)
      rw [List.take_succ_cons, List.flatMap_cons, List.flatMap_cons, ← ih i fun y hy => h17 y (List.mem_cons_of_mem _ hy), List.take_append, List.take_of_length_le (by omega), hx, show (i + 1) * 17 - 17 = i * 17 by omega]
theorem flat_drop (vs : List (Array Value)) (i : Nat) (h17 : ∀ x ∈ vs, x.size = 17) : (vs.flatMap Array.toList).drop (i * 17) = (vs.drop i).flatMap Array.toList := by
  induction vs generalizing i with
  | nil => simp
  | cons x vs ih =>
    cases i with
    | zero => simp
    | succ i =>
      have hx : x.toList.length = 17 := by simpa using h17 x (List.mem_cons_self ..)
      rw [List.drop_succ_cons, List.flatMap_cons, ← ih i fun y hy => h17 y (List.mem_cons_of_mem _ hy), List.drop_append, List.drop_eq_nil_of_le (by omega), hx, show (i + 1) * 17 - 17 = i * 17 by omega, List.nil_append]
theorem flat_len (vs : List (Array Value)) (h17 : ∀ x ∈ vs, x.size = 17) : (vs.flatMap Array.toList).length = vs.length * 17 := by
  induction vs with
  | nil => rfl
  | cons x vs ih =>
    have hx : x.toList.length = 17 := by simpa using h17 x (List.mem_cons_self ..)
    rw [List.flatMap_cons, List.length_append, hx, ih fun y hy => h17 y (List.mem_cons_of_mem _ hy), List.length_cons]; omega
theorem RowsOf.one {S : Nat → Prop} {w : World} {a : Option Addr} {vs : List (Array Value)} {L : List Nd} (h : RowsOf S w a vs L) : ∀ u ∈ vs.flatMap Array.toList, u.oneCell' = true := fun u hu => by
  obtain ⟨x, hx, hux⟩ := List.mem_flatMap.1 hu
  obtain ⟨i, hi, ei⟩ := List.getElem_of_mem hx
  obtain ⟨n2, _, da2, dc2, aa2, ac2, e2, _⟩ := h.each i x (by rw [List.getElem?_eq_getElem hi, ei])
  simp only [Value.agg.injEq] at e2
  have := cells_node n2 da2 aa2 n2.data.length n2.acl.length dc2 ac2
  rw [← e2, ← Array.all_toList] at this
  exact List.all_eq_true.1 this u hux

/-- What a slice's first places show, and what those behind them. -/
theorem RowsOf.src_to {S : Nat → Prop} {w : World} {a : Option Addr} {vs : List (Array Value)} {L : List Nd} (h : RowsOf S w a vs L) {i cap : Nat} (hi : i ≤ L.length) (hS : ∀ k, S k → k < w.heap.size) : Src Tryd.prog 17 22 (.slice a i cap) i ((vs.take i).flatMap Array.toList) w := by
  have h17 : ∀ x ∈ vs.take i, x.size = 17 := fun x hx => h.v17 x (List.mem_of_mem_take hx)
  have hc : Cells w.heap.size w a ((vs.take i).flatMap Array.toList) := fun j u hj => by
    rw [← flat_take vs i h.v17, List.getElem?_take] at hj
    split at hj
    · obtain ⟨b, off, e, hb, hc⟩ := h.cells j u hj
      exact ⟨b, off, e, hS b hb, hc⟩
    · cases hj
  exact hc.src Tryd.underlying22 i cap (by rw [flat_len _ h17, List.length_take, h.len]; congr 1; omega) fun u hu => h.one u (by
    rw [← flat_take vs i h.v17] at hu
    exact List.mem_of_mem_take hu)
theorem RowsOf.src_from {S : Nat → Prop} {w : World} {b off : Nat} {vs : List (Array Value)} {L : List Nd} (h : RowsOf S w (some ⟨b, off, none⟩) vs L) {i cap : Nat} (hi : i ≤ L.length) (hl : L.length ≤ cap) (hS : ∀ k, S k → k < w.heap.size) : Src Tryd.prog 17 22 (.slice (some (if cap = i then ⟨b, off, none⟩ else ⟨b, off + i * 17, none⟩)) (L.length - i) (cap - i)) (L.length - i) ((vs.drop i).flatMap Array.toList) w := by
  have h17 : ∀ x ∈ vs.drop i, x.size = 17 := fun x hx => h.v17 x (List.mem_of_mem_drop hx)
  have hc : Cells w.heap.size w (some (if cap = i then ⟨b, off, none⟩ else ⟨b, off + i * 17, none⟩)) ((vs.drop i).flatMap Array.toList) := fun j u hj => by
    rw [← flat_drop vs i h.v17, List.getElem?_drop] at hj
    obtain ⟨b', off', e, hb, hc⟩ := h.cells (i * 17 + j) u hj
    simp only [Option.some.injEq, Addr.mk.injEq, and_true] at e
    obtain ⟨rfl, rfl⟩ := e
    by_cases hci : cap = i
    · exfalso
      have h1 := (List.getElem?_eq_some_iff.1 hj).1
      rw [flat_len _ h.v17, h.len] at h1
      omega
    · rw [if_neg hci]
      exact ⟨b, off + i * 17, rfl, hS b hb, by rw [Nat.add_assoc]; exact hc⟩
  exact hc.src Tryd.underlying22 _ _ (by rw [flat_len _ h17, List.length_drop, h.len]) fun u hu => h.one u (by
    rw [← flat_drop vs i h.v17] at hu
    exact List.mem_of_mem_drop hu)

theorem wpList_store_one {P : Program} {ops : Array Oper} {rest : List Oper} {o : Oper} {a : Act} {Q : Exit → Act → World → Prop} {w : World} (hgd : o.guard = none) (ty : TypeId) (x y : Operand) (ho : o.op = .store ty x y)
    (g : Nat) (v : Value) (hx : a.eval x = .pointer (some ⟨g, 0, none⟩)) (hy : a.eval y = v) (h1 : v.oneCell' = true) (t : TypeId) (old : Value) (hg : w.heap[g]? = some (.cells #[old] t (0, 0))) (hi : (P.info? ty).map (·.size) = some 1)
    (hK : wpList P ops Q rest (a.put o.dst undef) (w.setRow g #[v])) : wpList P ops Q (o :: rest) a w :=
  wpList_plain hgd fun _ hK' => wp_skipped (run_store_one ty x y ho g v hx hy h1 t old hg hi) (hK' _ _ hK)

def EachN (S : Nat → Prop) (w : World) (vs : List (Array Value)) (L : List Nd) : Prop := vs.length = L.length ∧ ∀ (j : Nat) (cs : Array Value), vs[j]? = some cs → ∃ n, L[j]? = some n ∧ NdS S w (.agg cs) n
theorem EachN.append {S : Nat → Prop} {w : World} {vs vs' : List (Array Value)} {L L' : List Nd} (h : EachN S w vs L) (k : EachN S w vs' L') : EachN S w (vs ++ vs') (L ++ L') := by
  refine ⟨by rw [List.length_append, List.length_append, h.1, k.1], fun j cs hj => ?_⟩
  by_cases hl : j < vs.length
  · rw [List.getElem?_append_left hl] at hj
    rw [List.getElem?_append_left (by rw [← h.1]; exact hl)]
    exact h.2 j cs hj
  · rw [List.getElem?_append_right (by omega)] at hj
    rw [List.getElem?_append_right (by rw [← h.1]; omega), ← h.1]
    exact k.2 _ cs hj
theorem EachN.take {S : Nat → Prop} {w : World} {vs : List (Array Value)} {L : List Nd} (h : EachN S w vs L) (i : Nat) : EachN S w (vs.take i) (L.take i) := by
  refine ⟨by rw [List.length_take, List.length_take, h.1], fun j cs hj => ?_⟩
  rw [List.getElem?_take] at hj ⊢
  split at hj
  · rename_i hlt; rw [if_pos hlt]; exact h.2 j cs hj
  · cases hj
theorem EachN.drop {S : Nat → Prop} {w : World} {vs : List (Array Value)} {L : List Nd} (h : EachN S w vs L) (i : Nat) : EachN S w (vs.drop i) (L.drop i) := by
  refine ⟨by rw [List.length_drop, List.length_drop, h.1], fun j cs hj => ?_⟩
  rw [List.getElem?_drop] at hj ⊢
  exact h.2 _ cs hj
theorem EachN.one {S : Nat → Prop} {w : World} {cs : Array Value} {n : Nd} (h : NdS S w (.agg cs) n) : EachN S w [cs] [n] := by
  refine ⟨rfl, fun j c hj => ?_⟩
  cases j with
  | zero => simp at hj; subst hj; exact ⟨n, rfl, h⟩
  | succ j => simp at hj
theorem grown_of_ext {a b : World} (h : Ext a b) (row : Option Nat) : a.grownBy b row := ⟨h.os, h.tape, h.output, h.size, fun k hk _ => h.block k hk⟩


/-- As an argument's list of nodes. -/
theorem RowsOf.nds {S : Nat → Prop} {w : World} {a : Option Addr} {vs : List (Array Value)} {L : List Nd} (h : RowsOf S w a vs L) {B : Nat} (hS : ∀ k, S k → k < B) : NdsAt B w a L := fun i n hi => by
  obtain ⟨b, off, da, dc, aa, ac, e, hb, hc, hD, hA, _⟩ := h.row hi
  exact ⟨b, off, _, e, hS b hb, ⟨da, dc, aa, ac, rfl, hD.cells hS, hA.cells hS⟩, hc⟩
end Go.Proofs.YtamolbegmkngdaaDoor
namespace Go.Proofs.YtamolbegmkngdaaDoor
open Go.RowKit
set_option maxHeartbeats 2000000
set_option maxRecDepth 100000

/-- What is told of a node with so many children: eleven cells. -/
def statC (n : Nd) (k : Int) : Array Value :=
  #[.int .i64 n.czxid, .int .i64 n.mzxid, .int .i64 n.ctime, .int .i64 n.mtime, .int .i32 n.version, .int .i32 (wrap32 (wrap32 (2 * n.creates) - wrap32 k)), .int .i32 n.aversion, .int .i64 n.owner, .int .i32 (wrap32 n.data.length), .int .i32 (wrap32 k), .int .i64 n.pzxid]
def zeroStat : Array Value := #[.int .i64 0, .int .i64 0, .int .i64 0, .int .i64 0, .int .i32 0, .int .i32 0, .int .i32 0, .int .i64 0, .int .i32 0, .int .i32 0, .int .i64 0]
theorem sizeStat : (Tryd.prog.info? 39).map (·.size) = some 11 := by kernel_rfl

theorem statof_any (n : Nd) (da aa : Option Addr) (dc ac : Nat) (k : Int) (w : World) (hf : Fit n) :
    Calls Tryd.prog 32 #[.agg (ndC n (.slice da n.data.length dc) (.slice aa n.acl.length ac)), .int .i64 k] w fun e w' => e = .returned (.agg (statC n k)) ∧ Ext w w' := by
  have hfd := hf.data
  obtain ⟨W1, hW1⟩ : ∃ W1, W1 = w.alloc (.cells (ndC n (.slice da n.data.length dc) (.slice aa n.acl.length ac)) 37) := ⟨_, rfl⟩
  have hE1 : Ext w W1 := by rw [hW1]; exact Ext.alloc _ _
  have hz1 : W1.heap.size = w.heap.size + 1 := by rw [hW1]; simp
  have hb1 : W1.heap[w.heap.size]? = some (.cells (ndC n (.slice da n.data.length dc) (.slice aa n.acl.length ac)) 37 (0, 0)) := by rw [hW1]; exact heap_alloc_new w _
  obtain ⟨W2, hW2⟩ : ∃ W2, W2 = W1.alloc (.cells zeroStat 39) := ⟨_, rfl⟩
  have hE2 : Ext W1 W2 := by rw [hW2]; exact Ext.alloc _ _
  have hz2 : W2.heap.size = w.heap.size + 1 + 1 := by rw [hW2]; simp [hz1]
  have hb2 := (hE2.block w.heap.size (by omega)).trans hb1
  have hs2 : W2.heap[w.heap.size + 1]? = some (.cells zeroStat 39 (0, 0)) := by rw [hW2, ← hz1]; exact heap_alloc_new W1 _
  have hx : Box W2 w.heap.size (ndC n (.slice da n.data.length dc) (.slice aa n.acl.length ac)) := fun j => cell_of_row _ _ _ _ _ _ hb2
  rw [hW2, hW1] at hx hs2
  unfold Box at hx
  unfold ndC zeroStat at hx hs2
  have HS2 := Lib.hid hs2
  clear hb1 hb2 hs2 hE1 hE2 hf hz1 hz2 hW2 hW1
  clear W2
  clear W1
  unfold ndC
  go_enter Tryd.func32, Tryd.ntmps32
  go_wp2
  refine bodyPost_ret (v := .agg (statC n k)) ?_ rfl ⟨rfl, (Ext.alloc _ _).trans (Ext.alloc _ _)⟩
  refine results_cell_row (p := 4) (ty := 39) rfl _ _ (w.heap.size + 1) 39 (statC n k) (0, 0) _ rfl ?_ Tryd.underlying39 rfl sizeStat
  have := heap_alloc_new (w.alloc (.cells (ndC n (.slice da n.data.length dc) (.slice aa n.acl.length ac)) 37)) (.cells (statC n k) 39)
  rw [World.size_alloc] at this
  exact this
end Go.Proofs.YtamolbegmkngdaaDoor
namespace Go.Proofs.YtamolbegmkngdaaDoor
open Go.RowKit
section
variable {P : Program} {ops : Array Oper} {Q : Exit → Act → World → Prop} {a0 : Act} {w0 : World}

theorem region_state0 (m : Nat) (G : (Nat → Bool) → World → Prop) (hG0 : G (fun _ => false) w0.drew) (Φ : Nat → Value → Prop)
    (hchk : (dstsOk ops && aheadB ops && (ops.toList.all fun o => o.guard.isNone && o.dst.all fun d => decide (d < m))) = true) (hsz : a0.tmps.size = m)
    (hnone : ∀ (i : Nat) (o : Oper) (v : Value), ops[i]? = some o → o.dst = none → Φ i v → v = undef)
    (hd : DutiesS P ops Q G Φ a0 0 ops.toList)
    (hend : ∀ us d w, (∀ i, i < ops.size → d i = true) → G d w → us.length = ops.toList.length → (∀ i u, us[i]? = some u → Φ i u) → Q .normal (filled ops.toList us a0) w) :
    RegionP P ops Q a0 w0 := by
  simp only [Bool.and_eq_true] at hchk
  obtain ⟨⟨hdst, hacy⟩, hall⟩ := hchk
  have hin : ∀ o ∈ ops.toList, ∀ d, o.dst = some d → d < a0.tmps.size := fun o ho d hd => by
    have := List.all_eq_true.1 hall o ho
    simp only [Bool.and_eq_true] at this
    have h2 := this.2
    rw [hd] at h2
    rw [hsz]; simpa using h2
  have hng : ∀ o ∈ ops.toList, o.guard = none := fun o ho => by
    have := List.all_eq_true.1 hall o ho
    simp only [Bool.and_eq_true] at this
    simpa using this.1
  have hdn : (ops.toList.filterMap (·.dst)).Nodup := by simpa [dstsOk] using hdst
  unfold RegionP
  refine wpAny_inv (fun l a w => l.size = ops.size ∧ G (fun k => l.getD k false) w ∧ Framed ops a0 a ∧ (∀ i o, ops[i]? = some o → l.getD i false = true → Φ i (valOf o a)) ∧ Closed ops l) (fun _ _ _ h => h.1) ?_ ?_ _ _ _ _ ?_ ?_
  · rintro l a w i ⟨hs, hE, hF, hP, hC⟩ hi
    obtain ⟨hlt, hu, hpre⟩ := (ready_iff hs).1 hi
    have ho : ops[i]? = some ops[i] := Array.getElem?_eq_getElem hlt
    have hol : ops.toList[i]? = some ops[i] := by simp
    have hmem : ops[i] ∈ ops.toList := by simp
    have hduty := hd.at i ops[i] hol
    rw [Nat.zero_add] at hduty
    have hgo := hduty (fun k => l.getD k false) a w hu (fun f k j h hk => hC.reach f k j h hk) (fun e he hb => hpre e he hb) hE hF (fun e he hb q hq => hP e.on q hq (hpre e he hb))
    unfold wpOpP
    rw [ho]
    simp only []
    rw [if_pos (by unfold Region.wanted; rw [hng _ hmem])]
    refine Oper.wp_mono (fun a' w' h => ?_) hgo
    obtain ⟨v, rfl, hv, hG'⟩ := h
    have hgp : (fun k => (l.setIfInBounds i true).getD k false) = fun k => l.getD k false || k == i := by
      funext k
      by_cases e : k = i
      · subst e
        rw [getD_set_same (by omega)]; simp
      · rw [getD_set_other e]
        have : (k == i) = false := by simpa using e
        rw [this, Bool.or_false]
    refine ⟨by simpa using hs, by rw [hgp]; exact hG', framed_put hF hmem v, fun j o hj hlj => ?_, fun j o hj hlj e he hb => ?_⟩
    · by_cases e : j = i
      · subst e
        rw [ho] at hj
        obtain rfl := Option.some.inj hj
        rw [valOf_put_same (fun d hd => by rw [hF.2.1]; exact hin _ hmem d hd) (fun h => hnone j _ v ho h hv)]
        exact hv
      · rw [getD_set_other e] at hlj
        rw [valOf_put_other (fun d hd h => e (dst_inj ops.toList hdn j i o ops[i] d (by simpa using hj) hol hd h))]
        exact hP j o hj hlj
    · by_cases hei : e.on = i
      · rw [hei]; exact getD_set_same (by omega)
      · rw [getD_set_other hei]
        by_cases hji : j = i
        · subst hji
          rw [ho] at hj
          obtain rfl := Option.some.inj hj
          exact hpre e he hb
        · rw [getD_set_other hji] at hlj
          exact hC j o hj hlj e he hb
  · rintro l a w ⟨hs, hE, hF, hP, _⟩ hr
    have hdone : ∀ i, i < ops.size → l.getD i false = true := fun i hi => ready_none hs hacy hr (i + 1) i (by omega) hi
    rw [framed_filled hF ops.toList (fun _ h => h) (fun _ h => .inl h) hin]
    refine hend _ _ w hdone hE (by simp) fun i u hu => ?_
    rw [List.getElem?_map, Option.map_eq_some_iff] at hu
    obtain ⟨o, ho, rfl⟩ := hu
    exact hP i o (by simpa using ho) (hdone i (Array.getElem?_eq_some_iff.1 (show ops[i]? = some o by simpa using ho)).1)
  · have hf : ∀ i, (Array.replicate ops.size false).getD i false = false := fun i => by
      rw [Array.getD_eq_getD_getElem?, Array.getElem?_replicate]; split <;> rfl
    refine ⟨by simp, by simp only [hf]; exact hG0, ⟨rfl, rfl, fun _ _ => rfl⟩, ?_, ?_⟩
    · intro i o _ h
      rw [hf] at h; cases h
    · intro i o _ h
      rw [hf] at h; cases h
  · unfold unlisted
    exact Nat.le_trans (List.count_le_length) (by simp)

theorem region_state0_vals (m : Nat) (G : (Nat → Bool) → World → Prop) (hG0 : G (fun _ => false) w0.drew) (vals : List Value) (hlen : vals.length = ops.toList.length)
    (hchk : (dstsOk ops && aheadB ops && (ops.toList.all fun o => o.guard.isNone && o.dst.all fun d => decide (d < m))) = true) (hsz : a0.tmps.size = m)
    (hnone : ∀ (i : Nat) (o : Oper) (v : Value), ops[i]? = some o → o.dst = none → vals[i]? = some v → v = undef)
    (hd : DutiesS P ops Q G (fun i v => vals[i]? = some v) a0 0 ops.toList)
    (hend : ∀ d w, (∀ i, i < ops.size → d i = true) → G d w → Q .normal (filled ops.toList vals a0) w) : RegionP P ops Q a0 w0 := by
  refine region_state0 m G hG0 (fun i v => vals[i]? = some v) hchk hsz (fun i o v h1 h2 h3 => hnone i o v h1 h2 h3) hd fun us d w hdn hG hl hP => ?_
  have : us = vals := List.ext_getElem? fun i => by
    by_cases hi : i < us.length
    · rw [hP i us[i] (List.getElem?_eq_getElem hi), List.getElem?_eq_getElem hi]
    · rw [List.getElem?_eq_none (by omega), List.getElem?_eq_none (by omega)]
  rw [this]
  exact hend d w hdn hG

end
end Go.Proofs.YtamolbegmkngdaaDoor
namespace Go.Proofs.YtamolbegmkngdaaDoor
open Go.RowKit
set_option maxHeartbeats 2000000
set_option maxRecDepth 100000

/-- The children's names of a path, as the map that is looked up. -/
theorem TreeAt.kids_look {S : Nat → Prop} {w : World} {bt : Nat} {M : List (Key × Nd)} {N : Nat} (hT : TreeAt S w bt M N) (s : ByteArray) (hs : s.size ≤ maxLen) :
    ∃ (bn bk : Nat) (mb : Option Nat), (∀ b, mb = some b → S b) ∧ ∀ W : World, (∀ k, S k → W.heap[k]? = w.heap[k]?) → Box W bt (treeC bn bk) ∧ (Instr.lookup 65 (.map (some bk)) (.string s) false).run Tryd.prog W = .ok (.map mb) W ∧
      (∀ b, mb = some b → SMap Tryd.prog 9 W b (kidsOf M s)) ∧ (mb = none → kidsOf M s = []) ∧ ∀ ty, (Builtin.len_ #[75] ty #[.map mb]).run Tryd.prog W = .ok (.int .i64 (kidsOf M s).length) W := by
  obtain ⟨bn, bk, K, hd, hNd, hKd⟩ := hT
  have hbox : ∀ W : World, (∀ k, S k → W.heap[k]? = w.heap[k]?) → Box W bt (treeC bn bk) := fun W h j => cell_of_row _ _ _ _ _ _ ((h bt hd.st).trans hd.blk)
  have hlk : ∀ W : World, (∀ k, S k → W.heap[k]? = w.heap[k]?) → (Instr.lookup 65 (.map (some bk)) (.string s) false).run Tryd.prog W = .ok ((mget (kidsV K) s.data.toList).getD (.map none)) W := fun W h =>
    SMap.look (e := 75) (hKd.map.keep (h bk hd.sk)) strT Tryd.underlying65 (z := .map none) (by kernel_rfl) hs
  cases hk : mget K s.data.toList with
  | some b =>
    have hq := hKd.each _ (mget_some_mem hk)
    have hS := hq.1
    have hSM := hq.2.2.2
    rw [key_bytes] at hSM
    have e : (mget (kidsV K) s.data.toList).getD (.map none) = .map (some b) := by rw [kidsV_get, hk]; rfl
    rw [e] at hlk
    refine ⟨bn, bk, some b, fun x hx => by cases hx; exact hS, fun W h => ⟨hbox W h, hlk W h, fun x hx => by cases hx; exact hSM.keep (h b hS), fun hx => (by cases hx), fun ty => ?_⟩⟩
    exact SMap.len (e := 76) (hSM.keep (h b hS)) Tryd.underlying75 ty
  | none =>
    have e : (mget (kidsV K) s.data.toList).getD (.map none) = .map none := by rw [kidsV_get, hk]; rfl
    rw [e] at hlk
    have hno := hKd.rest _ hk
    refine ⟨bn, bk, none, fun x hx => (by cases hx), fun W h => ⟨hbox W h, hlk W h, fun x hx => (by cases hx), fun _ => hno, fun ty => ?_⟩⟩
    rw [hno]
    exact run_len_nilMap (P := Tryd.prog) W 75 ty (by kernel_rfl)

def StatOut (M : List (Key × Nd)) (s : ByteArray) (w : World) (e : Ending) (w' : World) : Prop :=
  e = .returned (.tuple #[.agg (match mget M s.data.toList with | some n => statC n (kidsOf M s).length | none => zeroStat), .int .i64 (if (mget M s.data.toList).isSome = true then 0 else 70)]) ∧ Ext w w'

/-- What the region has done. -/
def StG (W3 : World) (gs : Nat) (cs : Array Value) (d : Nat → Bool) (W : World) : Prop :=
  Chg (· = gs) W3 W ∧ W.heap[gs]? = some (.cells (if d 9 = true then cs else zeroStat) 39 (0, 0))
theorem StG.ext {W3 : World} {gs : Nat} {cs : Array Value} {i : Nat} (hi : i ≠ 9) (d d' : Nat → Bool) (w w' : World) (h : StG W3 gs cs d w) (he : Ext w w') (hd : ∀ k, k ≠ i → d' k = d k) : StG W3 gs cs d' w' := by
  obtain ⟨h1, h2⟩ := h
  refine ⟨h1.trans (Chg.of_ext (S := fun _ => False) he) (fun _ _ h => h.elim), ?_⟩
  rw [hd 9 (Ne.symm hi), he.block gs (Array.getElem?_eq_some_iff.1 h2).1]
  exact h2
theorem statC_one (n : Nd) (k : Int) : (statC n k).all (·.oneCell') = true := by simp [statC, Value.oneCell']
theorem zeroStat_one : zeroStat.all (·.oneCell') = true := by simp [zeroStat, Value.oneCell']

theorem tstat_any (S : Nat → Prop) (w : World) (bt : Nat) (M : List (Key × Nd)) (N : Nat) (hT : TreeAt S w bt M N) (s : ByteArray) (hs : s.size ≤ maxLen) :
    Calls Tryd.prog 10 #[.pointer (some ⟨bt, 0, none⟩), .string s] w (StatOut M s w) := by
  obtain ⟨W0, hW0⟩ : ∃ W0, W0 = w.alloc (.cells zeroStat 39) := ⟨_, rfl⟩
  have hE0 : Ext w W0 := by rw [hW0]; exact Ext.alloc _ _
  have hz0 : W0.heap.size = w.heap.size + 1 := by rw [hW0]; simp
  have hr0 : W0.heap[w.heap.size]? = some (.cells zeroStat 39 (0, 0)) := by rw [hW0]; exact heap_alloc_new w _
  have C1 := tget_any S W0 bt M N (hT.ext hE0) s hs
  have HW0 := Lib.hid hW0
  have HT := Lib.hid hT
  unfold zeroStat at HW0
  clear hT hW0
  go_enter Tryd.func10, Tryd.ntmps10
  go_wp2_with fail
  rw [← HW0.out]
  refine C1.mono ?_
  rintro e w1 ⟨v, rfl, hv, hE1⟩
  obtain ⟨da, dc, aa, ac, rfl, hD, hA⟩ := hv
  have hfit := HT.out.ok.fit s.data.toList
  have hcase : (mget M s.data.toList).getD zeroN = (mget M s.data.toList).getD zeroN := rfl
  generalize hn : (mget M s.data.toList).getD zeroN = n at hD hA hfit ⊢
  clear hD hA hcase
  obtain ⟨W2, hW2⟩ : ∃ W2, W2 = w1.alloc (.cells (ndC n (.slice da n.data.length dc) (.slice aa n.acl.length ac)) 37) := ⟨_, rfl⟩
  have HSET := Lib.hid ((setRow_alloc w1 zeroNd (ndC n (.slice da n.data.length dc) (.slice aa n.acl.length ac)) 37).trans hW2.symm)
  have HNew := Lib.hid (heap_alloc_new w1 (.cells zeroNd 37))
  have hE2 : Ext w1 W2 := by rw [hW2]; exact Ext.alloc _ _
  have hb2 : W2.heap[w1.heap.size]? = some (.cells (ndC n (.slice da n.data.length dc) (.slice aa n.acl.length ac)) 37 (0, 0)) := by rw [hW2]; exact heap_alloc_new w1 _
  have hz1 := hE1.size
  have hz2 := hE2.size
  have hr2 := ((hE1.trans hE2).block w.heap.size (by omega)).trans hr0
  have hEw2 := (hE0.trans hE1).trans hE2
  have hT2 := HT.out.ext hEw2
  have hbd := HT.out.bound
  unfold ndC at HSET
  unfold zeroNd at HSET HNew
  have hb2' := hb2
  unfold ndC at hb2'
  have HB2 := Lib.hid hb2
  have HR2 := Lib.hid hr2
  have HN := Lib.hid hn
  have HT2 := Lib.hid hT2
  have HEW := Lib.hid hEw2
  have HFit := Lib.hid hfit
  have HBD := Lib.hid hbd
  clear C1 hW2 hE0 hE1 hE2 hb2 hr2 hEw2 hT2 hr0 HT hbd hfit hn hb2'
  unfold ndC
  cases hg : mget M s.data.toList with
  | none =>
    have hfin : StatOut M s w (.returned (.tuple #[.agg zeroStat, .int .i64 70])) (W2.setRow w.heap.size zeroStat) := by
      refine ⟨by rw [hg]; rfl, HEW.out.trans' ⟨rfl, rfl, rfl, by simp, fun k hk => setRow_other _ _ _ _ (by omega)⟩⟩
    have hR4 := setRow_heap W2 w.heap.size _ zeroStat 39 (0, 0) HR2.out
    have HFIN := Lib.hid hfin
    have HR4 := Lib.hid hR4
    have HR2' := HR2.out
    unfold zeroStat at HR2'
    have HR3 := Lib.hid HR2'
    clear hfin hg hR4 HR2'
    go_wp2_with (first | (refine wpList_store_row rfl 37 (.tmp 6) (.tmp 12) rfl w1.heap.size _ rfl rfl 37 _ HNew.out sizeNd rfl (cells_node n da aa _ _ dc ac) ?_; rw [HSET.out]) | (refine wpList_store_row rfl 39 (.tmp 4) (.tmp 16) rfl w.heap.size _ rfl rfl 39 _ HR3.out sizeStat rfl zeroStat_one ?_))
    refine bodyPost_ret (v := .tuple #[.agg zeroStat, .int .i64 70]) ?_ rfl HFIN.out
    exact results_cell_row2 (p := 4) (q := 5) (ty := 39) rfl _ _ w.heap.size 39 _ (0, 0) _ _ rfl rfl HR4.out Tryd.underlying39 rfl sizeStat
  | some y =>
    have hny : n = y := by have := HN.out; rw [hg] at this; exact this.symm
    obtain ⟨bn, bk, mb, hmS, hlook⟩ := HT2.out.kids_look s hs
    have HL := Lib.hid hlook
    have HG := Lib.hid hg
    have hG0 : StG W2 w.heap.size (statC n (kidsOf M s).length) (fun _ => false) W2.drew := by
      refine ⟨Chg.of_ext (Ext.drew _), ?_⟩
      simp only [Bool.false_eq_true, if_false]
      exact HR2.out
    have HG0 := Lib.hid hG0
    have hread : ∀ (d : Nat → Bool) (W : World), StG W2 w.heap.size (statC n (kidsOf M s).length) d W → (∀ k, S k → W.heap[k]? = W2.heap[k]?) ∧ W.heap[w1.heap.size]? = W2.heap[w1.heap.size]? := fun d W h =>
      ⟨fun k hk => h.1.same k (by have := HBD.out k hk; omega) (by have := HBD.out k hk; intro e; subst e; omega), h.1.same _ (Array.getElem?_eq_some_iff.1 HB2.out).1 (by omega)⟩
    have HRD := Lib.hid hread
    clear hlook hg hG0 hread hmS
    subst hny
    go_wp2_with (refine wpList_store_row rfl 37 (.tmp 6) (.tmp 12) rfl w1.heap.size _ rfl rfl 37 _ HNew.out sizeNd rfl (cells_node n da aa _ _ dc ac) ?_; rw [HSET.out])
    refine wp_region_P (by kernel_rfl) (region_state0_vals 26 (StG W2 w.heap.size (statC n (kidsOf M s).length)) HG0.out [.agg (ndC n (.slice da n.data.length dc) (.slice aa n.acl.length ac)), .pointer (some ⟨bt, 0, none⟩), .pointer (some ⟨bt, 0, none⟩), .pointer (some ⟨bt, 1, none⟩), .map (some bk), .string s, .map mb, .int .i64 (kidsOf M s).length, .agg (statC n (kidsOf M s).length), undef, .int .i64 0] rfl (by decide) rfl ?hnone ?duties ?rest)
    case hnone =>
      intro i o v h1 h2 h3
      match i, h1, h3 with
      | 9, _, h3 => simp at h3; exact h3.symm
      | 0, h1, _ => cases h1; cases h2
      | 1, h1, _ => cases h1; cases h2
      | 2, h1, _ => cases h1; cases h2
      | 3, h1, _ => cases h1; cases h2
      | 4, h1, _ => cases h1; cases h2
      | 5, h1, _ => cases h1; cases h2
      | 6, h1, _ => cases h1; cases h2
      | 7, h1, _ => cases h1; cases h2
      | 8, h1, _ => cases h1; cases h2
      | 10, h1, _ => cases h1; cases h2
      | i + 11, h1, _ => simp at h1
    case duties =>
      refine ⟨?_, ?_, ?_, ?_, ?_, ?_, ?_, ?_, ?_, ?_, ?_, trivial⟩
      · refine dutyS_ext (StG.ext (by decide)) fun d a w' hG hF hA => ?_
        have x1 := hF.slot 6 _ (by decide) rfl
        exact wp_value (ex_load_row rfl w1.heap.size x1 37 _ (0, 0) _ ((HRD.out d w' hG).2.trans HB2.out) Tryd.underlying37 rfl sizeNd) ⟨_, rfl, rfl, Ext.refl _⟩
      · refine dutyS_ext (StG.ext (by decide)) fun d a w' hG hF hA => ?_
        have x1 := hF.slot 0 _ (by decide) rfl
        exact wp_value (w' := w') (v := .pointer (some ⟨bt, 0, none⟩)) (by simp only [execOp, x1]; simp [go_sem]) ⟨_, rfl, rfl, Ext.refl _⟩
      · refine dutyS_ext (StG.ext (by decide)) fun d a w' hG hF hA => ?_
        have x1 := hA.val 1 18 rfl rfl ⟨⟨1, .data⟩, by simp, rfl, rfl⟩ rfl
        exact wp_value (ex_nilCheck rfl _ x1) ⟨_, rfl, rfl, Ext.refl _⟩
      · refine dutyS_ext (StG.ext (by decide)) fun d a w' hG hF hA => ?_
        have x1 := hA.val 2 19 rfl rfl ⟨⟨2, .data⟩, by simp, rfl, rfl⟩ rfl
        exact wp_value (w' := w') (v := .pointer (some ⟨bt, 1, none⟩)) (by simp only [execOp, x1]; simp [go_sem]) ⟨_, rfl, rfl, Ext.refl _⟩
      · refine dutyS_ext (StG.ext (by decide)) fun d a w' hG hF hA => ?_
        have x1 := hA.val 3 20 rfl rfl ⟨⟨3, .data⟩, by simp, rfl, rfl⟩ rfl
        exact wp_value (ex_cell rfl _ _ x1 ((HL.out w' (HRD.out d w' hG).1).1 1) rfl Tryd.underlying65) ⟨_, rfl, rfl, Ext.refl _⟩
      · refine dutyS_ext (StG.ext (by decide)) fun d a w' hG hF hA => ?_
        have x1 := hF.slot 1 _ (by decide) rfl
        exact wp_value (w' := w') (v := .string s) (by simp only [execOp, x1]; simp [go_sem]) ⟨_, rfl, rfl, Ext.refl _⟩
      · refine dutyS_ext (StG.ext (by decide)) fun d a w' hG hF hA => ?_
        have x1 := hA.val 4 21 rfl rfl ⟨⟨4, .data⟩, by simp, rfl, rfl⟩ rfl
        have x2 := hA.val 5 22 rfl rfl ⟨⟨5, .data⟩, by simp, rfl, rfl⟩ rfl
        have hl := (HL.out w' (HRD.out d w' hG).1).2.1
        exact wp_value (w' := w') (v := .map mb) (by simp only [execOp, x1, x2]; simp [go_sem, hl]) ⟨_, rfl, rfl, Ext.refl _⟩
      · refine dutyS_ext (StG.ext (by decide)) fun d a w' hG hF hA => ?_
        have x1 := hA.val 6 23 rfl rfl ⟨⟨6, .data⟩, by simp, rfl, rfl⟩ rfl
        have hl := (HL.out w' (HRD.out d w' hG).1).2.2.2.2
        exact wp_value (w' := w') (v := .int .i64 (kidsOf M s).length) (by simp only [execOp, resolve, invoke, builtin, Sem.run_bind, Sem.run_pure, Result.andThen_ok, List.map_toArray, List.map_cons, List.map_nil, x1, hl]) ⟨_, rfl, rfl, Ext.refl _⟩
      · refine dutyS_ext (StG.ext (by decide)) fun d a w' hG hF hA => ?_
        have x1 := hA.val 0 17 rfl rfl ⟨⟨0, .data⟩, by simp, rfl, rfl⟩ rfl
        have x2 := hA.val 7 24 rfl rfl ⟨⟨7, .data⟩, by simp, rfl, rfl⟩ rfl
        refine wp_enter (ex_call rfl (enters_f Tryd.func32 (by kernel_rfl) rfl)) (by simp only [List.map_toArray, List.map_cons, List.map_nil, x1, x2]; exact statof_any n da aa dc ac (kidsOf M s).length w' HFit.out) ?_
        rintro e w4 ⟨rfl, h4⟩
        exact ⟨_, rfl, _, rfl, rfl, h4⟩
      · intro d a w' hdi _ _ hG hF hA
        have x1 := hF.slot 4 _ (by decide) rfl
        have x2 := hA.val 8 25 rfl rfl ⟨⟨8, .data⟩, by simp, rfl, rfl⟩ rfl
        refine wp_skipped (ex_store_row 39 (.tmp 4) (.tmp 25) rfl w.heap.size _ x1 x2 39 _ hG.2 sizeStat (by split <;> rfl) (statC_one n _)) ⟨undef, rfl, rfl, ?_⟩
        refine ⟨hG.1.trans (Chg.set (S := (· = w.heap.size)) w.heap.size w' (statC n (kidsOf M s).length) rfl) (fun _ _ h => h), ?_⟩
        have e : ((fun k => d k || k == 9) 9) = true := by simp
        rw [if_pos e]
        exact setRow_heap w' w.heap.size _ _ _ _ hG.2
      · refine dutyS_ext (StG.ext (by decide)) fun d a w' hG hF hA => ?_
        exact wp_value (w' := w') (v := .int .i64 0) (by simp only [execOp]; simp [go_sem]) ⟨_, rfl, rfl, Ext.refl _⟩
    case rest =>
      intro d W4 hdn hG4
      have h9 := hdn 9 (by decide)
      obtain ⟨k1, k2⟩ := hG4
      rw [if_pos h9] at k2
      have hfin : StatOut M s w (.returned (.tuple #[.agg (statC n (kidsOf M s).length), .int .i64 0])) W4 :=
        ⟨by rw [HG.out]; rfl, HEW.out.trans' (k1.below (fun k hk => by subst hk; exact Nat.le_refl _) (by have := HEW.out.size; omega))⟩
      have HFIN := Lib.hid hfin
      have HK := Lib.hid k2
      clear hfin k1 k2 h9 hdn
      simp only [filled, List.zip_cons_cons, List.zip_nil_left, List.foldl_cons, List.foldl_nil, Act.put, List.setIfInBounds_toArray, List.set_cons_succ, List.set_cons_zero, Exit.inBlock, Exit.then]
      rename_i hK
      refine hK _ _ ?_
      clear hK
      go_wp2
      refine bodyPost_ret (v := .tuple #[.agg (statC n (kidsOf M s).length), .int .i64 0]) ?_ rfl HFIN.out
      exact results_cell_row2 (p := 4) (q := 5) (ty := 39) rfl _ _ w.heap.size 39 _ (0, 0) _ _ rfl rfl HK.out Tryd.underlying39 rfl sizeStat
end Go.Proofs.YtamolbegmkngdaaDoor
