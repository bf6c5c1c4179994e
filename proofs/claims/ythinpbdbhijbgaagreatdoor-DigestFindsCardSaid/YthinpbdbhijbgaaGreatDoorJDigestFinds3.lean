/- Plain laws on the parent and the last part of a path. No program in sight. The tree as a list of nodes in order of their paths, and its children's names: plain laws. The walks of the copies of a node's two slices. The walks of stat.Clone and stat.New. A region that draws its order, whose operations only add to memory: one duty for each operation, whatever the order. A tree in memory: what its blocks hold; how that stays and turns. Small laws for the duties of a region that draws its order. -/
import Derived.Test.YthinpbdbhijbgaaGreatDoorJDigestFinds1
import Derived.Lib.LastIndexByte
import Derived.WideAt
import Derived.Test.YthinpbdbhijbgaaGreatDoorJDigestFinds2
import Derived.Orders
namespace Go.Proofs.YthinpbdbhijbgaaGreatDoor
open Go.RowKit

theorem vpath_facts {s : ByteArray} (h : vpath s = true) : 1 ≤ s.size ∧ s.size ≤ 4096 ∧ bat s 0 = 47 ∧ (s.size = 1 ∨ (bat s (s.size - 1) ≠ 47 ∧ scanAt s 0 = true)) := by
  unfold vpath at h
  simp only [Bool.and_eq_true, Bool.or_eq_true, bne_iff_ne, beq_iff_eq, decide_eq_true_eq, ne_eq] at h
  obtain ⟨⟨⟨h1, h2⟩, h3⟩, h4⟩ := h
  exact ⟨by omega, h2, h3, h4.imp id fun h => ⟨h.1, h.2⟩⟩

theorem scan_sep (s : ByteArray) : ∀ (f p : Nat), s.size ≤ p + f → scanAt s p = true → ∀ i, p ≤ i → i < s.size → bat s i = 47 → sep s i = true
  | 0, p, hf, _, i, h1, h2, _ => by omega
  | f + 1, p, hf, h, i, h1, h2, h3 => by
    have hp : p < s.size := by omega
    have d := dec s p hp
    rw [scanAt_step s p hp] at h
    simp only [Bool.and_eq_true] at h
    by_cases e : i = p
    · subst e; exact h.1.2
    · by_cases hlt : i < p + (Utf8.decode s p).2
      · have := d.tail (i - p) (by omega) (by omega)
        rw [show p + (i - p) = i by omega] at this
        omega
      · have := d.pos
        exact scan_sep s f _ (by omega) h.2 i (by omega) h2 h3

theorem vpath_noadj {s : ByteArray} (h : vpath s = true) (i : Nat) (hi : i + 1 < s.size) (h47 : bat s i = 47) : bat s (i + 1) ≠ 47 := by
  obtain ⟨h1, h2, h3, h4⟩ := vpath_facts h
  rcases h4 with h4 | ⟨_, h4⟩
  · omega
  · intro e
    have := scan_sep s s.size 0 (by omega) h4 (i + 1) (by omega) hi e
    unfold sep at this
    rw [e] at this
    simp [h47] at this

/-- The place of the last slash. -/
def lastS (s : ByteArray) : Int := Lib.lastIndexByte s 47
def parentB (s : ByteArray) : ByteArray := s.extract 0 (max (lastS s) 1).toNat
def nameB (s : ByteArray) : ByteArray := s.extract (lastS s + 1).toNat s.size

theorem bat_data (s : ByteArray) (i : Nat) : bat s i = (s.data[i]!).toNat := rfl

theorem lastS_spec {s : ByteArray} (h : vpath s = true) : ∃ i : Nat, lastS s = i ∧ i < s.size ∧ bat s i = 47 ∧ ∀ j, i < j → j < s.size → bat s j ≠ 47 := by
  obtain ⟨h1, _, h3, _⟩ := vpath_facts h
  rcases Lib.lastIndexByte_spec s 47 with ⟨_, hn⟩ | ⟨i, hi, e, hc, hn⟩
  · have := hn 0 (by omega)
    rw [bat_data] at h3
    omega
  · exact ⟨i, e, hi, by rw [bat_data]; omega, fun j h1 h2 h3 => hn j h1 h2 (by rw [bat_data] at h3; omega)⟩

theorem extract_list (s : ByteArray) (i j : Nat) : (s.extract i j).data.toList = (s.data.toList.take j).drop i := by
  rw [ByteArray.data_extract, Array.toList_extract]
  simp [List.extract, List.drop_take]

/-- What stands ahead of a name under a path. -/
def preL (p : ByteArray) : List UInt8 := if p.size = 1 then p.data.toList else p.data.toList ++ [47]

theorem size_list (s : ByteArray) : s.data.toList.length = s.size := Array.length_toList
theorem bat_toList (s : ByteArray) (i : Nat) (h : i < s.size) : s.data.toList[i]'(by simpa using h) = 47 ↔ bat s i = 47 := by
  rw [bat_get s i h, Array.getElem_toList]
  show s[i] = 47 ↔ _
  constructor
  · intro e; rw [e]; rfl
  · intro e; exact UInt8.toNat_inj.1 e

theorem drop_at_slash {s : ByteArray} {i : Nat} (h : i < s.size) (h47 : bat s i = 47) : s.data.toList.drop i = 47 :: s.data.toList.drop (i + 1) := by
  rw [List.drop_eq_getElem_cons (by rw [size_list]; exact h), (bat_toList s i h).2 h47]

/-- A path that is not the root, in its two parts. -/
theorem path_split {s : ByteArray} (h : vpath s = true) (h1 : s.size ≠ 1) : s.data.toList = preL (parentB s) ++ (nameB s).data.toList ∧ (nameB s).size ≠ 0 ∧ (parentB s).size < s.size ∧ ¬ (47 : UInt8) ∈ (nameB s).data.toList := by
  obtain ⟨i, e, hi, h47, hn⟩ := lastS_spec h
  obtain ⟨g1, g2, g3, g4⟩ := vpath_facts h
  have hlast : bat s (s.size - 1) ≠ 47 := by rcases g4 with g4 | g4; exact absurd g4 h1; exact g4.1
  have hil : i + 1 < s.size := by
    rcases Nat.lt_or_ge (i + 1) s.size with h | h
    · exact h
    · exact absurd (show bat s (s.size - 1) = 47 by rw [show s.size - 1 = i by omega]; exact h47) hlast
  have eN : (nameB s).data.toList = s.data.toList.drop (i + 1) := by
    unfold nameB
    rw [extract_list, e, show ((i : Int) + 1).toNat = i + 1 by omega, List.take_of_length_le (by rw [size_list]; exact Nat.le_refl _)]
  have hns : (nameB s).size = s.size - (i + 1) := by rw [← size_list, eN]; simp
  have hnot : ¬ (47 : UInt8) ∈ (nameB s).data.toList := by
    rw [eN]
    intro hm
    obtain ⟨j, hj, ej⟩ := List.getElem_of_mem hm
    simp only [List.length_drop, size_list] at hj
    rw [List.getElem_drop] at ej
    exact hn (i + 1 + j) (by omega) (by omega) ((bat_toList s _ (by omega)).1 ej)
  by_cases h0 : i = 0
  · subst h0
    have eP : (parentB s).data.toList = [47] := by
      unfold parentB
      rw [extract_list, e, show (max ((0 : Nat) : Int) 1).toNat = 1 by omega]
      have := drop_at_slash hi h47
      rw [List.drop_zero] at this ⊢
      rw [this]; rfl
    have hps : (parentB s).size = 1 := by rw [← size_list, eP]; rfl
    refine ⟨?_, by omega, by omega, hnot⟩
    unfold preL
    rw [if_pos hps, eP, eN]
    have := drop_at_slash hi h47
    rw [List.drop_zero] at this
    rw [this]; rfl
  · have eP : (parentB s).data.toList = s.data.toList.take i := by
      unfold parentB
      rw [extract_list, e, show (max (i : Int) 1).toNat = i by omega, List.drop_zero]
    have hps : (parentB s).size = i := by rw [← size_list, eP]; simp; omega
    have hi1 : i ≠ 1 := by
      intro e1
      subst e1
      exact vpath_noadj h 0 (by omega) g3 h47
    refine ⟨?_, by omega, by omega, hnot⟩
    unfold preL
    rw [if_neg (by omega), eP, eN]
    have := drop_at_slash hi h47
    rw [List.append_assoc, List.singleton_append, ← this, List.take_append_drop]

theorem bytes_append (x a b : List UInt8) : bytesBefore (x ++ a) (x ++ b) = bytesBefore a b := by
  induction x with
  | nil => rfl
  | cons c l ih => simp [bytesBefore, ih]

theorem ba_ext {a b : ByteArray} (h : a.data.toList = b.data.toList) : a = b := by
  cases a; cases b
  simp only at h
  rw [Array.toList_inj.1 h]

/-- Of two children of one path the paths are in order as the names are. -/
theorem child_before {a b : ByteArray} (ha : vpath a = true) (ha1 : a.size ≠ 1) (hb : vpath b = true) (hb1 : b.size ≠ 1) (h : parentB a = parentB b) : bytesBefore a.data.toList b.data.toList = bytesBefore (nameB a).data.toList (nameB b).data.toList := by
  rw [(path_split ha ha1).1, (path_split hb hb1).1, h, bytes_append]
theorem child_inj {a b : ByteArray} (ha : vpath a = true) (ha1 : a.size ≠ 1) (hb : vpath b = true) (hb1 : b.size ≠ 1) (h : parentB a = parentB b) (hn : nameB a = nameB b) : a = b := by
  apply ba_ext
  rw [(path_split ha ha1).1, (path_split hb hb1).1, h, hn]
end Go.Proofs.YthinpbdbhijbgaaGreatDoor
namespace Go.Proofs.YthinpbdbhijbgaaGreatDoor
open Go.RowKit

section lists
variable {α β : Type}

theorem mem_ext_sorted : ∀ {a b : List (Key × α)}, MSorted a → MSorted b → (∀ x, x ∈ a ↔ x ∈ b) → a = b
  | [], [], _, _, _ => rfl
  | [], y :: b, _, _, h => by have := (h y).2 (by simp); simp at this
  | x :: a, [], _, _, h => by have := (h x).1 (by simp); simp at this
  | x :: a, y :: b, ha, hb, h => by
    obtain ⟨a1, a2⟩ := List.pairwise_cons.1 ha
    obtain ⟨b1, b2⟩ := List.pairwise_cons.1 hb
    have asym : ∀ {u v : Key}, bytesBefore u v = true → bytesBefore v u = true → False := fun {u v} h1 h2 => by
      have := WideShapes.bytes_trans _ _ _ h1 h2
      rw [WideAt.bytes_irrefl] at this; cases this
    have hxy : x = y := by
      rcases List.mem_cons.1 ((h x).1 (by simp)) with e | e
      · exact e
      rcases List.mem_cons.1 ((h y).2 (by simp)) with e' | e'
      · exact e'.symm
      exact (asym (a1 y e') (b1 x e)).elim
    subst hxy
    have irr : ∀ {l : List (Key × α)}, (∀ z ∈ l, bytesBefore x.1 z.1 = true) → x ∉ l := fun hl hm => by
      have := hl x hm
      rw [WideAt.bytes_irrefl] at this; cases this
    rw [mem_ext_sorted a2 b2 (fun z => ?_)]
    constructor
    · intro hz
      rcases List.mem_cons.1 ((h z).1 (by simp [hz])) with e | e
      · subst e; exact absurd hz (irr a1)
      · exact e
    · intro hz
      rcases List.mem_cons.1 ((h z).2 (by simp [hz])) with e | e
      · subst e; exact absurd hz (irr b1)
      · exact e

/-- Two lists with the same keys, whose values stand to one another as R says. -/
inductive Rel2 (R : α → β → Prop) : List (Key × α) → List (Key × β) → Prop
  | nil : Rel2 R [] []
  | cons {x : Key × α} {y : Key × β} {l : List (Key × α)} {l' : List (Key × β)} : x.1 = y.1 → R x.2 y.2 → Rel2 R l l' → Rel2 R (x :: l) (y :: l')

theorem Rel2.imp {R R' : α → β → Prop} {a : List (Key × α)} {b : List (Key × β)} (h : Rel2 R a b) (hr : ∀ x ∈ a, ∀ y, R x.2 y → R' x.2 y) : Rel2 R' a b := by
  induction h with
  | nil => exact .nil
  | cons h0 h1 _ ih => exact .cons h0 (hr _ (by simp) _ h1) (ih fun x hx => hr x (by simp [hx]))
theorem Rel2.length {R : α → β → Prop} {a : List (Key × α)} {b : List (Key × β)} (h : Rel2 R a b) : a.length = b.length := by
  induction h with
  | nil => rfl
  | cons _ _ _ ih => simp [ih]
theorem Rel2.mdel {R : α → β → Prop} {a : List (Key × α)} {b : List (Key × β)} (h : Rel2 R a b) (k : Key) : Rel2 R (mdel a k) (mdel b k) := by
  induction h with
  | nil => exact .nil
  | @cons x y l l' h0 h1 _ ih =>
    unfold Go.Proofs.YthinpbdbhijbgaaGreatDoor.mdel at ih ⊢
    rw [List.filter_cons, List.filter_cons, ← h0]
    split
    · exact .cons h0 h1 ih
    · exact ih
theorem Rel2.mins {R : α → β → Prop} {a : List (Key × α)} {b : List (Key × β)} (h : Rel2 R a b) {x : Key × α} {y : Key × β} (hk : x.1 = y.1) (hxy : R x.2 y.2) : Rel2 R (mins x a) (mins y b) := by
  induction h with
  | nil => exact .cons hk hxy .nil
  | @cons u v l l' h0 h1 ht ih =>
    unfold Go.Proofs.YthinpbdbhijbgaaGreatDoor.mins
    rw [← hk, ← h0]
    split
    · exact .cons hk hxy (.cons h0 h1 ht)
    · exact .cons h0 h1 ih
theorem Rel2.mput {R : α → β → Prop} {a : List (Key × α)} {b : List (Key × β)} (h : Rel2 R a b) (k : Key) {x : α} {y : β} (hxy : R x y) : Rel2 R (mput a k x) (mput b k y) := (h.mdel k).mins rfl hxy
theorem Rel2.get {R : α → β → Prop} {a : List (Key × α)} {b : List (Key × β)} (h : Rel2 R a b) (k : Key) : (mget a k = none ∧ mget b k = none) ∨ ∃ x y, mget a k = some x ∧ mget b k = some y ∧ R x y := by
  induction h with
  | nil => exact .inl ⟨rfl, rfl⟩
  | @cons u v l l' h0 h1 _ ih =>
    unfold mget at ih ⊢
    rw [List.find?_cons, List.find?_cons, ← h0]
    cases u.1 == k
    · exact ih
    · exact .inr ⟨_, _, rfl, rfl, h1⟩
theorem Rel2.keys {R : α → β → Prop} {a : List (Key × α)} {b : List (Key × β)} (h : Rel2 R a b) : a.map (·.1) = b.map (·.1) := by
  induction h with
  | nil => rfl
  | cons h0 _ _ ih => simp [h0, ih]
end lists

/-- A node's path as a key. -/
def keyN (n : Nd) : Key := n.path.data.toList

/-- The nodes of a tree: each at its own path, each as a node may be. -/
structure MOk (M : List (Key × Nd)) : Prop where
  sorted : MSorted M
  key : ∀ x ∈ M, x.1 = keyN x.2
  right : ∀ x ∈ M, rightN x.2 = 0

theorem MOk.nil : MOk [] := ⟨List.Pairwise.nil, fun _ h => by simp at h, fun _ h => by simp at h⟩
theorem MOk.put {M : List (Key × Nd)} (h : MOk M) (n : Nd) (hn : rightN n = 0) : MOk (mput M (keyN n) n) :=
  ⟨mput_sorted h.sorted _ _, fun x hx => by
    rcases mem_mput.1 hx with rfl | ⟨hx, _⟩
    · rfl
    · exact h.key x hx, fun x hx => by
    rcases mem_mput.1 hx with rfl | ⟨hx, _⟩
    · exact hn
    · exact h.right x hx⟩
theorem MOk.del {M : List (Key × Nd)} (h : MOk M) (k : Key) : MOk (mdel M k) :=
  ⟨mdel_sorted h.sorted _, fun x hx => h.key x (mem_mdel.1 hx).1, fun x hx => h.right x (mem_mdel.1 hx).1⟩

theorem right_vpath {n : Nd} (h : rightN n = 0) : vpath n.path = true := by
  unfold rightN at h
  split at h
  · cases h
  · rename_i hv; simpa using hv
theorem right_fit {n : Nd} (h : rightN n = 0) : Fit n ∧ n.data.length ≤ 1048575 ∧ n.acl.length ≤ 16 := by
  have hv := vpath_facts (right_vpath h)
  unfold rightN at h
  split at h
  · cases h
  split at h
  · cases h
  rename_i h1
  simp only [not_or] at h1
  refine ⟨⟨by omega, by omega, by omega, fun x hx => ?_⟩, by omega, by omega⟩
  have h3 := h1.2.2
  have : bigAc x = false := by
    cases hb : bigAc x with
    | false => rfl
    | true => exact absurd (List.any_eq_true.2 ⟨x, hx, hb⟩) h3
  unfold bigAc at this
  simp at this
  omega

/-- Is it a child of p? -/
def childOf (p : ByteArray) (n : Nd) : Bool := n.path.size != 1 && (parentB n.path).data.toList == p.data.toList
theorem childOf_iff {p : ByteArray} {n : Nd} : childOf p n = true ↔ n.path.size ≠ 1 ∧ parentB n.path = p := by
  unfold childOf
  simp only [Bool.and_eq_true, bne_iff_ne, ne_eq, beq_iff_eq]
  exact ⟨fun h => ⟨h.1, ba_ext h.2⟩, fun h => ⟨h.1, by rw [h.2]⟩⟩
def nameK (n : Nd) : Key := (nameB n.path).data.toList
/-- The names of the children of a path, in order. -/
def kidsOf (M : List (Key × Nd)) (p : ByteArray) : List (Key × Value) := (M.filter fun x => childOf p x.2).map fun x => (nameK x.2, Value.agg #[])

theorem mem_kids {M : List (Key × Nd)} {p : ByteArray} {y : Key × Value} : y ∈ kidsOf M p ↔ ∃ x ∈ M, childOf p x.2 = true ∧ y = (nameK x.2, .agg #[]) := by
  unfold kidsOf
  simp only [List.mem_map, List.mem_filter]
  constructor
  · rintro ⟨x, ⟨h1, h2⟩, rfl⟩; exact ⟨x, h1, h2, rfl⟩
  · rintro ⟨x, h1, h2, rfl⟩; exact ⟨x, ⟨h1, h2⟩, rfl⟩

theorem kids_sorted {M : List (Key × Nd)} (h : MOk M) (p : ByteArray) : MSorted (kidsOf M p) := by
  unfold MSorted kidsOf
  rw [List.pairwise_map, List.pairwise_filter]
  refine List.Pairwise.imp_of_mem (fun {a b} ha hb hab h1 h2 => ?_) h.sorted
  rw [h.key a ha, h.key b hb] at hab
  obtain ⟨a1, a2⟩ := childOf_iff.1 h1
  obtain ⟨b1, b2⟩ := childOf_iff.1 h2
  have := child_before (right_vpath (h.right a ha)) a1 (right_vpath (h.right b hb)) b1 (a2.trans b2.symm)
  show bytesBefore (nameB a.2.path).data.toList (nameB b.2.path).data.toList = true
  rw [← this]
  exact hab

theorem kids_put {M : List (Key × Nd)} (h : MOk M) {n : Nd} (hn : rightN n = 0) (hne : mget M (keyN n) = none) (p : ByteArray) :
    kidsOf (mput M (keyN n) n) p = if childOf p n then mput (kidsOf M p) (nameK n) (.agg #[]) else kidsOf M p := by
  have hnew := mget_none hne
  have hM' := h.put n hn
  by_cases hc : childOf p n = true
  · rw [if_pos hc]
    refine mem_ext_sorted (kids_sorted hM' p) (mput_sorted (kids_sorted h p) _ _) fun y => ?_
    rw [mem_kids, mem_mput, mem_kids]
    constructor
    · rintro ⟨x, hx, h1, rfl⟩
      rcases mem_mput.1 hx with rfl | ⟨hx, hxn⟩
      · exact .inl rfl
      · refine .inr ⟨⟨x, hx, h1, rfl⟩, fun e => hxn ?_⟩
        obtain ⟨a1, a2⟩ := childOf_iff.1 h1
        obtain ⟨b1, b2⟩ := childOf_iff.1 hc
        rw [h.key x hx]
        unfold keyN
        rw [child_inj (right_vpath (h.right x hx)) a1 (right_vpath hn) b1 (a2.trans b2.symm) (ba_ext e)]
    · rintro (rfl | ⟨⟨x, hx, h1, rfl⟩, _⟩)
      · exact ⟨(keyN n, n), mem_mput.2 (.inl rfl), hc, rfl⟩
      · exact ⟨x, mem_mput.2 (.inr ⟨hx, hnew x hx⟩), h1, rfl⟩
  · rw [if_neg hc]
    refine mem_ext_sorted (kids_sorted hM' p) (kids_sorted h p) fun y => ?_
    rw [mem_kids, mem_kids]
    constructor
    · rintro ⟨x, hx, h1, rfl⟩
      rcases mem_mput.1 hx with rfl | ⟨hx, _⟩
      · exact absurd h1 hc
      · exact ⟨x, hx, h1, rfl⟩
    · rintro ⟨x, hx, h1, rfl⟩
      exact ⟨x, mem_mput.2 (.inr ⟨hx, hnew x hx⟩), h1, rfl⟩

theorem MOk.at {M : List (Key × Nd)} (h : MOk M) {k : Key} {n : Nd} (hg : mget M k = some n) : k = keyN n ∧ rightN n = 0 :=
  ⟨h.key _ (mget_some_mem hg), h.right _ (mget_some_mem hg)⟩

theorem kids_del {M : List (Key × Nd)} (h : MOk M) {n : Nd} (hg : mget M (keyN n) = some n) (p : ByteArray) :
    kidsOf (mdel M (keyN n)) p = if childOf p n then mdel (kidsOf M p) (nameK n) else kidsOf M p := by
  have hn := (h.at hg).2
  by_cases hc : childOf p n = true
  · rw [if_pos hc]
    refine mem_ext_sorted (kids_sorted (h.del _) p) (mdel_sorted (kids_sorted h p) _) fun y => ?_
    rw [mem_kids, mem_mdel, mem_kids]
    constructor
    · rintro ⟨x, hx, h1, rfl⟩
      obtain ⟨hx, hxn⟩ := mem_mdel.1 hx
      refine ⟨⟨x, hx, h1, rfl⟩, fun e => hxn ?_⟩
      obtain ⟨a1, a2⟩ := childOf_iff.1 h1
      obtain ⟨b1, b2⟩ := childOf_iff.1 hc
      rw [h.key x hx]
      unfold keyN
      rw [child_inj (right_vpath (h.right x hx)) a1 (right_vpath hn) b1 (a2.trans b2.symm) (ba_ext e)]
    · rintro ⟨⟨x, hx, h1, rfl⟩, hy⟩
      refine ⟨x, mem_mdel.2 ⟨hx, fun e => hy ?_⟩, h1, rfl⟩
      have h2 := mget_of_mem h.sorted (show (x.1, x.2) ∈ M from hx)
      rw [e, hg] at h2
      rw [← Option.some.inj h2]
  · rw [if_neg hc]
    refine mem_ext_sorted (kids_sorted (h.del _) p) (kids_sorted h p) fun y => ?_
    rw [mem_kids, mem_kids]
    constructor
    · rintro ⟨x, hx, h1, rfl⟩
      exact ⟨x, (mem_mdel.1 hx).1, h1, rfl⟩
    · rintro ⟨x, hx, h1, rfl⟩
      refine ⟨x, mem_mdel.2 ⟨hx, fun e => hc ?_⟩, h1, rfl⟩
      have h2 := mget_of_mem h.sorted (show (x.1, x.2) ∈ M from hx)
      rw [e, hg] at h2
      rw [Option.some.inj h2]
      exact h1
theorem kids_length (M : List (Key × Nd)) (p : ByteArray) : (kidsOf M p).length ≤ M.length := by
  unfold kidsOf; rw [List.length_map]; exact List.length_filter_le _ _
end Go.Proofs.YthinpbdbhijbgaaGreatDoor
namespace Go.Proofs.YthinpbdbhijbgaaGreatDoor
open Go.RowKit
set_option maxHeartbeats 400000
set_option maxRecDepth 100000

theorem bclone_any (a : Option Addr) (n c : Nat) (xs : List UInt8) (w : World) (hc : Cells w.heap.size w a (xs.map u8v)) (hn : n = xs.length) (hb : n * 1 ≤ 140737488355328) :
    Calls Tryz.prog 173 #[.slice a n c] w (CloneOut 5 1 a n (xs.map u8v) w) := by
  subst hn
  cases a with
  | none =>
    have hx := hc.none
    have he := fun w n c => Lib.run_eql_slice_nil (P := Tryz.prog) w 41 5 none n c 0 0 Tryz.underlying41
    have hx' : xs = [] := by cases xs with
      | nil => rfl
      | cons b l => simp [u8v] at hx
    subst hx'
    have fin : CloneOut 5 1 none 0 [] w (.returned (.slice none 0 0)) w := ⟨_, rfl, World.ownsRow_nil _ _ _ _, Below.refl _ _, by simp⟩
    have FIN := Lib.hid fin
    clear fin
    go_enter Tryz.func173, Tryz.ntmps173
    go_wp2
    go_ret
    exact FIN.out
  | some p =>
    have he := fun w n c => Lib.run_eql_slice_nil (P := Tryz.prog) w 41 5 (some p) n c 0 0 Tryz.underlying41
    obtain ⟨i0, hi, hz0, hz1, hz2⟩ := info_parts infoU8
    have hsrc : Src Tryz.prog 1 41 (.slice (some p) xs.length c) xs.length (xs.map u8v) (w.alloc (.cells #[] 5)) := (hc.below ((Below.refl _ w).alloc (Nat.le_refl _) _)).src Tryz.underlying41 _ _ (by simp) (one_u8 xs)
    have hown := ownsRow_empty w 5 1
    go_enter Tryz.func173, Tryz.ntmps173
    go_wp2_with (at_builtin; refine wpList_append_src _ rfl _ _ 41 41 rfl w.heap.size 5 i0 (.int .u8 0) 1 1 Tryz.underlying41 hi hz0 hz1 hz2 rfl (by decide) _ 0 _ rfl hown _ _ _ rfl hsrc ?c1 ?c2 ?c3 ?_)
    case c1 => simp only [maxLen]; omega
    case c2 => omega
    case c3 => simp
    intro v' w1 ho hg hnil _
    have hB : Below w.heap.size w w1 := ((Below.refl _ w).alloc (Nat.le_refl _) _).grown hg (by simp) (fun k hk => by simp only [Value.ownBlock, Option.some.injEq] at hk; omega)
    have fin : CloneOut 5 1 (some p) xs.length (xs.map u8v) w (.returned v') w1 := ⟨_, rfl, ho, hB, ⟨fun h => absurd h hnil, fun h => by cases h⟩⟩
    have FIN := Lib.hid fin
    clear fin hB ho hg hnil hsrc hown
    go_wp2
    go_ret
    exact FIN.out

theorem aclone_any (a : Option Addr) (n c : Nat) (xs : List Ac) (w : World) (hc : Cells w.heap.size w a (acCs xs)) (hn : n = xs.length) (hb : n * 40 ≤ 140737488355328) :
    Calls Tryz.prog 174 #[.slice a n c] w (CloneOut 129 3 a n (acCs xs) w) := by
  subst hn
  cases a with
  | none =>
    have hx := hc.none
    have he := fun w n c => Lib.run_eql_slice_nil (P := Tryz.prog) w 42 129 none n c 0 0 Tryz.underlying42
    have hx' : xs = [] := by cases xs with
      | nil => rfl
      | cons b l => simp [acCs, acC] at hx
    subst hx'
    have fin : CloneOut 129 3 none 0 [] w (.returned (.slice none 0 0)) w := ⟨_, rfl, World.ownsRow_nil _ _ _ _, Below.refl _ _, by simp⟩
    have FIN := Lib.hid fin
    clear fin
    go_enter Tryz.func174, Tryz.ntmps174
    go_wp2
    go_ret
    exact FIN.out
  | some p =>
    have he := fun w n c => Lib.run_eql_slice_nil (P := Tryz.prog) w 42 129 (some p) n c 0 0 Tryz.underlying42
    obtain ⟨i0, hi, hz0, hz1, hz2⟩ := info_parts infoAc
    have hsrc : Src Tryz.prog 3 42 (.slice (some p) xs.length c) xs.length (acCs xs) (w.alloc (.cells #[] 129)) := (hc.below ((Below.refl _ w).alloc (Nat.le_refl _) _)).src Tryz.underlying42 _ _ (by simp [acCs_length]) (one_ac xs)
    have hown := ownsRow_empty w 129 3
    go_enter Tryz.func174, Tryz.ntmps174
    go_wp2_with (at_builtin; refine wpList_append_src _ rfl _ _ 42 42 rfl w.heap.size 129 i0 (.agg #[.int .i32 0, .string ⟨#[]⟩, .string ⟨#[]⟩]) 3 40 Tryz.underlying42 hi hz0 hz1 hz2 rfl (by decide) _ 0 _ rfl hown _ _ _ rfl hsrc ?c1 ?c2 ?c3 ?_)
    case c1 => simp only [maxLen]; omega
    case c2 => omega
    case c3 => simp
    intro v' w1 ho hg hnil _
    have hB : Below w.heap.size w w1 := ((Below.refl _ w).alloc (Nat.le_refl _) _).grown hg (by simp) (fun k hk => by simp only [Value.ownBlock, Option.some.injEq] at hk; omega)
    have fin : CloneOut 129 3 (some p) xs.length (acCs xs) w (.returned v') w1 := ⟨_, rfl, ho, hB, ⟨fun h => absurd h hnil, fun h => by cases h⟩⟩
    have FIN := Lib.hid fin
    clear fin hB ho hg hnil hsrc hown
    go_wp2
    go_ret
    exact FIN.out

end Go.Proofs.YthinpbdbhijbgaaGreatDoor
namespace Go.Proofs.YthinpbdbhijbgaaGreatDoor
open Go.RowKit
set_option maxHeartbeats 2000000
set_option maxRecDepth 100000

theorem ownsRow_from {w : World} {base e size n : Nat} {v : Value} {xs : List Value} (h : w.ownsRow base e size v n xs) : ∃ a c, v = .slice a n c ∧ ∀ j u, xs[j]? = some u → ∃ b off, a = some ⟨b, off, none⟩ ∧ base ≤ b ∧ b < w.heap.size ∧ w.cell? ⟨b, off + j, none⟩ = some u := by
  obtain ⟨a, c, rfl, hc⟩ := ownsRow_cells h
  refine ⟨a, c, rfl, fun j u hj => ?_⟩
  obtain ⟨b, off, rfl, h1, h2⟩ := hc j u hj
  refine ⟨b, off, rfl, ?_, h1, h2⟩
  rcases h.2 with ⟨h, _⟩ | ⟨g, cap, cur, h, k1, _⟩
  · cases h
  · simp only [Value.slice.injEq, Option.some.injEq, Addr.mk.injEq] at h; omega

/-- A node's value, the two slices' cells in blocks of a set. -/
def CellsS (S : Nat → Prop) (w : World) (a : Option Addr) (xs : List Value) : Prop :=
  ∀ j u, xs[j]? = some u → ∃ b off, a = some ⟨b, off, none⟩ ∧ S b ∧ w.cell? ⟨b, off + j, none⟩ = some u
def NdS (S : Nat → Prop) (w : World) (v : Value) (n : Nd) : Prop :=
  ∃ da dc aa ac, v = .agg (ndC n (.slice da n.data.length dc) (.slice aa n.acl.length ac)) ∧ CellsS S w da (n.data.map u8v) ∧ CellsS S w aa (acCs n.acl)

theorem CellsS.imp {S S' : Nat → Prop} {w w' : World} {a : Option Addr} {xs : List Value} (h : CellsS S w a xs) (hS : ∀ b, S b → S' b) (hw : ∀ (b o : Nat) u, S b → w.cell? ⟨b, o, none⟩ = some u → w'.cell? ⟨b, o, none⟩ = some u) : CellsS S' w' a xs := fun j u hj => by
  obtain ⟨b, off, h1, h2, h3⟩ := h j u hj
  exact ⟨b, off, h1, hS b h2, hw b _ u h2 h3⟩
theorem CellsS.cells {S : Nat → Prop} {w : World} {a : Option Addr} {xs : List Value} (h : CellsS S w a xs) {B : Nat} (hS : ∀ b, S b → b < B) : Cells B w a xs := fun j u hj => by
  obtain ⟨b, off, h1, h2, h3⟩ := h j u hj
  exact ⟨b, off, h1, hS b h2, h3⟩
theorem NdS.imp {S S' : Nat → Prop} {w w' : World} {v : Value} {n : Nd} (h : NdS S w v n) (hS : ∀ b, S b → S' b) (hw : ∀ (b o : Nat) u, S b → w.cell? ⟨b, o, none⟩ = some u → w'.cell? ⟨b, o, none⟩ = some u) : NdS S' w' v n := by
  obtain ⟨da, dc, aa, ac, rfl, h1, h2⟩ := h
  exact ⟨da, dc, aa, ac, rfl, h1.imp hS hw, h2.imp hS hw⟩
theorem NdV.nds {B : Nat} {w : World} {v : Value} {n : Nd} (h : NdV B w v n) : NdS (· < B) w v n := h

/-- A copy of a node, wholly in new memory. -/
def CloneS (n : Nd) (w : World) (e : Ending) (w' : World) : Prop := ∃ v, e = .returned v ∧ NdS (fun b => w.heap.size ≤ b ∧ b < w'.heap.size) w' v n ∧ Below w.heap.size w w'

theorem sclone_nd (n : Nd) (da aa : Option Addr) (dc ac : Nat) (w : World) (hf : Fit n) (hD : Cells w.heap.size w da (n.data.map u8v)) (hA : Cells w.heap.size w aa (acCs n.acl)) :
    Calls Tryz.prog 129 #[.agg (ndC n (.slice da n.data.length dc) (.slice aa n.acl.length ac))] w (CloneS n w) := by
  have hfd := hf.data
  have hfa := hf.acl
  obtain ⟨W2, hW2⟩ : ∃ W2, W2 = (w.alloc (.cells (ndC n (.slice da n.data.length dc) (.slice aa n.acl.length ac)) 44)).alloc (.cells #[.string ⟨#[]⟩, .slice none 0 0, .slice none 0 0, .int .i64 0, .int .i64 0, .int .i64 0, .int .i64 0, .int .i64 0, .int .i64 0, .int .i64 0, .int .i64 0, .int .i32 0, .int .i32 0, .int .i32 0, .bool false, .int .i64 0, .int .i64 0] 44) := ⟨_, rfl⟩
  have hs2 : W2.heap.size = w.heap.size + 1 + 1 := by rw [hW2]; simp
  have hb2 : Below w.heap.size w W2 := by rw [hW2]; exact ((Below.refl _ _).alloc (Nat.le_refl _) _).alloc (by simp) _
  have hA2 : W2.heap[w.heap.size]? = some (.cells (ndC n (.slice da n.data.length dc) (.slice aa n.acl.length ac)) 44 (0, 0)) := by rw [hW2]; exact heap_alloc2_old w _ _
  have hR2 : W2.heap[w.heap.size + 1]? = some (.cells #[.string ⟨#[]⟩, .slice none 0 0, .slice none 0 0, .int .i64 0, .int .i64 0, .int .i64 0, .int .i64 0, .int .i64 0, .int .i64 0, .int .i64 0, .int .i64 0, .int .i32 0, .int .i32 0, .int .i32 0, .bool false, .int .i64 0, .int .i64 0] 44 (0, 0)) := by rw [hW2]; exact heap_alloc2_new w _ _
  have C1 := bclone_any da n.data.length dc n.data W2 ((hD.below hb2).mono (by omega)) rfl (by omega)
  rw [hW2] at C1
  have C1 := Lib.hid C1
  have HW2 := Lib.hid hW2
  unfold ndC at hA2 C1 HW2 ⊢
  clear hW2
  go_enter Tryz.func129, Tryz.ntmps129
  go_wp2_with fail
  refine C1.out.mono ?_
  rintro e w4 ⟨v1, rfl, ho1, hb4, _⟩
  rw [← HW2.out] at hb4 ho1
  obtain ⟨va, vc, rfl, hD4⟩ := ownsRow_from ho1
  have hA4 := (hb4.block w.heap.size (by omega)).trans hA2
  have hR4 := (hb4.block (w.heap.size + 1) (by omega)).trans hR2
  have hbw4 := hb2.trans (hb4.mono (by omega))
  have hz4 := hb4.size
  have hcell : w4.cell? ⟨w.heap.size, 1, none⟩ = some (.slice da n.data.length dc) := by rw [cell_of_row w4 w.heap.size 1 _ _ _ hA4]; rfl
  have hfr : w4.frozen? ⟨w.heap.size, 1, none⟩ = false := frozen_of_row w4 w.heap.size 1 _ _ hA4
  obtain ⟨W5, hW5⟩ : ∃ W5, W5 = w4.setCell ⟨w.heap.size, 1, none⟩ (.slice va n.data.length vc) := ⟨_, rfl⟩
  have hs5 : W5.heap.size = w4.heap.size := by rw [hW5]; simp [World.setCell]
  have hA5 : W5.heap[w.heap.size]? = some (.cells (ndC n (.slice va n.data.length vc) (.slice aa n.acl.length ac)) 44 (0, 0)) := by
    rw [hW5, heap_setCell_same w4 w.heap.size 1 _ _ _ hA4]; rfl
  have hR5 := (show W5.heap[w.heap.size + 1]? = w4.heap[w.heap.size + 1]? by rw [hW5]; exact Below.heap_setCell _ _ _ _ (by simp)).trans hR4
  have hb5 : Below w.heap.size w W5 := by rw [hW5]; exact hbw4.setCell (p := ⟨w.heap.size, 1, none⟩) (Nat.le_refl _) _
  have hD5 : ∀ j u, (n.data.map u8v)[j]? = some u → ∃ b off, va = some ⟨b, off, none⟩ ∧ W2.heap.size ≤ b ∧ b < W5.heap.size ∧ W5.cell? ⟨b, off + j, none⟩ = some u := fun j u hj => by
    obtain ⟨b, off, h1, h2, h3, h4⟩ := hD4 j u hj
    refine ⟨b, off, h1, h2, by omega, ?_⟩
    rw [hW5, World.cell?_of_block (w := w4) (Below.heap_setCell _ _ _ _ (by simp; omega))]
    exact h4
  have C2 := aclone_any aa n.acl.length ac n.acl W5 ((hA.below hb5).mono (by omega)) rfl (by omega)
  have HW5 := Lib.hid hW5
  have hcell2 : (w4.setCell ⟨w.heap.size, 1, none⟩ (.slice va n.data.length vc)).cell? ⟨w.heap.size, 2, none⟩ = some (.slice aa n.acl.length ac) := by rw [← hW5, cell_of_row W5 w.heap.size 2 _ _ _ hA5]; rfl
  rw [hW5] at C2
  have C2 := Lib.hid C2
  have HS5 := Lib.hid hs5
  have hnb4 : w.heap.size < w4.heap.size := by omega
  have hnb5 : w.heap.size + 1 < w4.heap.size := by omega
  clear hW5 hs5 hA4 hR4 hb4 hD4 hA2 hR2 HW2 hA hD C1 hbw4 ho1
  go_wp2_with fail
  refine C2.out.mono ?_
  rintro e w6 ⟨v2, rfl, ho2, hb6', _⟩
  rw [← HW5.out] at hb6' ho2
  have hs5 := HS5.out
  obtain ⟨vb, vd, rfl, hE6⟩ := ownsRow_from ho2
  have hA6 := (hb6'.block w.heap.size (by omega)).trans hA5
  have hR6 := (hb6'.block (w.heap.size + 1) (by omega)).trans hR5
  have hb6 := hb5.trans (hb6'.mono (by omega))
  have hz6 := hb6'.size
  have hD6 : ∀ j u, (n.data.map u8v)[j]? = some u → ∃ b off, va = some ⟨b, off, none⟩ ∧ W2.heap.size ≤ b ∧ b < W5.heap.size ∧ w6.cell? ⟨b, off + j, none⟩ = some u := fun j u hj => by
    obtain ⟨b, off, h1, h2, h3, h4⟩ := hD5 j u hj
    exact ⟨b, off, h1, h2, h3, (World.cell?_of_block (hb6'.block b h3)).trans h4⟩
  clear ho2 hb6' hA5 hR5 hb5 hD5 hcell hfr hcell2 C2
  have hcell : w6.cell? ⟨w.heap.size, 2, none⟩ = some (.slice aa n.acl.length ac) := by rw [cell_of_row w6 w.heap.size 2 _ _ _ hA6]; rfl
  have hfr : w6.frozen? ⟨w.heap.size, 2, none⟩ = false := frozen_of_row w6 w.heap.size 2 _ _ hA6
  have hA7 : (w6.setCell ⟨w.heap.size, 2, none⟩ (.slice vb n.acl.length vd)).heap[w.heap.size]? = some (.cells (ndC n (.slice va n.data.length vc) (.slice vb n.acl.length vd)) 44 (0, 0)) := by
    rw [heap_setCell_same w6 w.heap.size 2 _ _ _ hA6]; rfl
  have hR7 := (show (w6.setCell ⟨w.heap.size, 2, none⟩ (.slice vb n.acl.length vd)).heap[w.heap.size + 1]? = w6.heap[w.heap.size + 1]? from Below.heap_setCell _ _ _ _ (by simp)).trans hR6
  have HA7 := Lib.hid hA7
  have HR7 := Lib.hid hR7
  clear hA7 hR7 hA6 hR6
  go_wp2_with (first | (refine wpList_load_row rfl 44 (.tmp 1) rfl w.heap.size rfl 44 _ (0, 0) _ HA7.out Tryz.underlying44 rfl sizeNd ?_) | (refine wpList_store_row rfl 44 (.tmp 2) (.tmp 11) rfl (w.heap.size + 1) _ rfl rfl 44 _ HR7.out sizeNd rfl (cells_node n va vb _ _ vc vd) ?_))
  obtain ⟨W7, hW7⟩ : ∃ W7, W7 = w6.setCell ⟨w.heap.size, 2, none⟩ (.slice vb n.acl.length vd) := ⟨_, rfl⟩
  have hA7 := HA7.out
  have hR7 := HR7.out
  rw [← hW7] at hA7 hR7 ⊢
  have hs7 : W7.heap.size = w6.heap.size := by rw [hW7]; simp [World.setCell]
  have hb7 : Below w.heap.size w W7 := by rw [hW7]; exact hb6.setCell (p := ⟨w.heap.size, 2, none⟩) (Nat.le_refl _) _
  have ho7 : ∀ b, w.heap.size + 1 + 1 ≤ b → W7.heap[b]? = w6.heap[b]? := fun b hb => by rw [hW7]; exact Below.heap_setCell _ _ _ _ (by simp; omega)
  obtain ⟨cs, hcs⟩ : ∃ cs, cs = ndC n (.slice va n.data.length vc) (.slice vb n.acl.length vd) := ⟨_, rfl⟩
  rw [← hcs] at hA7 ⊢
  have hR8 := setRow_heap W7 (w.heap.size + 1) _ cs 44 (0, 0) hR7
  have hs8 : (W7.setRow (w.heap.size + 1) cs).heap.size = W7.heap.size := by simp [World.setRow]
  have hb8 : Below w.heap.size w (W7.setRow (w.heap.size + 1) cs) :=
    hb7.trans ⟨rfl, rfl, rfl, by rw [hs8]; exact Nat.le_refl _, fun k hk => setRow_other _ _ _ _ (by omega)⟩
  have ho8 : ∀ b, w.heap.size + 1 + 1 ≤ b → (W7.setRow (w.heap.size + 1) cs).heap[b]? = w6.heap[b]? := fun b hb => (setRow_other _ _ _ _ (by omega)).trans (ho7 b hb)
  have hz := HS5.out
  have cD : CellsS (fun b => w.heap.size ≤ b ∧ b < (W7.setRow (w.heap.size + 1) cs).heap.size) (W7.setRow (w.heap.size + 1) cs) va (n.data.map u8v) := fun j u hj => by
    obtain ⟨b, off, h1, h2, h3, h4⟩ := hD6 j u hj
    exact ⟨b, off, h1, ⟨by omega, by omega⟩, (World.cell?_of_block (ho8 b (by omega))).trans h4⟩
  have cA : CellsS (fun b => w.heap.size ≤ b ∧ b < (W7.setRow (w.heap.size + 1) cs).heap.size) (W7.setRow (w.heap.size + 1) cs) vb (acCs n.acl) := fun j u hj => by
    obtain ⟨b, off, h1, h2, h3, h4⟩ := hE6 j u hj
    exact ⟨b, off, h1, ⟨by omega, by omega⟩, (World.cell?_of_block (ho8 b (by omega))).trans h4⟩
  have hsz17 : (Tryz.prog.info? 44).map (·.size) = some cs.size := by rw [hcs]; exact sizeNd
  refine bodyPost_ret (v := .agg cs) ?_ rfl ⟨_, rfl, ⟨va, vc, vb, vd, by rw [hcs], cD, cA⟩, hb8⟩
  exact results_cell_row (p := 2) (ty := 44) rfl _ _ (w.heap.size + 1) 44 cs (0, 0) _ rfl hR8 Tryz.underlying44 rfl hsz17
def newN (path : ByteArray) (data : List UInt8) (acl : List Ac) (owner zxid time : Int) : Nd := ⟨path, data, acl, owner, zxid, zxid, zxid, 0, 0, time, time, 0, 0, 0, false, 0, 0⟩

theorem snew_nd (path : ByteArray) (data : List UInt8) (acl : List Ac) (owner zxid time : Int) (da aa : Option Addr) (dc ac : Nat) (w : World) (hf : Fit (newN path data acl owner zxid time)) (hD : Cells w.heap.size w da (data.map u8v)) (hA : Cells w.heap.size w aa (acCs acl)) :
    Calls Tryz.prog 69 #[.string path, .slice da data.length dc, .slice aa acl.length ac, .int .i64 owner, .int .i64 zxid, .int .i64 time] w (CloneS (newN path data acl owner zxid time) w) := by
  obtain ⟨W1, hW1⟩ : ∃ W1, W1 = w.alloc (.cells #[.string ⟨#[]⟩, .slice none 0 0, .slice none 0 0, .int .i64 0, .int .i64 0, .int .i64 0, .int .i64 0, .int .i64 0, .int .i64 0, .int .i64 0, .int .i64 0, .int .i32 0, .int .i32 0, .int .i32 0, .bool false, .int .i64 0, .int .i64 0] 44) := ⟨_, rfl⟩
  have hb1 : Below w.heap.size w W1 := by rw [hW1]; exact (Below.refl _ _).alloc (Nat.le_refl _) _
  have hs1 : W1.heap.size = w.heap.size + 1 := by rw [hW1]; simp
  have hR1 : W1.heap[w.heap.size]? = some (.cells #[.string ⟨#[]⟩, .slice none 0 0, .slice none 0 0, .int .i64 0, .int .i64 0, .int .i64 0, .int .i64 0, .int .i64 0, .int .i64 0, .int .i64 0, .int .i64 0, .int .i32 0, .int .i32 0, .int .i32 0, .bool false, .int .i64 0, .int .i64 0] 44 (0, 0)) := by rw [hW1]; exact heap_alloc_new w _
  have C := sclone_nd (newN path data acl owner zxid time) da aa dc ac W1 hf ((hD.below hb1).mono (by omega)) ((hA.below hb1).mono (by omega))
  rw [hW1] at C
  have HW1 := Lib.hid hW1
  have HR1 := Lib.hid hR1
  unfold ndC newN at C
  have C := Lib.hid C
  clear hW1 hR1
  go_enter Tryz.func69, Tryz.ntmps69
  go_wp2_with fail
  refine C.out.mono ?_
  rintro e w2 ⟨v, rfl, hN, hb2⟩
  rw [← HW1.out] at hb2 hN
  obtain ⟨va, vc, vb, vd, rfl, h1, h2⟩ := hN
  have hR2 := (hb2.block w.heap.size (by omega)).trans HR1.out
  have HR2 := Lib.hid hR2
  have hb := hb1.trans (hb2.mono (by omega))
  clear C HW1 HR1 hR2
  go_wp2_with (refine wpList_store_row rfl 44 (.tmp 12) (.tmp 23) rfl w.heap.size _ rfl rfl 44 _ HR2.out sizeNd rfl (cells_node _ va vb _ _ vc vd) ?_)
  obtain ⟨cs, hcs⟩ : ∃ cs, cs = ndC (newN path data acl owner zxid time) (.slice va data.length vc) (.slice vb acl.length vd) := ⟨_, rfl⟩
  have hR3 := setRow_heap w2 w.heap.size _ cs 44 (0, 0) HR2.out
  have hs3 : (w2.setRow w.heap.size cs).heap.size = w2.heap.size := by simp [World.setRow]
  have hz := hb2.size
  have hb3 : Below w.heap.size w (w2.setRow w.heap.size cs) :=
    hb.trans ⟨rfl, rfl, rfl, by rw [hs3]; exact Nat.le_refl _, fun k hk => setRow_other _ _ _ _ (by omega)⟩
  have hsz17 : (Tryz.prog.info? 44).map (·.size) = some cs.size := by rw [hcs]; exact sizeNd
  have hk : ∀ (b o : Nat) u, (W1.heap.size ≤ b ∧ b < w2.heap.size) → w2.cell? ⟨b, o, none⟩ = some u → (w2.setRow w.heap.size cs).cell? ⟨b, o, none⟩ = some u := fun b o u hb hu =>
    (World.cell?_of_block (setRow_other _ _ _ _ (show b ≠ w.heap.size by have := hb.1; omega))).trans hu
  have c1 := h1.imp (S' := fun b => w.heap.size ≤ b ∧ b < (w2.setRow w.heap.size cs).heap.size) (fun b hb => ⟨by omega, by omega⟩) hk
  have c2 := h2.imp (S' := fun b => w.heap.size ≤ b ∧ b < (w2.setRow w.heap.size cs).heap.size) (fun b hb => ⟨by omega, by omega⟩) hk
  refine bodyPost_ret (v := .agg cs) ?_ rfl ⟨_, rfl, ⟨va, vc, vb, vd, by rw [hcs]; rfl, ?_, ?_⟩, ?_⟩
  · refine results_cell_row (p := 12) (ty := 44) rfl _ _ w.heap.size 44 cs (0, 0) _ rfl ?_ Tryz.underlying44 rfl hsz17
    rw [hcs] at hR3 ⊢; exact hR3
  · rw [hcs] at c1; exact c1
  · rw [hcs] at c2; exact c2
  · rw [hcs] at hb3; exact hb3
end Go.Proofs.YthinpbdbhijbgaaGreatDoor
namespace Go.Proofs.YthinpbdbhijbgaaGreatDoor
open Go.RowKit
variable {P : Program} {ops : Array Oper} {Q : Exit → Act → World → Prop}

/-- All that was there is as it was; the rest is new. -/
def Ext (w w' : World) : Prop := Below w.heap.size w w'
theorem Ext.refl (w : World) : Ext w w := Below.refl _ _
theorem Ext.trans {a b c : World} (h : Ext a b) (k : Ext b c) : Ext a c := Below.trans h (Below.mono k (Below.size h))
theorem Ext.trans' {a b c : World} (h : Ext a b) (k : Below a.heap.size b c) : Ext a c := Below.trans h k
theorem Ext.drew (w : World) : Ext w w.drew := (Below.refl _ w).drew
theorem Ext.alloc (w : World) (o : Obj) : Ext w (w.alloc o) := (Below.refl _ w).alloc (Nat.le_refl _) o

/-- How many are not listed yet. -/
def unlisted (l : Array Bool) : Nat := l.toList.count false
theorem count_set_list : ∀ (l : List Bool) (i : Nat), l[i]? = some false → (l.set i true).count false + 1 = l.count false
  | [], i, h => by simp at h
  | b :: l, 0, h => by
    simp at h
    subst h
    simp
  | b :: l, i + 1, h => by
    have := count_set_list l i (by simpa using h)
    simp only [List.set_cons_succ, List.count_cons]
    omega
theorem unlisted_set (l : Array Bool) (i : Nat) (h : i < l.size) (hf : l[i] = false) : unlisted (l.setIfInBounds i true) + 1 = unlisted l := by
  unfold unlisted
  rw [Array.toList_setIfInBounds]
  exact count_set_list l.toList i (by simp [h, hf])

/-- One operation, whatever the order: no way out but its own end. -/
def wpOpP (P : Program) (ops : Array Oper) (Q : Exit → Act → World → Prop) (i : Nat) (K : Act → World → Prop) (a : Act) (w : World) : Prop :=
  match ops[i]? with
  | none => K a w
  | some o => if Region.wanted o (yielded ops a.tmps) then o.wp P a w K Q else K (a.put o.dst undef) w
theorem wpOpP_mono {i : Nat} {a : Act} {w : World} {K K' : Act → World → Prop} (h : ∀ a w, K a w → K' a w) (hh : wpOpP P ops Q i K a w) : wpOpP P ops Q i K' a w := by
  unfold wpOpP at *
  cases ho : ops[i]? with
  | none => rw [ho] at hh; exact h _ _ hh
  | some o =>
    rw [ho] at hh
    simp only [] at hh ⊢
    by_cases hw : Region.wanted o (yielded ops a.tmps) = true
    · rw [if_pos hw] at hh ⊢
      exact Oper.wp_mono h hh
    · rw [if_neg hw] at hh ⊢
      exact h _ _ hh
def wpAnyP (P : Program) (md : Region.Mode) (ops : Array Oper) (Q : Exit → Act → World → Prop) : Nat → Array Bool → Act → World → Prop
  | 0, l, a, w => Region.ready md ops l = [] ∧ Q .normal a w
  | fuel + 1, l, a, w => (Region.ready md ops l = [] → Q .normal a w) ∧ ∀ i ∈ Region.ready md ops l, wpOpP P ops Q i (wpAnyP P md ops Q fuel (l.setIfInBounds i true)) a w
theorem wpOp_of_P {i : Nat} {a : Act} {w : World} {K K' : Act → World → Prop} (h : ∀ a w, K a w → K' a w) (hh : wpOpP P ops Q i K a w) : wpOp P ops Q i K' a w := by
  have hh := wpOpP_mono h hh
  unfold wpOpP at hh
  unfold wpOp
  cases ho : ops[i]? with
  | none => rw [ho] at hh; exact hh
  | some o =>
    rw [ho] at hh
    simp only [] at hh ⊢
    by_cases hw : Region.wanted o (yielded ops a.tmps) = true
    · rw [if_pos hw] at hh ⊢
      exact .inl hh
    · rw [if_neg hw] at hh ⊢
      exact hh
theorem wpAny_of_P {md : Region.Mode} : ∀ (fuel : Nat) (l : Array Bool) (a : Act) (w : World), wpAnyP P md ops Q fuel l a w → wpAny P md ops Q fuel l a w
  | 0, _, _, _, h => h
  | fuel + 1, _, _, _, h => ⟨h.1, fun i hi => wpOp_of_P (wpAny_of_P fuel _) (h.2 i hi)⟩
/-- A region that draws its order, in any of its orders. -/
def RegionP (P : Program) (ops : Array Oper) (Q : Exit → Act → World → Prop) (a : Act) (w : World) : Prop :=
  wpAnyP P .any ops Q ops.size (Array.replicate ops.size false) a { w with drawn := w.drawn + 1 }
theorem wp_region_P {id : Nat} {a : Act} {w : World} (hm : P.follows .mixedOrders = true) (h : RegionP P ops Q a w) : (Code.region id ops true).wp P Q a w := wp_region_any hm (wpAny_of_P _ _ _ _ h)

theorem wpAny_inv {md : Region.Mode} (J : Array Bool → Act → World → Prop)
    (hsize : ∀ l a w, J l a w → l.size = ops.size)
    (hstep : ∀ l a w i, J l a w → i ∈ Region.ready md ops l → wpOpP P ops Q i (J (l.setIfInBounds i true)) a w)
    (hend : ∀ l a w, J l a w → Region.ready md ops l = [] → Q .normal a w) :
    ∀ (fuel : Nat) (l : Array Bool) (a : Act) (w : World), J l a w → unlisted l ≤ fuel → wpAnyP P md ops Q fuel l a w
  | 0, l, a, w, hJ, hf => by
    have hr : Region.ready md ops l = [] := by
      rw [List.eq_nil_iff_forall_not_mem]
      intro i hi
      unfold Region.ready at hi
      simp only [List.mem_filter, List.mem_range, Bool.and_eq_true, Bool.not_eq_true'] at hi
      have hs := hsize l a w hJ
      have hlt : i < l.size := by omega
      have h1 : l[i] = false := by
        have := hi.2.1
        rw [Array.getD_eq_getD_getElem?, Array.getElem?_eq_getElem hlt] at this
        simpa using this
      have : 0 < unlisted l := List.count_pos_iff.2 (by rw [← h1]; simp)
      omega
    exact ⟨hr, hend l a w hJ hr⟩
  | fuel + 1, l, a, w, hJ, hf => by
    refine ⟨fun hr => hend l a w hJ hr, fun i hi => ?_⟩
    have hs := hsize l a w hJ
    have hi' := hi
    unfold Region.ready at hi'
    simp only [List.mem_filter, List.mem_range, Bool.and_eq_true, Bool.not_eq_true'] at hi'
    have hlt : i < l.size := by omega
    have h1 : l[i] = false := by
      have := hi'.2.1
      rw [Array.getD_eq_getD_getElem?, Array.getElem?_eq_getElem hlt] at this
      simpa using this
    have hu := unlisted_set l i hlt h1
    exact wpOpP_mono (fun a' w' h => wpAny_inv J hsize hstep hend fuel _ a' w' h (by omega)) (hstep l a w i hJ hi)

/-- What an operation has left in its slot. -/
def valOf (o : Oper) (a : Act) : Value := match o.dst with | some d => a.tmps.getD d undef | none => undef

/-- The slots that no operation writes are as they were. -/
def Framed (ops : Array Oper) (a0 a : Act) : Prop := a.defers = a0.defers ∧ a.tmps.size = a0.tmps.size ∧ ∀ t, (∀ o ∈ ops.toList, o.dst ≠ some t) → a.tmps.getD t undef = a0.tmps.getD t undef

/-- What those ahead of an operation have left. -/
def Ahead (ops : Array Oper) (Φ : Nat → Value → World → Prop) (o : Oper) (a : Act) (w : World) : Prop :=
  ∀ e ∈ o.after.toList, Region.binds .any e = true → ∀ p, ops[e.on]? = some p → Φ e.on (valOf p a) w

/-- An operation's duty. -/
def Duty (P : Program) (ops : Array Oper) (Q : Exit → Act → World → Prop) (Φ : Nat → Value → World → Prop) (a0 : Act) (w0 : World) (i : Nat) (o : Oper) : Prop :=
  ∀ a w, Ext w0 w → Framed ops a0 a → Ahead ops Φ o a w →
    if Region.wanted o (yielded ops a.tmps) then o.wp P a w (fun a' w' => ∃ v, a' = a.put o.dst v ∧ Φ i v w' ∧ Ext w w') Q else Φ i undef w

def Duties (P : Program) (ops : Array Oper) (Q : Exit → Act → World → Prop) (Φ : Nat → Value → World → Prop) (a0 : Act) (w0 : World) : Nat → List Oper → Prop
  | _, [] => True
  | i, o :: l => Duty P ops Q Φ a0 w0 i o ∧ Duties P ops Q Φ a0 w0 (i + 1) l

theorem Duties.at {Φ : Nat → Value → World → Prop} {a0 : Act} {w0 : World} : ∀ {l : List Oper} {k : Nat}, Duties P ops Q Φ a0 w0 k l → ∀ i o, l[i]? = some o → Duty P ops Q Φ a0 w0 (k + i) o
  | [], _, _, i, o, h => by simp at h
  | p :: l, k, hd, 0, o, h => by simp at h; subst h; exact hd.1
  | p :: l, k, hd, i + 1, o, h => by
    have := Duties.at (k := k + 1) hd.2 i o (by simpa using h)
    rwa [show k + 1 + i = k + (i + 1) from by omega] at this

/-- No slot is written twice. -/
def dstsOk (ops : Array Oper) : Bool := decide ((ops.toList.filterMap (·.dst)).Nodup)

theorem dst_inj : ∀ (l : List Oper), (l.filterMap (·.dst)).Nodup → ∀ (i j : Nat) (o p : Oper) (d : Tmp), l[i]? = some o → l[j]? = some p → o.dst = some d → p.dst = some d → i = j
  | [], _, i, j, o, p, d, h, _, _, _ => by simp at h
  | x :: l, hn, i, j, o, p, d, hi, hj, ho, hp => by
    have hrest : (l.filterMap (·.dst)).Nodup := by
      cases hx : x.dst with
      | none => simpa [List.filterMap_cons, hx] using hn
      | some y => rw [List.filterMap_cons_some hx] at hn; exact (List.nodup_cons.1 hn).2
    cases i with
    | zero =>
      cases j with
      | zero => rfl
      | succ j =>
        simp at hi hj
        subst hi
        rw [List.filterMap_cons_some ho] at hn
        exact absurd (List.mem_filterMap.2 ⟨p, List.mem_of_getElem? hj, hp⟩) (List.nodup_cons.1 hn).1
    | succ i =>
      cases j with
      | zero =>
        simp at hi hj
        subst hj
        rw [List.filterMap_cons_some hp] at hn
        exact absurd (List.mem_filterMap.2 ⟨o, List.mem_of_getElem? hi, ho⟩) (List.nodup_cons.1 hn).1
      | succ j =>
        simp at hi hj
        rw [dst_inj l hrest i j o p d hi hj ho hp]

theorem valOf_put_other {o p : Oper} {a : Act} {v : Value} (h : ∀ d, p.dst = some d → o.dst ≠ some d) : valOf p (a.put o.dst v) = valOf p a := by
  unfold valOf Act.put
  cases hp : p.dst with
  | none => rfl
  | some d =>
    cases ho : o.dst with
    | none => rfl
    | some d' =>
      have hne : d' ≠ d := fun e => h d hp (by rw [ho, e])
      simp [Array.getD_eq_getD_getElem?, hne]

theorem valOf_put_same {o : Oper} {a : Act} {v : Value} (h : ∀ d, o.dst = some d → d < a.tmps.size) (hn : o.dst = none → v = undef) : valOf o (a.put o.dst v) = v := by
  unfold valOf Act.put
  cases ho : o.dst with
  | none => exact (hn ho).symm
  | some d => simp [Array.getD_eq_getD_getElem?, h d ho]

end Go.Proofs.YthinpbdbhijbgaaGreatDoor
namespace Go.Proofs.YthinpbdbhijbgaaGreatDoor
open Go.RowKit

theorem strT : Tryz.prog.underlying 9 = some .string := Tryz.underlying9

/-- All is as it was, but for maps in blocks of S. -/
structure Mod (S : Nat → Prop) (w w' : World) : Prop where
  os : w'.os = w.os
  tape : w'.tape = w.tape
  output : w'.output = w.output
  size : w.heap.size ≤ w'.heap.size
  same : ∀ (k : Nat) (o : Obj), w.heap[k]? = some o → (¬ S k ∨ ∃ c e f, o = .cells c e f) → w'.heap[k]? = some o
theorem Mod.refl (S : Nat → Prop) (w : World) : Mod S w w := ⟨rfl, rfl, rfl, Nat.le_refl _, fun _ _ h _ => h⟩
theorem Mod.trans {S : Nat → Prop} {a b c : World} (h : Mod S a b) (k : Mod S b c) : Mod S a c :=
  ⟨k.os.trans h.os, k.tape.trans h.tape, k.output.trans h.output, Nat.le_trans h.size k.size, fun i o hi ho => k.same i o (h.same i o hi ho) ho⟩
theorem Mod.of_ext {S : Nat → Prop} {a b : World} (h : Ext a b) : Mod S a b := ⟨h.os, h.tape, h.output, h.size, fun k _ hk _ => (h.block k (Array.getElem?_eq_some_iff.1 hk).1).trans hk⟩
theorem Mod.mono {S S' : Nat → Prop} {a b : World} (h : Mod S a b) (hS : ∀ k, k < a.heap.size → S k → S' k) : Mod S' a b :=
  ⟨h.os, h.tape, h.output, h.size, fun k o hk ho => h.same k o hk (ho.imp (fun hn hs => hn (hS k (Array.getElem?_eq_some_iff.1 hk).1 hs)) id)⟩
theorem Mod.turned {S : Nat → Prop} {w w' : World} {b : Nat} (h : w.mapTurned w' b) (hb : S b) : Mod S w w' := by
  obtain ⟨es, clock, es', clock', hm, rfl⟩ := h
  refine ⟨rfl, rfl, rfl, by simp [ChangeMaps.setBlock], fun k o hk ho => ?_⟩
  have hne : k ≠ b := by
    rintro rfl
    rw [hm] at hk
    cases hk
    rcases ho with h | ⟨_, _, _, h⟩
    · exact h hb
    · cases h
  exact (ChangeMaps.heap_setBlock_other hm _ hne).trans hk
theorem turned_other {w w' : World} {b k : Nat} (h : w.mapTurned w' b) (hne : k ≠ b) : w'.heap[k]? = w.heap[k]? := by
  obtain ⟨es, clock, es', clock', hm, rfl⟩ := h
  exact ChangeMaps.heap_setBlock_other hm _ hne
theorem turned_size {w w' : World} {b : Nat} (h : w.mapTurned w' b) : w'.heap.size = w.heap.size := by
  obtain ⟨es, clock, es', clock', hm, rfl⟩ := h
  simp [ChangeMaps.setBlock]
theorem Mod.cells {S : Nat → Prop} {w w' : World} (h : Mod S w w') {k : Nat} {c : Array Value} {e : TypeId} {f : Nat × Nat} (hk : w.heap[k]? = some (.cells c e f)) : w'.heap[k]? = some (.cells c e f) := h.same k _ hk (.inr ⟨_, _, _, rfl⟩)
theorem cell_cells {w : World} {a : Addr} {u : Value} (h : w.cell? a = some u) : ∃ c e f, w.heap[a.block]? = some (.cells c e f) := by
  unfold World.cell? at h
  split at h
  · rename_i c e f hk; exact ⟨c, e, f, hk⟩
  · cases h
theorem Mod.cell {S : Nat → Prop} {w w' : World} (h : Mod S w w') {a : Addr} {u : Value} (hu : w.cell? a = some u) : w'.cell? a = some u := by
  obtain ⟨c, e, f, hk⟩ := cell_cells hu
  rw [World.cell?_of_block ((h.cells hk).trans hk.symm)]
  exact hu
theorem Mod.below {S : Nat → Prop} {w w' : World} (h : Mod S w w') {B : Nat} (hS : ∀ k, S k → B ≤ k) (hB : B ≤ w.heap.size) : Below B w w' :=
  ⟨h.os, h.tape, h.output, h.size, fun k hk => by
    have hk' : k < w.heap.size := by omega
    rw [h.same k _ (Array.getElem?_eq_getElem hk') (.inl (fun hs => by have := hS k hs; omega)), Array.getElem?_eq_getElem hk']⟩

def treeC (bn bk : Nat) : Array Value := #[.map (some bn), .map (some bk)]

/-- The tree's own block. -/
structure Hd (S : Nat → Prop) (w : World) (bt bn bk : Nat) : Prop where
  blk : w.heap[bt]? = some (.cells (treeC bn bk) 123 (0, 0))
  st : S bt
  sn : S bn
  sk : S bk
  ne : bn ≠ bk
  bound : ∀ k, S k → k < w.heap.size

/-- The map of its nodes. -/
structure NodesAt (S : Nat → Prop) (w : World) (bn : Nat) (M : List (Key × Nd)) (N : Nat) : Prop where
  ex : ∃ m, SMap Tryz.prog 9 w bn m ∧ Rel2 (fun n v => NdS S w v n) M m
  ok : MOk M
  len : M.length ≤ N

def kidsV (K : List (Key × Nat)) : List (Key × Value) := K.map fun x => (x.1, Value.map (some x.2))
/-- The maps of the children's names. -/
structure KidsAt (S : Nat → Prop) (w : World) (bn bk : Nat) (K : List (Key × Nat)) (M : List (Key × Nd)) (N : Nat) : Prop where
  map : SMap Tryz.prog 9 w bk (kidsV K)
  len : K.length ≤ N
  each : ∀ x ∈ K, S x.2 ∧ x.2 ≠ bn ∧ x.2 ≠ bk ∧ SMap Tryz.prog 9 w x.2 (kidsOf M ⟨x.1.toArray⟩)
  apart : K.Pairwise fun x y => x.2 ≠ y.2
  rest : ∀ p : ByteArray, mget K p.data.toList = none → kidsOf M p = []

/-- A tree of these nodes, its blocks in S; neither map has more than N entries. -/
def TreeAt (S : Nat → Prop) (w : World) (bt : Nat) (M : List (Key × Nd)) (N : Nat) : Prop :=
  ∃ bn bk K, Hd S w bt bn bk ∧ NodesAt S w bn M N ∧ KidsAt S w bn bk K M N

theorem kidsV_get (K : List (Key × Nat)) (k : Key) : mget (kidsV K) k = (mget K k).map fun b => Value.map (some b) := mget_map (fun b => Value.map (some b)) K k

theorem Hd.keep {S S' : Nat → Prop} {w w' : World} {bt bn bk : Nat} (h : Hd S w bt bn bk) (hw : w'.heap[bt]? = w.heap[bt]?) (hS : ∀ k, S k → S' k) (hb : ∀ k, S' k → k < w'.heap.size) : Hd S' w' bt bn bk :=
  ⟨hw.trans h.blk, hS _ h.st, hS _ h.sn, hS _ h.sk, h.ne, hb⟩
theorem NodesAt.keep {S S' : Nat → Prop} {w w' : World} {bn : Nat} {M : List (Key × Nd)} {N N' : Nat} (h : NodesAt S w bn M N) (hn : w'.heap[bn]? = w.heap[bn]?) (hS : ∀ k, S k → S' k)
    (hc : ∀ (b o : Nat) u, S b → w.cell? ⟨b, o, none⟩ = some u → w'.cell? ⟨b, o, none⟩ = some u) (hN : N ≤ N') : NodesAt S' w' bn M N' := by
  obtain ⟨m, hm, hr⟩ := h.ex
  exact ⟨⟨m, hm.keep hn, hr.imp fun _ _ _ hv => hv.imp hS hc⟩, h.ok, Nat.le_trans h.len hN⟩
theorem KidsAt.keep {S S' : Nat → Prop} {w w' : World} {bn bk : Nat} {K : List (Key × Nat)} {M : List (Key × Nd)} {N N' : Nat} (h : KidsAt S w bn bk K M N) (hk : w'.heap[bk]? = w.heap[bk]?) (hS : ∀ k, S k → S' k)
    (he : ∀ x ∈ K, w'.heap[x.2]? = w.heap[x.2]?) (hN : N ≤ N') : KidsAt S' w' bn bk K M N' :=
  ⟨h.map.keep hk, Nat.le_trans h.len hN, fun x hx => by obtain ⟨h1, h2, h3, h4⟩ := h.each x hx; exact ⟨hS _ h1, h2, h3, h4.keep (he x hx)⟩, h.apart, h.rest⟩

/-- A tree stays what it is where its blocks do. -/
theorem TreeAt.keep {S S' : Nat → Prop} {w w' : World} {bt : Nat} {M : List (Key × Nd)} {N N' : Nat} (h : TreeAt S w bt M N) (hw : ∀ k, S k → w'.heap[k]? = w.heap[k]?) (hS : ∀ k, S k → S' k) (hb : ∀ k, S' k → k < w'.heap.size) (hN : N ≤ N') : TreeAt S' w' bt M N' := by
  obtain ⟨bn, bk, K, hd, hn, hk⟩ := h
  exact ⟨bn, bk, K, hd.keep (hw _ hd.st) hS hb, hn.keep (hw _ hd.sn) hS (fun b o u hb hu => (World.cell?_of_block (hw b hb)).trans hu) hN, hk.keep (hw _ hd.sk) hS (fun x hx => hw _ (hk.each x hx).1) hN⟩
theorem TreeAt.ext {S : Nat → Prop} {w w' : World} {bt : Nat} {M : List (Key × Nd)} {N : Nat} (h : TreeAt S w bt M N) (he : Ext w w') : TreeAt S w' bt M N := by
  have hb : ∀ k, S k → k < w.heap.size := by obtain ⟨bn, bk, K, hd, _⟩ := h; exact hd.bound
  exact h.keep (fun k hk => he.block k (hb k hk)) (fun _ h => h) (fun k hk => Nat.lt_of_lt_of_le (hb k hk) he.size) (Nat.le_refl _)
theorem TreeAt.bound {S : Nat → Prop} {w : World} {bt : Nat} {M : List (Key × Nd)} {N : Nat} (h : TreeAt S w bt M N) : ∀ k, S k → k < w.heap.size := by obtain ⟨bn, bk, K, hd, _⟩ := h; exact hd.bound
theorem TreeAt.ok {S : Nat → Prop} {w : World} {bt : Nat} {M : List (Key × Nd)} {N : Nat} (h : TreeAt S w bt M N) : MOk M := by obtain ⟨bn, bk, K, _, hn, _⟩ := h; exact hn.ok
theorem TreeAt.len {S : Nat → Prop} {w : World} {bt : Nat} {M : List (Key × Nd)} {N : Nat} (h : TreeAt S w bt M N) : M.length ≤ N := by obtain ⟨bn, bk, K, _, hn, _⟩ := h; exact hn.len

theorem key_back (k : Key) : (⟨k.toArray⟩ : ByteArray).data.toList = k := by simp
theorem key_bytes (s : ByteArray) : (⟨s.data.toList.toArray⟩ : ByteArray) = s := ba_ext (by simp)

/-! What lay does, piece by piece. -/

/-- The node is stored. -/
theorem NodesAt.put {S : Nat → Prop} {w w' : World} {bn : Nat} {M : List (Key × Nd)} {N : Nat} (h : NodesAt S w bn M N) {n : Nd} {v : Value} (hn : rightN n = 0) (hv : NdS S w v n) {m : List (Key × Value)} (hm : SMap Tryz.prog 9 w bn m) (hr : Rel2 (fun n v => NdS S w v n) M m)
    (hs : SMap Tryz.prog 9 w' bn (mput m n.path.data.toList v)) (hT : w.mapTurned w' bn) : NodesAt S w' bn (mput M (keyN n) n) (N + 1) := by
  have hc : ∀ (b o : Nat) u, S b → w.cell? ⟨b, o, none⟩ = some u → w'.cell? ⟨b, o, none⟩ = some u := fun b o u _ hu => (Mod.turned (S := fun _ => True) hT trivial).cell hu
  refine ⟨⟨_, hs, (hr.mput (keyN n) hv).imp fun _ _ _ hx => hx.imp (fun _ h => h) hc⟩, h.ok.put n hn, ?_⟩
  have h1 : (mput M (keyN n) n).length ≤ M.length + 1 := by
    unfold mput; rw [mins_length]; exact Nat.succ_le_succ (List.length_filter_le _ _)
  have := h.len
  omega

/-- A node that is nobody's child: the names stay. -/
theorem KidsAt.put_root {S : Nat → Prop} {w : World} {bn bk : Nat} {K : List (Key × Nat)} {M : List (Key × Nd)} {N : Nat} (h : KidsAt S w bn bk K M N) (hM : MOk M) {n : Nd} (hn : rightN n = 0) (hne : mget M (keyN n) = none) (hroot : n.path.size = 1) : KidsAt S w bn bk K (mput M (keyN n) n) (N + 1) := by
  have e : ∀ p, kidsOf (mput M (keyN n) n) p = kidsOf M p := fun p => by
    rw [kids_put hM hn hne p, if_neg (fun hc => (childOf_iff.1 hc).1 hroot)]
  exact ⟨h.map, by have := h.len; omega, fun x hx => by rw [e]; exact h.each x hx, h.apart, fun p hp => by rw [e]; exact h.rest p hp⟩

/-- A name is laid into the map that its parent has. -/
theorem KidsAt.put_old {S : Nat → Prop} {w w' : World} {bn bk : Nat} {K : List (Key × Nat)} {M : List (Key × Nd)} {N : Nat} (h : KidsAt S w bn bk K M N) (hM : MOk M) {n : Nd} (hn : rightN n = 0) (hne : mget M (keyN n) = none) (hroot : n.path.size ≠ 1)
    {b : Nat} (hb : mget K (parentB n.path).data.toList = some b) (hs : SMap Tryz.prog 9 w' b (mput (kidsOf M (parentB n.path)) (nameB n.path).data.toList (.agg #[]))) (hT : w.mapTurned w' b) : KidsAt S w' bn bk K (mput M (keyN n) n) (N + 1) := by
  have hmem := mget_some_mem hb
  have hE := h.each _ hmem
  have hc : childOf (parentB n.path) n = true := childOf_iff.2 ⟨hroot, rfl⟩
  have hno : ∀ p, p ≠ parentB n.path → kidsOf (mput M (keyN n) n) p = kidsOf M p := fun p hp => by
    rw [kids_put hM hn hne p, if_neg (fun hc => hp (childOf_iff.1 hc).2.symm)]
  have hap : ∀ x ∈ K, x.2 = b → x.1 = (parentB n.path).data.toList := fun x hx e => by
    obtain ⟨i, hi, ei⟩ := List.getElem_of_mem hx
    obtain ⟨j, hj, ej⟩ := List.getElem_of_mem hmem
    have hp := List.pairwise_iff_getElem.1 h.apart
    have : i = j := by
      rcases Nat.lt_trichotomy i j with hlt | he | hlt
      · exact absurd (by rw [ei, ej]; exact e) (hp i j hi hj hlt)
      · exact he
      · exact absurd (by rw [ei, ej]; exact e.symm) (hp j i hj hi hlt)
    subst this
    rw [ei] at ej
    rw [ej]
  refine ⟨h.map.keep (turned_other hT hE.2.2.1.symm), by have := h.len; omega, fun x hx => ?_, h.apart, fun p hp => ?_⟩
  · obtain ⟨h1, h2, h3, h4⟩ := h.each x hx
    refine ⟨h1, h2, h3, ?_⟩
    by_cases e : x.2 = b
    · have hk := hap x hx e
      rw [hk, key_bytes, kids_put hM hn hne, if_pos hc, e]
      exact hs
    · rw [hno _ (fun e1 => e (by
        have : x.1 = (parentB n.path).data.toList := by rw [← e1, key_back]
        have h5 := mget_of_mem (SMap.sorted (Maps.string_keyed strT) h.map) (k := x.1) (v := .map (some x.2)) (List.mem_map.2 ⟨x, hx, rfl⟩)
        rw [kidsV_get, this, hb] at h5
        simpa using h5.symm))]
      exact h4.keep (turned_other hT e)
  · rw [hno p (fun e1 => by rw [e1, hb] at hp; cases hp)]
    exact h.rest p hp

/-- A new map is laid for the parent, and the name into it. -/
theorem KidsAt.put_new {S S' : Nat → Prop} {w w1 w2 w3 : World} {bn bk : Nat} {K : List (Key × Nat)} {M : List (Key × Nd)} {N g : Nat} (h : KidsAt S w bn bk K M N) (hM : MOk M) {n : Nd} (hn : rightN n = 0) (hne : mget M (keyN n) = none) (hroot : n.path.size ≠ 1)
    (hb : mget K (parentB n.path).data.toList = none) (hS : ∀ k, S k → S' k) (hg : S' g) (hgs : ∀ k, S k → k ≠ g) (hbn : S bn) (hbk : S bk)
    (he1 : ∀ k, S k → w1.heap[k]? = w.heap[k]?) (hT2 : w1.mapTurned w2 bk) (hs2 : SMap Tryz.prog 9 w2 bk (mput (kidsV K) (parentB n.path).data.toList (.map (some g))))
    (hT3 : w2.mapTurned w3 g) (hs3 : SMap Tryz.prog 9 w3 g (mput [] (nameB n.path).data.toList (.agg #[]))) :
    KidsAt S' w3 bn bk (mput K (parentB n.path).data.toList g) (mput M (keyN n) n) (N + 1) := by
  have hc : childOf (parentB n.path) n = true := childOf_iff.2 ⟨hroot, rfl⟩
  have hno : ∀ p, p ≠ parentB n.path → kidsOf (mput M (keyN n) n) p = kidsOf M p := fun p hp => by
    rw [kids_put hM hn hne p, if_neg (fun hc => hp (childOf_iff.1 hc).2.symm)]
  have hgk : bk ≠ g := hgs _ hbk
  have hgn : bn ≠ g := hgs _ hbn
  refine ⟨?_, ?_, fun x hx => ?_, ?_, fun p hp => ?_⟩
  · unfold kidsV
    rw [mput_map (fun b => Value.map (some b))]
    exact hs2.keep (turned_other hT3 hgk)
  · have h1 : (mput K (parentB n.path).data.toList g).length ≤ K.length + 1 := by
      unfold mput; rw [mins_length]; exact Nat.succ_le_succ (List.length_filter_le _ _)
    have := h.len
    omega
  · rcases mem_mput.1 hx with rfl | ⟨hx, hne'⟩
    · refine ⟨hg, fun e => hgn e.symm, fun e => hgk e.symm, ?_⟩
      simp only
      rw [key_bytes, kids_put hM hn hne, if_pos hc, h.rest _ hb]
      exact hs3
    · obtain ⟨h1, h2, h3, h4⟩ := h.each x hx
      refine ⟨hS _ h1, h2, h3, ?_⟩
      rw [hno _ (fun e1 => hne' (by rw [← e1, key_back]))]
      exact h4.keep ((turned_other hT3 (hgs _ h1)).trans ((turned_other hT2 h3).trans (he1 _ h1)))
  · have hnew : ∀ x ∈ K, x.2 ≠ g := fun x hx => hgs _ (h.each x hx).1
    have hall : ∀ (l : List (Key × Nat)), l.Pairwise (fun x y => x.2 ≠ y.2) → (∀ x ∈ l, x.2 ≠ g) → (mins ((parentB n.path).data.toList, g) l).Pairwise fun x y => x.2 ≠ y.2 := by
      intro l
      induction l with
      | nil => intro _ _; simp [mins]
      | cons y r ih =>
        intro hp hl
        obtain ⟨p1, p2⟩ := List.pairwise_cons.1 hp
        unfold mins
        split
        · exact List.pairwise_cons.2 ⟨fun z hz => (hl z hz).symm, hp⟩
        · refine List.pairwise_cons.2 ⟨fun z hz => ?_, ih p2 fun z hz => hl z (by simp [hz])⟩
          rcases mem_mins.1 hz with rfl | hz
          · exact hl y (by simp)
          · exact p1 z hz
    exact hall _ (h.apart.filter _) fun x hx => hnew x (mem_mdel.1 hx).1
  · have hp1 : p ≠ parentB n.path := by
      rintro rfl
      exact mget_none hp _ (mem_mput.2 (.inl rfl)) rfl
    rw [hno p hp1]
    refine h.rest p ?_
    refine mget_none_of fun x hx => ?_
    exact mget_none hp x (mem_mput.2 (.inr ⟨hx, fun e => (mget_none hb x hx e).elim⟩))
end Go.Proofs.YthinpbdbhijbgaaGreatDoor
namespace Go.Proofs.YthinpbdbhijbgaaGreatDoor
open Go.RowKit
variable {P : Program} {ops : Array Oper} {Q : Exit → Act → World → Prop} {Φ : Nat → Value → World → Prop} {a0 : Act} {w0 : World}

theorem wp_value {o : Oper} {a : Act} {w w' : World} {K : Act → World → Prop} {v : Value} (h : (execOp a.eval o).run P w = .ok (.value v) w') (hk : K (a.put o.dst v) w') : o.wp P a w K Q := by
  unfold Oper.wp; rw [h]; exact hk
theorem wp_enter {o : Oper} {a : Act} {w : World} {K : Act → World → Prop} {f : FuncId} {args : Array Value} {R : Ending → World → Prop} (h : (execOp a.eval o).run P w = .ok (.enter f args) w) (hc : Calls P f args w R)
    (hR : ∀ e w', R e w' → ∃ v, e = .returned v ∧ K (a.put o.dst v) w') : o.wp P a w K Q := by
  unfold Oper.wp; rw [h]
  refine hc.mono fun e w' hr => ?_
  obtain ⟨v, rfl, hk⟩ := hR e w' hr
  exact hk

/-- An operation without a guard. -/
theorem duty_free {i : Nat} {o : Oper} (hg : o.guard = none) (h : ∀ a w, Ext w0 w → Framed ops a0 a → Ahead ops Φ o a w → o.wp P a w (fun a' w' => ∃ v, a' = a.put o.dst v ∧ Φ i v w' ∧ Ext w w') Q) : Duty P ops Q Φ a0 w0 i o := by
  intro a w hE hF hA
  have : Region.wanted o (yielded ops a.tmps) = true := by unfold Region.wanted; rw [hg]
  rw [if_pos this]
  exact h a w hE hF hA

/-- An operation whose guard says yes. -/
theorem duty_yes {i j : Nat} {b : Bool} {o p : Oper} {d : Tmp} (hg : o.guard = some (j, b)) (hp : ops[j]? = some p) (hd : p.dst = some d) (hin : d < a0.tmps.size) (he : ∃ e ∈ o.after.toList, e.on = j ∧ Region.binds .any e = true)
    (hv : ∀ v w, Φ j v w → v = .bool b) (h : ∀ a w, Ext w0 w → Framed ops a0 a → Ahead ops Φ o a w → o.wp P a w (fun a' w' => ∃ v, a' = a.put o.dst v ∧ Φ i v w' ∧ Ext w w') Q) : Duty P ops Q Φ a0 w0 i o := by
  intro a w hE hF hA
  obtain ⟨e, hem, rfl, heb⟩ := he
  have hval := hv _ _ (hA e hem heb p hp)
  have : Region.wanted o (yielded ops a.tmps) = true := by
    unfold Region.wanted
    rw [hg]
    have hlt : d < a.tmps.size := by rw [hF.2.1]; exact hin
    unfold valOf at hval
    rw [hd] at hval
    simp only [Array.getD_eq_getD_getElem?, Array.getElem?_eq_getElem hlt, Option.getD_some] at hval
    simp [yielded, hp, hd, Array.getElem?_eq_getElem hlt, hval]
  rw [if_pos this]
  exact h a w hE hF hA

/-- What an operation with a slot has left there. -/
theorem Ahead.slot {o p : Oper} {a : Act} {w : World} (h : Ahead ops Φ o a w) (j : Nat) (d : Tmp) (hp : ops[j]? = some p) (hd : p.dst = some d) (he : ∃ e ∈ o.after.toList, e.on = j ∧ Region.binds .any e = true) : Φ j (a.eval (.tmp d)) w := by
  obtain ⟨e, hem, rfl, heb⟩ := he
  have := h e hem heb p hp
  unfold valOf at this
  rw [hd] at this
  exact this

/-- A slot that no operation writes. -/
theorem Framed.slot {a : Act} (h : Framed ops a0 a) (t : Tmp) (v : Value) (ht : (ops.toList.all fun o => o.dst != some t) = true) (hv : a0.tmps.getD t undef = v) : a.eval (.tmp t) = v := by
  have := h.2.2 t (fun o ho e => by have := List.all_eq_true.1 ht o ho; rw [e] at this; simp at this)
  exact this.trans hv

theorem ex_move {o : Oper} {a : Act} {w : World} {x : Operand} (ho : o.op = .move x) : (execOp a.eval o).run P w = .ok (.value (a.eval x)) w := by simp [execOp, ho]
theorem ex_assign {o : Oper} {a : Act} {w : World} {x : Operand} (ho : o.op = .assign x) : (execOp a.eval o).run P w = .ok (.value (a.eval x)) w := by simp [execOp, ho]
theorem ex_pick {o : Oper} {a : Act} {w : World} {c x y : Operand} {b : Bool} (ho : o.op = .pick c x y) (hc : a.eval c = .bool b) : (execOp a.eval o).run P w = .ok (.value (if b then a.eval x else a.eval y)) w := by
  cases b <;> simp [execOp, ho, hc, asBool]
theorem ex_call {o : Oper} {a : Act} {w : World} {f : FuncId} {args : Array Operand} {ts : Array TypeId} (ho : o.op = .call { callee := .value (.func f), args := args, argTypes := ts })
    (hen : ∀ args w, (callFunc f args).run P w = .ok (.enter f args) w) : (execOp a.eval o).run P w = .ok (.enter f (args.map a.eval)) w := by
  simp [execOp, ho, resolve, invoke, Act.eval, hen, Deferred.ofValue]

theorem Cells.ext {w w' : World} {a : Option Addr} {xs : List Value} (h : Cells w.heap.size w a xs) (he : Ext w w') : Cells w'.heap.size w' a xs := (h.below he).mono he.size
theorem ex_append {P : Program} {o : Oper} {a : Act} {w w' : World} {s x : Operand} {t tx : TypeId} {v : Value} (ho : o.op = .call { callee := .builtin .append, args := #[s, x], argTypes := #[t, tx] })
    (h : (Builtin.append_ #[t, tx] o.type #[a.eval s, a.eval x]).run P w = .ok v w') : (execOp a.eval o).run P w = .ok (.value v) w' := by
  unfold execOp
  simp only [ho, resolve, invoke, builtin, Sem.run_bind, Sem.run_pure, Result.andThen_ok, List.map_toArray, List.map_cons, List.map_nil, h]

theorem ex_load_row {P : Program} {o : Oper} {a : Act} {w : World} {ty : TypeId} {x : Operand} (ho : o.op = .load ty x) (g : Nat) (hx : a.eval x = .pointer (some ⟨g, 0, none⟩)) (t : TypeId) (cs : Array Value) (fr : Nat × Nat) (d : TypeDesc) (hg : w.heap[g]? = some (.cells cs t fr))
    (hu : P.underlying ty = some d) (hd : (match d with | .struct _ | .array _ _ => true | _ => false) = true) (hi : (P.info? ty).map (·.size) = some cs.size) : (execOp a.eval o).run P w = .ok (.value (.agg cs)) w := by
  unfold execOp
  simp only [ho, hx, Instr.loadAt, Instr.sureAddr, Sem.run_bind, Sem.run_pure, Result.andThen_ok, run_loadVar_row w g t ty cs fr d hg hu hd hi]
end Go.Proofs.YthinpbdbhijbgaaGreatDoor
