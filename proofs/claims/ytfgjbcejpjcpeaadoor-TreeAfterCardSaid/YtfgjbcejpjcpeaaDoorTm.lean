/- The tree as a list of nodes in order of their paths, and its children's names: plain laws. -/
import Derived.Test.YtfgjbcejpjcpeaaDoorMp
import Derived.Test.YtfgjbcejpjcpeaaDoorPn
import Derived.Test.YtfgjbcejpjcpeaaDoorRight
namespace Go.Proofs.YtfgjbcejpjcpeaaDoor
open Go.RowKit

section lists
variable {α β : Type}

theorem mem_ext_sorted : ∀ {a b : List (Key × α)}, MSorted a → MSorted b → (∀ x, x ∈ a ↔ x ∈ b) → a = b
  | [], [], _, _, _ => rfl
  | [], y :: b, _, _, h => by have := (h y).2 (by simp); simp at this
  | x :: a, [], _, _, h => by have := (h x).1 (by simp); simp at this
  | x :: a, y :: b, ha, hb, h => by
    obtain ⟨a1, a2⟩ := List.pairwise_cons.1 ha
    obtain ⟨b1, b2⟩ := List.pairwise_cons.1 hb
    have asym : ∀ {u v : Key}, bytesBefore u v = true → bytesBefore v u = true → False := fun {u v} h1 h2 => by
      have := WideShapes.bytes_trans _ _ _ h1 h2
      rw [WideAt.bytes_irrefl] at this; cases this
    have hxy : x = y := by
      rcases List.mem_cons.1 ((h x).1 (by simp)) with e | e
      · exact e
      rcases List.mem_cons.1 ((h y).2 (by simp)) with e' | e'
      · exact e'.symm
      exact (asym (a1 y e') (b1 x e)).elim
    subst hxy
    have irr : ∀ {l : List (Key × α)}, (∀ z ∈ l, bytesBefore x.1 z.1 = true) → x ∉ l := fun hl hm => by
      have := hl x hm
      rw [WideAt.bytes_irrefl] at this; cases this
    rw [mem_ext_sorted a2 b2 (fun z => ?_)]
    constructor
    · intro hz
      rcases List.mem_cons.1 ((h z).1 (by simp [hz])) with e | e
      · subst e; exact absurd hz (irr a1)
      · exact e
    · intro hz
      rcases List.mem_cons.1 ((h z).2 (by simp [hz])) with e | e
      · subst e; exact absurd hz (irr b1)
      · exact e

/-- Two lists with the same keys, whose values stand to one another as R says. -/
inductive Rel2 (R : α → β → Prop) : List (Key × α) → List (Key × β) → Prop
  | nil : Rel2 R [] []
  | cons {x : Key × α} {y : Key × β} {l : List (Key × α)} {l' : List (Key × β)} : x.1 = y.1 → R x.2 y.2 → Rel2 R l l' → Rel2 R (x :: l) (y :: l')

theorem Rel2.imp {R R' : α → β → Prop} {a : List (Key × α)} {b : List (Key × β)} (h : Rel2 R a b) (hr : ∀ x ∈ a, ∀ y, R x.2 y → R' x.2 y) : Rel2 R' a b := by
  induction h with
  | nil => exact .nil
  | cons h0 h1 _ ih => exact .cons h0 (hr _ (by simp) _ h1) (ih fun x hx => hr x (by simp [hx]))
theorem Rel2.length {R : α → β → Prop} {a : List (Key × α)} {b : List (Key × β)} (h : Rel2 R a b) : a.length = b.length := by
  induction h with
  | nil => rfl
  | cons _ _ _ ih => simp [ih]
theorem Rel2.mdel {R : α → β → Prop} {a : List (Key × α)} {b : List (Key × β)} (h : Rel2 R a b) (k : Key) : Rel2 R (mdel a k) (mdel b k) := by
  induction h with
  | nil => exact .nil
  | @cons x y l l' h0 h1 _ ih =>
    unfold Go.Proofs.YtfgjbcejpjcpeaaDoor.mdel at ih ⊢
    rw [List.filter_cons, List.filter_cons, ← h0]
    split
    · exact .cons h0 h1 ih
    · exact ih
theorem Rel2.mins {R : α → β → Prop} {a : List (Key × α)} {b : List (Key × β)} (h : Rel2 R a b) {x : Key × α} {y : Key × β} (hk : x.1 = y.1) (hxy : R x.2 y.2) : Rel2 R (mins x a) (mins y b) := by
  induction h with
  | nil => exact .cons hk hxy .nil
  | @cons u v l l' h0 h1 ht ih =>
    unfold Go.Proofs.YtfgjbcejpjcpeaaDoor.mins
    rw [← hk, ← h0]
    split
    · exact .cons hk hxy (.cons h0 h1 ht)
    · exact .cons h0 h1 ih
theorem Rel2.mput {R : α → β → Prop} {a : List (Key × α)} {b : List (Key × β)} (h : Rel2 R a b) (k : Key) {x : α} {y : β} (hxy : R x y) : Rel2 R (mput a k x) (mput b k y) := (h.mdel k).mins rfl hxy
theorem Rel2.get {R : α → β → Prop} {a : List (Key × α)} {b : List (Key × β)} (h : Rel2 R a b) (k : Key) : (mget a k = none ∧ mget b k = none) ∨ ∃ x y, mget a k = some x ∧ mget b k = some y ∧ R x y := by
  induction h with
  | nil => exact .inl ⟨rfl, rfl⟩
  | @cons u v l l' h0 h1 _ ih =>
    unfold mget at ih ⊢
    rw [List.find?_cons, List.find?_cons, ← h0]
    cases u.1 == k
    · exact ih
    · exact .inr ⟨_, _, rfl, rfl, h1⟩
theorem Rel2.keys {R : α → β → Prop} {a : List (Key × α)} {b : List (Key × β)} (h : Rel2 R a b) : a.map (·.1) = b.map (·.1) := by
  induction h with
  | nil => rfl
  | cons h0 _ _ ih => simp [h0, ih]
end lists

/-- A node's path as a key. -/
def keyN (n : Nd) : Key := n.path.data.toList

/-- The nodes of a tree: each at its own path, each as a node may be. -/
structure MOk (M : List (Key × Nd)) : Prop where
  sorted : MSorted M
  key : ∀ x ∈ M, x.1 = keyN x.2
  right : ∀ x ∈ M, rightN x.2 = 0

theorem MOk.nil : MOk [] := ⟨List.Pairwise.nil, fun _ h => by simp at h, fun _ h => by simp at h⟩
theorem MOk.put {M : List (Key × Nd)} (h : MOk M) (n : Nd) (hn : rightN n = 0) : MOk (mput M (keyN n) n) :=
  ⟨mput_sorted h.sorted _ _, fun x hx => by
    rcases mem_mput.1 hx with rfl | ⟨hx, _⟩
    · rfl
    · exact h.key x hx, fun x hx => by
    rcases mem_mput.1 hx with rfl | ⟨hx, _⟩
    · exact hn
    · exact h.right x hx⟩
theorem MOk.del {M : List (Key × Nd)} (h : MOk M) (k : Key) : MOk (mdel M k) :=
  ⟨mdel_sorted h.sorted _, fun x hx => h.key x (mem_mdel.1 hx).1, fun x hx => h.right x (mem_mdel.1 hx).1⟩

theorem right_vpath {n : Nd} (h : rightN n = 0) : vpath n.path = true := by
  unfold rightN at h
  split at h
  · cases h
  · rename_i hv; simpa using hv
theorem right_fit {n : Nd} (h : rightN n = 0) : Fit n ∧ n.data.length ≤ 1048575 ∧ n.acl.length ≤ 16 := by
  have hv := vpath_facts (right_vpath h)
  unfold rightN at h
  split at h
  · cases h
  split at h
  · cases h
  rename_i h1
  simp only [not_or] at h1
  refine ⟨⟨by omega, by omega, by omega, fun x hx => ?_⟩, by omega, by omega⟩
  have h3 := h1.2.2
  have : bigAc x = false := by
    cases hb : bigAc x with
    | false => rfl
    | true => exact absurd (List.any_eq_true.2 ⟨x, hx, hb⟩) h3
  unfold bigAc at this
  simp at this
  omega

theorem keyN_inj {a b : Nd} (h : keyN a = keyN b) : a.path = b.path := ba_ext h

/-- Is it a child of p? -/
def childOf (p : ByteArray) (n : Nd) : Bool := n.path.size != 1 && (parentB n.path).data.toList == p.data.toList
theorem childOf_iff {p : ByteArray} {n : Nd} : childOf p n = true ↔ n.path.size ≠ 1 ∧ parentB n.path = p := by
  unfold childOf
  simp only [Bool.and_eq_true, bne_iff_ne, ne_eq, beq_iff_eq]
  exact ⟨fun h => ⟨h.1, ba_ext h.2⟩, fun h => ⟨h.1, by rw [h.2]⟩⟩
def nameK (n : Nd) : Key := (nameB n.path).data.toList
/-- The names of the children of a path, in order. -/
def kidsOf (M : List (Key × Nd)) (p : ByteArray) : List (Key × Value) := (M.filter fun x => childOf p x.2).map fun x => (nameK x.2, Value.agg #[])

theorem mem_kids {M : List (Key × Nd)} {p : ByteArray} {y : Key × Value} : y ∈ kidsOf M p ↔ ∃ x ∈ M, childOf p x.2 = true ∧ y = (nameK x.2, .agg #[]) := by
  unfold kidsOf
  simp only [List.mem_map, List.mem_filter]
  constructor
  · rintro ⟨x, ⟨h1, h2⟩, rfl⟩; exact ⟨x, h1, h2, rfl⟩
  · rintro ⟨x, h1, h2, rfl⟩; exact ⟨x, ⟨h1, h2⟩, rfl⟩

theorem kids_sorted {M : List (Key × Nd)} (h : MOk M) (p : ByteArray) : MSorted (kidsOf M p) := by
  unfold MSorted kidsOf
  rw [List.pairwise_map, List.pairwise_filter]
  refine List.Pairwise.imp_of_mem (fun {a b} ha hb hab h1 h2 => ?_) h.sorted
  rw [h.key a ha, h.key b hb] at hab
  obtain ⟨a1, a2⟩ := childOf_iff.1 h1
  obtain ⟨b1, b2⟩ := childOf_iff.1 h2
  have := child_before (right_vpath (h.right a ha)) a1 (right_vpath (h.right b hb)) b1 (a2.trans b2.symm)
  show bytesBefore (nameB a.2.path).data.toList (nameB b.2.path).data.toList = true
  rw [← this]
  exact hab

theorem kids_put {M : List (Key × Nd)} (h : MOk M) {n : Nd} (hn : rightN n = 0) (hne : mget M (keyN n) = none) (p : ByteArray) :
    kidsOf (mput M (keyN n) n) p = if childOf p n then mput (kidsOf M p) (nameK n) (.agg #[]) else kidsOf M p := by
  have hnew := mget_none hne
  have hM' := h.put n hn
  by_cases hc : childOf p n = true
  · rw [if_pos hc]
    refine mem_ext_sorted (kids_sorted hM' p) (mput_sorted (kids_sorted h p) _ _) fun y => ?_
    rw [mem_kids, mem_mput, mem_kids]
    constructor
    · rintro ⟨x, hx, h1, rfl⟩
      rcases mem_mput.1 hx with rfl | ⟨hx, hxn⟩
      · exact .inl rfl
      · refine .inr ⟨⟨x, hx, h1, rfl⟩, fun e => hxn ?_⟩
        obtain ⟨a1, a2⟩ := childOf_iff.1 h1
        obtain ⟨b1, b2⟩ := childOf_iff.1 hc
        rw [h.key x hx]
        unfold keyN
        rw [child_inj (right_vpath (h.right x hx)) a1 (right_vpath hn) b1 (a2.trans b2.symm) (ba_ext e)]
    · rintro (rfl | ⟨⟨x, hx, h1, rfl⟩, _⟩)
      · exact ⟨(keyN n, n), mem_mput.2 (.inl rfl), hc, rfl⟩
      · exact ⟨x, mem_mput.2 (.inr ⟨hx, hnew x hx⟩), h1, rfl⟩
  · rw [if_neg hc]
    refine mem_ext_sorted (kids_sorted hM' p) (kids_sorted h p) fun y => ?_
    rw [mem_kids, mem_kids]
    constructor
    · rintro ⟨x, hx, h1, rfl⟩
      rcases mem_mput.1 hx with rfl | ⟨hx, _⟩
      · exact absurd h1 hc
      · exact ⟨x, hx, h1, rfl⟩
    · rintro ⟨x, hx, h1, rfl⟩
      exact ⟨x, mem_mput.2 (.inr ⟨hx, hnew x hx⟩), h1, rfl⟩

theorem MOk.at {M : List (Key × Nd)} (h : MOk M) {k : Key} {n : Nd} (hg : mget M k = some n) : k = keyN n ∧ rightN n = 0 :=
  ⟨h.key _ (mget_some_mem hg), h.right _ (mget_some_mem hg)⟩

/-- In the place of another: the children stay. -/
theorem kids_put_same {M : List (Key × Nd)} (h : MOk M) {n : Nd} (hn : rightN n = 0) {n0 : Nd} (hg : mget M (keyN n) = some n0) (p : ByteArray) : kidsOf (mput M (keyN n) n) p = kidsOf M p := by
  have hp : n0.path = n.path := keyN_inj (h.at hg).1.symm
  have hc : childOf p n0 = childOf p n := by unfold childOf; rw [hp]
  have hk : nameK n0 = nameK n := by unfold nameK; rw [hp]
  refine mem_ext_sorted (kids_sorted (h.put n hn) p) (kids_sorted h p) fun y => ?_
  rw [mem_kids, mem_kids]
  constructor
  · rintro ⟨x, hx, h1, rfl⟩
    rcases mem_mput.1 hx with rfl | ⟨hx, _⟩
    · exact ⟨_, mget_some_mem hg, by rw [hc]; exact h1, by rw [← hk]⟩
    · exact ⟨x, hx, h1, rfl⟩
  · rintro ⟨x, hx, h1, rfl⟩
    by_cases e : x.1 = keyN n
    · have : x.2 = n0 := by
        have h2 := mget_of_mem h.sorted (show (x.1, x.2) ∈ M from hx)
        rw [e, hg] at h2
        exact (Option.some.inj h2).symm
      exact ⟨(keyN n, n), mem_mput.2 (.inl rfl), by rw [← hc, ← this]; exact h1, by rw [this, hk]⟩
    · exact ⟨x, mem_mput.2 (.inr ⟨hx, e⟩), h1, rfl⟩

theorem kids_del {M : List (Key × Nd)} (h : MOk M) {n : Nd} (hg : mget M (keyN n) = some n) (p : ByteArray) :
    kidsOf (mdel M (keyN n)) p = if childOf p n then mdel (kidsOf M p) (nameK n) else kidsOf M p := by
  have hn := (h.at hg).2
  by_cases hc : childOf p n = true
  · rw [if_pos hc]
    refine mem_ext_sorted (kids_sorted (h.del _) p) (mdel_sorted (kids_sorted h p) _) fun y => ?_
    rw [mem_kids, mem_mdel, mem_kids]
    constructor
    · rintro ⟨x, hx, h1, rfl⟩
      obtain ⟨hx, hxn⟩ := mem_mdel.1 hx
      refine ⟨⟨x, hx, h1, rfl⟩, fun e => hxn ?_⟩
      obtain ⟨a1, a2⟩ := childOf_iff.1 h1
      obtain ⟨b1, b2⟩ := childOf_iff.1 hc
      rw [h.key x hx]
      unfold keyN
      rw [child_inj (right_vpath (h.right x hx)) a1 (right_vpath hn) b1 (a2.trans b2.symm) (ba_ext e)]
    · rintro ⟨⟨x, hx, h1, rfl⟩, hy⟩
      refine ⟨x, mem_mdel.2 ⟨hx, fun e => hy ?_⟩, h1, rfl⟩
      have h2 := mget_of_mem h.sorted (show (x.1, x.2) ∈ M from hx)
      rw [e, hg] at h2
      rw [← Option.some.inj h2]
  · rw [if_neg hc]
    refine mem_ext_sorted (kids_sorted (h.del _) p) (kids_sorted h p) fun y => ?_
    rw [mem_kids, mem_kids]
    constructor
    · rintro ⟨x, hx, h1, rfl⟩
      exact ⟨x, (mem_mdel.1 hx).1, h1, rfl⟩
    · rintro ⟨x, hx, h1, rfl⟩
      refine ⟨x, mem_mdel.2 ⟨hx, fun e => hc ?_⟩, h1, rfl⟩
      have h2 := mget_of_mem h.sorted (show (x.1, x.2) ∈ M from hx)
      rw [e, hg] at h2
      rw [Option.some.inj h2]
      exact h1
theorem kids_length (M : List (Key × Nd)) (p : ByteArray) : (kidsOf M p).length ≤ M.length := by
  unfold kidsOf; rw [List.length_map]; exact List.length_filter_le _ _
end Go.Proofs.YtfgjbcejpjcpeaaDoor
