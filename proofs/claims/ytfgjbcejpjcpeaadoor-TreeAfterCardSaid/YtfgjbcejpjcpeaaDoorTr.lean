/- A tree in memory: what its blocks hold; how that stays and turns. -/
import Derived.Test.YtfgjbcejpjcpeaaDoorTm
import Derived.Test.YtfgjbcejpjcpeaaDoorSClone
import Derived.Test.YtfgjbcejpjcpeaaDoorReg
namespace Go.Proofs.YtfgjbcejpjcpeaaDoor
open Go.RowKit

theorem strT : Tryd.prog.underlying 9 = some .string := Tryd.underlying9

/-- All is as it was, but for maps in blocks of S. -/
structure Mod (S : Nat → Prop) (w w' : World) : Prop where
  os : w'.os = w.os
  tape : w'.tape = w.tape
  output : w'.output = w.output
  size : w.heap.size ≤ w'.heap.size
  same : ∀ (k : Nat) (o : Obj), w.heap[k]? = some o → (¬ S k ∨ ∃ c e f, o = .cells c e f) → w'.heap[k]? = some o
theorem Mod.refl (S : Nat → Prop) (w : World) : Mod S w w := ⟨rfl, rfl, rfl, Nat.le_refl _, fun _ _ h _ => h⟩
theorem Mod.trans {S : Nat → Prop} {a b c : World} (h : Mod S a b) (k : Mod S b c) : Mod S a c :=
  ⟨k.os.trans h.os, k.tape.trans h.tape, k.output.trans h.output, Nat.le_trans h.size k.size, fun i o hi ho => k.same i o (h.same i o hi ho) ho⟩
theorem Mod.of_ext {S : Nat → Prop} {a b : World} (h : Ext a b) : Mod S a b := ⟨h.os, h.tape, h.output, h.size, fun k _ hk _ => (h.block k (Array.getElem?_eq_some_iff.1 hk).1).trans hk⟩
theorem Mod.mono {S S' : Nat → Prop} {a b : World} (h : Mod S a b) (hS : ∀ k, k < a.heap.size → S k → S' k) : Mod S' a b :=
  ⟨h.os, h.tape, h.output, h.size, fun k o hk ho => h.same k o hk (ho.imp (fun hn hs => hn (hS k (Array.getElem?_eq_some_iff.1 hk).1 hs)) id)⟩
theorem Mod.turned {S : Nat → Prop} {w w' : World} {b : Nat} (h : w.mapTurned w' b) (hb : S b) : Mod S w w' := by
  obtain ⟨es, clock, es', clock', hm, rfl⟩ := h
  refine ⟨rfl, rfl, rfl, by simp [ChangeMaps.setBlock], fun k o hk ho => ?_⟩
  have hne : k ≠ b := by
    rintro rfl
    rw [hm] at hk
    cases hk
    rcases ho with h | ⟨_, _, _, h⟩
    · exact h hb
    · cases h
  exact (ChangeMaps.heap_setBlock_other hm _ hne).trans hk
theorem turned_other {w w' : World} {b k : Nat} (h : w.mapTurned w' b) (hne : k ≠ b) : w'.heap[k]? = w.heap[k]? := by
  obtain ⟨es, clock, es', clock', hm, rfl⟩ := h
  exact ChangeMaps.heap_setBlock_other hm _ hne
theorem turned_size {w w' : World} {b : Nat} (h : w.mapTurned w' b) : w'.heap.size = w.heap.size := by
  obtain ⟨es, clock, es', clock', hm, rfl⟩ := h
  simp [ChangeMaps.setBlock]
theorem Mod.cells {S : Nat → Prop} {w w' : World} (h : Mod S w w') {k : Nat} {c : Array Value} {e : TypeId} {f : Nat × Nat} (hk : w.heap[k]? = some (.cells c e f)) : w'.heap[k]? = some (.cells c e f) := h.same k _ hk (.inr ⟨_, _, _, rfl⟩)
theorem cell_cells {w : World} {a : Addr} {u : Value} (h : w.cell? a = some u) : ∃ c e f, w.heap[a.block]? = some (.cells c e f) := by
  unfold World.cell? at h
  split at h
  · rename_i c e f hk; exact ⟨c, e, f, hk⟩
  · cases h
theorem Mod.cell {S : Nat → Prop} {w w' : World} (h : Mod S w w') {a : Addr} {u : Value} (hu : w.cell? a = some u) : w'.cell? a = some u := by
  obtain ⟨c, e, f, hk⟩ := cell_cells hu
  rw [World.cell?_of_block ((h.cells hk).trans hk.symm)]
  exact hu
theorem Mod.below {S : Nat → Prop} {w w' : World} (h : Mod S w w') {B : Nat} (hS : ∀ k, S k → B ≤ k) (hB : B ≤ w.heap.size) : Below B w w' :=
  ⟨h.os, h.tape, h.output, h.size, fun k hk => by
    have hk' : k < w.heap.size := by omega
    rw [h.same k _ (Array.getElem?_eq_getElem hk') (.inl (fun hs => by have := hS k hs; omega)), Array.getElem?_eq_getElem hk']⟩

def treeC (bn bk : Nat) : Array Value := #[.map (some bn), .map (some bk)]

/-- The tree's own block. -/
structure Hd (S : Nat → Prop) (w : World) (bt bn bk : Nat) : Prop where
  blk : w.heap[bt]? = some (.cells (treeC bn bk) 87 (0, 0))
  st : S bt
  sn : S bn
  sk : S bk
  ne : bn ≠ bk
  bound : ∀ k, S k → k < w.heap.size

/-- The map of its nodes. -/
structure NodesAt (S : Nat → Prop) (w : World) (bn : Nat) (M : List (Key × Nd)) (N : Nat) : Prop where
  ex : ∃ m, SMap Tryd.prog 9 w bn m ∧ Rel2 (fun n v => NdS S w v n) M m
  ok : MOk M
  len : M.length ≤ N

def kidsV (K : List (Key × Nat)) : List (Key × Value) := K.map fun x => (x.1, Value.map (some x.2))
/-- The maps of the children's names. -/
structure KidsAt (S : Nat → Prop) (w : World) (bn bk : Nat) (K : List (Key × Nat)) (M : List (Key × Nd)) (N : Nat) : Prop where
  map : SMap Tryd.prog 9 w bk (kidsV K)
  len : K.length ≤ N
  each : ∀ x ∈ K, S x.2 ∧ x.2 ≠ bn ∧ x.2 ≠ bk ∧ SMap Tryd.prog 9 w x.2 (kidsOf M ⟨x.1.toArray⟩)
  apart : K.Pairwise fun x y => x.2 ≠ y.2
  rest : ∀ p : ByteArray, mget K p.data.toList = none → kidsOf M p = []

/-- A tree of these nodes, its blocks in S; neither map has more than N entries. -/
def TreeAt (S : Nat → Prop) (w : World) (bt : Nat) (M : List (Key × Nd)) (N : Nat) : Prop :=
  ∃ bn bk K, Hd S w bt bn bk ∧ NodesAt S w bn M N ∧ KidsAt S w bn bk K M N

theorem kidsV_get (K : List (Key × Nat)) (k : Key) : mget (kidsV K) k = (mget K k).map fun b => Value.map (some b) := mget_map (fun b => Value.map (some b)) K k

theorem Hd.keep {S S' : Nat → Prop} {w w' : World} {bt bn bk : Nat} (h : Hd S w bt bn bk) (hw : w'.heap[bt]? = w.heap[bt]?) (hS : ∀ k, S k → S' k) (hb : ∀ k, S' k → k < w'.heap.size) : Hd S' w' bt bn bk :=
  ⟨hw.trans h.blk, hS _ h.st, hS _ h.sn, hS _ h.sk, h.ne, hb⟩
theorem NodesAt.keep {S S' : Nat → Prop} {w w' : World} {bn : Nat} {M : List (Key × Nd)} {N N' : Nat} (h : NodesAt S w bn M N) (hn : w'.heap[bn]? = w.heap[bn]?) (hS : ∀ k, S k → S' k)
    (hc : ∀ (b o : Nat) u, S b → w.cell? ⟨b, o, none⟩ = some u → w'.cell? ⟨b, o, none⟩ = some u) (hN : N ≤ N') : NodesAt S' w' bn M N' := by
  obtain ⟨m, hm, hr⟩ := h.ex
  exact ⟨⟨m, hm.keep hn, hr.imp fun _ _ _ hv => hv.imp hS hc⟩, h.ok, Nat.le_trans h.len hN⟩
theorem KidsAt.keep {S S' : Nat → Prop} {w w' : World} {bn bk : Nat} {K : List (Key × Nat)} {M : List (Key × Nd)} {N N' : Nat} (h : KidsAt S w bn bk K M N) (hk : w'.heap[bk]? = w.heap[bk]?) (hS : ∀ k, S k → S' k)
    (he : ∀ x ∈ K, w'.heap[x.2]? = w.heap[x.2]?) (hN : N ≤ N') : KidsAt S' w' bn bk K M N' :=
  ⟨h.map.keep hk, Nat.le_trans h.len hN, fun x hx => by obtain ⟨h1, h2, h3, h4⟩ := h.each x hx; exact ⟨hS _ h1, h2, h3, h4.keep (he x hx)⟩, h.apart, h.rest⟩

/-- A tree stays what it is where its blocks do. -/
theorem TreeAt.keep {S S' : Nat → Prop} {w w' : World} {bt : Nat} {M : List (Key × Nd)} {N N' : Nat} (h : TreeAt S w bt M N) (hw : ∀ k, S k → w'.heap[k]? = w.heap[k]?) (hS : ∀ k, S k → S' k) (hb : ∀ k, S' k → k < w'.heap.size) (hN : N ≤ N') : TreeAt S' w' bt M N' := by
  obtain ⟨bn, bk, K, hd, hn, hk⟩ := h
  exact ⟨bn, bk, K, hd.keep (hw _ hd.st) hS hb, hn.keep (hw _ hd.sn) hS (fun b o u hb hu => (World.cell?_of_block (hw b hb)).trans hu) hN, hk.keep (hw _ hd.sk) hS (fun x hx => hw _ (hk.each x hx).1) hN⟩
theorem TreeAt.ext {S : Nat → Prop} {w w' : World} {bt : Nat} {M : List (Key × Nd)} {N : Nat} (h : TreeAt S w bt M N) (he : Ext w w') : TreeAt S w' bt M N := by
  have hb : ∀ k, S k → k < w.heap.size := by obtain ⟨bn, bk, K, hd, _⟩ := h; exact hd.bound
  exact h.keep (fun k hk => he.block k (hb k hk)) (fun _ h => h) (fun k hk => Nat.lt_of_lt_of_le (hb k hk) he.size) (Nat.le_refl _)
theorem TreeAt.bound {S : Nat → Prop} {w : World} {bt : Nat} {M : List (Key × Nd)} {N : Nat} (h : TreeAt S w bt M N) : ∀ k, S k → k < w.heap.size := by obtain ⟨bn, bk, K, hd, _⟩ := h; exact hd.bound
theorem TreeAt.ok {S : Nat → Prop} {w : World} {bt : Nat} {M : List (Key × Nd)} {N : Nat} (h : TreeAt S w bt M N) : MOk M := by obtain ⟨bn, bk, K, _, hn, _⟩ := h; exact hn.ok
theorem TreeAt.len {S : Nat → Prop} {w : World} {bt : Nat} {M : List (Key × Nd)} {N : Nat} (h : TreeAt S w bt M N) : M.length ≤ N := by obtain ⟨bn, bk, K, _, hn, _⟩ := h; exact hn.len

theorem key_back (k : Key) : (⟨k.toArray⟩ : ByteArray).data.toList = k := by simp
theorem key_bytes (s : ByteArray) : (⟨s.data.toList.toArray⟩ : ByteArray) = s := ba_ext (by simp)

/-! What lay does, piece by piece. -/

/-- The node is stored. -/
theorem NodesAt.put {S : Nat → Prop} {w w' : World} {bn : Nat} {M : List (Key × Nd)} {N : Nat} (h : NodesAt S w bn M N) {n : Nd} {v : Value} (hn : rightN n = 0) (hv : NdS S w v n) {m : List (Key × Value)} (hm : SMap Tryd.prog 9 w bn m) (hr : Rel2 (fun n v => NdS S w v n) M m)
    (hs : SMap Tryd.prog 9 w' bn (mput m n.path.data.toList v)) (hT : w.mapTurned w' bn) : NodesAt S w' bn (mput M (keyN n) n) (N + 1) := by
  have hc : ∀ (b o : Nat) u, S b → w.cell? ⟨b, o, none⟩ = some u → w'.cell? ⟨b, o, none⟩ = some u := fun b o u _ hu => (Mod.turned (S := fun _ => True) hT trivial).cell hu
  refine ⟨⟨_, hs, (hr.mput (keyN n) hv).imp fun _ _ _ hx => hx.imp (fun _ h => h) hc⟩, h.ok.put n hn, ?_⟩
  have h1 : (mput M (keyN n) n).length ≤ M.length + 1 := by
    unfold mput; rw [mins_length]; exact Nat.succ_le_succ (List.length_filter_le _ _)
  have := h.len
  omega

/-- A node that is nobody's child: the names stay. -/
theorem KidsAt.put_root {S : Nat → Prop} {w : World} {bn bk : Nat} {K : List (Key × Nat)} {M : List (Key × Nd)} {N : Nat} (h : KidsAt S w bn bk K M N) (hM : MOk M) {n : Nd} (hn : rightN n = 0) (hne : mget M (keyN n) = none) (hroot : n.path.size = 1) : KidsAt S w bn bk K (mput M (keyN n) n) (N + 1) := by
  have e : ∀ p, kidsOf (mput M (keyN n) n) p = kidsOf M p := fun p => by
    rw [kids_put hM hn hne p, if_neg (fun hc => (childOf_iff.1 hc).1 hroot)]
  exact ⟨h.map, by have := h.len; omega, fun x hx => by rw [e]; exact h.each x hx, h.apart, fun p hp => by rw [e]; exact h.rest p hp⟩

/-- A name is laid into the map that its parent has. -/
theorem KidsAt.put_old {S : Nat → Prop} {w w' : World} {bn bk : Nat} {K : List (Key × Nat)} {M : List (Key × Nd)} {N : Nat} (h : KidsAt S w bn bk K M N) (hM : MOk M) {n : Nd} (hn : rightN n = 0) (hne : mget M (keyN n) = none) (hroot : n.path.size ≠ 1)
    {b : Nat} (hb : mget K (parentB n.path).data.toList = some b) (hs : SMap Tryd.prog 9 w' b (mput (kidsOf M (parentB n.path)) (nameB n.path).data.toList (.agg #[]))) (hT : w.mapTurned w' b) : KidsAt S w' bn bk K (mput M (keyN n) n) (N + 1) := by
  have hmem := mget_some_mem hb
  have hE := h.each _ hmem
  have hc : childOf (parentB n.path) n = true := childOf_iff.2 ⟨hroot, rfl⟩
  have hno : ∀ p, p ≠ parentB n.path → kidsOf (mput M (keyN n) n) p = kidsOf M p := fun p hp => by
    rw [kids_put hM hn hne p, if_neg (fun hc => hp (childOf_iff.1 hc).2.symm)]
  have hap : ∀ x ∈ K, x.2 = b → x.1 = (parentB n.path).data.toList := fun x hx e => by
    obtain ⟨i, hi, ei⟩ := List.getElem_of_mem hx
    obtain ⟨j, hj, ej⟩ := List.getElem_of_mem hmem
    have hp := List.pairwise_iff_getElem.1 h.apart
    have : i = j := by
      rcases Nat.lt_trichotomy i j with hlt | he | hlt
      · exact absurd (by rw [ei, ej]; exact e) (hp i j hi hj hlt)
      · exact he
      · exact absurd (by rw [ei, ej]; exact e.symm) (hp j i hj hi hlt)
    subst this
    rw [ei] at ej
    rw [ej]
  refine ⟨h.map.keep (turned_other hT hE.2.2.1.symm), by have := h.len; omega, fun x hx => ?_, h.apart, fun p hp => ?_⟩
  · obtain ⟨h1, h2, h3, h4⟩ := h.each x hx
    refine ⟨h1, h2, h3, ?_⟩
    by_cases e : x.2 = b
    · have hk := hap x hx e
      rw [hk, key_bytes, kids_put hM hn hne, if_pos hc, e]
      exact hs
    · rw [hno _ (fun e1 => e (by
        have : x.1 = (parentB n.path).data.toList := by rw [← e1, key_back]
        have h5 := mget_of_mem (SMap.sorted (Maps.string_keyed strT) h.map) (k := x.1) (v := .map (some x.2)) (List.mem_map.2 ⟨x, hx, rfl⟩)
        rw [kidsV_get, this, hb] at h5
        simpa using h5.symm))]
      exact h4.keep (turned_other hT e)
  · rw [hno p (fun e1 => by rw [e1, hb] at hp; cases hp)]
    exact h.rest p hp

/-- A new map is laid for the parent, and the name into it. -/
theorem KidsAt.put_new {S S' : Nat → Prop} {w w1 w2 w3 : World} {bn bk : Nat} {K : List (Key × Nat)} {M : List (Key × Nd)} {N g : Nat} (h : KidsAt S w bn bk K M N) (hM : MOk M) {n : Nd} (hn : rightN n = 0) (hne : mget M (keyN n) = none) (hroot : n.path.size ≠ 1)
    (hb : mget K (parentB n.path).data.toList = none) (hS : ∀ k, S k → S' k) (hg : S' g) (hgs : ∀ k, S k → k ≠ g) (hbn : S bn) (hbk : S bk)
    (he1 : ∀ k, S k → w1.heap[k]? = w.heap[k]?) (hT2 : w1.mapTurned w2 bk) (hs2 : SMap Tryd.prog 9 w2 bk (mput (kidsV K) (parentB n.path).data.toList (.map (some g))))
    (hT3 : w2.mapTurned w3 g) (hs3 : SMap Tryd.prog 9 w3 g (mput [] (nameB n.path).data.toList (.agg #[]))) :
    KidsAt S' w3 bn bk (mput K (parentB n.path).data.toList g) (mput M (keyN n) n) (N + 1) := by
  have hc : childOf (parentB n.path) n = true := childOf_iff.2 ⟨hroot, rfl⟩
  have hno : ∀ p, p ≠ parentB n.path → kidsOf (mput M (keyN n) n) p = kidsOf M p := fun p hp => by
    rw [kids_put hM hn hne p, if_neg (fun hc => hp (childOf_iff.1 hc).2.symm)]
  have hgk : bk ≠ g := hgs _ hbk
  have hgn : bn ≠ g := hgs _ hbn
  refine ⟨?_, ?_, fun x hx => ?_, ?_, fun p hp => ?_⟩
  · unfold kidsV
    rw [mput_map (fun b => Value.map (some b))]
    exact hs2.keep (turned_other hT3 hgk)
  · have h1 : (mput K (parentB n.path).data.toList g).length ≤ K.length + 1 := by
      unfold mput; rw [mins_length]; exact Nat.succ_le_succ (List.length_filter_le _ _)
    have := h.len
    omega
  · rcases mem_mput.1 hx with rfl | ⟨hx, hne'⟩
    · refine ⟨hg, fun e => hgn e.symm, fun e => hgk e.symm, ?_⟩
      simp only
      rw [key_bytes, kids_put hM hn hne, if_pos hc, h.rest _ hb]
      exact hs3
    · obtain ⟨h1, h2, h3, h4⟩ := h.each x hx
      refine ⟨hS _ h1, h2, h3, ?_⟩
      rw [hno _ (fun e1 => hne' (by rw [← e1, key_back]))]
      exact h4.keep ((turned_other hT3 (hgs _ h1)).trans ((turned_other hT2 h3).trans (he1 _ h1)))
  · have hnew : ∀ x ∈ K, x.2 ≠ g := fun x hx => hgs _ (h.each x hx).1
    have hall : ∀ (l : List (Key × Nat)), l.Pairwise (fun x y => x.2 ≠ y.2) → (∀ x ∈ l, x.2 ≠ g) → (mins ((parentB n.path).data.toList, g) l).Pairwise fun x y => x.2 ≠ y.2 := by
      intro l
      induction l with
      | nil => intro _ _; simp [mins]
      | cons y r ih =>
        intro hp hl
        obtain ⟨p1, p2⟩ := List.pairwise_cons.1 hp
        unfold mins
        split
        · exact List.pairwise_cons.2 ⟨fun z hz => (hl z hz).symm, hp⟩
        · refine List.pairwise_cons.2 ⟨fun z hz => ?_, ih p2 fun z hz => hl z (by simp [hz])⟩
          rcases mem_mins.1 hz with rfl | hz
          · exact hl y (by simp)
          · exact p1 z hz
    exact hall _ (h.apart.filter _) fun x hx => hnew x (mem_mdel.1 hx).1
  · have hp1 : p ≠ parentB n.path := by
      rintro rfl
      exact mget_none hp _ (mem_mput.2 (.inl rfl)) rfl
    rw [hno p hp1]
    refine h.rest p ?_
    refine mget_none_of fun x hx => ?_
    exact mget_none hp x (mem_mput.2 (.inr ⟨hx, fun e => (mget_none hb x hx e).elim⟩))
end Go.Proofs.YtfgjbcejpjcpeaaDoor
