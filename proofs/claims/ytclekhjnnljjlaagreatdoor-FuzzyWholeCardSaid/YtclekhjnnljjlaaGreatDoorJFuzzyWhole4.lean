/- A tree in memory: what its blocks hold; how that stays and turns. Small laws for the duties of a region that draws its order. Two more laws for a region that draws its order: one over any relation that its steps keep; one in which the last operation, which all others are ahead of, may turn what it likes. Laws at the operations on maps, for the walk; small operations in a region that draws its order. The walks of paths.Parent and paths.Name. -/
import Derived.Test.YtclekhjnnljjlaaGreatDoorJFuzzyWhole3
import Derived.Test.YtclekhjnnljjlaaGreatDoorJFuzzyWhole2
import Derived.Test.YtclekhjnnljjlaaGreatDoorJFuzzyWhole1
namespace Go.Proofs.YtclekhjnnljjlaaGreatDoor
open Go.RowKit

theorem strT : Tryz.prog.underlying 9 = some .string := Tryz.underlying9

/-- All is as it was, but for maps in blocks of S. -/
structure Mod (S : Nat → Prop) (w w' : World) : Prop where
  os : w'.os = w.os
  tape : w'.tape = w.tape
  output : w'.output = w.output
  size : w.heap.size ≤ w'.heap.size
  same : ∀ (k : Nat) (o : Obj), w.heap[k]? = some o → (¬ S k ∨ ∃ c e f, o = .cells c e f) → w'.heap[k]? = some o
theorem Mod.refl (S : Nat → Prop) (w : World) : Mod S w w := ⟨rfl, rfl, rfl, Nat.le_refl _, fun _ _ h _ => h⟩
theorem Mod.trans {S : Nat → Prop} {a b c : World} (h : Mod S a b) (k : Mod S b c) : Mod S a c :=
  ⟨k.os.trans h.os, k.tape.trans h.tape, k.output.trans h.output, Nat.le_trans h.size k.size, fun i o hi ho => k.same i o (h.same i o hi ho) ho⟩
theorem Mod.of_ext {S : Nat → Prop} {a b : World} (h : Ext a b) : Mod S a b := ⟨h.os, h.tape, h.output, h.size, fun k _ hk _ => (h.block k (Array.getElem?_eq_some_iff.1 hk).1).trans hk⟩
theorem Mod.mono {S S' : Nat → Prop} {a b : World} (h : Mod S a b) (hS : ∀ k, k < a.heap.size → S k → S' k) : Mod S' a b :=
  ⟨h.os, h.tape, h.output, h.size, fun k o hk ho => h.same k o hk (ho.imp (fun hn hs => hn (hS k (Array.getElem?_eq_some_iff.1 hk).1 hs)) id)⟩
theorem Mod.turned {S : Nat → Prop} {w w' : World} {b : Nat} (h : w.mapTurned w' b) (hb : S b) : Mod S w w' := by
  obtain ⟨es, clock, es', clock', hm, rfl⟩ := h
  refine ⟨rfl, rfl, rfl, by simp [ChangeMaps.setBlock], fun k o hk ho => ?_⟩
  have hne : k ≠ b := by
    rintro rfl
    rw [hm] at hk
    cases hk
    rcases ho with h | ⟨_, _, _, h⟩
    · exact h hb
    · cases h
  exact (ChangeMaps.heap_setBlock_other hm _ hne).trans hk
theorem turned_other {w w' : World} {b k : Nat} (h : w.mapTurned w' b) (hne : k ≠ b) : w'.heap[k]? = w.heap[k]? := by
  obtain ⟨es, clock, es', clock', hm, rfl⟩ := h
  exact ChangeMaps.heap_setBlock_other hm _ hne
theorem turned_size {w w' : World} {b : Nat} (h : w.mapTurned w' b) : w'.heap.size = w.heap.size := by
  obtain ⟨es, clock, es', clock', hm, rfl⟩ := h
  simp [ChangeMaps.setBlock]
theorem Mod.cells {S : Nat → Prop} {w w' : World} (h : Mod S w w') {k : Nat} {c : Array Value} {e : TypeId} {f : Nat × Nat} (hk : w.heap[k]? = some (.cells c e f)) : w'.heap[k]? = some (.cells c e f) := h.same k _ hk (.inr ⟨_, _, _, rfl⟩)
theorem cell_cells {w : World} {a : Addr} {u : Value} (h : w.cell? a = some u) : ∃ c e f, w.heap[a.block]? = some (.cells c e f) := by
  unfold World.cell? at h
  split at h
  · rename_i c e f hk; exact ⟨c, e, f, hk⟩
  · cases h
theorem Mod.cell {S : Nat → Prop} {w w' : World} (h : Mod S w w') {a : Addr} {u : Value} (hu : w.cell? a = some u) : w'.cell? a = some u := by
  obtain ⟨c, e, f, hk⟩ := cell_cells hu
  rw [World.cell?_of_block ((h.cells hk).trans hk.symm)]
  exact hu
theorem Mod.below {S : Nat → Prop} {w w' : World} (h : Mod S w w') {B : Nat} (hS : ∀ k, S k → B ≤ k) (hB : B ≤ w.heap.size) : Below B w w' :=
  ⟨h.os, h.tape, h.output, h.size, fun k hk => by
    have hk' : k < w.heap.size := by omega
    rw [h.same k _ (Array.getElem?_eq_getElem hk') (.inl (fun hs => by have := hS k hs; omega)), Array.getElem?_eq_getElem hk']⟩

def treeC (bn bk : Nat) : Array Value := #[.map (some bn), .map (some bk)]

/-- The tree's own block. -/
structure Hd (S : Nat → Prop) (w : World) (bt bn bk : Nat) : Prop where
  blk : w.heap[bt]? = some (.cells (treeC bn bk) 95 (0, 0))
  st : S bt
  sn : S bn
  sk : S bk
  ne : bn ≠ bk
  bound : ∀ k, S k → k < w.heap.size

/-- The map of its nodes. -/
structure NodesAt (S : Nat → Prop) (w : World) (bn : Nat) (M : List (Key × Nd)) (N : Nat) : Prop where
  ex : ∃ m, SMap Tryz.prog 9 w bn m ∧ Rel2 (fun n v => NdS S w v n) M m
  ok : MOk M
  len : M.length ≤ N

def kidsV (K : List (Key × Nat)) : List (Key × Value) := K.map fun x => (x.1, Value.map (some x.2))
/-- The maps of the children's names. -/
structure KidsAt (S : Nat → Prop) (w : World) (bn bk : Nat) (K : List (Key × Nat)) (M : List (Key × Nd)) (N : Nat) : Prop where
  map : SMap Tryz.prog 9 w bk (kidsV K)
  len : K.length ≤ N
  each : ∀ x ∈ K, S x.2 ∧ x.2 ≠ bn ∧ x.2 ≠ bk ∧ SMap Tryz.prog 9 w x.2 (kidsOf M ⟨x.1.toArray⟩)
  apart : K.Pairwise fun x y => x.2 ≠ y.2
  rest : ∀ p : ByteArray, mget K p.data.toList = none → kidsOf M p = []

/-- A tree of these nodes, its blocks in S; neither map has more than N entries. -/
def TreeAt (S : Nat → Prop) (w : World) (bt : Nat) (M : List (Key × Nd)) (N : Nat) : Prop :=
  ∃ bn bk K, Hd S w bt bn bk ∧ NodesAt S w bn M N ∧ KidsAt S w bn bk K M N

theorem kidsV_get (K : List (Key × Nat)) (k : Key) : mget (kidsV K) k = (mget K k).map fun b => Value.map (some b) := mget_map (fun b => Value.map (some b)) K k

theorem Hd.keep {S S' : Nat → Prop} {w w' : World} {bt bn bk : Nat} (h : Hd S w bt bn bk) (hw : w'.heap[bt]? = w.heap[bt]?) (hS : ∀ k, S k → S' k) (hb : ∀ k, S' k → k < w'.heap.size) : Hd S' w' bt bn bk :=
  ⟨hw.trans h.blk, hS _ h.st, hS _ h.sn, hS _ h.sk, h.ne, hb⟩
theorem NodesAt.keep {S S' : Nat → Prop} {w w' : World} {bn : Nat} {M : List (Key × Nd)} {N N' : Nat} (h : NodesAt S w bn M N) (hn : w'.heap[bn]? = w.heap[bn]?) (hS : ∀ k, S k → S' k)
    (hc : ∀ (b o : Nat) u, S b → w.cell? ⟨b, o, none⟩ = some u → w'.cell? ⟨b, o, none⟩ = some u) (hN : N ≤ N') : NodesAt S' w' bn M N' := by
  obtain ⟨m, hm, hr⟩ := h.ex
  exact ⟨⟨m, hm.keep hn, hr.imp fun _ _ _ hv => hv.imp hS hc⟩, h.ok, Nat.le_trans h.len hN⟩
theorem KidsAt.keep {S S' : Nat → Prop} {w w' : World} {bn bk : Nat} {K : List (Key × Nat)} {M : List (Key × Nd)} {N N' : Nat} (h : KidsAt S w bn bk K M N) (hk : w'.heap[bk]? = w.heap[bk]?) (hS : ∀ k, S k → S' k)
    (he : ∀ x ∈ K, w'.heap[x.2]? = w.heap[x.2]?) (hN : N ≤ N') : KidsAt S' w' bn bk K M N' :=
  ⟨h.map.keep hk, Nat.le_trans h.len hN, fun x hx => by obtain ⟨h1, h2, h3, h4⟩ := h.each x hx; exact ⟨hS _ h1, h2, h3, h4.keep (he x hx)⟩, h.apart, h.rest⟩

/-- A tree stays what it is where its blocks do. -/
theorem TreeAt.keep {S S' : Nat → Prop} {w w' : World} {bt : Nat} {M : List (Key × Nd)} {N N' : Nat} (h : TreeAt S w bt M N) (hw : ∀ k, S k → w'.heap[k]? = w.heap[k]?) (hS : ∀ k, S k → S' k) (hb : ∀ k, S' k → k < w'.heap.size) (hN : N ≤ N') : TreeAt S' w' bt M N' := by
  obtain ⟨bn, bk, K, hd, hn, hk⟩ := h
  exact ⟨bn, bk, K, hd.keep (hw _ hd.st) hS hb, hn.keep (hw _ hd.sn) hS (fun b o u hb hu => (World.cell?_of_block (hw b hb)).trans hu) hN, hk.keep (hw _ hd.sk) hS (fun x hx => hw _ (hk.each x hx).1) hN⟩
theorem TreeAt.ext {S : Nat → Prop} {w w' : World} {bt : Nat} {M : List (Key × Nd)} {N : Nat} (h : TreeAt S w bt M N) (he : Ext w w') : TreeAt S w' bt M N := by
  have hb : ∀ k, S k → k < w.heap.size := by obtain ⟨bn, bk, K, hd, _⟩ := h; exact hd.bound
  exact h.keep (fun k hk => he.block k (hb k hk)) (fun _ h => h) (fun k hk => Nat.lt_of_lt_of_le (hb k hk) he.size) (Nat.le_refl _)
theorem TreeAt.bound {S : Nat → Prop} {w : World} {bt : Nat} {M : List (Key × Nd)} {N : Nat} (h : TreeAt S w bt M N) : ∀ k, S k → k < w.heap.size := by obtain ⟨bn, bk, K, hd, _⟩ := h; exact hd.bound
theorem TreeAt.ok {S : Nat → Prop} {w : World} {bt : Nat} {M : List (Key × Nd)} {N : Nat} (h : TreeAt S w bt M N) : MOk M := by obtain ⟨bn, bk, K, _, hn, _⟩ := h; exact hn.ok
theorem TreeAt.len {S : Nat → Prop} {w : World} {bt : Nat} {M : List (Key × Nd)} {N : Nat} (h : TreeAt S w bt M N) : M.length ≤ N := by obtain ⟨bn, bk, K, _, hn, _⟩ := h; exact hn.len

theorem key_back (k : Key) : (⟨k.toArray⟩ : ByteArray).data.toList = k := by simp
theorem key_bytes (s : ByteArray) : (⟨s.data.toList.toArray⟩ : ByteArray) = s := ba_ext (by simp)

/-! What lay does, piece by piece. -/

/-- The node is stored. -/
theorem NodesAt.put {S : Nat → Prop} {w w' : World} {bn : Nat} {M : List (Key × Nd)} {N : Nat} (h : NodesAt S w bn M N) {n : Nd} {v : Value} (hn : rightN n = 0) (hv : NdS S w v n) {m : List (Key × Value)} (hm : SMap Tryz.prog 9 w bn m) (hr : Rel2 (fun n v => NdS S w v n) M m)
    (hs : SMap Tryz.prog 9 w' bn (mput m n.path.data.toList v)) (hT : w.mapTurned w' bn) : NodesAt S w' bn (mput M (keyN n) n) (N + 1) := by
  have hc : ∀ (b o : Nat) u, S b → w.cell? ⟨b, o, none⟩ = some u → w'.cell? ⟨b, o, none⟩ = some u := fun b o u _ hu => (Mod.turned (S := fun _ => True) hT trivial).cell hu
  refine ⟨⟨_, hs, (hr.mput (keyN n) hv).imp fun _ _ _ hx => hx.imp (fun _ h => h) hc⟩, h.ok.put n hn, ?_⟩
  have h1 : (mput M (keyN n) n).length ≤ M.length + 1 := by
    unfold mput; rw [mins_length]; exact Nat.succ_le_succ (List.length_filter_le _ _)
  have := h.len
  omega

/-- A node that is nobody's child: the names stay. -/
theorem KidsAt.put_root {S : Nat → Prop} {w : World} {bn bk : Nat} {K : List (Key × Nat)} {M : List (Key × Nd)} {N : Nat} (h : KidsAt S w bn bk K M N) (hM : MOk M) {n : Nd} (hn : rightN n = 0) (hne : mget M (keyN n) = none) (hroot : n.path.size = 1) : KidsAt S w bn bk K (mput M (keyN n) n) (N + 1) := by
  have e : ∀ p, kidsOf (mput M (keyN n) n) p = kidsOf M p := fun p => by
    rw [kids_put hM hn hne p, if_neg (fun hc => (childOf_iff.1 hc).1 hroot)]
  exact ⟨h.map, by have := h.len; omega, fun x hx => by rw [e]; exact h.each x hx, h.apart, fun p hp => by rw [e]; exact h.rest p hp⟩

/-- A name is laid into the map that its parent has. -/
theorem KidsAt.put_old {S : Nat → Prop} {w w' : World} {bn bk : Nat} {K : List (Key × Nat)} {M : List (Key × Nd)} {N : Nat} (h : KidsAt S w bn bk K M N) (hM : MOk M) {n : Nd} (hn : rightN n = 0) (hne : mget M (keyN n) = none) (hroot : n.path.size ≠ 1)
    {b : Nat} (hb : mget K (parentB n.path).data.toList = some b) (hs : SMap Tryz.prog 9 w' b (mput (kidsOf M (parentB n.path)) (nameB n.path).data.toList (.agg #[]))) (hT : w.mapTurned w' b) : KidsAt S w' bn bk K (mput M (keyN n) n) (N + 1) := by
  have hmem := mget_some_mem hb
  have hE := h.each _ hmem
  have hc : childOf (parentB n.path) n = true := childOf_iff.2 ⟨hroot, rfl⟩
  have hno : ∀ p, p ≠ parentB n.path → kidsOf (mput M (keyN n) n) p = kidsOf M p := fun p hp => by
    rw [kids_put hM hn hne p, if_neg (fun hc => hp (childOf_iff.1 hc).2.symm)]
  have hap : ∀ x ∈ K, x.2 = b → x.1 = (parentB n.path).data.toList := fun x hx e => by
    obtain ⟨i, hi, ei⟩ := List.getElem_of_mem hx
    obtain ⟨j, hj, ej⟩ := List.getElem_of_mem hmem
    have hp := List.pairwise_iff_getElem.1 h.apart
    have : i = j := by
      rcases Nat.lt_trichotomy i j with hlt | he | hlt
      · exact absurd (by rw [ei, ej]; exact e) (hp i j hi hj hlt)
      · exact he
      · exact absurd (by rw [ei, ej]; exact e.symm) (hp j i hj hi hlt)
    subst this
    rw [ei] at ej
    rw [ej]
  refine ⟨h.map.keep (turned_other hT hE.2.2.1.symm), by have := h.len; omega, fun x hx => ?_, h.apart, fun p hp => ?_⟩
  · obtain ⟨h1, h2, h3, h4⟩ := h.each x hx
    refine ⟨h1, h2, h3, ?_⟩
    by_cases e : x.2 = b
    · have hk := hap x hx e
      rw [hk, key_bytes, kids_put hM hn hne, if_pos hc, e]
      exact hs
    · rw [hno _ (fun e1 => e (by
        have : x.1 = (parentB n.path).data.toList := by rw [← e1, key_back]
        have h5 := mget_of_mem (SMap.sorted (Maps.string_keyed strT) h.map) (k := x.1) (v := .map (some x.2)) (List.mem_map.2 ⟨x, hx, rfl⟩)
        rw [kidsV_get, this, hb] at h5
        simpa using h5.symm))]
      exact h4.keep (turned_other hT e)
  · rw [hno p (fun e1 => by rw [e1, hb] at hp; cases hp)]
    exact h.rest p hp

/-- A new map is laid for the parent, and the name into it. -/
theorem KidsAt.put_new {S S' : Nat → Prop} {w w1 w2 w3 : World} {bn bk : Nat} {K : List (Key × Nat)} {M : List (Key × Nd)} {N g : Nat} (h : KidsAt S w bn bk K M N) (hM : MOk M) {n : Nd} (hn : rightN n = 0) (hne : mget M (keyN n) = none) (hroot : n.path.size ≠ 1)
    (hb : mget K (parentB n.path).data.toList = none) (hS : ∀ k, S k → S' k) (hg : S' g) (hgs : ∀ k, S k → k ≠ g) (hbn : S bn) (hbk : S bk)
    (he1 : ∀ k, S k → w1.heap[k]? = w.heap[k]?) (hT2 : w1.mapTurned w2 bk) (hs2 : SMap Tryz.prog 9 w2 bk (mput (kidsV K) (parentB n.path).data.toList (.map (some g))))
    (hT3 : w2.mapTurned w3 g) (hs3 : SMap Tryz.prog 9 w3 g (mput [] (nameB n.path).data.toList (.agg #[]))) :
    KidsAt S' w3 bn bk (mput K (parentB n.path).data.toList g) (mput M (keyN n) n) (N + 1) := by
  have hc : childOf (parentB n.path) n = true := childOf_iff.2 ⟨hroot, rfl⟩
  have hno : ∀ p, p ≠ parentB n.path → kidsOf (mput M (keyN n) n) p = kidsOf M p := fun p hp => by
    rw [kids_put hM hn hne p, if_neg (fun hc => hp (childOf_iff.1 hc).2.symm)]
  have hgk : bk ≠ g := hgs _ hbk
  have hgn : bn ≠ g := hgs _ hbn
  refine ⟨?_, ?_, fun x hx => ?_, ?_, fun p hp => ?_⟩
  · unfold kidsV
    rw [mput_map (fun b => Value.map (some b))]
    exact hs2.keep (turned_other hT3 hgk)
  · have h1 : (mput K (parentB n.path).data.toList g).length ≤ K.length + 1 := by
      unfold mput; rw [mins_length]; exact Nat.succ_le_succ (List.length_filter_le _ _)
    have := h.len
    omega
  · rcases mem_mput.1 hx with rfl | ⟨hx, hne'⟩
    · refine ⟨hg, fun e => hgn e.symm, fun e => hgk e.symm, ?_⟩
      simp only
      rw [key_bytes, kids_put hM hn hne, if_pos hc, h.rest _ hb]
      exact hs3
    · obtain ⟨h1, h2, h3, h4⟩ := h.each x hx
      refine ⟨hS _ h1, h2, h3, ?_⟩
      rw [hno _ (fun e1 => hne' (by rw [← e1, key_back]))]
      exact h4.keep ((turned_other hT3 (hgs _ h1)).trans ((turned_other hT2 h3).trans (he1 _ h1)))
  · have hnew : ∀ x ∈ K, x.2 ≠ g := fun x hx => hgs _ (h.each x hx).1
    have hall : ∀ (l : List (Key × Nat)), l.Pairwise (fun x y => x.2 ≠ y.2) → (∀ x ∈ l, x.2 ≠ g) → (mins ((parentB n.path).data.toList, g) l).Pairwise fun x y => x.2 ≠ y.2 := by
      intro l
      induction l with
      | nil => intro _ _; simp [mins]
      | cons y r ih =>
        intro hp hl
        obtain ⟨p1, p2⟩ := List.pairwise_cons.1 hp
        unfold mins
        split
        · exact List.pairwise_cons.2 ⟨fun z hz => (hl z hz).symm, hp⟩
        · refine List.pairwise_cons.2 ⟨fun z hz => ?_, ih p2 fun z hz => hl z (by simp [hz])⟩
          rcases mem_mins.1 hz with rfl | hz
          · exact hl y (by simp)
          · exact p1 z hz
    exact hall _ (h.apart.filter _) fun x hx => hnew x (mem_mdel.1 hx).1
  · have hp1 : p ≠ parentB n.path := by
      rintro rfl
      exact mget_none hp _ (mem_mput.2 (.inl rfl)) rfl
    rw [hno p hp1]
    refine h.rest p ?_
    refine mget_none_of fun x hx => ?_
    exact mget_none hp x (mem_mput.2 (.inr ⟨hx, fun e => (mget_none hb x hx e).elim⟩))
end Go.Proofs.YtclekhjnnljjlaaGreatDoor
namespace Go.Proofs.YtclekhjnnljjlaaGreatDoor
open Go.RowKit
variable {P : Program} {ops : Array Oper} {Q : Exit → Act → World → Prop} {Φ : Nat → Value → World → Prop} {a0 : Act} {w0 : World}

theorem wp_value {o : Oper} {a : Act} {w w' : World} {K : Act → World → Prop} {v : Value} (h : (execOp a.eval o).run P w = .ok (.value v) w') (hk : K (a.put o.dst v) w') : o.wp P a w K Q := by
  unfold Oper.wp; rw [h]; exact hk
theorem wp_enter {o : Oper} {a : Act} {w : World} {K : Act → World → Prop} {f : FuncId} {args : Array Value} {R : Ending → World → Prop} (h : (execOp a.eval o).run P w = .ok (.enter f args) w) (hc : Calls P f args w R)
    (hR : ∀ e w', R e w' → ∃ v, e = .returned v ∧ K (a.put o.dst v) w') : o.wp P a w K Q := by
  unfold Oper.wp; rw [h]
  refine hc.mono fun e w' hr => ?_
  obtain ⟨v, rfl, hk⟩ := hR e w' hr
  exact hk

/-- An operation without a guard. -/
theorem duty_free {i : Nat} {o : Oper} (hg : o.guard = none) (h : ∀ a w, Ext w0 w → Framed ops a0 a → Ahead ops Φ o a w → o.wp P a w (fun a' w' => ∃ v, a' = a.put o.dst v ∧ Φ i v w' ∧ Ext w w') Q) : Duty P ops Q Φ a0 w0 i o := by
  intro a w hE hF hA
  have : Region.wanted o (yielded ops a.tmps) = true := by unfold Region.wanted; rw [hg]
  rw [if_pos this]
  exact h a w hE hF hA

/-- An operation whose guard says yes. -/
theorem duty_yes {i j : Nat} {b : Bool} {o p : Oper} {d : Tmp} (hg : o.guard = some (j, b)) (hp : ops[j]? = some p) (hd : p.dst = some d) (hin : d < a0.tmps.size) (he : ∃ e ∈ o.after.toList, e.on = j ∧ Region.binds .any e = true)
    (hv : ∀ v w, Φ j v w → v = .bool b) (h : ∀ a w, Ext w0 w → Framed ops a0 a → Ahead ops Φ o a w → o.wp P a w (fun a' w' => ∃ v, a' = a.put o.dst v ∧ Φ i v w' ∧ Ext w w') Q) : Duty P ops Q Φ a0 w0 i o := by
  intro a w hE hF hA
  obtain ⟨e, hem, rfl, heb⟩ := he
  have hval := hv _ _ (hA e hem heb p hp)
  have : Region.wanted o (yielded ops a.tmps) = true := by
    unfold Region.wanted
    rw [hg]
    have hlt : d < a.tmps.size := by rw [hF.2.1]; exact hin
    unfold valOf at hval
    rw [hd] at hval
    simp only [Array.getD_eq_getD_getElem?, Array.getElem?_eq_getElem hlt, Option.getD_some] at hval
    simp [yielded, hp, hd, Array.getElem?_eq_getElem hlt, hval]
  rw [if_pos this]
  exact h a w hE hF hA

/-- What an operation with a slot has left there. -/
theorem Ahead.slot {o p : Oper} {a : Act} {w : World} (h : Ahead ops Φ o a w) (j : Nat) (d : Tmp) (hp : ops[j]? = some p) (hd : p.dst = some d) (he : ∃ e ∈ o.after.toList, e.on = j ∧ Region.binds .any e = true) : Φ j (a.eval (.tmp d)) w := by
  obtain ⟨e, hem, rfl, heb⟩ := he
  have := h e hem heb p hp
  unfold valOf at this
  rw [hd] at this
  exact this

/-- A slot that no operation writes. -/
theorem Framed.slot {a : Act} (h : Framed ops a0 a) (t : Tmp) (v : Value) (ht : (ops.toList.all fun o => o.dst != some t) = true) (hv : a0.tmps.getD t undef = v) : a.eval (.tmp t) = v := by
  have := h.2.2 t (fun o ho e => by have := List.all_eq_true.1 ht o ho; rw [e] at this; simp at this)
  exact this.trans hv

theorem ex_move {o : Oper} {a : Act} {w : World} {x : Operand} (ho : o.op = .move x) : (execOp a.eval o).run P w = .ok (.value (a.eval x)) w := by simp [execOp, ho]
theorem ex_assign {o : Oper} {a : Act} {w : World} {x : Operand} (ho : o.op = .assign x) : (execOp a.eval o).run P w = .ok (.value (a.eval x)) w := by simp [execOp, ho]
theorem ex_pick {o : Oper} {a : Act} {w : World} {c x y : Operand} {b : Bool} (ho : o.op = .pick c x y) (hc : a.eval c = .bool b) : (execOp a.eval o).run P w = .ok (.value (if b then a.eval x else a.eval y)) w := by
  cases b <;> simp [execOp, ho, hc, asBool]
theorem ex_call {o : Oper} {a : Act} {w : World} {f : FuncId} {args : Array Operand} {ts : Array TypeId} (ho : o.op = .call { callee := .value (.func f), args := args, argTypes := ts })
    (hen : ∀ args w, (callFunc f args).run P w = .ok (.enter f args) w) : (execOp a.eval o).run P w = .ok (.enter f (args.map a.eval)) w := by
  simp [execOp, ho, resolve, invoke, Act.eval, hen, Deferred.ofValue]

theorem Cells.ext {w w' : World} {a : Option Addr} {xs : List Value} (h : Cells w.heap.size w a xs) (he : Ext w w') : Cells w'.heap.size w' a xs := (h.below he).mono he.size
theorem ex_append {P : Program} {o : Oper} {a : Act} {w w' : World} {s x : Operand} {t tx : TypeId} {v : Value} (ho : o.op = .call { callee := .builtin .append, args := #[s, x], argTypes := #[t, tx] })
    (h : (Builtin.append_ #[t, tx] o.type #[a.eval s, a.eval x]).run P w = .ok v w') : (execOp a.eval o).run P w = .ok (.value v) w' := by
  unfold execOp
  simp only [ho, resolve, invoke, builtin, Sem.run_bind, Sem.run_pure, Result.andThen_ok, List.map_toArray, List.map_cons, List.map_nil, h]

theorem ex_load_row {P : Program} {o : Oper} {a : Act} {w : World} {ty : TypeId} {x : Operand} (ho : o.op = .load ty x) (g : Nat) (hx : a.eval x = .pointer (some ⟨g, 0, none⟩)) (t : TypeId) (cs : Array Value) (fr : Nat × Nat) (d : TypeDesc) (hg : w.heap[g]? = some (.cells cs t fr))
    (hu : P.underlying ty = some d) (hd : (match d with | .struct _ | .array _ _ => true | _ => false) = true) (hi : (P.info? ty).map (·.size) = some cs.size) : (execOp a.eval o).run P w = .ok (.value (.agg cs)) w := by
  unfold execOp
  simp only [ho, hx, Instr.loadAt, Instr.sureAddr, Sem.run_bind, Sem.run_pure, Result.andThen_ok, run_loadVar_row w g t ty cs fr d hg hu hd hi]
end Go.Proofs.YtclekhjnnljjlaaGreatDoor
namespace Go.Proofs.YtclekhjnnljjlaaGreatDoor
open Go.RowKit
variable {P : Program} {ops : Array Oper} {Q : Exit → Act → World → Prop}

theorem ready_iff {l : Array Bool} {i : Nat} (hs : l.size = ops.size) : i ∈ Region.ready .any ops l ↔ ∃ h : i < ops.size, l.getD i false = false ∧ ∀ e ∈ (ops[i]).after.toList, Region.binds .any e = true → l.getD e.on false = true := by
  unfold Region.ready
  simp only [List.mem_filter, List.mem_range, Bool.and_eq_true, Bool.not_eq_true']
  constructor
  · rintro ⟨hlt, hu, hpre⟩
    refine ⟨hlt, ?_, fun e he hb => ?_⟩
    · have hl : i < l.size := by omega
      rw [Array.getD_eq_getD_getElem?, Array.getElem?_eq_getElem hl] at hu ⊢
      simpa using hu
    · rw [Array.getElem?_eq_getElem hlt] at hpre
      simp only [Option.map_some, Option.getD_some, Array.all_eq_true'] at hpre
      have := hpre e (by simpa using he)
      simpa [hb] using this
  · rintro ⟨hlt, hu, hpre⟩
    refine ⟨hlt, ?_, ?_⟩
    · have hl : i < l.size := by omega
      rw [Array.getD_eq_getD_getElem?, Array.getElem?_eq_getElem hl] at hu ⊢
      simpa using hu
    · rw [Array.getElem?_eq_getElem hlt]
      simp only [Option.map_some, Option.getD_some, Array.all_eq_true']
      intro e he
      cases hb : Region.binds .any e with
      | false => simp
      | true => simp [hpre e (by simpa using he) hb]

/-- Each operation waits for earlier ones alone. -/
def aheadB (ops : Array Oper) : Bool := ops.toList.zipIdx.all fun x => x.1.after.toList.all fun e => !Region.binds .any e || decide (e.on < x.2)

/-- Where nothing is ready all is done. -/
theorem ready_none {l : Array Bool} (hs : l.size = ops.size) (hacy : aheadB ops = true) (hr : Region.ready .any ops l = []) : ∀ n i, i < n → i < ops.size → l.getD i false = true := by
  intro n
  induction n with
  | zero => intro i h; omega
  | succ n ih =>
    intro i hn hi
    cases hl : l.getD i false with
    | true => rfl
    | false =>
      exfalso
      have hmem : i ∈ Region.ready .any ops l := by
        rw [ready_iff hs]
        refine ⟨hi, hl, fun e he hb => ?_⟩
        have hac := List.all_eq_true.1 hacy (ops[i], i) (List.mem_zipIdx_iff_getElem?.2 (by simp))
        have := List.all_eq_true.1 hac e (by simpa using he)
        have hlt : e.on < i := by simpa [hb] using this
        exact ih e.on (by omega) (by omega)
      rw [hr] at hmem
      cases hmem

/-- What a step's new value makes of the frame. -/
theorem framed_put {a0 a : Act} {o : Oper} (hF : Framed ops a0 a) (hmem : o ∈ ops.toList) (v : Value) : Framed ops a0 (a.put o.dst v) := by
  refine ⟨?_, ?_, fun t ht => ?_⟩
  · unfold Act.put; split <;> exact hF.1
  · unfold Act.put; split
    · simpa using hF.2.1
    · exact hF.2.1
  · rw [← hF.2.2 t ht]
    have := ht o hmem
    unfold Act.put
    cases hdd : o.dst with
    | none => rfl
    | some d =>
      have hne : d ≠ t := fun e => this (by rw [hdd, e])
      simp [Array.getD_eq_getD_getElem?, hne]

theorem getD_set_other {l : Array Bool} {i j : Nat} (h : j ≠ i) : (l.setIfInBounds i true).getD j false = l.getD j false := by
  simp [Array.getD_eq_getD_getElem?, Array.getElem?_setIfInBounds, Ne.symm h]
theorem getD_set_same {l : Array Bool} {i : Nat} (h : i < l.size) : (l.setIfInBounds i true).getD i false = true := by
  simp [Array.getD_eq_getD_getElem?, h]

/-- Each operation but the last has one that waits for it. -/
def coverOk (ops : Array Oper) : Bool := (List.range (ops.size - 1)).all fun i => ops.toList.zipIdx.any fun x => decide (i < x.2) && x.1.after.toList.any fun e => e.on == i && Region.binds .any e

theorem region_last {a0 : Act} {w0 : World} (m : Nat) (Φ : Nat → Value → World → Prop)
    (hstab : ∀ i v w w', Φ i v w → Ext w w' → Φ i v w') (hchk : (dstsOk ops && aheadB ops && coverOk ops && ((ops.toList.take (ops.size - 1)).all fun o => o.dst.any fun d => decide (d < m))) = true) (hsz : a0.tmps.size = m)
    (k : Nat) (ol : Oper) (hk : ops[k]? = some ol) (hks : ops.size = k + 1) (hg : ol.guard = none)
    (hd : Duties P ops Q Φ a0 w0 0 (ops.toList.take k))
    (hlast : ∀ a w, Ext w0 w → Framed ops a0 a → (∀ i o, i < k → ops[i]? = some o → Φ i (valOf o a) w) → ol.wp P a w (fun a' w' => Q .normal a' w') Q) :
    RegionP P ops Q a0 w0 := by
  simp only [Bool.and_eq_true] at hchk
  obtain ⟨⟨⟨hdst, hacy⟩, hcov⟩, hin⟩ := hchk
  rw [hks, Nat.add_sub_cancel] at hin
  have hdn : (ops.toList.filterMap (·.dst)).Nodup := by simpa [dstsOk] using hdst
  unfold RegionP
  refine wpAny_inv (fun l a w => l.size = ops.size ∧ ((l.getD k false = false ∧ Ext w0 w ∧ Framed ops a0 a ∧ (∀ i o, i < k → ops[i]? = some o → l.getD i false = true → Φ i (valOf o a) w) ∧
      (∀ (i : Nat) o, ops[i]? = some o → l.getD i false = true → ∀ e ∈ o.after.toList, Region.binds .any e = true → l.getD e.on false = true)) ∨ ((∀ i, i < ops.size → l.getD i false = true) ∧ Q .normal a w))) (fun _ _ _ h => h.1) ?_ ?_ _ _ _ _ ?_ ?_
  · rintro l a w i ⟨hs, hJ⟩ hi
    obtain ⟨hlt, hu, hpre⟩ := (ready_iff hs).1 hi
    have hJ' := hJ.resolve_right (fun h => by rw [h.1 i hlt] at hu; cases hu)
    obtain ⟨hlk, hE, hF, hP, hC⟩ := hJ'
    have ho : ops[i]? = some ops[i] := Array.getElem?_eq_getElem hlt
    have hmem : ops[i] ∈ ops.toList := by simp
    by_cases hik : i = k
    · subst hik
      rw [ho] at hk
      obtain rfl := Option.some.inj hk
      have hothers : ∀ d j, j < i → i - j ≤ d → l.getD j false = true := by
        intro d
        induction d with
        | zero => intro j h1 h2; omega
        | succ d ih =>
          intro j h1 h2
          have := List.all_eq_true.1 hcov j (by rw [List.mem_range]; omega)
          obtain ⟨x, hx, hx2⟩ := List.any_eq_true.1 this
          simp only [Bool.and_eq_true, decide_eq_true_eq, List.any_eq_true, beq_iff_eq] at hx2
          obtain ⟨hjx, e, he, hej, heb⟩ := hx2
          have hxo : ops[x.2]? = some x.1 := by simpa using List.mem_zipIdx_iff_getElem?.1 hx
          have hxlt : x.2 < ops.size := (Array.getElem?_eq_some_iff.1 hxo).1
          by_cases hxi : x.2 = i
          · rw [hxi, ho] at hxo
            have := hpre e (by rw [Option.some.inj hxo]; exact he) heb
            rwa [hej] at this
          · have := hC x.2 x.1 hxo (ih x.2 (by omega) (by omega)) e he heb
            rwa [hej] at this
      have hgo := hlast a w hE hF (fun j o hj hjo => hP j o hj hjo (hothers i j hj (by omega)))
      unfold wpOpP
      rw [ho]
      simp only []
      have hw : Region.wanted ops[i] (yielded ops a.tmps) = true := by unfold Region.wanted; rw [hg]
      rw [if_pos hw]
      refine Oper.wp_mono (fun a' w' h => ?_) hgo
      refine ⟨by simpa using hs, .inr ⟨fun j hj => ?_, h⟩⟩
      by_cases hji : j = i
      · subst hji; exact getD_set_same (by omega)
      · rw [getD_set_other hji]; exact hothers i j (by omega) (by omega)
    · have hol : (ops.toList.take k)[i]? = some ops[i] := by rw [List.getElem?_take]; simp; omega
      have hduty := hd.at i ops[i] hol
      rw [Nat.zero_add] at hduty
      have hah : Ahead ops Φ ops[i] a w := fun e he hb p hp => by
        have hac := List.all_eq_true.1 hacy (ops[i], i) (List.mem_zipIdx_iff_getElem?.2 (by simp))
        have := List.all_eq_true.1 hac e (by simpa using he)
        have hlt' : e.on < i := by simpa [hb] using this
        exact hP e.on p (by omega) hp (hpre e he hb)
      have hgo := hduty a w hE hF hah
      have next : ∀ v w', Φ i v w' → Ext w w' → (l.setIfInBounds i true).size = ops.size ∧ (((l.setIfInBounds i true).getD k false = false ∧ Ext w0 w' ∧ Framed ops a0 (a.put ops[i].dst v) ∧ (∀ j o, j < k → ops[j]? = some o → (l.setIfInBounds i true).getD j false = true → Φ j (valOf o (a.put ops[i].dst v)) w') ∧
          (∀ (j : Nat) o, ops[j]? = some o → (l.setIfInBounds i true).getD j false = true → ∀ e ∈ o.after.toList, Region.binds .any e = true → (l.setIfInBounds i true).getD e.on false = true)) ∨ ((∀ j, j < ops.size → (l.setIfInBounds i true).getD j false = true) ∧ Q .normal (a.put ops[i].dst v) w')) := by
        intro v w' hv hE'
        refine ⟨by simpa using hs, .inl ⟨by rw [getD_set_other (Ne.symm hik)]; exact hlk, hE.trans hE', framed_put hF hmem v, fun j o hj hjo hlj => ?_, fun j o hjo hlj e he hb => ?_⟩⟩
        · by_cases e : j = i
          · subst e
            rw [ho] at hjo
            obtain rfl := Option.some.inj hjo
            have hod := List.all_eq_true.1 hin ops[j] (List.mem_of_getElem? hol)
            rw [valOf_put_same (fun d hd => by rw [hF.2.1, hsz]; rw [hd] at hod; simpa using hod) (fun h => by rw [h] at hod; cases hod)]
            exact hv
          · rw [getD_set_other e] at hlj
            rw [valOf_put_other (fun d hd h => e (dst_inj ops.toList hdn j i o ops[i] d (by simpa using hjo) (by simp) hd h))]
            exact hstab _ _ _ _ (hP j o hj hjo hlj) hE'
        · by_cases e1 : e.on = i
          · rw [e1]; exact getD_set_same (by omega)
          · rw [getD_set_other e1]
            by_cases e2 : j = i
            · subst e2
              rw [ho] at hjo
              obtain rfl := Option.some.inj hjo
              exact hpre e he hb
            · rw [getD_set_other e2] at hlj
              exact hC j o hjo hlj e he hb
      unfold wpOpP
      rw [ho]
      simp only []
      by_cases hw : Region.wanted ops[i] (yielded ops a.tmps) = true
      · rw [if_pos hw] at hgo ⊢
        refine Oper.wp_mono (fun a' w' h => ?_) hgo
        obtain ⟨v, rfl, hv, hE'⟩ := h
        exact next v w' hv hE'
      · rw [if_neg hw] at hgo ⊢
        exact next undef w hgo (Ext.refl w)
  · rintro l a w ⟨hs, hJ⟩ hr
    rcases hJ with ⟨hlk, _⟩ | ⟨_, hq⟩
    · rw [ready_none hs hacy hr (k + 1) k (by omega) (by omega)] at hlk
      cases hlk
    · exact hq
  · refine ⟨by simp, .inl ⟨?_, Ext.drew w0, ⟨rfl, rfl, fun _ _ => rfl⟩, fun i o _ _ h => ?_, fun i o _ h => ?_⟩⟩
    · simp [Array.getD_eq_getD_getElem?, Array.getElem?_replicate]; split <;> simp
    · simp [Array.getD_eq_getD_getElem?, Array.getElem?_replicate] at h; split at h <;> simp at h
    · simp [Array.getD_eq_getD_getElem?, Array.getElem?_replicate] at h; split at h <;> simp at h
  · unfold unlisted
    exact Nat.le_trans (List.count_le_length) (by simp)

/-- An operation's duty, over any relation. -/
def DutyR (Rl : World → World → Prop) (P : Program) (ops : Array Oper) (Q : Exit → Act → World → Prop) (Φ : Nat → Value → World → Prop) (a0 : Act) (w0 : World) (i : Nat) (o : Oper) : Prop :=
  ∀ a w, Rl w0 w → Framed ops a0 a → Ahead ops Φ o a w →
    if Region.wanted o (yielded ops a.tmps) then o.wp P a w (fun a' w' => ∃ v, a' = a.put o.dst v ∧ Φ i v w' ∧ Rl w w') Q else Φ i undef w
def DutiesR (Rl : World → World → Prop) (P : Program) (ops : Array Oper) (Q : Exit → Act → World → Prop) (Φ : Nat → Value → World → Prop) (a0 : Act) (w0 : World) : Nat → List Oper → Prop
  | _, [] => True
  | i, o :: l => DutyR Rl P ops Q Φ a0 w0 i o ∧ DutiesR Rl P ops Q Φ a0 w0 (i + 1) l
theorem DutiesR.at {Rl : World → World → Prop} {Φ : Nat → Value → World → Prop} {a0 : Act} {w0 : World} : ∀ {l : List Oper} {k : Nat}, DutiesR Rl P ops Q Φ a0 w0 k l → ∀ i o, l[i]? = some o → DutyR Rl P ops Q Φ a0 w0 (k + i) o
  | [], _, _, i, o, h => by simp at h
  | p :: l, k, hd, 0, o, h => by simp at h; subst h; exact hd.1
  | p :: l, k, hd, i + 1, o, h => by
    have := DutiesR.at (k := k + 1) hd.2 i o (by simpa using h)
    rwa [show k + 1 + i = k + (i + 1) from by omega] at this

theorem region_rel {a0 : Act} {w0 : World} (m : Nat) (Rl : World → World → Prop) (hRr : ∀ w, Rl w w) (hRt : ∀ a b c, Rl a b → Rl b c → Rl a c) (hRd : ∀ w, Rl w w.drew)
    (Φ : Nat → Value → World → Prop)
    (hstab : ∀ i v w w', Φ i v w → Rl w w' → Φ i v w') (hund : ∀ i v w, Φ i v w → (ops[i]?.any fun o => o.dst.isNone) = true → Φ i undef w)
    (hchk : (dstsOk ops && aheadB ops && (ops.toList.all fun o => o.dst.all fun d => decide (d < m))) = true) (hsz : a0.tmps.size = m)
    (hd : DutiesR Rl P ops Q Φ a0 w0 0 ops.toList)
    (hend : ∀ a w, Rl w0 w → Framed ops a0 a → (∀ i o, ops[i]? = some o → Φ i (valOf o a) w) → Q .normal a w) :
    RegionP P ops Q a0 w0 := by
  simp only [Bool.and_eq_true] at hchk
  obtain ⟨⟨hdst, hacy⟩, hin⟩ := hchk
  have hdn : (ops.toList.filterMap (·.dst)).Nodup := by simpa [dstsOk] using hdst
  unfold RegionP
  refine wpAny_inv (fun l a w => l.size = ops.size ∧ Rl w0 w ∧ Framed ops a0 a ∧ ∀ i o, ops[i]? = some o → l.getD i false = true → Φ i (valOf o a) w) (fun _ _ _ h => h.1) ?_ ?_ _ _ _ _ ?_ ?_
  · rintro l a w i ⟨hs, hE, hF, hP⟩ hi
    obtain ⟨hlt, hu, hpre⟩ := (ready_iff hs).1 hi
    have ho : ops[i]? = some ops[i] := Array.getElem?_eq_getElem hlt
    have hol : ops.toList[i]? = some ops[i] := by simp
    have hduty := hd.at i ops[i] hol
    rw [Nat.zero_add] at hduty
    have hgo := hduty a w hE hF (fun e he hb p hp => hP e.on p hp (hpre e he hb))
    have hmem : ops[i] ∈ ops.toList := by simp
    have next : ∀ v w', Φ i v w' → Rl w w' → (l.setIfInBounds i true).size = ops.size ∧ Rl w0 w' ∧ Framed ops a0 (a.put ops[i].dst v) ∧ ∀ j o, ops[j]? = some o → (l.setIfInBounds i true).getD j false = true → Φ j (valOf o (a.put ops[i].dst v)) w' := by
      intro v w' hv hE'
      refine ⟨by simpa using hs, hRt _ _ _ hE hE', framed_put hF hmem v, fun j o hj hlj => ?_⟩
      by_cases e : j = i
      · subst e
        rw [ho] at hj
        obtain rfl := Option.some.inj hj
        by_cases hdd : ops[j].dst = none
        · have : valOf ops[j] (a.put ops[j].dst v) = undef := by unfold valOf; rw [hdd]
          rw [this]
          exact hund j v w' hv (by rw [ho]; simp [hdd])
        · rw [valOf_put_same (fun d hd => by rw [hF.2.1, hsz]; have := List.all_eq_true.1 hin _ hmem; rw [hd] at this; simpa using this) (fun h => absurd h hdd)]
          exact hv
      · rw [getD_set_other e] at hlj
        rw [valOf_put_other (fun d hd h => e (dst_inj ops.toList hdn j i o ops[i] d (by simpa using hj) hol hd h))]
        exact hstab _ _ _ _ (hP j o hj hlj) hE'
    unfold wpOpP
    rw [ho]
    simp only []
    by_cases hw : Region.wanted ops[i] (yielded ops a.tmps) = true
    · rw [if_pos hw] at hgo ⊢
      refine Oper.wp_mono (fun a' w' h => ?_) hgo
      obtain ⟨v, rfl, hv, hE'⟩ := h
      exact next v w' hv hE'
    · rw [if_neg hw] at hgo ⊢
      exact next undef w hgo (hRr w)
  · rintro l a w ⟨hs, hE, hF, hP⟩ hr
    exact hend a w hE hF (fun i o ho => hP i o ho (ready_none hs hacy hr (i + 1) i (by omega) (Array.getElem?_eq_some_iff.1 ho).1))
  · exact ⟨by simp, hRd w0, ⟨rfl, rfl, fun _ _ => rfl⟩, fun i o _ h => by simp [Array.getD_eq_getD_getElem?, Array.getElem?_replicate] at h; split at h <;> simp at h⟩
  · unfold unlisted
    exact Nat.le_trans (List.count_le_length) (by simp)

theorem dutyR_free {Rl : World → World → Prop} {Φ : Nat → Value → World → Prop} {a0 : Act} {w0 : World} {i : Nat} {o : Oper} (hg : o.guard = none) (h : ∀ a w, Rl w0 w → Framed ops a0 a → Ahead ops Φ o a w → o.wp P a w (fun a' w' => ∃ v, a' = a.put o.dst v ∧ Φ i v w' ∧ Rl w w') Q) : DutyR Rl P ops Q Φ a0 w0 i o := by
  intro a w hE hF hA
  have : Region.wanted o (yielded ops a.tmps) = true := by unfold Region.wanted; rw [hg]
  rw [if_pos this]
  exact h a w hE hF hA
/-- The frame behind a region, each operation's value in its slot. -/
def filled (l : List Oper) (us : List Value) (a0 : Act) : Act := (l.zip us).foldl (fun b x => b.put x.1.dst x.2) a0

theorem put_getD (a : Act) (d : Tmp) (v : Value) (t : Tmp) (hd : d < a.tmps.size) : (a.put (some d) v).tmps.getD t undef = if t = d then v else a.tmps.getD t undef := by
  unfold Act.put
  simp only [Array.getD_eq_getD_getElem?, Array.getElem?_setIfInBounds]
  by_cases h : d = t
  · subst h; simp [hd]
  · rw [if_neg h, if_neg (fun e => h e.symm)]
theorem put_size (a : Act) (d : Option Tmp) (v : Value) : (a.put d v).tmps.size = a.tmps.size := by
  unfold Act.put; cases d <;> simp
theorem put_none (a : Act) (v : Value) : a.put none v = a := rfl
theorem put_defers (a : Act) (d : Option Tmp) (v : Value) : (a.put d v).defers = a.defers := by
  unfold Act.put; cases d <;> rfl

theorem filled_spec (a : Act) : ∀ (l : List Oper) (b : Act), (∀ o ∈ l, ∀ d, o.dst = some d → d < b.tmps.size) →
    (filled l (l.map fun o => valOf o a) b).tmps.size = b.tmps.size ∧ (filled l (l.map fun o => valOf o a) b).defers = b.defers ∧
    ∀ t, (filled l (l.map fun o => valOf o a) b).tmps.getD t undef = if (l.any fun o => o.dst == some t) = true then a.tmps.getD t undef else b.tmps.getD t undef
  | [], b, _ => ⟨rfl, rfl, fun t => by simp [filled]⟩
  | o :: l, b, h => by
    have ih := filled_spec a l (b.put o.dst (valOf o a)) (fun o' ho d hd => by rw [put_size]; exact h o' (by simp [ho]) d hd)
    have e : filled (o :: l) ((o :: l).map fun o => valOf o a) b = filled l (l.map fun o => valOf o a) (b.put o.dst (valOf o a)) := rfl
    rw [e]
    refine ⟨ih.1.trans (put_size _ _ _), ih.2.1.trans (put_defers _ _ _), fun t => ?_⟩
    rw [ih.2.2 t]
    by_cases h1 : (l.any fun o => o.dst == some t) = true
    · rw [if_pos h1, if_pos (by simp only [List.any_cons, h1, Bool.or_true])]
    · rw [if_neg h1]
      cases hd : o.dst with
      | none =>
        rw [if_neg (by simp only [List.any_cons, hd]; simpa using h1)]
        simp only [Act.put]
      | some d =>
        rw [put_getD _ _ _ _ (h o (by simp) d hd)]
        by_cases htd : t = d
        · subst htd
          rw [if_pos rfl, if_pos (by simp [hd])]
          unfold valOf; rw [hd]
        · rw [if_neg htd, if_neg]
          simp only [List.any_cons, hd, Bool.or_eq_true, not_or]
          exact ⟨by simpa using fun e => htd e.symm, h1⟩

theorem act_ext {a b : Act} (hd : a.defers = b.defers) (hs : a.tmps.size = b.tmps.size) (ht : ∀ t, a.tmps.getD t undef = b.tmps.getD t undef) : a = b := by
  obtain ⟨ta, da⟩ := a
  obtain ⟨tb, db⟩ := b
  simp only at hd hs ht
  subst hd
  congr 1
  refine Array.ext hs fun i h1 h2 => ?_
  have := ht i
  rw [Array.getD_eq_getD_getElem?, Array.getD_eq_getD_getElem?, Array.getElem?_eq_getElem h1, Array.getElem?_eq_getElem h2] at this
  exact this

theorem framed_filled {a0 a : Act} (hF : Framed ops a0 a) (l : List Oper) (hl : ∀ o ∈ l, o ∈ ops.toList) (hr : ∀ o ∈ ops.toList, o ∈ l ∨ o.dst = none) (hin : ∀ o ∈ l, ∀ d, o.dst = some d → d < a0.tmps.size) : a = filled l (l.map fun o => valOf o a) a0 := by
  have hs := filled_spec a l a0 hin
  refine act_ext (hF.1.trans hs.2.1.symm) (hF.2.1.trans hs.1.symm) fun t => ?_
  rw [hs.2.2 t]
  split
  · rfl
  · rename_i h
    refine hF.2.2 t fun o ho e => h ?_
    rcases hr o ho with h1 | h1
    · exact List.any_eq_true.2 ⟨o, h1, by simp [e]⟩
    · rw [h1] at e; cases e

theorem region_rel_e {a0 : Act} {w0 : World} (m : Nat) (Rl : World → World → Prop) (hRr : ∀ w, Rl w w) (hRt : ∀ a b c, Rl a b → Rl b c → Rl a c) (hRd : ∀ w, Rl w w.drew)
    (Φ : Nat → Value → World → Prop)
    (hstab : ∀ i v w w', Φ i v w → Rl w w' → Φ i v w') (hund : ∀ i v w, Φ i v w → (ops[i]?.any fun o => o.dst.isNone) = true → Φ i undef w)
    (hchk : (dstsOk ops && aheadB ops && (ops.toList.all fun o => o.dst.all fun d => decide (d < m))) = true) (hsz : a0.tmps.size = m)
    (hd : DutiesR Rl P ops Q Φ a0 w0 0 ops.toList)
    (hend : ∀ us w, Rl w0 w → us.length = ops.toList.length → (∀ i u, us[i]? = some u → Φ i u w) → Q .normal (filled ops.toList us a0) w) :
    RegionP P ops Q a0 w0 := by
  refine region_rel m Rl hRr hRt hRd Φ hstab hund hchk hsz hd fun a w hR hF hP => ?_
  simp only [Bool.and_eq_true] at hchk
  have hin : ∀ o ∈ ops.toList, ∀ d, o.dst = some d → d < a0.tmps.size := fun o ho d hd => by
    have := List.all_eq_true.1 hchk.2 o ho
    rw [hd] at this
    rw [hsz]; simpa using this
  rw [framed_filled hF ops.toList (fun _ h => h) (fun _ h => .inl h) hin]
  refine hend _ w hR (by simp) fun i u hu => ?_
  rw [List.getElem?_map, Option.map_eq_some_iff] at hu
  obtain ⟨o, ho, rfl⟩ := hu
  exact hP i o (by simpa using ho)

theorem wp_region_rel_e {id : Nat} {a0 : Act} {w0 : World} (m : Nat) (Rl : World → World → Prop) (hRr : ∀ w, Rl w w) (hRt : ∀ a b c, Rl a b → Rl b c → Rl a c) (hRd : ∀ w, Rl w w.drew)
    (hm : P.follows .mixedOrders = true) (Φ : Nat → Value → World → Prop)
    (hstab : ∀ i v w w', Φ i v w → Rl w w' → Φ i v w') (hund : ∀ i v w, Φ i v w → (ops[i]?.any fun o => o.dst.isNone) = true → Φ i undef w)
    (hchk : (dstsOk ops && aheadB ops && (ops.toList.all fun o => o.dst.all fun d => decide (d < m))) = true) (hsz : a0.tmps.size = m)
    (hd : DutiesR Rl P ops Q Φ a0 w0 0 ops.toList)
    (hend : ∀ us w, Rl w0 w → us.length = ops.toList.length → (∀ i u, us[i]? = some u → Φ i u w) → Q .normal (filled ops.toList us a0) w) :
    (Code.region id ops true).wp P Q a0 w0 := wp_region_P hm (region_rel_e m Rl hRr hRt hRd Φ hstab hund hchk hsz hd hend)

theorem region_last_e {a0 : Act} {w0 : World} (m : Nat) (Φ : Nat → Value → World → Prop)
    (hstab : ∀ i v w w', Φ i v w → Ext w w' → Φ i v w') (hchk : (dstsOk ops && aheadB ops && coverOk ops && ((ops.toList.take (ops.size - 1)).all fun o => o.dst.any fun d => decide (d < m))) = true) (hsz : a0.tmps.size = m)
    (k : Nat) (ol : Oper) (hk : ops[k]? = some ol) (hks : ops.size = k + 1) (hg : ol.guard = none) (hdn : ol.dst = none)
    (hd : Duties P ops Q Φ a0 w0 0 (ops.toList.take k))
    (hlast : ∀ us w, Ext w0 w → us.length = (ops.toList.take k).length → (∀ i u, us[i]? = some u → Φ i u w) → ol.wp P (filled (ops.toList.take k) us a0) w (fun a' w' => Q .normal a' w') Q) :
    RegionP P ops Q a0 w0 := by
  refine region_last m Φ hstab hchk hsz k ol hk hks hg hd fun a w hE hF hP => ?_
  simp only [Bool.and_eq_true] at hchk
  have hin : ∀ o ∈ ops.toList.take k, ∀ d, o.dst = some d → d < a0.tmps.size := fun o ho d hd => by
    have := hchk.2
    rw [hks, Nat.add_sub_cancel] at this
    have := List.all_eq_true.1 this o ho
    rw [hd] at this
    rw [hsz]; simpa using this
  have hr : ∀ o ∈ ops.toList, o ∈ ops.toList.take k ∨ o.dst = none := fun o ho => by
    obtain ⟨i, hi, e⟩ := List.getElem_of_mem ho
    by_cases hik : i < k
    · left
      exact List.mem_of_getElem? (i := i) (by rw [List.getElem?_take, if_pos hik, List.getElem?_eq_getElem hi, e])
    · right
      have hi' : i = k := by simp at hi; omega
      subst hi'
      have : ops.toList[i]? = some ol := by simpa using hk
      rw [List.getElem?_eq_getElem hi, e] at this
      rw [Option.some.inj this]; exact hdn
  rw [framed_filled hF (ops.toList.take k) (fun _ h => List.mem_of_mem_take h) hr hin]
  refine hlast _ w hE (by simp) fun i u hu => ?_
  rw [List.getElem?_map, Option.map_eq_some_iff] at hu
  obtain ⟨o, ho, rfl⟩ := hu
  have hik : i < k := by
    have := (List.getElem?_eq_some_iff.1 ho).1
    simp at this; omega
  rw [List.getElem?_take, if_pos hik] at ho
  exact hP i o hik (by simpa using ho)
theorem wp_region_last_e {id : Nat} {a0 : Act} {w0 : World} (m : Nat) (hm : P.follows .mixedOrders = true) (Φ : Nat → Value → World → Prop)
    (hstab : ∀ i v w w', Φ i v w → Ext w w' → Φ i v w') (hchk : (dstsOk ops && aheadB ops && coverOk ops && ((ops.toList.take (ops.size - 1)).all fun o => o.dst.any fun d => decide (d < m))) = true) (hsz : a0.tmps.size = m)
    (k : Nat) (ol : Oper) (hk : ops[k]? = some ol) (hks : ops.size = k + 1) (hg : ol.guard = none) (hdn : ol.dst = none)
    (hd : Duties P ops Q Φ a0 w0 0 (ops.toList.take k))
    (hlast : ∀ us w, Ext w0 w → us.length = (ops.toList.take k).length → (∀ i u, us[i]? = some u → Φ i u w) → ol.wp P (filled (ops.toList.take k) us a0) w (fun a' w' => Q .normal a' w') Q) :
    (Code.region id ops true).wp P Q a0 w0 := wp_region_P hm (region_last_e m Φ hstab hchk hsz k ol hk hks hg hdn hd hlast)

theorem us7 (us : List Value) (h : us.length = 7) : ∃ u0 u1 u2 u3 u4 u5 u6 : Value, us = [u0, u1, u2, u3, u4, u5, u6] := by
  match us, h with
  | [u0, u1, u2, u3, u4, u5, u6], _ => exact ⟨_, _, _, _, _, _, _, rfl⟩
theorem us8 (us : List Value) (h : us.length = 8) : ∃ u0 u1 u2 u3 u4 u5 u6 u7 : Value, us = [u0, u1, u2, u3, u4, u5, u6, u7] := by
  match us, h with
  | [u0, u1, u2, u3, u4, u5, u6, u7], _ => exact ⟨_, _, _, _, _, _, _, _, rfl⟩
theorem us13 (us : List Value) (h : us.length = 13) : ∃ u0 u1 u2 u3 u4 u5 u6 u7 u8 u9 u10 u11 u12 : Value, us = [u0, u1, u2, u3, u4, u5, u6, u7, u8, u9, u10, u11, u12] := by
  match us, h with
  | [u0, u1, u2, u3, u4, u5, u6, u7, u8, u9, u10, u11, u12], _ => exact ⟨_, _, _, _, _, _, _, _, _, _, _, _, _, rfl⟩
end Go.Proofs.YtclekhjnnljjlaaGreatDoor
namespace Go.Proofs.YtclekhjnnljjlaaGreatDoor
open Go.RowKit

section
variable {P : Program}
theorem oper_put {w : World} {o : Oper} {a : Act} {K : Act → World → Prop} {Q : Exit → Act → World → Prop} (m x v : Operand) (t : TypeId) (hop : o.op = Op.mapUpdate t m x v)
    (kt e : TypeId) (hk : P.underlying kt = some .string) (ht : P.underlying t = some (.map kt e)) (b : Nat) (mm : List (Key × Value)) (h : SMap P kt w b mm) (hn : mm.length < maxLen)
    (hm : a.eval m = .map (some b)) (s : ByteArray) (hs : s.size ≤ maxLen) (hx : a.eval x = .string s) (val : Value) (hv : a.eval v = val)
    (hK : ∀ w', SMap P kt w' b (mput mm s.data.toList val) → w.mapTurned w' b → K (a.put o.dst undef) w') : o.wp P a w K Q := by
  obtain ⟨w', hrun, r1, r2⟩ := h.store hk ht hn hs val
  unfold Oper.wp
  simp [execOp, hop, hm, hx, hv, hrun, Result.andThen]
  exact hK w' r1 r2

theorem wpList_put (w : World) {ops : Array Oper} {rest : List Oper} {o : Oper} {a : Act} {Q : Exit → Act → World → Prop} (hg : o.guard = none) (m x v : Operand) (t : TypeId) (hop : o.op = Op.mapUpdate t m x v)
    (kt e : TypeId) (hk : P.underlying kt = some .string) (ht : P.underlying t = some (.map kt e)) (b : Nat) (mm : List (Key × Value)) (h : SMap P kt w b mm) (hn : mm.length < maxLen)
    (hm : a.eval m = .map (some b)) (s : ByteArray) (hs : s.size ≤ maxLen) (hx : a.eval x = .string s) (val : Value) (hv : a.eval v = val)
    (hK : ∀ w', SMap P kt w' b (mput mm s.data.toList val) → w.mapTurned w' b → wpList P ops Q rest (a.put o.dst undef) w') : wpList P ops Q (o :: rest) a w :=
  wpList_plain hg fun K hK' => oper_put m x v t hop kt e hk ht b mm h hn hm s hs hx val hv fun w' h1 h2 => hK' _ _ (hK w' h1 h2)

end

variable {P : Program} {w : World} {a : Act} {o : Oper}
theorem ex_nilCheck {x : Operand} (ho : o.op = .nilCheck x) (p : Addr) (hx : a.eval x = .pointer (some p)) : (execOp a.eval o).run P w = .ok (.value (.pointer (some p))) w := by
  unfold execOp; simp only [ho, hx]; simp [go_sem]
def oneD : TypeDesc → Bool
  | .struct _ => false
  | .array _ _ => false
  | _ => true
theorem ex_cell {ty : TypeId} {x : Operand} (ho : o.op = .load ty x) (p : Addr) (v : Value) (hx : a.eval x = .pointer (some p)) (hc : w.cell? p = some v) {d : TypeDesc} (hd : oneD d = true) (hu : P.underlying ty = some d) :
    (execOp a.eval o).run P w = .ok (.value v) w := by
  unfold execOp
  simp only [ho, hx, Instr.loadAt, Instr.sureAddr, loadVar, isAgg, Sem.run_bind, Sem.run_pure, Result.andThen_ok, run_underlying hu]
  cases d <;> first | (simp [oneD] at hd; done) | simp [load, hc, Sem.run, Result.andThen]
end Go.Proofs.YtclekhjnnljjlaaGreatDoor
namespace Go.Proofs.YtclekhjnnljjlaaGreatDoor
open Go.RowKit
set_option maxHeartbeats 1000000
set_option maxRecDepth 100000

def rootP : ByteArray := ⟨#[47]⟩
/-- What Parent and Name hand back. -/
def parV (s : ByteArray) : Value := if vpath s = true ∧ s.size ≠ 1 then .tuple #[.string (parentB s), .int .i64 0] else .tuple #[.string ⟨#[]⟩, .int .i64 30]
def namV (s : ByteArray) : Value := if vpath s = true then .tuple #[.string (nameB s), .int .i64 0] else .tuple #[.string ⟨#[]⟩, .int .i64 30]

theorem root_iff {s : ByteArray} (h : vpath s = true) : s.size = 1 ↔ s.data.toList = [47] := by
  obtain ⟨h1, _, h3, _⟩ := vpath_facts h
  constructor
  · intro e
    have := drop_at_slash (s := s) (i := 0) (by omega) h3
    rw [List.drop_zero] at this
    rw [this, List.drop_eq_nil_of_le (by rw [size_list]; omega)]
  · intro e; rw [← size_list, e]; rfl

theorem parent_any (s : ByteArray) (w : World) (hs : s.size ≤ 9223372036854775800) : Calls Tryz.prog 39 #[.string s] w fun e w' => e = .returned (parV s) ∧ Below w.heap.size w w' := by
  have C1 := valid_any s w (by omega)
  by_cases hv : vpath s = true
  · have hroot := root_iff hv
    have hf := vpath_facts hv
    rw [hv] at C1
    by_cases h1 : s.size = 1
    · have e1 : (s.toList == [47]) = true := by rw [ByteArray.toList_eq]; simpa using hroot.1 h1
      have e2 : s.toList = [47] := by simpa using e1
      have R : Hid (parV s = .tuple #[.string ⟨#[]⟩, .int .i64 30]) := by unfold Hid parV; rw [if_neg (by simp [h1])]
      have C1 := Lib.hid C1
      clear h1 hroot hf hv
      go_enter Tryz.func39, Tryz.ntmps39
      go_wp2_with fail
      refine C1.out.mono ?_
      rintro e w1 ⟨rfl, hb1⟩
      clear C1
      go_wp2
      go_ret2
      exact ⟨by rw [R.out]; rfl, hb1⟩
    · have e1 : (s.toList == [47]) = false := by rw [ByteArray.toList_eq]; simpa using fun h => h1 (hroot.2 h)
      have e2 : ¬ s.toList = [47] := by simpa using e1
      have R : Hid (parV s = .tuple #[.string (s.extract 0 (max (lastS s) 1).toNat), .int .i64 0]) := by unfold Hid parV parentB; rw [if_pos ⟨hv, h1⟩]
      have C1 := Lib.hid C1
      have C2 := fun w => Tryz.strings_LastIndexByte s 47 (by omega) w
      obtain ⟨i, e, hi, _, _⟩ := lastS_spec hv
      have hm1 : (1 : Int) ≤ max (i : Int) 1 := by omega
      have hm2 : max (i : Int) 1 ≤ (s.size : Int) := by omega
      change ∀ w, Calls _ _ _ w (fun e w' => e = .returned (.int .i64 (lastS s)) ∧ w' = w) at C2
      rw [e] at C2 R
      have C2 := Lib.hid C2
      clear hroot hf hv h1 e
      go_enter Tryz.func39, Tryz.ntmps39
      go_wp2_with fail
      refine C1.out.mono ?_
      rintro e w1 ⟨rfl, hb1⟩
      clear C1
      go_wp2_with fail
      refine (C2.out _).mono ?_
      rintro e w2 ⟨rfl, rfl⟩
      clear C2
      go_wp2
      go_ret2
      exact ⟨by rw [R.out]; rfl, hb1⟩
  · have hv' : vpath s = false := by simpa using hv
    have R : Hid (parV s = .tuple #[.string ⟨#[]⟩, .int .i64 30]) := by unfold Hid parV; rw [if_neg (by simp [hv'])]
    rw [hv'] at C1
    have C1 := Lib.hid C1
    clear hv hv'
    go_enter Tryz.func39, Tryz.ntmps39
    go_wp2_with fail
    refine C1.out.mono ?_
    rintro e w1 ⟨rfl, hb1⟩
    clear C1
    go_wp2
    go_ret2
    exact ⟨by rw [R.out]; rfl, hb1⟩

theorem name_any (s : ByteArray) (w : World) (hs : s.size ≤ 9223372036854775800) : Calls Tryz.prog 71 #[.string s] w fun e w' => e = .returned (namV s) ∧ Below w.heap.size w w' := by
  have C1 := valid_any s w (by omega)
  by_cases hv : vpath s = true
  · have hf := vpath_facts hv
    rw [hv] at C1
    have R : Hid (namV s = .tuple #[.string (s.extract (lastS s + 1).toNat s.size), .int .i64 0]) := by unfold Hid namV nameB; rw [if_pos hv]
    have C1 := Lib.hid C1
    have C2 := fun w => Tryz.strings_LastIndexByte s 47 (by omega) w
    obtain ⟨i, e, hi, _, _⟩ := lastS_spec hv
    change ∀ w, Calls _ _ _ w (fun e w' => e = .returned (.int .i64 (lastS s)) ∧ w' = w) at C2
    rw [e] at C2 R
    have C2 := Lib.hid C2
    clear hf hv e
    go_enter Tryz.func71, Tryz.ntmps71
    go_wp2_with fail
    refine C1.out.mono ?_
    rintro e w1 ⟨rfl, hb1⟩
    clear C1
    go_wp2_with fail
    refine (C2.out _).mono ?_
    rintro e w2 ⟨rfl, rfl⟩
    clear C2
    go_wp2
    go_ret2
    exact ⟨by rw [R.out]; rfl, hb1⟩
  · have hv' : vpath s = false := by simpa using hv
    have R : Hid (namV s = .tuple #[.string ⟨#[]⟩, .int .i64 30]) := by unfold Hid namV; rw [if_neg (by simp [hv'])]
    rw [hv'] at C1
    have C1 := Lib.hid C1
    clear hv hv'
    go_enter Tryz.func71, Tryz.ntmps71
    go_wp2_with fail
    refine C1.out.mono ?_
    rintro e w1 ⟨rfl, hb1⟩
    clear C1
    go_wp2
    go_ret2
    exact ⟨by rw [R.out]; rfl, hb1⟩
end Go.Proofs.YtclekhjnnljjlaaGreatDoor
