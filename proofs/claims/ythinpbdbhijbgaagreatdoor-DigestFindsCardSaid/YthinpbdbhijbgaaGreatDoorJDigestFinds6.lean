/- Plain law: where two trees part. No program in sight. The walk of stat.Of. A range over a function: a law in which the function says what holds of each value that it hands over, and the rounds say what they keep. slices.Sorted(maps.Keys(m)) at the two maps of a tree: its keys in order. The walk of Children. The walk of the function that a tree's nodes are told by: what each round is handed, what it keeps. Arms for a walk within a fence, a round's too. The walk of the law's All: a range over a tree's nodes. -/
import Derived.Test.YthinpbdbhijbgaaGreatDoorJDigestFinds3
import Derived.Test.YthinpbdbhijbgaaGreatDoorJDigestFinds5
import Derived.RangeFuncCalls
import Derived.Test.YthinpbdbhijbgaaGreatDoorIter
import Derived.TacticsIn
import Derived.Deep.CutBlock
import Derived.Test.YthinpbdbhijbgaaGreatDoorJDigestFinds4
import Derived.OrdersIn
import Derived.RangeFuncLeaves
import Derived.OwnWalkIn
import Derived.TacticsInMore
import Derived.Great.BuildSlice
namespace Go.Proofs.YthinpbdbhijbgaaGreatDoor
open Go.RowKit Go.Sort
set_option maxHeartbeats 1000000

/-- How two trees part at a path: 1 gone, 2 come, 3 other. -/
noncomputable def partK (a b : Option Nd) : Option Int := match a, b with
  | some _, none => some 1
  | none, some _ => some 2
  | some v, some u => if sameN v u = true then none else some 3
  | none, none => none
/-- The document's walk over both lists. -/
noncomputable def diffM : List (Key × Nd) → List (Key × Nd) → List (Key × Int)
  | [], m => m.map fun y => (y.1, 2)
  | x :: l, [] => (x :: l).map fun y => (y.1, 1)
  | x :: l, y :: m => if ordL x.1 y.1 < 0 then (x.1, 1) :: diffM l (y :: m) else if 0 < ordL x.1 y.1 then (y.1, 2) :: diffM (x :: l) m else (if sameN x.2 y.2 = true then [] else [(x.1, 3)]) ++ diffM l m
termination_by l m => l.length + m.length

theorem ordL_neg (a b : List UInt8) : ordL a b < 0 ↔ bytesBefore a b = true := by
  rw [ordL_eq]
  by_cases e : a = b
  · rw [if_pos e, e, WideAt.bytes_irrefl]; simp
  · rw [if_neg e]
    by_cases h : bytesBefore a b = true
    · rw [if_pos h]; simp [h]
    · rw [if_neg h]; simp [h]
theorem ordL_gt (a b : List UInt8) : 0 < ordL a b ↔ bytesBefore b a = true := by
  rw [ordL_eq]
  by_cases e : a = b
  · rw [if_pos e, e, WideAt.bytes_irrefl]; simp
  · rw [if_neg e]
    by_cases h : bytesBefore a b = true
    · rw [if_pos h]
      have : bytesBefore b a = false := by
        cases hb : bytesBefore b a with
        | false => rfl
        | true => have := WideShapes.bytes_trans a b a h hb; rw [WideAt.bytes_irrefl] at this; cases this
      simp [this]
    · rw [if_neg h]
      have := (WideAt.bytes_total a b e).resolve_left h
      simp [this]
theorem ordL_zero {a b : List UInt8} (h1 : ¬ ordL a b < 0) (h2 : ¬ 0 < ordL a b) : a = b := by
  rw [ordL_neg] at h1
  rw [ordL_gt] at h2
  by_cases e : a = b
  · exact e
  · exact ((WideAt.bytes_total a b e).elim h1 h2).elim

theorem mget_cons {α : Type} (x : Key × α) (l : List (Key × α)) (k : Key) : mget (x :: l) k = if x.1 = k then some x.2 else mget l k := by
  unfold mget
  rw [List.find?_cons]
  by_cases e : x.1 = k
  · rw [if_pos e]; simp [e]
  · rw [if_neg e]
    have : (x.1 == k) = false := by simpa using e
    rw [this]
theorem mget_nil {α : Type} (k : Key) : mget ([] : List (Key × α)) k = none := rfl
theorem mget_before {α : Type} {y : Key × α} {m : List (Key × α)} (hm : MSorted (y :: m)) {k : Key} (h : bytesBefore k y.1 = true) : mget (y :: m) k = none := mget_none_of fun x hx e => by
  rcases List.mem_cons.1 hx with rfl | hx
  · rw [e, WideAt.bytes_irrefl] at h; cases h
  · have := WideShapes.bytes_trans _ _ _ h ((List.pairwise_cons.1 hm).1 x hx)
    rw [e, WideAt.bytes_irrefl] at this; cases this
theorem mget_head {α : Type} {y : Key × α} {m : List (Key × α)} (hm : MSorted (y :: m)) : mget m y.1 = none := mget_none_of fun x hx e => by
  have := (List.pairwise_cons.1 hm).1 x hx
  rw [e, WideAt.bytes_irrefl] at this; cases this

theorem diffM_get : ∀ A B : List (Key × Nd), MSorted A → MSorted B → ∀ k : Key, mget (diffM A B) k = partK (mget A k) (mget B k)
  | [], m, _, _, k => by
    rw [diffM]
    have := mget_map (fun _ : Nd => (2 : Int)) m k
    rw [this, mget_nil]
    cases mget m k <;> rfl
  | x :: l, [], _, _, k => by
    rw [diffM]
    have := mget_map (fun _ : Nd => (1 : Int)) (x :: l) k
    rw [this, mget_nil]
    cases mget (x :: l) k <;> rfl
  | x :: l, y :: m, hA, hB, k => by
    have hA2 := (List.pairwise_cons.1 hA).2
    have hB2 := (List.pairwise_cons.1 hB).2
    rw [diffM]
    split
    · rename_i h
      rw [mget_cons, diffM_get l (y :: m) hA2 hB k, mget_cons x l]
      by_cases e : x.1 = k
      · rw [if_pos e, if_pos e, ← e, mget_before hB ((ordL_neg _ _).1 h)]; rfl
      · rw [if_neg e, if_neg e]
    · rename_i h
      split
      · rename_i h2
        rw [mget_cons, diffM_get (x :: l) m hA hB2 k, mget_cons y m]
        by_cases e : y.1 = k
        · rw [if_pos e, if_pos e, ← e, mget_before hA ((ordL_gt _ _).1 h2)]; rfl
        · rw [if_neg e, if_neg e]
      · rename_i h2
        have e := ordL_zero h h2
        have ih := diffM_get l m hA2 hB2 k
        rw [mget_cons x l, mget_cons y m, ← e]
        by_cases ek : x.1 = k
        · rw [if_pos ek, if_pos ek]
          have n1 : mget l k = none := by rw [← ek]; exact mget_head hA
          have n2 : mget m k = none := by rw [← ek, e]; exact mget_head hB
          rw [n1, n2] at ih
          by_cases hs : sameN x.2 y.2 = true
          · rw [if_pos hs]
            show mget ([] ++ diffM l m) k = if _ then none else some 3
            rw [if_pos hs]; exact ih
          · rw [if_neg hs]
            show mget ((x.1, 3) :: diffM l m) k = if _ then none else some 3
            rw [if_neg hs, mget_cons, if_pos ek]
        · rw [if_neg ek, if_neg ek, ← ih]
          split
          · rfl
          · show mget ((x.1, 3) :: diffM l m) k = _
            rw [mget_cons, if_neg ek]
termination_by A B => A.length + B.length

theorem diffM_key : ∀ A B : List (Key × Nd), ∀ z ∈ diffM A B, (∃ x ∈ A, x.1 = z.1) ∨ ∃ y ∈ B, y.1 = z.1
  | [], m, z, h => by
    rw [diffM] at h
    obtain ⟨y, hy, rfl⟩ := List.mem_map.1 h
    exact .inr ⟨y, hy, rfl⟩
  | x :: l, [], z, h => by
    rw [diffM] at h
    obtain ⟨y, hy, rfl⟩ := List.mem_map.1 h
    exact .inl ⟨y, hy, rfl⟩
  | x :: l, y :: m, z, h => by
    rw [diffM] at h
    have w1 : ∀ {l' : List (Key × Nd)}, (∃ a ∈ l, a.1 = z.1) ∨ (∃ b ∈ l', b.1 = z.1) → (∀ b ∈ l', b ∈ y :: m) → (∃ a ∈ x :: l, a.1 = z.1) ∨ ∃ b ∈ y :: m, b.1 = z.1 := fun h hl => by
      rcases h with ⟨a, ha, e⟩ | ⟨b, hb, e⟩
      · exact .inl ⟨a, List.mem_cons_of_mem _ ha, e⟩
      · exact .inr ⟨b, hl b hb, e⟩
    split at h
    · rcases List.mem_cons.1 h with rfl | h
      · exact .inl ⟨x, List.mem_cons_self .., rfl⟩
      · exact w1 (diffM_key l (y :: m) z h) fun _ h => h
    · split at h
      · rcases List.mem_cons.1 h with rfl | h
        · exact .inr ⟨y, List.mem_cons_self .., rfl⟩
        · rcases diffM_key (x :: l) m z h with h | ⟨b, hb, e⟩
          · exact .inl h
          · exact .inr ⟨b, List.mem_cons_of_mem _ hb, e⟩
      · rcases List.mem_append.1 h with h | h
        · split at h
          · cases h
          · rw [List.mem_singleton] at h
            subst h
            exact .inl ⟨x, List.mem_cons_self .., rfl⟩
        · exact w1 (diffM_key l m z h) fun b hb => List.mem_cons_of_mem _ hb
termination_by A B => A.length + B.length

theorem diffM_sorted : ∀ A B : List (Key × Nd), MSorted A → MSorted B → MSorted (diffM A B)
  | [], m, _, hB => by
    rw [diffM]; unfold MSorted; rw [List.pairwise_map]; exact hB
  | x :: l, [], hA, _ => by
    rw [diffM]; unfold MSorted; rw [List.pairwise_map]; exact hA
  | x :: l, y :: m, hA, hB => by
    obtain ⟨hA1, hA2⟩ := List.pairwise_cons.1 hA
    obtain ⟨hB1, hB2⟩ := List.pairwise_cons.1 hB
    rw [diffM]
    split
    · rename_i h
      rw [ordL_neg] at h
      refine List.pairwise_cons.2 ⟨fun z hz => ?_, diffM_sorted l (y :: m) hA2 hB⟩
      rcases diffM_key l (y :: m) z hz with ⟨a, ha, e⟩ | ⟨b, hb, e⟩
      · rw [← e]; exact hA1 a ha
      · rw [← e]
        rcases List.mem_cons.1 hb with rfl | hb
        · exact h
        · exact WideShapes.bytes_trans _ _ _ h (hB1 b hb)
    · rename_i h
      split
      · rename_i h2
        rw [ordL_gt] at h2
        refine List.pairwise_cons.2 ⟨fun z hz => ?_, diffM_sorted (x :: l) m hA hB2⟩
        rcases diffM_key (x :: l) m z hz with ⟨a, ha, e⟩ | ⟨b, hb, e⟩
        · rw [← e]
          rcases List.mem_cons.1 ha with rfl | ha
          · exact h2
          · exact WideShapes.bytes_trans _ _ _ h2 (hA1 a ha)
        · rw [← e]; exact hB1 b hb
      · rename_i h2
        have e := ordL_zero h h2
        have ih := diffM_sorted l m hA2 hB2
        split
        · exact ih
        · refine List.pairwise_cons.2 ⟨fun z hz => ?_, ih⟩
          rcases diffM_key l m z hz with ⟨a, ha, ez⟩ | ⟨b, hb, ez⟩
          · rw [← ez]; exact hA1 a ha
          · rw [← ez]; show bytesBefore x.1 b.1 = true; rw [e]; exact hB1 b hb
termination_by A B => A.length + B.length

/-- The program's list, ahead of the sort. -/
noncomputable def partA (B : List (Key × Nd)) (x : Key × Nd) : List (Key × Int) := match mget B x.1 with
  | none => [(x.1, 1)]
  | some m => if sameN x.2 m = true then [] else [(x.1, 3)]
def partB (A : List (Key × Nd)) (y : Key × Nd) : List (Key × Int) := match mget A y.1 with
  | none => [(y.1, 2)]
  | some _ => []
noncomputable def partsP (A B : List (Key × Nd)) : List (Key × Int) := A.flatMap (partA B) ++ B.flatMap (partB A)

theorem partA_mem {B : List (Key × Nd)} {x : Key × Nd} {z : Key × Int} (h : z ∈ partA B x) : z.1 = x.1 ∧ partK (some x.2) (mget B x.1) = some z.2 := by
  unfold partA at h
  split at h
  · rename_i e
    rw [List.mem_singleton] at h
    subst h; rw [e]; exact ⟨rfl, rfl⟩
  · rename_i m e
    split at h
    · cases h
    · rename_i hs
      rw [List.mem_singleton] at h
      subst h; rw [e]; exact ⟨rfl, if_neg hs⟩
theorem partB_mem {A : List (Key × Nd)} {y : Key × Nd} {z : Key × Int} (h : z ∈ partB A y) : z = (y.1, 2) ∧ mget A y.1 = none := by
  unfold partB at h
  split at h
  · rename_i e
    rw [List.mem_singleton] at h
    exact ⟨h, e⟩
  · cases h
theorem partsP_mem {A B : List (Key × Nd)} (hA : MSorted A) (hB : MSorted B) (k : Key) (c : Int) : (k, c) ∈ partsP A B ↔ partK (mget A k) (mget B k) = some c := by
  unfold partsP
  rw [List.mem_append, List.mem_flatMap, List.mem_flatMap]
  constructor
  · rintro (⟨x, hx, h⟩ | ⟨y, hy, h⟩)
    · obtain ⟨h1, h2⟩ := partA_mem h
      dsimp only at h1 h2
      rw [h1, mget_of_mem hA (show (x.1, x.2) ∈ A from hx)]
      exact h2
    · obtain ⟨h1, h2⟩ := partB_mem h
      obtain ⟨rfl, rfl⟩ := Prod.mk.inj h1
      rw [h2, mget_of_mem hB (show (y.1, y.2) ∈ B from hy)]; rfl
  · intro h
    cases ha : mget A k with
    | some v =>
      refine .inl ⟨(k, v), mget_some_mem ha, ?_⟩
      rw [ha] at h
      unfold partA
      cases hb : mget B k with
      | none => rw [hb] at h; obtain rfl : (1 : Int) = c := Option.some.inj h; simp
      | some u =>
        rw [hb] at h
        have h : (if sameN v u = true then none else some 3) = some c := h
        by_cases hs : sameN v u = true
        · rw [if_pos hs] at h; cases h
        · rw [if_neg hs] at h
          obtain rfl : (3 : Int) = c := Option.some.inj h
          simp [hs]
    | none =>
      rw [ha] at h
      cases hb : mget B k with
      | none => rw [hb] at h; cases h
      | some u =>
        rw [hb] at h
        obtain rfl : (2 : Int) = c := Option.some.inj h
        refine .inr ⟨(k, u), mget_some_mem hb, ?_⟩
        unfold partB
        simp [ha]
theorem partsP_ne {A B : List (Key × Nd)} (hA : MSorted A) (hB : MSorted B) : (partsP A B).Pairwise fun x y => x.1 ≠ y.1 := by
  have hone : ∀ (x : Key × Nd), (partA B x).Pairwise fun a b => a.1 ≠ b.1 := fun x => by
    unfold partA; split
    · simp
    · split <;> simp
  have hone2 : ∀ (x : Key × Nd), (partB A x).Pairwise fun a b => a.1 ≠ b.1 := fun x => by
    unfold partB; split <;> simp
  unfold partsP
  rw [List.pairwise_append]
  refine ⟨?_, ?_, ?_⟩
  · rw [List.pairwise_flatMap]
    refine ⟨fun x _ => hone x, hA.keys_ne.imp fun {x y} h a ha b hb => ?_⟩
    rw [(partA_mem ha).1, (partA_mem hb).1]; exact h
  · rw [List.pairwise_flatMap]
    refine ⟨fun x _ => hone2 x, hB.keys_ne.imp fun {x y} h a ha b hb => ?_⟩
    rw [(partB_mem ha).1, (partB_mem hb).1]; exact h
  · intro a ha b hb e
    obtain ⟨x, hx, h1⟩ := List.mem_flatMap.1 ha
    obtain ⟨y, hy, h2⟩ := List.mem_flatMap.1 hb
    obtain ⟨h3, h4⟩ := partB_mem h2
    rw [(partA_mem h1).1, h3] at e
    dsimp only at e
    exact mget_none h4 x hx e
/-- Sorted by whatever way, it is the document's. -/
theorem parts_sorted {A B : List (Key × Nd)} (hA : MSorted A) (hB : MSorted B) {D : List (Key × Int)} (hp : D.Perm (partsP A B)) (hs : D.Pairwise fun x y => bytesBefore y.1 x.1 = false) : D = diffM A B := by
  have hne : D.Pairwise fun x y => x.1 ≠ y.1 := hp.symm.pairwise (partsP_ne hA hB) fun h => Ne.symm h
  have hms : MSorted D := List.pairwise_iff_getElem.2 fun i j hi hj hij => by
    have h1 := List.pairwise_iff_getElem.1 hs i j hi hj hij
    have h2 := List.pairwise_iff_getElem.1 hne i j hi hj hij
    rcases WideAt.bytes_total _ _ h2 with h | h
    · exact h
    · rw [h] at h1; cases h1
  refine mem_ext_sorted hms (diffM_sorted A B hA hB) fun x => ?_
  obtain ⟨k, c⟩ := x
  rw [hp.mem_iff, partsP_mem hA hB, ← diffM_get A B hA hB k]
  exact ⟨fun h => mget_some_mem h, fun h => mget_of_mem (diffM_sorted A B hA hB) h⟩
end Go.Proofs.YthinpbdbhijbgaaGreatDoor
namespace Go.Proofs.YthinpbdbhijbgaaGreatDoor
open Go.RowKit
set_option maxHeartbeats 2000000
set_option maxRecDepth 100000

def zeroStat : Array Value := #[.int .i64 0, .int .i64 0, .int .i64 0, .int .i64 0, .int .i32 0, .int .i32 0, .int .i32 0, .int .i64 0, .int .i32 0, .int .i32 0, .int .i64 0]
end Go.Proofs.YthinpbdbhijbgaaGreatDoor
namespace Go.Proofs.YthinpbdbhijbgaaGreatDoor
open Go.RowKit
variable {F : Fence} {n : Nat} {P : Program}

/-- A record of a loop over a function, or its block for deferred calls. -/
def recB : Obj → Bool
  | .loop _ => true
  | .deferred _ => true
  | _ => false

/-- All is as it was but such records from block B on; the rest is new. -/
structure Turn (B : Nat) (W W' : World) : Prop where
  os : W'.os = W.os
  tape : W'.tape = W.tape
  output : W'.output = W.output
  size : W.heap.size ≤ W'.heap.size
  same : ∀ (k : Nat) (o : Obj), W.heap[k]? = some o → (k < B ∨ recB o = false) → W'.heap[k]? = some o
theorem Turn.refl (B : Nat) (W : World) : Turn B W W := ⟨rfl, rfl, rfl, Nat.le_refl _, fun _ _ h _ => h⟩
theorem Turn.trans {B : Nat} {X Y Z : World} (h : Turn B X Y) (k : Turn B Y Z) : Turn B X Z :=
  ⟨k.os.trans h.os, k.tape.trans h.tape, k.output.trans h.output, Nat.le_trans h.size k.size, fun i o hi ho => k.same i o (h.same i o hi ho) ho⟩
theorem Turn.of_ext {B : Nat} {W W' : World} (h : Ext W W') : Turn B W W' :=
  ⟨h.os, h.tape, h.output, h.size, fun k o hk _ => (h.block k (Array.getElem?_eq_some_iff.1 hk).1).trans hk⟩
theorem Turn.putObj {B r : Nat} {W : World} {o : Obj} (o' : Obj) (hB : B ≤ r) (h : W.heap[r]? = some o) (hr : recB o = true) : Turn B W (W.putObj r o') :=
  ⟨rfl, rfl, rfl, by simp, fun k o'' hk ho => by
    by_cases e : k = r
    · subst e
      rw [h] at hk
      cases hk
      rcases ho with ho | ho
      · omega
      · rw [hr] at ho; cases ho
    · exact (World.putObj_heap_other e).trans hk⟩
theorem Turn.below {B B' : Nat} {W W' : World} (h : Turn B W W') (hB : B' ≤ B) (hs : B' ≤ W.heap.size) : Below B' W W' :=
  ⟨h.os, h.tape, h.output, h.size, fun k hk => by
    have hk' : k < W.heap.size := by omega
    rw [h.same k _ (Array.getElem?_eq_getElem hk') (.inl (by omega)), Array.getElem?_eq_getElem hk']⟩

/-- The records from block B on are as they were. -/
structure KeepsRec (B : Nat) (W W' : World) : Prop where
  size : W.heap.size ≤ W'.heap.size
  same : ∀ (k : Nat) (o : Obj), B ≤ k → W.heap[k]? = some o → recB o = true → W'.heap[k]? = some o
theorem KeepsRec.refl (B : Nat) (W : World) : KeepsRec B W W := ⟨Nat.le_refl _, fun _ _ _ h _ => h⟩
theorem KeepsRec.trans {B : Nat} {X Y Z : World} (h : KeepsRec B X Y) (k : KeepsRec B Y Z) : KeepsRec B X Z :=
  ⟨Nat.le_trans h.size k.size, fun i o hB hi ho => k.same i o hB (h.same i o hB hi ho) ho⟩
theorem KeepsRec.of_ext {B : Nat} {W W' : World} (h : Ext W W') : KeepsRec B W W' := ⟨h.size, fun k _ _ hk _ => (h.block k (Array.getElem?_eq_some_iff.1 hk).1).trans hk⟩

/-- How the body of a round may be left. -/
def tellPost {α : Type} (B : Nat) (Keep : World → World → Prop) (I : List α → World → Prop) (Ix : Code → List α → World → Prop) (xs : List α) (W : World) : Exit → Act → World → Prop
  | .normal, _, W' => KeepsRec B W W' ∧ Keep W W' ∧ I xs W'
  | .ret, _, W' => KeepsRec B W W' ∧ Ix .ret xs W'
  | .exit id, _, W' => KeepsRec B W W' ∧ Ix (.exit id) xs W'
  | .goto t, _, W' => KeepsRec B W W' ∧ Ix (.goto t) xs W'
  | .panic _, _, _ => False
  | .outgrown, _, _ => False

/-- What a function that is ranged over does: gf with what it has captured. -/
def Tells {α : Type} (F : Fence) (n : Nat) (P : Program) (gf : Nat) (lb : Array Value) (encs : α → Array Value) (G : α → World → Prop) (Keep : World → World → Prop) (Safe : World → Nat → Prop) (S Sp : List α → Prop) (w : World) : Prop :=
  ∀ (l : Nat) (J Jx : List α → World → Prop) (W : World), Below w.heap.size w W → (∀ k, k < w.heap.size → Safe w k → Safe W k) →
    (∀ pre X Y, J pre X → Ext X Y → J pre Y ∧ (∀ k, Safe X k → Safe Y k) ∧ ∀ k, X.heap.size ≤ k → Safe Y k) →
    (∀ pre x W1, Sp (pre ++ [x]) → J pre W1 → G x W1 → YieldAt F (n - 1) P l (encs x) W1 fun e W' =>
      (e = .returned (.bool true) ∧ J (pre ++ [x]) W' ∧ Keep W1 W') ∨ (e = .returned (.bool false) ∧ Jx (pre ++ [x]) W')) →
    J [] W →
    CallsIn F n P gf (#[.func (.yield l) #[] #[]] ++ lb) W fun e W' => (∃ v, e = .returned v) ∧ ((∃ xs, S xs ∧ J xs W') ∨ (∃ pre, Sp pre ∧ Jx pre W'))

theorem wpIn_tells {α : Type} {g : Operand} {ps : Array Tmp} {assign body : Code} {Q : Exit → Act → World → Prop} {a : Act} {w : World}
    (hro : F.round = none) (h1 : 1 ≤ n) {gf : Nat} {lb : Array Value} (hg : a.eval g = .func (.func gf) #[] lb) (hFg : F.fn gf) (eg : ∀ args w, (callFunc gf args).run P w = .ok (.enter gf args) w)
    {encs : α → Array Value} {G : α → World → Prop} {Keep : World → World → Prop} {Safe : World → Nat → Prop} {S Sp : List α → Prop}
    (hseq : Tells F (n - 1) P gf lb encs G Keep Safe S Sp w) (hps : ∀ x, (encs x).size = ps.size)
    (I : List α → World → Prop) (Ix : Code → List α → World → Prop) (Ax : α → Act → World → Prop)
    (hKeep : ∀ A X Y B, Turn w.heap.size A X → Keep X Y → Turn w.heap.size Y B → Keep A B)
    (hI : ∀ pre X Y, I pre X → Turn w.heap.size X Y → I pre Y ∧ (∀ k, Safe X k → Safe Y k) ∧ ∀ k, X.heap.size ≤ k → Safe Y k)
    (hIx : ∀ c pre X Y, Ix c pre X → Turn w.heap.size X Y → Ix c pre Y)
    (hG : ∀ x X Y, G x X → Turn w.heap.size X Y → G x Y)
    (hAx : ∀ x a' X Y, Ax x a' X → Turn w.heap.size X Y → Ax x a' Y)
    (h0 : I [] w)
    (hassign : ∀ (l : Nat) (pre : List α) (x : α) (W : World) (K : Act → World → Prop), I pre W → G x W → (∀ a' W', Ext W W' → Ax x a' W' → K a' W') →
      assign.wpIn (F.inRound l) (n - 1 - 1) P (Exit.then K (fun _ _ _ => False)) { tmps := (ps.zip (encs x)).foldl (fun t (p, v) => t.setIfInBounds p v) a.tmps, defers := [] } W)
    (hbody : ∀ (l : Nat) (pre : List α) (x : α) (a' : Act) (W : World), w.heap.size ≤ l → (∃ r, W.heap[l]? = some (.loop r)) → Sp (pre ++ [x]) → I pre W → G x W → Ax x a' W → body.wpIn (F.inRound l) (n - 1 - 1) P (tellPost w.heap.size Keep I Ix (pre ++ [x]) W) a' W)
    (hdone : ∀ (D : Nat) (xs : List α) (W : World), w.heap.size ≤ D → S xs → I xs W → W.heap[D]? = some (.deferred (some [])) → Q .normal { a with defers := { target := .collected D, args := #[] } :: a.defers } W)
    (hstop : ∀ (D : Nat) (c : Code) (pre : List α) (W : World), w.heap.size ≤ D → Sp pre → Ix c pre W → W.heap[D]? = some (.deferred (some [])) → c.wpIn F n P Q { a with defers := { target := .collected D, args := #[] } :: a.defers } W) :
    (Code.rangeFunc g ps assign body).wpIn F n P Q a w := by
  refine wpIn_rangeFunc fun fn hfn => ?_
  rw [hro]
  obtain ⟨rec, hrec⟩ : ∃ rec : LoopState → Option Code → Loop, rec = fun st pe => { state := st, pending := pe, fn, tmps := a.tmps, params := ps, assign, body, defers := w.heap.size } := ⟨_, rfl⟩
  obtain ⟨W1, hW1⟩ : ∃ W1, (w.alloc (.deferred (some []))).alloc (.loop (rec .ready none)) = W1 := ⟨_, rfl⟩
  have hE1 : Ext w W1 := by rw [← hW1]; exact (Ext.alloc w _).trans (Ext.alloc _ _)
  have hL1 : W1.heap[w.heap.size + 1]? = some (.loop (rec .ready none)) := by
    rw [← hW1]; have := World.alloc_heap_new (w.alloc (.deferred (some []))) (.loop (rec .ready none)); rwa [World.size_alloc] at this
  have hD1 : W1.heap[w.heap.size]? = some (.deferred (some [])) := by
    rw [← hW1]; exact (Below.heap_alloc _ _ _ (by simp)).trans (World.alloc_heap_new w _)
  have hI1 := hI [] w W1 h0 (Turn.of_ext hE1)
  refine ⟨w.heap.size + 1, [{ target := .collected w.heap.size, args := #[] }], W1, { target := .fn (.func gf) lb, args := #[.func (.yield (w.heap.size + 1)) #[] #[]] }, W1, gf,
    #[.func (.yield (w.heap.size + 1)) #[] #[]] ++ lb, W1, ?_, ?_, ?_, ?_, fun _ => h1, ?_⟩
  · rw [← hW1, hrec]; exact run_enterLoop_outer _ _ _ _ _
  · simp only [resolve, hg]
    simp [go_sem]
  · intro f' hf'; simp [Target.leads] at hf'; subst hf'; exact hFg
  · simp [invoke, go_sem, eg]
  refine (hseq (w.heap.size + 1)
      (fun pre W => I pre W ∧ W.heap[w.heap.size + 1]? = some (.loop (rec .ready none)) ∧ W.heap[w.heap.size]? = some (.deferred (some [])))
      (fun pre W => ∃ c, Ix c pre W ∧ W.heap[w.heap.size + 1]? = some (.loop (rec .done (some c))) ∧ W.heap[w.heap.size]? = some (.deferred (some [])))
      W1 hE1 (fun k _ h => hI1.2.1 k h) (fun pre X Y hJ hE => ?_) ?_ ⟨hI1.1, hL1, hD1⟩).mono ?_
  · obtain ⟨h2, h3, h4⟩ := hJ
    have := hI pre X Y h2 (Turn.of_ext hE)
    exact ⟨⟨this.1, (hE.block _ (Array.getElem?_eq_some_iff.1 h3).1).trans h3, (hE.block _ (Array.getElem?_eq_some_iff.1 h4).1).trans h4⟩, this.2⟩
  · rintro pre x W hSp ⟨hi, hl, hk⟩ hGx
    have hlt : w.heap.size + 1 < W.heap.size := (Array.getElem?_eq_some_iff.1 hl).1
    have hy := run_yield (P := P) (args := encs x) hl (by rw [hrec]; exact hps x)
    rw [hrec] at hy
    refine ⟨fn, _, assign, body, hy, roundIn_of_wpIn hfn (hassign _ pre x W _ hi hGx ?_)⟩
    clear hy
    intro a' Wa hEa hax
    have hla := (hEa.block _ hlt).trans hl
    have hka := (hEa.block w.heap.size (by omega)).trans hk
    have hlta : w.heap.size + 1 < Wa.heap.size := (Array.getElem?_eq_some_iff.1 hla).1
    refine ⟨_, run_beginRound hla (by rw [hrec]), ?_⟩
    obtain ⟨Wb, hWb⟩ : ∃ Wb, Wa.putObj (w.heap.size + 1) (.loop { rec .ready none with state := .busy }) = Wb := ⟨_, rfl⟩
    rw [hWb]
    have hTb : Turn w.heap.size Wa Wb := by rw [← hWb]; exact Turn.putObj _ (by omega) hla rfl
    have hTab : Turn w.heap.size W Wb := (Turn.of_ext hEa).trans hTb
    have hlb : Wb.heap[w.heap.size + 1]? = some (.loop { rec .ready none with state := .busy }) := by rw [← hWb]; exact World.putObj_heap_same hlta
    have hkb : Wb.heap[w.heap.size]? = some (.deferred (some [])) := by rw [← hWb]; exact (World.putObj_heap_other (by omega)).trans hka
    refine wpIn_mono (hbody _ pre x a' Wb (by omega) ⟨_, hlb⟩ hSp (hI pre W Wb hi hTab).1 (hG x W Wb hGx hTab) (hAx x a' Wa Wb hax hTb)) ?_
    have fin : ∀ (jump : Option Code) (W3 : World), KeepsRec w.heap.size Wb W3 →
        (Instr.endRound (w.heap.size + 1) jump).run P W3 = .ok (.bool jump.isNone) (W3.putObj (w.heap.size + 1) (.loop (rec (if jump.isNone then .ready else .done) jump))) ∧
        Turn w.heap.size W3 (W3.putObj (w.heap.size + 1) (.loop (rec (if jump.isNone then .ready else .done) jump))) ∧
        (W3.putObj (w.heap.size + 1) (.loop (rec (if jump.isNone then .ready else .done) jump))).heap[w.heap.size + 1]? = some (.loop (rec (if jump.isNone then .ready else .done) jump)) ∧
        (W3.putObj (w.heap.size + 1) (.loop (rec (if jump.isNone then .ready else .done) jump))).heap[w.heap.size]? = some (.deferred (some [])) := fun jump W3 hk3 => by
      have hl3 := hk3.same _ _ (by omega) hlb rfl
      have hk3' := hk3.same _ _ (Nat.le_refl _) hkb rfl
      have := run_endRound (P := P) jump hl3
      rw [hrec] at this ⊢
      exact ⟨this, Turn.putObj _ (by omega) hl3 rfl, World.putObj_heap_same (Array.getElem?_eq_some_iff.1 hl3).1, (World.putObj_heap_other (by omega)).trans hk3'⟩
    rintro e a3 W3 hp
    cases e with
    | normal =>
      obtain ⟨hk3, hkp3, hi3⟩ := hp
      obtain ⟨hr, hT, hl4, hk4⟩ := fin none W3 hk3
      exact ⟨_, _, hr, .inl ⟨rfl, ⟨(hI _ _ _ hi3 hT).1, hl4, hk4⟩, hKeep _ _ _ _ hTab hkp3 hT⟩⟩
    | ret =>
      obtain ⟨hk3, hi3⟩ := hp
      obtain ⟨hr, hT, hl4, hk4⟩ := fin (some .ret) W3 hk3
      exact ⟨_, _, hr, .inr ⟨rfl, .ret, hIx _ _ _ _ hi3 hT, hl4, hk4⟩⟩
    | exit id =>
      obtain ⟨hk3, hi3⟩ := hp
      obtain ⟨hr, hT, hl4, hk4⟩ := fin (some (.exit id)) W3 hk3
      exact ⟨_, _, hr, .inr ⟨rfl, .exit id, hIx _ _ _ _ hi3 hT, hl4, hk4⟩⟩
    | goto t =>
      obtain ⟨hk3, hi3⟩ := hp
      obtain ⟨hr, hT, hl4, hk4⟩ := fin (some (.goto t)) W3 hk3
      exact ⟨_, _, hr, .inr ⟨rfl, .goto t, hIx _ _ _ _ hi3 hT, hl4, hk4⟩⟩
    | panic ch => exact hp.elim
    | outgrown => exact hp.elim
  · rintro e W2 ⟨⟨v, rfl⟩, (⟨xs, hS, hi, hl, hk⟩ | ⟨pre, hSp, c, hi, hl, hk⟩)⟩
    · refine ⟨none, _, by have := run_endLoop (P := P) hl (by rw [hrec]; simp); rw [hrec] at this; exact this, ?_⟩
      exact hdone _ xs _ (Nat.le_refl _) hS (hI xs _ _ hi (Turn.putObj _ (by omega) hl rfl)).1 ((World.putObj_heap_other (by omega)).trans hk)
    · refine ⟨some c, _, by have := run_endLoop (P := P) hl (by rw [hrec]; simp); rw [hrec] at this; exact this, ?_⟩
      exact hstop _ c pre _ (Nat.le_refl _) hSp (hIx c pre _ _ hi (Turn.putObj _ (by omega) hl rfl)) ((World.putObj_heap_other (by omega)).trans hk)
end Go.Proofs.YthinpbdbhijbgaaGreatDoor
namespace Go.Proofs.YthinpbdbhijbgaaGreatDoor
open Go.RowKit Go.Maps Go.Sort Go.Shelf
set_option maxHeartbeats 2000000

theorem bytes_lt : ∀ (a b : List UInt8), bytesBefore a b = true ↔ a < b
  | [], [] => by simp [bytesBefore]
  | [], _ :: _ => by simp [bytesBefore]
  | _ :: _, [] => by simp [bytesBefore]
  | x :: a, y :: b => by
    simp only [bytesBefore, Bool.or_eq_true, Bool.and_eq_true, decide_eq_true_eq, beq_iff_eq, List.cons_lt_cons_iff, bytes_lt a b]

theorem sortedKeys {l ss : List (List UInt8)} (hs : l.Pairwise fun a b => bytesBefore a b = true) (hp : ss.Perm l) : ss.mergeSort (fun x y => decide (x ≤ y)) = l := by
  have h1 : (ss.mergeSort (fun x y => decide (x ≤ y))).Perm l := (List.mergeSort_perm ss _).trans hp
  have h2 : (ss.mergeSort (fun x y => decide (x ≤ y))).Pairwise (fun x y => x ≤ y) := by
    have := List.pairwise_mergeSort (le := fun x y : List UInt8 => decide (x ≤ y)) (fun a b c h1 h2 => by
      simp only [decide_eq_true_eq] at h1 h2 ⊢; exact List.le_trans h1 h2) (fun a b => by
      simp only [Bool.or_eq_true, decide_eq_true_eq]; exact List.le_total a b) ss
    exact this.imp fun h => by simpa using h
  have h3 : l.Pairwise (fun x y => x ≤ y) := hs.imp fun h => List.le_of_lt ((bytes_lt _ _).1 h)
  exact h1.eq_of_pairwise (fun a b _ _ h1 h2 => List.le_antisymm h1 h2) h2 h3
/-- A new slice that holds these texts. -/
def SortedOut (l : List Key) (w : World) (e : Ending) (w' : World) : Prop :=
  ∃ v, e = .returned v ∧ w'.ownsRow w.heap.size 9 1 v l.length (l.map encStr) ∧ (v = .slice none 0 0 ↔ l = []) ∧ Ext w w'

theorem sortsS (m : Nat) : AnyZ.SortsIn Tryz.prog Tryz.sortedS_ren Fence.wide m :=
  ⟨fun blk off cap ss W hH hblk hsz => callsIn_wide.2 (AnyM.slices_Sort_string Tryz.sortS blk off cap ss W hH hblk hsz),
   fun p cap W => callsIn_wide.2 (AnyM.slices_Sort_string_none Tryz.sortS p cap W)⟩

theorem keysN_any (mb : Option Nat) (W : World) : Calls Tryz.prog 196 #[.map mb] W fun e w' => e = .returned (.func (.func 244) #[] #[.pointer (some ⟨W.heap.size, 0, none⟩)]) ∧ w' = W.alloc (.cells #[.map mb] 120) :=
  (callsIn_wide (n := 5)).1 (AnyZ.keys_in Tryz.keysN Fence.wide 5 trivial rfl mb W)

theorem sortedN_own {H : Type} (b nn : Nat) (D0 : DataW H) (R : Value → Option (DataW H × List MemPlace)) (w : World) (hown : w.ownsMap Tryz.prog 9 R b nn D0) (hmax : Maps.size D0 ≤ maxLen) (hbytes : Maps.size D0 * 16 ≤ 140737488355328) :
    CallsIn Fence.wide 5 Tryz.prog 140 #[.func (.func 244) #[] #[.pointer (some ⟨w.heap.size, 0, none⟩)]] (w.alloc (.cells #[.map (some b)] 120)) fun e w' => ∃ (v : Value) (ss : List (List UInt8)), e = .returned v ∧ ss.Perm (strKeys D0) ∧
      w'.ownsRow (w.alloc (.cells #[.map (some b)] 120)).heap.size 9 1 v ss.length ((ss.mergeSort (fun x y => decide (x ≤ y))).map encStr) ∧ (v = .slice none 0 0 ↔ ss = []) ∧ Below (w.alloc (.cells #[.map (some b)] 120)).heap.size (w.alloc (.cells #[.map (some b)] 120)) w' := by
  have hbl := hown.lt
  have hseq : SeqGives Fence.wide 2 Tryz.prog 244 #[.pointer (some ⟨w.heap.size, 0, none⟩)] encStr (fun ss => ss.Perm (strKeys D0)) (Maps.size D0) (w.alloc (.cells #[.map (some b)] 120)) :=
    AnyZ.keys_gives (ρ := Tryz.keysN_ren) { Tryz.keysN with } Fence.wide _ trivial rfl (by omega) w.heap.size b nn D0 _ (by simp) (by simp) (by
      obtain ⟨es, clock, hb, Ft, hs, hD⟩ := hown
      exact ⟨es, clock, (Below.heap_alloc _ _ b hbl).trans hb, Ft, hs, hD⟩)
  exact AnyZ.sorted_in Tryz.sortedS Fence.wide 5 trivial trivial trivial trivial rfl (by omega) (sortsS _) (enters_of Tryz.func189 (by kernel_rfl) rfl) 244 #[.pointer (some ⟨w.heap.size, 0, none⟩)] trivial (enters_of Tryz.func244 (by kernel_rfl) rfl) _ _ hmax hbytes _ hseq

theorem sortedN_any (b : Nat) (m : List (Key × Value)) (w : World) (h : SMap Tryz.prog 9 w b m) (hl : m.length * 16 ≤ 140737488355328) :
    Calls Tryz.prog 140 #[.func (.func 244) #[] #[.pointer (some ⟨w.heap.size, 0, none⟩)]] (w.alloc (.cells #[.map (some b)] 120)) (SortedOut (m.map (·.1)) (w.alloc (.cells #[.map (some b)] 120))) := by
  have hsz : Maps.size (kvD m) = m.length := by simp [kvD, Maps.size]
  have hk : strKeys (kvD m) = m.map (·.1) := by simp [kvD, strKeys, strOf]
  have hs : (m.map (·.1)).Pairwise fun a b => bytesBefore a b = true := by rw [List.pairwise_map]; exact SMap.sorted (Maps.string_keyed strT) h
  refine ((callsIn_wide (n := 5)).1 (sortedN_own b _ (kvD m) Rv w h (by rw [hsz]; unfold maxLen; omega) (by rw [hsz]; exact hl))).mono fun e w' hq => ?_
  obtain ⟨v, ss, rfl, hp, hrow, hnil, hb⟩ := hq
  rw [hk] at hp
  rw [sortedKeys hs hp, hp.length_eq] at hrow
  exact ⟨v, rfl, hrow, hnil.trans ⟨fun e => by rw [e] at hp; exact hp.nil_eq.symm, fun e => by rw [e] at hp; exact hp.eq_nil⟩, hb⟩

theorem tsorted_any (S : Nat → Prop) (w : World) (bt : Nat) (M : List (Key × Nd)) (N : Nat) (hT : TreeAt S w bt M N) (hN : M.length * 16 ≤ 140737488355328) :
    Calls Tryz.prog 152 #[.pointer (some ⟨bt, 0, none⟩)] w (SortedOut (M.map (·.1)) w) := by
  obtain ⟨bn, bk, K, hd, hNd, hKd⟩ := hT
  obtain ⟨m, hm, hr⟩ := hNd.ex
  have hx := TreeAt.box hd
  have C1 := keysN_any (some bn) w
  have C2 := sortedN_any bn m w hm (by rw [← hr.length]; exact hN)
  have HK := Lib.hid hr.keys
  have C1 := Lib.hid C1
  have C2 := Lib.hid C2
  unfold Box treeC at hx
  clear hm hr hd hNd hKd
  go_enter Tryz.func152, Tryz.ntmps152
  go_wp2_with fail
  refine C1.out.mono ?_
  rintro e w1 ⟨rfl, rfl⟩
  clear C1
  go_wp2_with fail
  refine C2.out.mono ?_
  rintro e w2 ⟨v, rfl, hrow, hnil, hE⟩
  have hfin : SortedOut (M.map (·.1)) w (.returned v) w2 := by
    rw [HK.out]
    exact ⟨v, rfl, ownsRow_base_a hrow (by simp), hnil, (Ext.alloc w _).trans hE⟩
  have HFIN := Lib.hid hfin
  clear C2 hrow hnil hE hfin
  go_wp2
  go_ret
  exact HFIN.out
end Go.Proofs.YthinpbdbhijbgaaGreatDoor
namespace Go.Proofs.YthinpbdbhijbgaaGreatDoor
open Go.RowKit Go.Sort
set_option maxHeartbeats 2000000
set_option maxRecDepth 100000

end Go.Proofs.YthinpbdbhijbgaaGreatDoor
namespace Go.Proofs.YthinpbdbhijbgaaGreatDoor
open Go.RowKit Go.Sort
set_option maxHeartbeats 2000000
set_option maxRecDepth 100000

section
variable {P : Program} {n : Nat} {o : Oper} {a : Act} {w : World} {K : Act → World → Prop} {Q : Exit → Act → World → Prop}
theorem operIn_value {w' : World} {v : Value} (h : (execOp a.eval o).run P w = .ok (.value v) w') (hK : K (a.put o.dst v) w') : o.wpIn Fence.wide n P a w K Q := by
  refine ⟨fun _ _ => trivial, ?_⟩
  rw [show (o.semAt Fence.wide.round a.eval) = execOp a.eval o from rfl, h]
  exact hK
theorem operIn_enter {f : FuncId} {args : Array Value} {R : Ending → World → Prop} (h : (execOp a.eval o).run P w = .ok (.enter f args) w) (hc : Calls P f args w R) (hR : ∀ e w', R e w' → ∃ v, e = .returned v ∧ K (a.put o.dst v) w') : o.wpIn Fence.wide n P a w K Q := by
  refine ⟨fun _ _ => trivial, ?_⟩
  rw [show (o.semAt Fence.wide.round a.eval) = execOp a.eval o from rfl, h]
  refine ⟨(fun h => by cases h), callsIn_wide.2 (hc.mono fun e w' hr => ?_)⟩
  obtain ⟨v, rfl, hk⟩ := hR e w' hr
  exact hk
theorem operIn_round {l f : Nat} {tmps : Array Value} {assign body : Code} {R : Ending → World → Prop} (h : (execOp a.eval o).run P w = .ok (.round l f tmps assign body) w) (hc : RoundIn Fence.wide (n - 1) P l f tmps assign body w R) (hR : ∀ e w', R e w' → ∃ v, e = .returned v ∧ K (a.put o.dst v) w') : o.wpIn Fence.wide n P a w K Q := by
  refine ⟨fun _ _ => trivial, ?_⟩
  rw [show (o.semAt Fence.wide.round a.eval) = execOp a.eval o from rfl, h]
  refine ⟨(fun h => by cases h), hc.mono fun e w' hr => ?_⟩
  obtain ⟨v, rfl, hk⟩ := hR e w' hr
  exact hk
theorem ex_yield {x : Operand} {args : Array Operand} {ts : Array TypeId} {l f : Nat} {tmps : Array Value} {assign body : Code} (ho : o.op = .call { callee := .value x, args := args, argTypes := ts }) (hx : a.eval x = .func (.yield l) #[] #[])
    (hy : (Instr.yield l (args.map a.eval)).run P w = .ok (.round l f tmps assign body) w) : (execOp a.eval o).run P w = .ok (.round l f tmps assign body) w := by
  simp [execOp, ho, resolve, hx, Deferred.ofValue, invoke, hy]
end

theorem infoNd : (Tryz.prog.info? 44).map (fun i => (i.zero, i.size, i.bytes)) = some (some (.agg zeroNd), 17, 168) := by kernel_rfl
/-- What a round keeps: the cells that are safe. -/
def KeepS (Safe : World → Nat → Prop) (W W' : World) : Prop :=
  W.heap.size ≤ W'.heap.size ∧ ∀ k c e f, W.heap[k]? = some (.cells c e f) → Safe W k → W'.heap[k]? = some (.cells c e f) ∧ Safe W' k
/-- What a round is handed: a node, its cells safe. -/
def GS (Safe : World → Nat → Prop) (x : Value × Nd) (W : World) : Prop := NdS (fun b => Safe W b ∧ b < W.heap.size) W x.1 x.2
def nodesOf (M : List (Key × Nd)) (ks : List Key) : List Nd := ks.map fun k => (mget M k).getD zeroN

/-- The blocks that are told from stay and are safe. -/
def Pers (Safe : World → Nat → Prop) (P2 : Nat → Prop) (W2 wr : World) : Prop :=
  W2.heap.size ≤ wr.heap.size ∧ ∀ b c e f, P2 b → W2.heap[b]? = some (.cells c e f) → wr.heap[b]? = some (.cells c e f) ∧ Safe wr b
theorem Pers.ext {Safe : World → Nat → Prop} {P2 : Nat → Prop} {W2 A B : World} (h : Pers Safe P2 W2 A) (he : Ext A B) (hs : ∀ k, Safe A k → Safe B k) : Pers Safe P2 W2 B :=
  ⟨Nat.le_trans h.1 he.size, fun b c e f hb hc => by
    obtain ⟨h1, h2⟩ := h.2 b c e f hb hc
    exact ⟨(he.block b (Array.getElem?_eq_some_iff.1 h1).1).trans h1, hs _ h2⟩⟩
theorem Pers.keep {Safe : World → Nat → Prop} {P2 : Nat → Prop} {W2 A B : World} (h : Pers Safe P2 W2 A) (hk : KeepS Safe A B) : Pers Safe P2 W2 B :=
  ⟨Nat.le_trans h.1 hk.1, fun b c e f hb hc => by
    obtain ⟨h1, h2⟩ := h.2 b c e f hb hc
    exact hk.2 b c e f h1 h2⟩
theorem Pers.cell {Safe : World → Nat → Prop} {P2 : Nat → Prop} {W2 A : World} (h : Pers Safe P2 W2 A) {b o : Nat} {u : Value} (hb : P2 b) (hu : W2.cell? ⟨b, o, none⟩ = some u) : A.cell? ⟨b, o, none⟩ = some u := by
  obtain ⟨c, e, f, hk⟩ := cell_cells hu
  rw [World.cell?_of_block ((h.2 b c e f hb hk).1.trans hk.symm)]
  exact hu

theorem flat17 : ∀ (vs : List (Array Value)) (i : Nat) (cs : Array Value), (∀ x ∈ vs, x.size = 17) → vs[i]? = some cs → ∀ j u, cs[j]? = some u → (vs.flatMap Array.toList)[i * 17 + j]? = some u
  | [], i, cs, _, h, _, _, _ => by simp at h
  | x :: vs, 0, cs, hs, h, j, u, hj => by
    simp at h
    subst h
    have hx := hs x (by simp)
    have hjl := (Array.getElem?_eq_some_iff.1 hj).1
    rw [List.flatMap_cons, Nat.zero_mul, Nat.zero_add, List.getElem?_append_left (by simpa using hjl)]
    simpa using hj
  | x :: vs, i + 1, cs, hs, h, j, u, hj => by
    have hx := hs x (by simp)
    rw [List.flatMap_cons, List.getElem?_append_right (by simp [hx]; omega)]
    have := flat17 vs i cs (fun y hy => hs y (by simp [hy])) (by simpa using h) j u hj
    rw [show (i + 1) * 17 + j - x.toList.length = i * 17 + j by simp [hx]; omega]
    exact this

theorem ownBlock_ge {w : World} {base e size n : Nat} {v : Value} {xs : List Value} (h : w.ownsRow base e size v n xs) (k : Nat) (hk : v.ownBlock = some k) : base ≤ k := by
  rcases h.2 with ⟨rfl, _⟩ | ⟨g, cap, cur, rfl, hb, _⟩
  · simp [Value.ownBlock] at hk
  · simp [Value.ownBlock] at hk; omega

set_option maxHeartbeats 4000000 in
theorem told_tells (Safe : World → Nat → Prop) (S0 : Nat → Prop) (w : World) (bt : Nat) (M : List (Key × Nd)) (N : Nat) (hT : TreeAt S0 w bt M N) (hsafe : ∀ k, S0 k → Safe w k) (bw btb fw : Nat) (bnd cap : Array Value)
    (hcw : w.cell? ⟨bw, 0, none⟩ = some (.func (.func fw) bnd cap)) (hct : w.cell? ⟨btb, 0, none⟩ = some (.pointer (some ⟨bt, 0, none⟩)))
    (hen : ∀ args w, (callFunc fw args).run Tryz.prog w = .ok (.enter fw args) w) (ks : List Key) (hw : ∀ W, Ext w W → Calls Tryz.prog fw (bnd ++ cap) W (SortedOut ks W)) (hks : ks.length * 168 ≤ 140737488355328) (hkl : ∀ k ∈ ks, k.length ≤ maxLen) :
    Tells Fence.wide 5 Tryz.prog 195 #[.pointer (some ⟨bw, 0, none⟩), .pointer (some ⟨btb, 0, none⟩)] (fun x : Value × Nd => #[x.1]) (GS Safe) (KeepS Safe) Safe
      (fun xs => xs.map (·.2) = nodesOf M ks) (fun pre => ∃ rest, pre.map (·.2) ++ rest = nodesOf M ks) w := by
  intro l J Jx W hW hSW hJ hY h0
  refine callsIn_wide.2 ?_
  have hTW := hT.ext hW
  have hbnd := hT.bound
  have hbtl := hT.bound
  have hcwW : W.cell? ⟨bw, 0, none⟩ = some (.func (.func fw) bnd cap) := (hW.cell (p := ⟨bw, 0, none⟩) (World.block_lt_of_cell? _ _ hcw)).trans hcw
  have hctW : W.cell? ⟨btb, 0, none⟩ = some (.pointer (some ⟨bt, 0, none⟩)) := (hW.cell (p := ⟨btb, 0, none⟩) (World.block_lt_of_cell? _ _ hct)).trans hct
  have hbtlt : btb < W.heap.size := World.block_lt_of_cell? _ _ hctW
  have CW := hw W hW
  have HY := Lib.hid hY
  have HJ := Lib.hid hJ
  have HT := Lib.hid hTW
  have CW := Lib.hid CW
  have HSW := Lib.hid hSW
  have HSafe := Lib.hid hsafe
  clear hcw hct hT hw hY hJ hTW hSW hsafe
  go_enter Tryz.func195, Tryz.ntmps195
  go_wp2_with fail
  refine CW.out.mono ?_
  rintro e W1 ⟨v, rfl, hrow, hnil, hE1⟩
  obtain ⟨sa, sc, rfl, hcs⟩ := ownsRow_cells hrow
  have hT1 := HT.out.ext hE1
  have hz1 := hE1.size
  have hct1 : W1.cell? ⟨btb, 0, none⟩ = some (.pointer (some ⟨bt, 0, none⟩)) := (hE1.cell (p := ⟨btb, 0, none⟩) hbtlt).trans hctW
  have hlen : ks.length ≤ 9223372036854775807 := by omega
  clear CW hrow hnil hcwW hctW
  go_wp2
  go_loopw [4, 12] (fun lv i wr => ∃ (k : Nat) (vs : List (Array Value)), k ≤ ks.length ∧ i = .int .i64 k ∧ vs.length = k ∧ wr.ownsRow W1.heap.size 44 17 lv k (vs.flatMap Array.toList) ∧ Ext W1 wr ∧ (∀ x ∈ vs, x.size = 17) ∧ Hid (∀ (j : Nat) (cs : Array Value), vs[j]? = some cs → ∃ n, (nodesOf M ks)[j]? = some n ∧ NdS S0 W1 (.agg cs) n)) (fun _ i _ => ks.length - (intOf i).toNat)
  case atStart => exact ⟨0, [], Nat.zero_le _, rfl, rfl, World.ownsRow_nil _ _ _ _, Ext.refl _, by simp, by unfold Hid; simp⟩
  case round =>
    obtain ⟨k, vs, hk, rfl, hvl, hown, hEr, hv17, HV⟩ := hrel
    by_cases hlt : k < ks.length
    · obtain ⟨b, off, rfl, hb, hc⟩ := hcs k (encStr ks[k]) (by rw [List.getElem?_map, List.getElem?_eq_getElem hlt]; rfl)
      have hcr : wr.cell? ⟨b, off + k, none⟩ = some (encStr ks[k]) := (hEr.cell (p := ⟨b, off + k, none⟩) hb).trans hc
      have hkz : (⟨ks[k].toArray⟩ : ByteArray).size ≤ maxLen := by
        have := hkl ks[k] (List.getElem_mem hlt)
        rw [← size_list]; simpa using this
      have hTr := hT1.ext hEr
      obtain ⟨bn, bk, K, hd, hNd, hKd⟩ := hTr
      have hx := TreeAt.box hd
      obtain ⟨vv, hvv, _, hq⟩ := hNd.look' ⟨ks[k].toArray⟩ hkz
      rw [key_back] at hvv
      have hvv1 : NdS S0 W1 vv ((mget M ks[k]).getD zeroN) := hvv.imp (fun _ h => h) (fun b o u hb hu => (hEr.cell (p := ⟨b, o, none⟩) (hT1.bound b hb)).symm.trans hu)
      obtain ⟨da, dc, aa, ac, rfl, _⟩ := hvv
      generalize hn : (mget M ks[k]).getD zeroN = n at *
      have hsnoc : (vs ++ [ndC n (.slice da n.data.length dc) (.slice aa n.acl.length ac)]).flatMap Array.toList = vs.flatMap Array.toList ++ (ndC n (.slice da n.data.length dc) (.slice aa n.acl.length ac)).toList := by simp
      have HV2 : Hid (∀ (j : Nat) (cs : Array Value), (vs ++ [ndC n (.slice da n.data.length dc) (.slice aa n.acl.length ac)])[j]? = some cs → ∃ n, (nodesOf M ks)[j]? = some n ∧ NdS S0 W1 (.agg cs) n) := by
        intro j cs hj
        by_cases hjk : j < vs.length
        · rw [List.getElem?_append_left hjk] at hj
          exact HV.out j cs hj
        · rw [List.getElem?_append_right (by omega)] at hj
          have hj0 : j = vs.length := by
            have := (List.getElem?_eq_some_iff.1 hj).1
            simp at this; omega
          subst hj0
          simp at hj
          subst hj
          refine ⟨n, ?_, hvv1⟩
          unfold nodesOf
          rw [List.getElem?_map, hvl, List.getElem?_eq_getElem hlt, Option.map_some, hn]
      have hct : wr.cell? ⟨btb, 0, none⟩ = some (.pointer (some ⟨bt, 0, none⟩)) := (hEr.cell (p := ⟨btb, 0, none⟩) (show btb < W1.heap.size by omega)).trans hct1
      have hs17 : Cells (wr.alloc (.cells (ndC n (.slice da n.data.length dc) (.slice aa n.acl.length ac)) 44)).heap.size (wr.alloc (.cells (ndC n (.slice da n.data.length dc) (.slice aa n.acl.length ac)) 44)) (some ⟨wr.heap.size, 0, none⟩) (ndC n (.slice da n.data.length dc) (.slice aa n.acl.length ac)).toList := fun j u hj => by
        refine ⟨_, 0, rfl, by simp, ?_⟩
        rw [Nat.zero_add, cell_of_row _ _ _ _ _ _ (heap_alloc_new wr _)]
        simpa using hj
      have hsrc : Src Tryz.prog 17 50 (.slice (some ⟨wr.heap.size, 0, none⟩) 1 1) 1 (ndC n (.slice da n.data.length dc) (.slice aa n.acl.length ac)).toList (wr.alloc (.cells (ndC n (.slice da n.data.length dc) (.slice aa n.acl.length ac)) 44)) :=
        hs17.src Tryz.underlying50 1 1 (by simp [ndC]) (fun u hu => by
          have := cells_node n da aa n.data.length n.acl.length dc ac
          rw [← Array.all_toList] at this
          exact List.all_eq_true.1 this u hu)
      obtain ⟨i0, hi, hz0, hz1', hz2⟩ := info_parts infoNd
      have hownA := hown.alloc (.cells (ndC n (.slice da n.data.length dc) (.slice aa n.acl.length ac)) 44)
      have hzr := hEr.size
      have HSN := Lib.hid hsnoc
      unfold Box treeC at hx
      unfold ndC at hq hsrc hownA
      clear hsnoc hd hNd hKd hs17 hvv1 hcs hn hc HV
      go_wp2_with (at_builtin; refine wpList_append_src _ rfl (.tmp 16) (.tmp 23) 50 50 rfl W1.heap.size 44 i0 (.agg zeroNd) 17 168 Tryz.underlying50 hi hz0 hz1' hz2 rfl (by decide) _ k _ rfl hownA _ 1 _ rfl hsrc ?c1 ?c2 ?c3 ?_)
      case c1 => unfold maxLen; omega
      case c2 => omega
      case c3 => first | omega | (simp; omega)
      intro v' w5 hown5 hg5 _ _
      have hE5 : Ext W1 w5 := (Below.alloc hEr hzr _).grown hg5 (by simp; omega) (fun g hg => ownBlock_ge hown g hg)
      rw [show [Value.string n.path, .slice da n.data.length dc, .slice aa n.acl.length ac, .int .i64 n.owner, .int .i64 n.czxid, .int .i64 n.mzxid, .int .i64 n.pzxid, .int .i64 n.azxid, .int .i64 n.qzxid, .int .i64 n.ctime, .int .i64 n.mtime, .int .i32 n.version, .int .i32 n.creates, .int .i32 n.aversion, .bool n.has, .int .i64 n.count, .int .i64 n.bytes] = (ndC n (.slice da n.data.length dc) (.slice aa n.acl.length ac)).toList from rfl, ← HSN.out] at hown5
      have HO5 := Lib.hid hown5
      clear hown5 hg5 hown hownA hsrc hEr hcr hct hx hq
      go_wp2
      go_roundw
      case rel =>
        refine ⟨k + 1, _, by omega, by go_num, by simp [hvl], HO5.out, hE5, fun x hx => ?_, HV2⟩
        rcases List.mem_append.1 hx with hx | hx
        · exact hv17 x hx
        · simp at hx; subst hx; rfl
      case measure => simp [intOf]; omega
    · obtain rfl : k = ks.length := by omega
      obtain ⟨la, lc, rfl, hrows⟩ := ownsRow_from hown
      have hJ2 := HJ.out [] W wr h0 (hE1.trans hEr)
      obtain ⟨hJ0, hSm, hSn⟩ := hJ2
      obtain ⟨W2, hW2⟩ : ∃ W2, W2 = wr := ⟨_, rfl⟩
      have hP0 : Pers Safe (fun b => S0 b ∨ W1.heap.size ≤ b) W2 wr := by
        rw [hW2]
        refine ⟨Nat.le_refl _, fun b c e f hb hc => ⟨hc, ?_⟩⟩
        rcases hb with hb | hb
        · exact hSm b (HSW.out b (hbnd b hb) (HSafe.out b hb))
        · exact hSn b (by omega)
      rw [← hW2] at hrows hEr
      clear hW2 hSm hSn hown h0 hcs hct1 HSW HSafe HT hW
      have hvs : ∀ (k : Nat), k < ks.length → ∃ (n : Nd) (da : Option Addr) (dc : Nat) (aa : Option Addr) (ac : Nat), (nodesOf M ks)[k]? = some n ∧ vs[k]? = some (ndC n (.slice da n.data.length dc) (.slice aa n.acl.length ac)) ∧ CellsS S0 W1 da (n.data.map u8v) ∧ CellsS S0 W1 aa (acCs n.acl) ∧ Fit n := fun k hk => by
        have hvk : vs[k]? = some (vs[k]'(by omega)) := List.getElem?_eq_getElem (by omega)
        obtain ⟨n, hn, da, dc, aa, ac, e, h1, h2⟩ := HV.out k _ hvk
        refine ⟨n, da, dc, aa, ac, hn, ?_, h1, h2, ?_⟩
        · rw [hvk]; simp only [Value.agg.injEq] at e; rw [e]
        · unfold nodesOf at hn
          rw [List.getElem?_map, List.getElem?_eq_getElem hk] at hn
          simp at hn
          rw [← hn]
          obtain ⟨_, _, _, _, hNd, _⟩ := hT1
          exact hNd.ok.fit _
      have HVS := Lib.hid hvs
      have HRows := Lib.hid hrows
      have HEr := Lib.hid hEr
      have hnl : (nodesOf M ks).length = ks.length := by simp [nodesOf]
      have HNL := Lib.hid hnl
      have H17 := Lib.hid hv17
      clear hvs hrows hEr hv17 HV hnl hE1 hvl
      go_wp2
      go_loopw [28] (fun i wt => ∃ (k : Nat) (pre : List (Value × Nd)), k ≤ ks.length ∧ i = .int .i64 k ∧ Hid (pre.map (·.2) = (nodesOf M ks).take k) ∧ J pre wt ∧ Pers Safe (fun b => S0 b ∨ W1.heap.size ≤ b) W2 wt) (fun i _ => ks.length - (intOf i).toNat)
      case atStart => exact ⟨0, [], Nat.zero_le _, rfl, rfl, hJ0, hP0⟩
      case round =>
        obtain ⟨k, pre, hk, rfl, HPre, hJk, hPk⟩ := hrel
        by_cases hlt : k < ks.length
        · obtain ⟨n, da, dc, aa, ac, hn, hv, hD, hA, hfit⟩ := HVS.out k hlt
          have hfl := flat17 vs k _ H17.out hv
          obtain ⟨g, off, rfl, _, _, _⟩ := HRows.out (k * 17 + 0) _ (hfl 0 (.string n.path) rfl)
          have hcw : ∀ j u, (ndC n (.slice da n.data.length dc) (.slice aa n.acl.length ac))[j]? = some u → wr.cell? ((⟨g, off + k * 17, none⟩ : Addr).add j) = some u := fun j u hj => by
            obtain ⟨g', off', e, h1, h2, h3⟩ := HRows.out (k * 17 + j) u (hfl j u hj)
            simp only [Option.some.injEq, Addr.mk.injEq, and_true] at e
            obtain ⟨rfl, rfl⟩ := e
            rw [addr_add, Nat.add_assoc]
            exact hPk.cell (.inr h1) h3
          obtain ⟨W4, hW4⟩ : ∃ W4, W4 = wr.alloc (.cells (ndC n (.slice da n.data.length dc) (.slice aa n.acl.length ac)) 44) := ⟨_, rfl⟩
          have hE4 : Ext wr W4 := by rw [hW4]; exact Ext.alloc _ _
          have hz4 : W4.heap.size = wr.heap.size + 1 := by rw [hW4]; simp
          have hn4 : W4.heap[wr.heap.size]? = some (.cells (ndC n (.slice da n.data.length dc) (.slice aa n.acl.length ac)) 44 (0, 0)) := by rw [hW4]; exact heap_alloc_new wr _
          obtain ⟨hJ4, hSm4, _⟩ := HJ.out pre wr W4 hJk hE4
          have hP4 := hPk.ext hE4 hSm4
          have hcell4 : ∀ (b o : Nat) u, S0 b → W1.cell? ⟨b, o, none⟩ = some u → W4.cell? ⟨b, o, none⟩ = some u := fun b o u hb hu =>
            hP4.cell (.inl hb) ((HEr.out.cell (p := ⟨b, o, none⟩) (hT1.bound b hb)).trans hu)
          have hbz : ∀ b, S0 b → b < W4.heap.size := fun b hb => by
            have := hT1.bound b hb
            have := HEr.out.size
            have := hP4.1
            omega
          have hD4 : Cells W4.heap.size W4 da (n.data.map u8v) := (hD.imp (fun _ h => h) hcell4).cells hbz
          have hA4 : Cells W4.heap.size W4 aa (acCs n.acl) := (hA.imp (fun _ h => h) hcell4).cells hbz
          have C4 := sclone_nd n da aa dc ac W4 hfit hD4 hA4
          have HC := Lib.hid hcw
          have HN := Lib.hid hn4
          have HSET := Lib.hid ((setRow_alloc wr zeroNd (ndC n (.slice da n.data.length dc) (.slice aa n.acl.length ac)) 44).trans hW4.symm)
          have HNew := Lib.hid (heap_alloc_new wr (.cells zeroNd 44))
          have HNk := Lib.hid hn
          have C4 := Lib.hid C4
          unfold ndC at HC HN HSET
          unfold zeroNd at HSET HNew
          clear hcw hW4 hn4 hfl hv hD hA hJk hPk hcell4 hD4 hA4 hE4 hSm4 hbz hn
          go_upto_region 9 with (first | (refine wpList_load_at rfl 44 (.tmp 30) rfl _ rfl _ _ HC.out Tryz.underlying44 rfl sizeNd ?_) | (refine wpList_store_row rfl 44 (.tmp 8) (.tmp 31) rfl wr.heap.size _ rfl rfl 44 _ HNew.out sizeNd rfl (cells_node n da aa _ _ dc ac) ?_; rw [HSET.out]))
          rw [put_none]
          refine (wpIn_wide (n := 5)).1 (wpIn_region_list ?_)
          refine wpListIn_plain rfl fun K1 hK1 => operIn_value (ex_move rfl) (hK1 _ _ ?_)
          refine wpListIn_plain rfl fun K2 hK2 => operIn_value (ex_load_row rfl wr.heap.size rfl 44 _ (0, 0) _ HN.out Tryz.underlying44 rfl sizeNd) (hK2 _ _ ?_)
          refine wpListIn_plain rfl fun K3 hK3 => operIn_enter (ex_call rfl (enters_f Tryz.func129 (by kernel_rfl) rfl)) (R := CloneS n W4) (by simp only [List.map_toArray, List.map_cons, List.map_nil]; exact C4.out) ?_
          rintro e W5 ⟨v, rfl, hv, hE5⟩
          refine ⟨_, rfl, hK3 _ _ ?_⟩
          have hq5 := HJ.out pre W4 W5 hJ4 hE5
          have hJ5 := hq5.1
          have hP5 := hP4.ext hE5 hq5.2.1
          have hG5 : GS Safe (v, n) W5 := hv.imp (fun b hb => ⟨hq5.2.2 b hb.1, hb.2⟩) (fun _ _ _ _ h => h)
          have HPre2 : Hid ((pre ++ [(v, n)]).map (·.2) = (nodesOf M ks).take (k + 1)) := by
            unfold Hid
            rw [List.map_append, HPre.out, List.take_add_one, HNk.out]
            rfl
          have hY5 := HY.out pre (v, n) W5 ⟨(nodesOf M ks).drop (k + 1), by rw [HPre2.out, List.take_append_drop]⟩ hJ5 hG5
          clear hq5 hG5 hv HPre
          revert hY5
          rintro ⟨fn, tmps, assign, body, hy, hR⟩
          refine wpListIn_plain rfl fun K4 hK4 => operIn_round (ex_yield rfl rfl (by simp only [List.map_toArray, List.map_cons, List.map_nil]; exact hy)) hR ?_
          rintro e W6 (⟨rfl, hJ6, hKp⟩ | ⟨rfl, hJx6⟩)
          · refine ⟨_, rfl, hK4 _ _ ?_⟩
            refine wpListIn_plain rfl fun K5 hK5 => operIn_value (v := .bool false) (w' := W6) (by kernel_rfl) (hK5 _ _ ?_)
            refine wpListIn_nil ?_
            have hP6 := hP5.keep hKp
            clear hK1 hK2 hK3 hK4 hK5 hy hR hJ5 hP5 hJ4 hP4 C4 HC HN HSET HNew hKp
            simp only [Exit.then, Act.put]
            go_simp
            rename_i hKd
            refine hKd _ _ ?_
            clear hKd
            go_wp2
            go_roundw
            case rel => exact ⟨k + 1, _, by omega, by go_num, HPre2, hJ6, hP6⟩
            case measure => simp [intOf]; omega
          · refine ⟨_, rfl, hK4 _ _ ?_⟩
            refine wpListIn_plain rfl fun K5 hK5 => operIn_value (v := .bool true) (w' := W6) (by kernel_rfl) (hK5 _ _ ?_)
            refine wpListIn_nil ?_
            clear hK1 hK2 hK3 hK4 hK5 hy hR hJ5 hP5 hJ4 hP4 C4 HC HN HSET HNew
            simp only [Exit.then, Act.put]
            go_simp
            rename_i hKd
            refine hKd _ _ ?_
            clear hKd
            go_wp2
            refine ⟨rfl, _, results_none rfl _ _ _, ⟨_, rfl⟩, .inr ⟨_, ⟨(nodesOf M ks).drop (k + 1), ?_⟩, hJx6⟩⟩
            rw [HPre2.out, List.take_append_drop]
        · obtain rfl : k = ks.length := by omega
          have hPre := HPre.out
          rw [List.take_of_length_le (by rw [HNL.out]; exact Nat.le_refl _)] at hPre
          have HPre2 := Lib.hid hPre
          clear hPre HPre HVS HRows H17
          go_wp2
          exact ⟨rfl, _, results_none rfl _ _ _, ⟨_, rfl⟩, .inl ⟨_, HPre2.out, hJk⟩⟩
end Go.Proofs.YthinpbdbhijbgaaGreatDoor
namespace Go.Proofs.YthinpbdbhijbgaaGreatDoor
open Go.RowKit Go.Sort
set_option maxHeartbeats 2000000
set_option maxRecDepth 100000

section
variable {F : Fence} {n : Nat} {P : Program} {ops : Array Oper} {Q : Exit → Act → World → Prop} {a : Act} {w : World} {rest : List Oper} {o : Oper}
theorem wpListIn_value {v : Value} {w' : World} (hF : ∀ f, F.fn f) (hgd : o.guard = none) (hnd : ∀ c, o.op ≠ .defer c) (h : (execOp a.eval o).run P w = .ok (.value v) w')
    (hK : wpListIn F n P ops Q rest (a.put o.dst v) w') : wpListIn F n P ops Q (o :: rest) a w :=
  wpListIn_plain hgd fun K hk => by
    refine ⟨fun _ _ => hF _, ?_⟩
    rw [Oper.semAt_eq _ _ _ hnd, h]
    exact hk _ _ hK
theorem wpListIn_skipped {w' : World} (hF : ∀ f, F.fn f) (hgd : o.guard = none) (hnd : ∀ c, o.op ≠ .defer c) (h : (execOp a.eval o).run P w = .ok .skip w')
    (hK : wpListIn F n P ops Q rest (a.put o.dst undef) w') : wpListIn F n P ops Q (o :: rest) a w :=
  wpListIn_plain hgd fun K hk => by
    refine ⟨fun _ _ => hF _, ?_⟩
    rw [Oper.semAt_eq _ _ _ hnd, h]
    exact hk _ _ hK
theorem ex_store_row (ty : TypeId) (x y : Operand) (ho : o.op = .store ty x y)
    (g : Nat) (cells : Array Value) (hx : a.eval x = .pointer (some ⟨g, 0, none⟩)) (hy : a.eval y = .agg cells)
    (t : TypeId) (old : Array Value) (hg : w.heap[g]? = some (.cells old t (0, 0))) (hi : (P.info? ty).map (·.size) = some cells.size)
    (hold : old.size = cells.size) (h1 : cells.all (·.oneCell') = true) : (execOp a.eval o).run P w = .ok .skip (w.setRow g cells) := by
  unfold execOp
  simp only [ho, hx, hy, Instr.storeAt, Instr.sureAddr, Sem.run_bind, Sem.run_pure, Result.andThen_ok, run_storeVar_row w g t ty old cells hg hi hold h1]
theorem wpListIn_load_row (hF : ∀ f, F.fn f) (hgd : o.guard = none) (ty : TypeId) (x : Operand) (ho : o.op = .load ty x) (g : Nat) (hx : a.eval x = .pointer (some ⟨g, 0, none⟩)) (t : TypeId) (cs : Array Value) (fr : Nat × Nat) (d : TypeDesc) (hg : w.heap[g]? = some (.cells cs t fr))
    (hu : P.underlying ty = some d) (hd : (match d with | .struct _ | .array _ _ => true | _ => false) = true) (hi : (P.info? ty).map (·.size) = some cs.size)
    (hK : wpListIn F n P ops Q rest (a.put o.dst (.agg cs)) w) : wpListIn F n P ops Q (o :: rest) a w :=
  wpListIn_value hF hgd (fun c h => by rw [ho] at h; cases h) (ex_load_row ho g hx t cs fr d hg hu hd hi) hK
theorem wpListIn_store_row (hF : ∀ f, F.fn f) (hgd : o.guard = none) (ty : TypeId) (x y : Operand) (ho : o.op = .store ty x y)
    (g : Nat) (cells : Array Value) (hx : a.eval x = .pointer (some ⟨g, 0, none⟩)) (hy : a.eval y = .agg cells)
    (t : TypeId) (old : Array Value) (hg : w.heap[g]? = some (.cells old t (0, 0))) (hi : (P.info? ty).map (·.size) = some cells.size)
    (hold : old.size = cells.size) (h1 : cells.all (·.oneCell') = true)
    (hK : wpListIn F n P ops Q rest (a.put o.dst undef) (w.setRow g cells)) : wpListIn F n P ops Q (o :: rest) a w :=
  wpListIn_skipped hF hgd (fun c h => by rw [ho] at h; cases h) (ex_store_row ty x y ho g cells hx hy t old hg hi hold h1) hK
theorem wpListIn_append_src (hF : ∀ f, F.fn f) (hgd : o.guard = none) (s x : Operand) (t tx : TypeId)
    (ho : o.op = .call { callee := .builtin .append, args := #[s, x], argTypes := #[t, tx] })
    (base : Nat) (e : TypeId) (i : TypeInfo) (z : Value) (size bytes : Nat) (ht : P.underlying t = some (.slice e)) (hi : P.info? e = some i) (hz : i.zero = some z)
    (hsize : i.size = size) (hby : i.bytes = bytes) (hzs : z.cells.size = size) (hsz : 0 < size)
    (v : Value) (m0 : Nat) (xs : List Value) (hv : a.eval s = v) (hown : w.ownsRow base e size v m0 xs)
    (xv : Value) (m : Nat) (news : List Value) (hx : a.eval x = xv) (hs : Src P size tx xv m news w)
    (h63 : m0 + m ≤ maxLen) (hbytes : (m0 + m) * bytes ≤ 140737488355328) (hbase : base ≤ w.heap.size)
    (h : ∀ v' w', w'.ownsRow base e size v' (m0 + m) (xs ++ news) → w.grownBy w' v.ownBlock → (v' = .slice none 0 0 ↔ v = .slice none 0 0 ∧ m = 0) → (v'.ownBlock = v.ownBlock ∨ v'.ownBlock = some w.heap.size) → wpListIn F n P ops Q rest (a.put o.dst v') w') : wpListIn F n P ops Q (o :: rest) a w := by
  obtain ⟨v', w', hr, h2, h3, h4, h5⟩ := run_append_own_src (P := P) w base t tx o.type e i z size bytes ht hi hz hsize hby hzs hsz v m0 xs hown xv m news hs h63 hbytes hbase
  exact wpListIn_value hF hgd (fun c h => by rw [ho] at h; cases h) (ex_append ho (by rw [hv, hx]; exact hr)) (h v' w' h2 h3 h4 h5)
end

/-- An operation within a round, from its walk outside of one. -/
theorem oper_in {n : Nat} {P : Program} {Q : Exit → Act → World → Prop} {a : Act} {w : World} {o : Oper} {K : Act → World → Prop} (l : Nat) (hnd : ∀ c, o.op ≠ .defer c) (h : o.wp P a w K Q) : o.wpIn (Fence.wide.inRound l) n P a w K Q := by
  unfold Oper.wp at h
  refine ⟨fun _ _ => trivial, ?_⟩
  rw [Oper.semAt_eq _ _ _ hnd]
  generalize (execOp a.eval o).run P w = r at h ⊢
  match r, h with
  | .ok (.value v) w', h => exact h
  | .ok .skip w', h => exact h
  | .ok (.defer d) w', h => exact h
  | .ok (.enter f args) w', h => exact ⟨(fun h => by cases h), callsIn_wide.2 h⟩
  | .ok (.row row args) w', h => exact ⟨(fun h => by cases h), fun c cs _ => let ⟨v, w'', r, s⟩ := h c cs; ⟨v, w'', r, stepsIn_wide.2 s⟩⟩
  | .halt (.panic v) w', h => exact h
theorem wpAnyIn_of_P {n : Nat} {P : Program} {ops : Array Oper} {Q : Exit → Act → World → Prop} {md : Region.Mode} (l : Nat) (hnd : ∀ o ∈ ops.toList, ∀ c, o.op ≠ .defer c) : ∀ (fuel : Nat) (lst : Array Bool) (a : Act) (w : World), wpAnyP P md ops Q fuel lst a w → wpAnyIn (Fence.wide.inRound l) n P md ops Q fuel lst a w
  | 0, _, _, _, h => h
  | fuel + 1, _, a, w, h => ⟨h.1, fun i hi => by
    have hh := wpOpP_mono (wpAnyIn_of_P (n := n) l hnd fuel _) (h.2 i hi)
    unfold wpOpP at hh
    unfold wpOpIn
    cases ho : ops[i]? with
    | none => rw [ho] at hh; exact hh
    | some o =>
      rw [ho] at hh
      simp only [] at hh ⊢
      by_cases hw : Region.wanted o (yielded ops a.tmps) = true
      · rw [if_pos hw] at hh ⊢
        exact oper_in l (hnd o (List.mem_of_getElem? (i := i) (by simpa using ho))) hh
      · rw [if_neg hw] at hh ⊢
        exact ⟨fun _ _ => trivial, hh⟩⟩
def noDefer (ops : Array Oper) : Bool := ops.toList.all fun o => match o.op with | .defer _ => false | _ => true
theorem wpIn_region_P {n : Nat} {P : Program} {ops : Array Oper} {Q : Exit → Act → World → Prop} {a : Act} {w : World} {id : Nat} (l : Nat) (hm : P.follows .mixedOrders = true) (hnd : noDefer ops = true) (h : RegionP P ops Q a w) : (Code.region id ops true).wpIn (Fence.wide.inRound l) n P Q a w :=
  wpIn_region_any hm (wpAnyIn_of_P l (fun o ho c e => by have := List.all_eq_true.1 hnd o ho; rw [e] at this; cases this) _ _ _ _ h)

/-- What All hands back: a function that tells the nodes. -/
def SeqOut (bt : Nat) (w : World) (e : Ending) (w' : World) : Prop :=
  ∃ bw btb, e = .returned (.func (.func 195) #[] #[.pointer (some ⟨bw, 0, none⟩), .pointer (some ⟨btb, 0, none⟩)]) ∧
    w'.cell? ⟨bw, 0, none⟩ = some (.func (.func 152) #[.pointer (some ⟨bt, 0, none⟩)] #[]) ∧ w'.cell? ⟨btb, 0, none⟩ = some (.pointer (some ⟨bt, 0, none⟩)) ∧ Ext w w'

theorem told_any (bt : Nat) (w : World) : Calls Tryz.prog 151 #[.pointer (some ⟨bt, 0, none⟩), .func (.func 152) #[.pointer (some ⟨bt, 0, none⟩)] #[]] w (SeqOut bt w) := by
  have h1 : ∀ t u, ((w.alloc (.cells #[Value.pointer (some ⟨bt, 0, none⟩)] t)).alloc (.cells #[Value.func (.func 152) #[.pointer (some ⟨bt, 0, none⟩)] #[]] u)).cell? ⟨w.heap.size, 0, none⟩ = some (.pointer (some ⟨bt, 0, none⟩)) := fun t u =>
    cell_of_row _ _ _ _ _ _ ((heap_alloc_old _ _ (by simp)).trans (heap_alloc_new w _))
  have h2 : ∀ t u, ((w.alloc (.cells #[Value.pointer (some ⟨bt, 0, none⟩)] t)).alloc (.cells #[Value.func (.func 152) #[.pointer (some ⟨bt, 0, none⟩)] #[]] u)).cell? ⟨w.heap.size + 1, 0, none⟩ = some (.func (.func 152) #[.pointer (some ⟨bt, 0, none⟩)] #[]) := fun t u =>
    cell_of_row _ _ _ _ _ _ (by have := heap_alloc_new (w.alloc (.cells #[Value.pointer (some ⟨bt, 0, none⟩)] t)) (.cells #[Value.func (.func 152) #[.pointer (some ⟨bt, 0, none⟩)] #[]] u); rwa [World.size_alloc] at this)
  have H1 := Lib.hid h1
  have H2 := Lib.hid h2
  clear h1 h2
  go_enter Tryz.func151, Tryz.ntmps151
  go_wp2
  go_ret
  exact ⟨_, _, rfl, H2.out _ _, H1.out _ _, (Ext.alloc w _).trans (Ext.alloc _ _)⟩

theorem tall_any (bt : Nat) (w : World) : Calls Tryz.prog 89 #[.pointer (some ⟨bt, 0, none⟩)] w (SeqOut bt w) := by
  have C1 := told_any bt w
  go_enter Tryz.func89, Tryz.ntmps89
  go_wp2_with fail
  refine C1.mono ?_
  rintro e w1 ⟨bw, btb, rfl, h1, h2, hE⟩
  have hfin : SeqOut bt w (.returned (.func (.func 195) #[] #[.pointer (some ⟨bw, 0, none⟩), .pointer (some ⟨btb, 0, none⟩)])) w1 := ⟨_, _, rfl, h1, h2, hE⟩
  have HFIN := Lib.hid hfin
  clear hfin h1 h2 hE C1
  go_wp2
  go_ret
  exact HFIN.out
end Go.Proofs.YthinpbdbhijbgaaGreatDoor
namespace Go.Proofs.YthinpbdbhijbgaaGreatDoor
open Go.RowKit Go.Sort
set_option maxHeartbeats 2000000
set_option maxRecDepth 100000
attribute [local go_sem] Oper.semAt_some

theorem infoSl : (Tryz.prog.info? 50).map (·.size) = some 1 := by kernel_rfl

theorem run_store_one {P : Program} {o : Oper} {a : Act} {w : World} (ty : TypeId) (x y : Operand) (ho : o.op = .store ty x y)
    (g : Nat) (v : Value) (hx : a.eval x = .pointer (some ⟨g, 0, none⟩)) (hy : a.eval y = v) (h1 : v.oneCell' = true)
    (t : TypeId) (old : Value) (hg : w.heap[g]? = some (.cells #[old] t (0, 0))) (hi : (P.info? ty).map (·.size) = some 1) : (execOp a.eval o).run P w = .ok .skip (w.setRow g #[v]) := by
  subst hy
  unfold execOp
  simp only [ho, hx, Instr.storeAt, Instr.sureAddr, Sem.run_bind, Sem.run_pure, Result.andThen_ok, run_storeVar_one w g t ty old _ hg hi h1]

/-- All but the box of the list and the list's own row. -/
def SafeO (bo : Nat) (W : World) (k : Nat) : Prop := k ≠ bo ∧ ∃ v, W.cell? ⟨bo, 0, none⟩ = some v ∧ v.ownBlock ≠ some k

theorem ownBlock_lt {w : World} {base e size n : Nat} {v : Value} {xs : List Value} (h : w.ownsRow base e size v n xs) (k : Nat) (hk : v.ownBlock = some k) : ∃ c, w.heap[k]? = some (.cells c e (0, 0)) := by
  rcases h.2 with ⟨rfl, _⟩ | ⟨g, cap, cur, rfl, _, hg, _⟩
  · simp [Value.ownBlock] at hk
  · simp [Value.ownBlock] at hk
    subst hk
    exact ⟨_, hg⟩

theorem row_at {w w' : World} {base e size n : Nat} {v : Value} {xs : List Value} (h : w.ownsRow base e size v n xs) (hk : ∀ g c, v.ownBlock = some g → w.heap[g]? = some (.cells c e (0, 0)) → w'.heap[g]? = some (.cells c e (0, 0))) : w'.ownsRow base e size v n xs := by
  refine ⟨h.1, ?_⟩
  rcases h.2 with h2 | ⟨g, cap, cur, rfl, h1, hg, h3⟩
  · exact .inl h2
  · exact .inr ⟨g, cap, cur, rfl, h1, hk g cur (by simp [Value.ownBlock]) hg, h3⟩

theorem Turn.cells {B : Nat} {X Y : World} (h : Turn B X Y) {k : Nat} {c : Array Value} {e : TypeId} {f : Nat × Nat} (hk : X.heap[k]? = some (.cells c e f)) : Y.heap[k]? = some (.cells c e f) := h.same k _ hk (.inr rfl)
theorem Turn.cell {B : Nat} {X Y : World} (h : Turn B X Y) {a : Addr} {u : Value} (hu : X.cell? a = some u) : Y.cell? a = some u := by
  obtain ⟨c, e, f, hk⟩ := cell_cells hu
  rw [World.cell?_of_block ((h.cells hk).trans hk.symm)]
  exact hu
theorem SafeO.turn {B bo : Nat} {X Y : World} (hT : Turn B X Y) (k : Nat) (h : SafeO bo X k) : SafeO bo Y k := by
  obtain ⟨h1, v, h2, h3⟩ := h
  exact ⟨h1, v, hT.cell h2, h3⟩
theorem gs_turn {B bo : Nat} {x : Value × Nd} {X Y : World} (h : GS (SafeO bo) x X) (hT : Turn B X Y) : GS (SafeO bo) x Y :=
  NdS.imp h (fun b hb => ⟨hb.1.turn hT, Nat.lt_of_lt_of_le hb.2 hT.size⟩) fun _ _ _ _ hu => hT.cell hu
/-- What All hands back: rows that show the nodes. -/
def AllOut (ns : List Nd) (w : World) (e : Ending) (w' : World) : Prop :=
  ∃ (v : Value) (vs : List (Array Value)), e = .returned v ∧ vs.length = ns.length ∧ w'.ownsRow w.heap.size 44 17 v ns.length (vs.flatMap Array.toList) ∧ (∀ (j : Nat) (cs : Array Value), vs[j]? = some cs → ∃ n, ns[j]? = some n ∧ NdS (· < w'.heap.size) w' (.agg cs) n) ∧ Below w.heap.size w w'

theorem told_not_nil (c : Array Value) (W : World) : (binOp .eql 153 (.func (.func 195) #[] c) .nilFunc).run Tryz.prog W = .ok (.bool false) W := by kernel_rfl

end Go.Proofs.YthinpbdbhijbgaaGreatDoor
