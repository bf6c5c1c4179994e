/- Plain laws: what a list of partings tells. No program in sight. The law DigestDiffs, walked. The walks of slices.AppendSeq and Collect over a tree's nodes. slices.Backward over nodes: what it hands over, as it tells it. The walks of the reference's record of a node: numbers, texts, lists of permissions. The walk of digest.mixed. -/
import Derived.Test.YthinpbdbhijbgaaGreatDoorJDigestFinds15
import Derived.Test.YthinpbdbhijbgaaGreatDoorJDigestFinds9
import Derived.Test.YthinpbdbhijbgaaGreatDoorJDigestFinds7
import Derived.Test.YthinpbdbhijbgaaGreatDoorJDigestFinds8
import Derived.Test.YthinpbdbhijbgaaGreatDoorJDigestFinds1
namespace Go.Proofs.YthinpbdbhijbgaaGreatDoor
open Go.RowKit Go.Sort
set_option maxHeartbeats 1000000

theorem fromL_errF : ∀ (L : List Nd) (i : Nat) (M : List (Key × Nd)) (e : Nat × Int), fromL L i M = .error e → e.2 ≠ 0
  | [], i, M, e, h => by cases h
  | n :: l, i, M, e, h => by
    unfold fromL at h
    split at h
    · rename_i h1; cases h; exact h1
    · split at h
      · cases h; show (71 : Int) ≠ 0; decide
      · exact fromL_errF l _ _ e h
theorem parL_errF (M : List (Key × Nd)) : ∀ (L : List Nd) (i : Nat) (e : Nat × Int), parL M L i = .error e → e.2 ≠ 0
  | [], i, e, h => by cases h
  | n :: l, i, e, h => by
    unfold parL at h
    split at h
    · cases h; show (73 : Int) ≠ 0; decide
    · exact parL_errF M l _ e h
theorem fromN_errF {L : List Nd} {e : Nat × Int} (h : fromN L = .error e) : e.2 ≠ 0 := by
  unfold fromN at h
  cases hf : fromL L 0 [] with
  | error x => rw [hf] at h; cases h; exact fromL_errF L 0 [] _ hf
  | ok M =>
    rw [hf] at h
    simp only at h
    split at h
    · cases h; decide
    · cases hp : parL M L 0 with
      | error x => rw [hp] at h; cases h; exact parL_errF M L 0 _ hp
      | ok u => rw [hp] at h; cases h
theorem errL_ok {L : List Nd} (h : okL L = true) : errL L = 0 := by
  unfold okL at h; unfold errL
  cases hf : fromN L with
  | error x => rw [hf] at h; cases h
  | ok M => rfl
theorem errL_not {L : List Nd} (h : okL L = false) : errL L ≠ 0 := by
  unfold okL at h; unfold errL
  cases hf : fromN L with
  | error x => exact fromN_errF hf
  | ok M => rw [hf] at h; cases h
theorem map_extF {α : Type} {A B : List (Key × α)} (hA : MSorted A) (hB : MSorted B) (h : ∀ k, mget A k = mget B k) : A = B := mem_ext_sorted hA hB fun x => by
  obtain ⟨k, v⟩ := x
  constructor
  · intro hx; have h1 := mget_of_mem hA hx; rw [h] at h1; exact mget_some_mem h1
  · intro hx; have h1 := mget_of_mem hB hx; rw [← h] at h1; exact mget_some_mem h1
theorem sameN_eq {v u : Nd} (h : sameN v u = true) : v = u := by simpa [sameN] using h
theorem diffM_same {A B : List (Key × Nd)} (hA : MOk A) (hB : MOk B) : ((diffM A B).length = 0) ↔ A = B := by
  constructor
  · intro h
    have h0 : diffM A B = [] := List.eq_nil_of_length_eq_zero h
    refine map_extF hA.sorted hB.sorted fun k => ?_
    have h1 := diffM_get A B hA.sorted hB.sorted k
    rw [h0, mget_nil] at h1
    cases ha : mget A k with
    | none =>
      cases hb : mget B k with
      | none => rfl
      | some u => rw [ha, hb] at h1; cases h1
    | some v =>
      cases hb : mget B k with
      | none => rw [ha, hb] at h1; cases h1
      | some u =>
        rw [ha, hb] at h1
        have h1 : (none : Option Int) = if sameN v u = true then none else some 3 := h1
        by_cases hs : sameN v u = true
        · rw [sameN_eq hs]
        · rw [if_neg hs] at h1; cases h1
  · rintro rfl
    cases hd : diffM A A with
    | nil => rfl
    | cons z l =>
      exfalso
      have h1 := diffM_get A A hA.sorted hA.sorted z.1
      rw [hd, mget_cons, if_pos rfl] at h1
      cases ha : mget A z.1 with
      | none => rw [ha] at h1; cases h1
      | some v =>
        rw [ha] at h1
        have h1 : some z.2 = if sameN v v = true then none else some 3 := h1
        rw [if_pos (sameN_self v)] at h1; cases h1
def backK (c : Int) : Int := if c = 3 then 3 else 3 - c
theorem partK_swap (a b : Option Nd) : partK b a = (partK a b).map backK := by
  cases a with
  | none => cases b <;> rfl
  | some v =>
    cases b with
    | none => rfl
    | some u =>
      show (if sameN u v = true then none else some 3) = (if sameN v u = true then none else some (3 : Int)).map backK
      by_cases h : v = u
      · subst h; rw [if_pos (sameN_self v)]; rfl
      · rw [if_neg (by rw [sameN_not (Ne.symm h)]; simp), if_neg (by rw [sameN_not h]; simp)]; rfl
theorem diffM_swap {A B : List (Key × Nd)} (hA : MOk A) (hB : MOk B) : diffM B A = (diffM A B).map fun z => (z.1, backK z.2) := by
  refine map_extF (diffM_sorted B A hB.sorted hA.sorted) ?_ fun k => ?_
  · unfold MSorted; rw [List.pairwise_map]; exact diffM_sorted A B hA.sorted hB.sorted
  · have h := mget_map backK (diffM A B) k
    rw [h, diffM_get B A hB.sorted hA.sorted k, diffM_get A B hA.sorted hB.sorted k]
    exact partK_swap _ _
/-- How the trees part at a path that is told. -/
theorem diff_kinds {A B : List (Key × Nd)} (hA : MOk A) (hB : MOk B) {z : Key × Int} (hz : z ∈ diffM A B) :
    (z.2 = 1 ∧ (∃ v, mget A z.1 = some v) ∧ mget B z.1 = none) ∨ (z.2 = 2 ∧ mget A z.1 = none ∧ ∃ u, mget B z.1 = some u) ∨ (z.2 = 3 ∧ ∃ v u, mget A z.1 = some v ∧ mget B z.1 = some u ∧ sameN v u = false) := by
  have h : partK (mget A z.1) (mget B z.1) = some z.2 := by
    rw [← diffM_get A B hA.sorted hB.sorted]
    exact mget_of_mem (diffM_sorted A B hA.sorted hB.sorted) hz
  cases ha : mget A z.1 with
  | none =>
    rw [ha] at h
    cases hb : mget B z.1 with
    | none => rw [hb] at h; cases h
    | some u => rw [hb] at h; exact .inr (.inl ⟨(Option.some.inj h).symm, rfl, u, rfl⟩)
  | some v =>
    rw [ha] at h
    cases hb : mget B z.1 with
    | none => rw [hb] at h; exact .inl ⟨(Option.some.inj h).symm, ⟨v, rfl⟩, rfl⟩
    | some u =>
      rw [hb] at h
      have h : (if sameN v u = true then none else some 3) = some z.2 := h
      by_cases hs : sameN v u = true
      · rw [if_pos hs] at h; cases h
      · rw [if_neg hs] at h
        exact .inr (.inr ⟨(Option.some.inj h).symm, v, u, rfl, rfl, by simpa using hs⟩)
theorem und_trans : ∀ (n : Nat) (q : ByteArray), q.size ≤ n → vpath q = true → ∀ p r : ByteArray, und q p = true → und p r = true → und q r = true
  | 0, q, hn, hv, p, r, h1, h2 => by have := (vpath_facts hv).1; omega
  | n + 1, q, hn, hv, p, r, h1, h2 => by
    by_cases hq : q.size = 1
    · rw [undV_one hq, beq_iff_eq] at h1
      obtain rfl : q = p := ByteArray.ext h1
      exact h2
    · have hs := (path_split hv hq).2.2.1
      rw [undV_up hv hq, Bool.or_eq_true, beq_iff_eq] at h1
      rcases h1 with h1 | h1
      · obtain rfl : q = p := ByteArray.ext h1
        exact h2
      · rw [undV_up hv hq, Bool.or_eq_true]
        exact .inr (und_trans n (parentB q) (by omega) (vpath_parent hv hq) p r h1 h2)
theorem climb_ok : ∀ (f : Nat) (p q : ByteArray), p.size ≤ f → vpath p = true → vpath q = true → vpath (climb f p q) = true ∧ und p (climb f p q) = true ∧ und q (climb f p q) = true
  | 0, p, q, hf, hp, hq => by have := (vpath_facts hp).1; omega
  | f + 1, p, q, hf, hp, hq => by
    show vpath (if und q p = true then p else climb f (parentB p) q) = true ∧ und p (if und q p = true then p else climb f (parentB p) q) = true ∧ und q (if und q p = true then p else climb f (parentB p) q) = true
    by_cases h : und q p = true
    · simp only [if_pos h]
      exact ⟨hp, und_self p, h⟩
    · simp only [if_neg h]
      have h1 : p.size ≠ 1 := fun h1 => h ((und_prefix q.size q (Nat.le_refl _) hq p hp).2 (.inr (.inl ((root_iff hp).1 h1))))
      have hs := (path_split hp h1).2.2.1
      obtain ⟨g1, g2, g3⟩ := climb_ok f (parentB p) q (by omega) (vpath_parent hp h1) hq
      refine ⟨g1, ?_, g3⟩
      rw [undV_up hp h1, g2, Bool.or_true]
theorem climbL_ok : ∀ (L D : List (Key × Int)) (p : ByteArray), vpath p = true → PVal D → PVal L → (∀ z ∈ D, und (pathK z) p = true) → vpath (climbL p L) = true ∧ (∀ z ∈ D, und (pathK z) (climbL p L) = true) ∧ ∀ z ∈ L, und (pathK z) (climbL p L) = true
  | [], D, p, hp, _, _, hD => ⟨hp, hD, fun z h => by cases h⟩
  | y :: L, D, p, hp, hv, hL, hD => by
    have hy := hL y (List.mem_cons_self ..)
    obtain ⟨g1, g2, g3⟩ := climb_ok 4096 p (pathK y) (vpath_facts hp).2.1 hp hy
    have hv2 : PVal (D ++ [y]) := fun z hz => by
      rcases List.mem_append.1 hz with h | h
      · exact hv z h
      · rw [List.mem_singleton] at h; subst h; exact hy
    obtain ⟨k1, k2, k3⟩ := climbL_ok L (D ++ [y]) (climb 4096 p (pathK y)) g1 hv2 (fun z hz => hL z (List.mem_cons_of_mem _ hz)) (fun z hz => by
      rcases List.mem_append.1 hz with h | h
      · exact und_trans _ _ (Nat.le_refl _) (hv z h) _ _ (hD z h) g2
      · rw [List.mem_singleton] at h; subst h; exact g3)
    refine ⟨k1, fun z hz => k2 z (List.mem_append_left _ hz), fun z hz => ?_⟩
    rcases List.mem_cons.1 hz with rfl | hz
    · exact k2 _ (List.mem_append_right _ (List.mem_singleton.2 rfl))
    · exact k3 z hz
/-- All lies under the path that is told as least. -/
theorem parted_above {L : List (Key × Int)} (hL : PVal L) {z : Key × Int} (hz : z ∈ L) : vpath (partedP L) = true ∧ und (pathK z) (partedP L) = true := by
  cases L with
  | nil => cases hz
  | cons y L =>
    obtain ⟨k1, _, k3⟩ := climbL_ok (y :: L) [] (pathK y) (hL y (List.mem_cons_self ..)) (fun z h => by cases h) hL (fun z h => by cases h)
    exact ⟨k1, k3 z hz⟩
theorem partedB_len (L : List (Key × Int)) : partedB L = decide (0 < L.length) := by cases L <;> simp [partedB]
/-- The root's number is there. -/
theorem und_root {M : List (Key × Nd)} (hM : MOk M) (hr : mget M [47] ≠ none) : ∃ y rest, nds M = y :: rest ∧ y.path.size = 1 ∧ keyN y = [47] := by
  obtain ⟨y, hy⟩ := Option.ne_none_iff_exists'.1 hr
  have hmem := mget_some_mem hy
  cases M with
  | nil => cases hmem
  | cons x l =>
    have hk : ∀ z ∈ x :: l, z.1 = keyN z.2 ∧ vpath z.2.path = true := fun z hz => ⟨hM.key z hz, right_vpath (hM.right z hz)⟩
    have hs := hM.sorted
    -- the first path is the root: every path begins with '/'
    obtain ⟨hx1, hx2⟩ := hk x (List.mem_cons_self ..)
    have hxr : x.1 = [47] := by
      rcases List.mem_cons.1 hmem with h | h
      · rw [← h]
      · have h1 := (List.pairwise_cons.1 hs).1 _ h
        dsimp only at h1
        -- x.1 before [47]
        obtain ⟨g1, _, g3, _⟩ := vpath_facts hx2
        have : x.1 ≠ [] := fun e => by
          rw [hx1] at e
          have e2 : x.2.path.data.toList.length = 0 := congrArg List.length e
          rw [size_list] at e2
          omega
        cases hxl : x.1 with
        | nil => exact absurd hxl this
        | cons c t =>
          rw [hxl] at h1
          have hc : c = 47 := by
            have e0 : (keyN x.2)[0]? = some c := by rw [← hx1, hxl]; rfl
            have e0 : x.2.path.data.toList[0]? = some c := e0
            have hsz : 0 < x.2.path.data.toList.length := by rw [size_list]; omega
            have h47 : x.2.path.data.toList[0] = 47 := (bat_toList x.2.path 0 g1).2 g3
            rw [List.getElem?_eq_getElem hsz, h47] at e0
            exact (Option.some.inj e0).symm
          subst hc
          cases t with
          | nil => rfl
          | cons d t => simp [bytesBefore] at h1
    refine ⟨x.2, nds l, rfl, ?_, by rw [← hx1]; exact hxr⟩
    refine (root_iff hx2).2 ?_
    rw [← hxr, hx1]; rfl
end Go.Proofs.YthinpbdbhijbgaaGreatDoor
namespace Go.Proofs.YthinpbdbhijbgaaGreatDoor
open Go.RowKit Go.Sort
set_option maxHeartbeats 8000000
set_option maxRecDepth 100000

theorem diff_val {A B : List (Key × Nd)} (hA : MOk A) (hB : MOk B) : PVal (diffM A B) := fun z hz => by
  have key : ∀ {M : List (Key × Nd)}, MOk M → ∀ x ∈ M, x.1 = z.1 → vpath (pathK z) = true := fun hM x hx e => by
    have h1 := right_vpath (hM.right x hx)
    have h2 : pathK z = x.2.path := by
      unfold pathK
      rw [← e, hM.key x hx]; unfold keyN; exact key_bytes _
    rw [h2]; exact h1
  rcases diffM_key A B z hz with ⟨x, hx, e⟩ | ⟨x, hx, e⟩
  · exact key hA x hx e
  · exact key hB x hx e
theorem diff_len {A B : List (Key × Nd)} (hA : MOk A) (hB : MOk B) : (diffM A B).length ≤ A.length + B.length := by
  have hp : (diffM A B).Perm (partsP A B) := by
    refine (List.perm_ext_iff_of_nodup ?_ ?_).2 fun x => ?_
    · exact (diffM_sorted A B hA.sorted hB.sorted).keys_ne.imp fun {a b} h e => h (by rw [e])
    · exact (partsP_ne hA.sorted hB.sorted).imp fun {a b} h e => h (by rw [e])
    · obtain ⟨k, c⟩ := x
      rw [partsP_mem hA.sorted hB.sorted, ← diffM_get A B hA.sorted hB.sorted k]
      exact ⟨fun h => mget_of_mem (diffM_sorted A B hA.sorted hB.sorted) h, fun h => mget_some_mem h⟩
  rw [hp.length_eq, ← par_parts hA hB, List.length_append]
  have h1 := parA_len B (nds A)
  have h2 := parB_len A (nds B)
  rw [nds_length] at h1 h2
  omega

end Go.Proofs.YthinpbdbhijbgaaGreatDoor
namespace Go.Proofs.YthinpbdbhijbgaaGreatDoor
open Go.RowKit Go.Sort
set_option maxHeartbeats 4000000
set_option maxRecDepth 100000
attribute [local go_sem] Oper.semAt_some

/-- The rounds' invariant: what the list holds. -/
structure ColI (B bo : Nat) (w : World) (pre : List (Value × Nd)) (vs : List (Array Value)) (v : Value) (W : World) : Prop where
  vals : pre.map (·.1) = vs.map Value.agg
  box : W.heap[bo]? = some (.cells #[v] 50 (0, 0))
  row : W.ownsRow B 44 17 v pre.length (vs.flatMap Array.toList)
  nds : ∀ x ∈ pre, GS (SafeO bo) x W
  size : B ≤ W.heap.size
  keep : Below w.heap.size w W

theorem colI_turn {B bo : Nat} {w : World} {pre : List (Value × Nd)} {vs : List (Array Value)} {v : Value} {X Y : World} (hI : ColI B bo w pre vs v X) (hT : Turn B X Y) (hbo : bo < B) (hw : w.heap.size ≤ B) :
    ColI B bo w pre vs v Y ∧ (∀ k, SafeO bo X k → SafeO bo Y k) ∧ ∀ k, X.heap.size ≤ k → SafeO bo Y k :=
  ⟨⟨hI.vals, hT.cells hI.box, row_at hI.row fun _ _ _ hc => hT.cells hc, fun x hx => gs_turn (hI.nds x hx) hT, Nat.le_trans hI.size hT.size, hI.keep.trans (hT.below hw hI.keep.size)⟩,
    fun k h => h.turn hT, fun k hk => ⟨by have := hI.size; omega, v, hT.cell (cell_of_row _ _ _ _ _ _ hI.box), fun e => by
      obtain ⟨c, hc⟩ := ownBlock_lt hI.row k e
      have := (Array.getElem?_eq_some_iff.1 hc).1
      omega⟩⟩

theorem colI_step {B bo : Nat} {w : World} {pre : List (Value × Nd)} {vs : List (Array Value)} {v : Value} {W w5 : World} {cs : Array Value} {n : Nd} {v' : Value} {T' : TypeId} (hI : ColI B bo w pre vs v W) (hbo : bo < B) (hwo : w.heap.size ≤ bo)
    (hx : GS (SafeO bo) (.agg cs, n) W) (hown : w5.ownsRow B 44 17 v' (pre.length + 1) (vs.flatMap Array.toList ++ cs.toList)) (hg : (W.alloc (.cells cs T')).grownBy w5 v.ownBlock) (ho : v'.ownBlock = v.ownBlock ∨ v'.ownBlock = some (W.heap.size + 1)) :
    ColI B bo w (pre ++ [(.agg cs, n)]) (vs ++ [cs]) v' (w5.setRow bo #[v']) ∧ KeepsRec B W (w5.setRow bo #[v']) ∧ KeepS (SafeO bo) W (w5.setRow bo #[v']) ∧ w5.heap[bo]? = some (.cells #[v] 50 (0, 0)) := by
  have hz := hg.size
  have hsz := hI.size
  simp only [World.size_alloc] at hz
  have hblk : ∀ k o, W.heap[k]? = some o → v.ownBlock ≠ some k → w5.heap[k]? = some o := fun k o hk hn => by
    have hlt := (Array.getElem?_eq_some_iff.1 hk).1
    exact (hg.block k (by simp; omega) (fun e => hn e.symm)).trans ((heap_alloc_old W _ hlt).trans hk)
  have h6 : ∀ k o, k ≠ bo → W.heap[k]? = some o → v.ownBlock ≠ some k → (w5.setRow bo #[v']).heap[k]? = some o := fun k o hk ho hn => (setRow_other _ _ _ _ hk).trans (hblk k o ho hn)
  have hov : ∀ k, k < B → v.ownBlock ≠ some k := fun k hk e => by have := ownBlock_ge hI.row k e; omega
  have hbo5 := hblk bo _ hI.box (hov bo hbo)
  have hbo6 := setRow_heap w5 bo _ #[v'] _ _ hbo5
  have hc6 : (w5.setRow bo #[v']).cell? ⟨bo, 0, none⟩ = some v' := cell_of_row _ _ _ _ _ _ hbo6
  have hcv : W.cell? ⟨bo, 0, none⟩ = some v := cell_of_row _ _ _ _ _ _ hI.box
  have hsafe : ∀ k, k < W.heap.size → SafeO bo W k → SafeO bo (w5.setRow bo #[v']) k := fun k hk hs => ⟨hs.1, v', hc6, fun e => by
    obtain ⟨h1, u, h2, h3⟩ := hs
    rw [hcv] at h2
    cases h2
    rcases ho with h | h
    · exact h3 (h.symm.trans e)
    · rw [h] at e; cases e; omega⟩
  have hnb : ∀ k, SafeO bo W k → v.ownBlock ≠ some k := fun k hs => by
    obtain ⟨h1, u, h2, h3⟩ := hs
    rw [hcv] at h2
    cases h2
    exact h3
  have hgs : ∀ x, GS (SafeO bo) x W → GS (SafeO bo) x (w5.setRow bo #[v']) := fun x h => NdS.imp h (fun b hb => ⟨hsafe b hb.2 hb.1, by have := hb.2; simp; omega⟩) fun b o u hb hu => by
    obtain ⟨c, e, f, hk⟩ := cell_cells hu
    rw [World.cell?_of_block ((h6 b _ hb.1.1 hk (hnb b hb.1)).trans hk.symm)]
    exact hu
  refine ⟨⟨by simp [hI.vals], hbo6, ?_, fun x hm => ?_, by simp; omega, ?_⟩, ⟨by simp; omega, fun k o hB hk hr => ?_⟩, ⟨by simp; omega, fun k c e f hk hs => ⟨h6 k _ hs.1 hk (hnb k hs), hsafe k (Array.getElem?_eq_some_iff.1 hk).1 hs⟩⟩, hbo5⟩
  · have := row_at hown (w' := w5.setRow bo #[v']) fun g c hg' hc => (setRow_other _ _ _ _ (fun e => by have := ownBlock_ge hown g hg'; omega)).trans hc
    simpa using this
  · rcases List.mem_append.1 hm with hm | hm
    · exact hgs x (hI.nds x hm)
    · simp at hm; subst hm; exact hgs _ hx
  · refine hI.keep.trans ⟨hg.os, hg.tape, hg.output, by simp; omega, fun k hk => ?_⟩
    have hlt := hI.keep.size
    have hlk : k < W.heap.size := by omega
    exact (h6 k _ (by omega) (Array.getElem?_eq_getElem hlk) (hov k (by omega))).trans (Array.getElem?_eq_getElem hlk).symm
  · refine h6 k o (by omega) hk fun e => ?_
    obtain ⟨c, hc⟩ := ownBlock_lt hI.row k e
    rw [hk] at hc
    cases hc
    cases hr

theorem colOut_of {B bo : Nat} {w : World} {pre : List (Value × Nd)} {vs : List (Array Value)} {v : Value} {W : World} (hI : ColI B bo w pre vs v W) (hw : w.heap.size ≤ B) {ns : List Nd} (hn : pre.map (·.2) = ns) : AllOut ns w (.returned v) W := by
  subst hn
  have hl : vs.length = pre.length := by simpa using (congrArg List.length hI.vals).symm
  refine ⟨v, vs, rfl, by simp [hl], by simpa using ownsRow_base_a hI.row hw, fun j cs hj => ?_, hI.keep⟩
  have hjl := (List.getElem?_eq_some_iff.1 hj).1
  have hjp : j < pre.length := by omega
  refine ⟨pre[j].2, by simp [hjp], ?_⟩
  have h1 : pre[j].1 = .agg cs := by
    have := congrArg (·[j]?) hI.vals
    simpa [hjp, hj] using this
  have := hI.nds pre[j] (List.getElem_mem hjp)
  unfold GS at this
  rw [h1] at this
  exact this.imp (fun b hb => hb.2) fun _ _ _ _ h => h


theorem appseq_any (S : Nat → Prop) (w : World) (bt : Nat) (M : List (Key × Nd)) (N : Nat) (hT : TreeAt S w bt M N) (bw btb : Nat) (hcw : w.cell? ⟨bw, 0, none⟩ = some (.func (.func 152) #[.pointer (some ⟨bt, 0, none⟩)] #[])) (hct : w.cell? ⟨btb, 0, none⟩ = some (.pointer (some ⟨bt, 0, none⟩))) (hks : M.length * 168 ≤ 140737488355328) (hkl : ∀ k ∈ M.map (·.1), k.length ≤ maxLen) :
    Calls Tryz.prog 170 #[.slice none 0 0, .func (.func 195) #[] #[.pointer (some ⟨bw, 0, none⟩), .pointer (some ⟨btb, 0, none⟩)]] w (AllOut (nds M) w) := by
  obtain ⟨W1, hW1⟩ : ∃ W1, W1 = w.alloc (.cells #[.slice none 0 0] 50) := ⟨_, rfl⟩
  have hE1 : Ext w W1 := by rw [hW1]; exact Ext.alloc _ _
  have hz1 : w.heap.size < W1.heap.size := by rw [hW1]; simp
  have hbx1 : W1.heap[w.heap.size]? = some (.cells #[.slice none 0 0] 50 (0, 0)) := by rw [hW1]; exact heap_alloc_new w _
  have hT1 := hT.ext hE1
  have hbd := hT.bound
  have hok := hT.ok
  have hI0 : ColI W1.heap.size w.heap.size w [] [] (.slice none 0 0) W1 := ⟨rfl, hbx1, World.ownsRow_nil _ _ _ _, by simp, Nat.le_refl _, hE1⟩
  have hs1 : ∀ k, S k → SafeO w.heap.size W1 k := fun k hk => ⟨by have := hbd k hk; omega, _, cell_of_row _ _ _ _ _ _ hbx1, by simp [Value.ownBlock]⟩
  have TT := told_tells (SafeO w.heap.size) S W1 bt M N hT1 hs1 bw btb 152 #[.pointer (some ⟨bt, 0, none⟩)] #[] ((hE1.cell (World.block_lt_of_cell? _ _ hcw)).trans hcw) ((hE1.cell (World.block_lt_of_cell? _ _ hct)).trans hct) (enters_of Tryz.func152 (by kernel_rfl) rfl) (M.map (·.1))
    (fun W hW => by simpa using tsorted_any S W bt M N (hT1.ext hW) (by omega)) (by simpa using hks) hkl
  rw [nodesOf_vals hok.sorted] at TT
  have TT := Lib.hid TT
  have HI0 := Lib.hid hI0
  have HW1 := Lib.hid hW1.symm
  have hnn := told_not_nil #[.pointer (some ⟨bw, 0, none⟩), .pointer (some ⟨btb, 0, none⟩)] W1
  clear hT hcw hct hE1 hbx1 hT1 hs1 hI0 hW1 hbd hok
  refine (callsIn_wide (n := 6)).1 (callsIn_of_wp_marks Tryz.func170 rfl trivial ?_)
  simp only [Tryz.ntmps170, List.size_toArray, List.length_cons, List.length_nil, Nat.reduceAdd, Nat.reduceSub, Array.replicate_succ, Array.replicate_zero, List.push_toArray, List.append_toArray, List.nil_append, List.cons_append]
  gi_wp2
  rw [HW1.out]
  refine wpIn_tells_nd (Safe := SafeO w.heap.size) (by omega) (gf := 195) (lb := #[.pointer (some ⟨bw, 0, none⟩), .pointer (some ⟨btb, 0, none⟩)]) rfl (enters_of Tryz.func195 (by kernel_rfl) rfl) TT.out (show 7 < 13 by decide) (show 5 < 13 by decide) (by decide)
    (fun pre W => ∃ vs v, ColI W1.heap.size w.heap.size w pre vs v W) (fun _ _ _ => False) (fun _ _ k hT h => h.turn hT) ?hI ?hIx ⟨_, _, HI0.out⟩ ?body ?done ?stop
  case hI =>
    rintro pre X Y ⟨vs, v, hX⟩ hTn
    obtain ⟨h1, _, h3⟩ := colI_turn hX hTn (by omega) (by omega)
    exact ⟨⟨vs, v, h1⟩, h3⟩
  case hIx => exact fun _ _ _ _ h _ => h
  case stop => exact fun _ _ _ _ _ _ h => h.elim
  case body =>
    rintro l pre n da dc aa ac bl W hl0 hrec ⟨rest, hSp⟩ ⟨vs, v, hI⟩ hG hbl
    simp only [List.setIfInBounds_toArray, List.set_cons_succ, List.set_cons_zero]
    have hpl : pre.length + 1 ≤ M.length := by
      have := congrArg List.length hSp
      simp at this
      omega
    have hv : W.cell? ⟨w.heap.size, 0, none⟩ = some v := cell_of_row _ _ _ _ _ _ hI.box
    have hs17 : Cells (W.alloc (.cells (ndC n (.slice da n.data.length dc) (.slice aa n.acl.length ac)) 44)).heap.size (W.alloc (.cells (ndC n (.slice da n.data.length dc) (.slice aa n.acl.length ac)) 44)) (some ⟨W.heap.size, 0, none⟩) (ndC n (.slice da n.data.length dc) (.slice aa n.acl.length ac)).toList := fun j u hj => by
      refine ⟨_, 0, rfl, by simp, ?_⟩
      rw [Nat.zero_add, cell_of_row _ _ _ _ _ _ (heap_alloc_new W _)]
      simpa using hj
    have hsrc : Src Tryz.prog 17 50 (.slice (some ⟨W.heap.size, 0, none⟩) 1 1) 1 (ndC n (.slice da n.data.length dc) (.slice aa n.acl.length ac)).toList (W.alloc (.cells (ndC n (.slice da n.data.length dc) (.slice aa n.acl.length ac)) 44)) :=
      hs17.src Tryz.underlying50 1 1 (by simp [ndC]) (fun u hu => by
        have := cells_node n da aa n.data.length n.acl.length dc ac
        rw [← Array.all_toList] at this
        exact List.all_eq_true.1 this u hu)
    obtain ⟨i0, hi, hz0, hz1', hz2⟩ := info_parts infoNd
    have hownA := hI.row.alloc (.cells (ndC n (.slice da n.data.length dc) (.slice aa n.acl.length ac)) 44)
    have hszB := hI.size
    have HI := Lib.hid hI
    have HG := Lib.hid hG
    have HBL := Lib.hid hbl
    unfold ndC at hsrc hownA HBL
    clear hs17 HI0 hI hG hbl
    refine wpIn_block ?_
    gi_wp2_with (first | (refine wpListIn_load_row (fun _ => trivial) rfl 44 (.tmp 5) rfl bl rfl 44 _ (0, 0) _ HBL.out Tryz.underlying44 rfl sizeNd ?_) | (gi_at_builtin; refine wpListIn_append_src (fun _ => trivial) rfl (.tmp 8) (.tmp 10) 50 50 rfl W1.heap.size 44 i0 (.agg zeroNd) 17 168 Tryz.underlying50 hi hz0 hz1' hz2 rfl (by decide) _ pre.length _ rfl hownA _ 1 _ rfl hsrc ?c1 ?c2 ?c3 ?_))
    case c1 => unfold maxLen at *; omega
    case c2 => omega
    case c3 => first | omega | (simp; omega)
    intro v' w5 hown5 hg5 _ ho5
    rw [show [Value.string n.path, .slice da n.data.length dc, .slice aa n.acl.length ac, .int .i64 n.owner, .int .i64 n.czxid, .int .i64 n.mzxid, .int .i64 n.pzxid, .int .i64 n.azxid, .int .i64 n.qzxid, .int .i64 n.ctime, .int .i64 n.mtime, .int .i32 n.version, .int .i32 n.creates, .int .i32 n.aversion, .bool n.has, .int .i64 n.count, .int .i64 n.bytes] = (ndC n (.slice da n.data.length dc) (.slice aa n.acl.length ac)).toList from rfl] at hown5
    obtain ⟨hI6, hR6, hK6, hbo5⟩ := colI_step HI.out (by omega) (by omega) HG.out hown5 hg5 ho5
    obtain ⟨la, lc, rfl, _⟩ := ownsRow_from hown5
    have HB5 := Lib.hid hbo5
    have HFIN := Lib.hid (And.intro hR6 (And.intro hK6 (show ∃ vs v, ColI W1.heap.size w.heap.size w (pre ++ [(Value.agg (ndC n (.slice da n.data.length dc) (.slice aa n.acl.length ac)), n)]) vs v (w5.setRow w.heap.size #[.slice la (pre.length + 1) lc]) from ⟨_, _, hI6⟩)))
    clear hbo5 hI6 hR6 hK6 hown5 hg5 ho5 hsrc hownA hv
    refine wpListIn_skipped (fun _ => trivial) rfl (fun c h => by cases h) (run_store_one 50 (.tmp 2) (.tmp 11) rfl w.heap.size (.slice la (pre.length + 1) lc) rfl rfl rfl 50 v HB5.out infoSl) ?_
    gi_wp2
    exact HFIN.out
  case done =>
    rintro D xs W hD hS ⟨vs, v, hI⟩ hK
    have hv : W.cell? ⟨w.heap.size, 0, none⟩ = some v := cell_of_row _ _ _ _ _ _ hI.box
    have hfin := colOut_of (colI_turn hI (Turn.putObj (.deferred none) hD hK rfl) (by omega) (by omega)).1 (by omega) hS
    have HFIN := Lib.hid hfin
    have HK := Lib.hid hK
    clear hfin hK hI hS TT HI0
    gi_wp2
    refine ⟨by simp, .inl ⟨_, _, rfl, run_takeDeferred HK.out, ?_⟩⟩
    refine ⟨_, results_tmp rfl _ _ _, ?_⟩
    exact HFIN.out
theorem collect_any (S : Nat → Prop) (w : World) (bt : Nat) (M : List (Key × Nd)) (N : Nat) (hT : TreeAt S w bt M N) (bw btb : Nat) (hcw : w.cell? ⟨bw, 0, none⟩ = some (.func (.func 152) #[.pointer (some ⟨bt, 0, none⟩)] #[])) (hct : w.cell? ⟨btb, 0, none⟩ = some (.pointer (some ⟨bt, 0, none⟩))) (hks : M.length * 168 ≤ 140737488355328) (hkl : ∀ k ∈ M.map (·.1), k.length ≤ maxLen) :
    Calls Tryz.prog 124 #[.func (.func 195) #[] #[.pointer (some ⟨bw, 0, none⟩), .pointer (some ⟨btb, 0, none⟩)]] w (AllOut (nds M) w) := by
  have C := Lib.hid (appseq_any S w bt M N hT bw btb hcw hct hks hkl)
  clear hT hcw hct hks hkl
  go_enter Tryz.func124, Tryz.ntmps124
  go_wp2_with fail
  refine C.out.mono ?_
  rintro e w' ⟨v, vs, rfl, h1, h2, h3, h4⟩
  have HFIN := Lib.hid (show AllOut (nds M) w (.returned v) w' from ⟨v, vs, rfl, h1, h2, h3, h4⟩)
  clear C h1 h2 h3 h4
  go_wp2
  go_ret
  exact HFIN.out
theorem allOut_nds {base : Nat} {w : World} {ns : List Nd} {v : Value} {vs : List (Array Value)} (h1 : vs.length = ns.length) (h2 : w.ownsRow base 44 17 v ns.length (vs.flatMap Array.toList)) (h3 : ∀ (j : Nat) (cs : Array Value), vs[j]? = some cs → ∃ n, ns[j]? = some n ∧ NdS (· < w.heap.size) w (.agg cs) n) : ∃ a c, v = .slice a ns.length c ∧ NdsAt w.heap.size w a ns := by
  obtain ⟨a, c, e, _, _, hr, _⟩ := RowsOf.of_own (S := (· < w.heap.size)) h2 rfl h1 (fun _ _ h => h) h3
  exact ⟨a, c, e, hr.nds fun _ h => h⟩
end Go.Proofs.YthinpbdbhijbgaaGreatDoor
namespace Go.Proofs.YthinpbdbhijbgaaGreatDoor
open Go.RowKit Go.Sort
set_option maxHeartbeats 4000000
set_option maxRecDepth 100000

def TrueS (_ : World) (_ : Nat) : Prop := True
/-- All rows are as they were. -/
def Cel (W wt : World) : Prop := W.heap.size ≤ wt.heap.size ∧ ∀ (k : Nat) c e f, W.heap[k]? = some (.cells c e f) → wt.heap[k]? = some (.cells c e f)
theorem Cel.refl (W : World) : Cel W W := ⟨Nat.le_refl _, fun _ _ _ _ h => h⟩
theorem Cel.cell {W wt : World} (h : Cel W wt) {p : Addr} {u : Value} (hu : W.cell? p = some u) : wt.cell? p = some u := by
  obtain ⟨c, e, f, hk⟩ := cell_cells hu
  rw [World.cell?_of_block ((h.2 _ _ _ _ hk).trans hk.symm)]
  exact hu
theorem Cel.keep {W X Y : World} (h : Cel W X) (hk : KeepS TrueS X Y) : Cel W Y := ⟨Nat.le_trans h.1 hk.1, fun k c e f hc => (hk.2 k c e f (h.2 k c e f hc) trivial).1⟩
theorem backw_any (a : Option Addr) (n c : Nat) (w : World) : Calls Tryz.prog 125 #[.slice a n c] w fun e w' => e = .returned (.func (.func 171) #[] #[.pointer (some ⟨w.heap.size, 0, none⟩)]) ∧ w' = w.alloc (.cells #[.slice a n c] 50) := by
  go_enter Tryz.func125, Tryz.ntmps125
  go_wp2
  go_ret
  exact ⟨rfl, rfl⟩

theorem back_tells (w : World) (L : List Nd) (a : Option Addr) (c : Nat) (bx : Nat) (hx : w.cell? ⟨bx, 0, none⟩ = some (.slice a L.length c)) (hL : NdsAt w.heap.size w a L) (hl : L.length ≤ 9223372036854775807) :
    Tells Fence.wide 5 Tryz.prog 171 #[.pointer (some ⟨bx, 0, none⟩)] (fun x : Int × Value × Nd => #[.int .i64 x.1, x.2.1]) (fun x W => GS TrueS x.2 W) (KeepS TrueS) TrueS
      (fun xs => xs.map (·.2.2) = L.reverse) (fun pre => ∃ rest, pre.map (·.2.2) ++ rest = L.reverse) w := by
  intro l J Jx W hW hSW hJ hY h0
  refine callsIn_wide.2 ?_
  have hxW : W.cell? ⟨bx, 0, none⟩ = some (.slice a L.length c) := (hW.cell (p := ⟨bx, 0, none⟩) (World.block_lt_of_cell? _ _ hx)).trans hx
  have HL := Lib.hid (hL.ext hW)
  have HY := Lib.hid hY
  have HJ := Lib.hid hJ
  have hb1 : (-9223372036854775808 : Int) ≤ (L.length : Int) - 1 := by omega
  have hb2 : (L.length : Int) - 1 < 9223372036854775808 := by omega
  clear hx hL hY hJ hSW hW
  go_enter Tryz.func171, Tryz.ntmps171
  go_wp2
  go_loopw [3] (fun i wt => ∃ (z : Int) (k : Nat) (pre : List (Int × Value × Nd)), i = .int .i64 z ∧ z + 1 = k ∧ k ≤ L.length ∧ Hid (pre.map (·.2.2) = (L.drop k).reverse) ∧ J pre wt ∧ Hid (Cel W wt)) (fun i _ => (intOf i + 1).toNat)
  case atStart => exact ⟨_, L.length, [], rfl, by omega, Nat.le_refl _, by unfold Hid; simp, h0, Cel.refl _⟩
  case round =>
    obtain ⟨z, k, pre, rfl, hz, hk, HP, hJk, HC⟩ := hrel
    by_cases hz0 : 0 ≤ z
    · obtain ⟨j, rfl⟩ := Int.eq_ofNat_of_zero_le hz0
      obtain rfl : k = j + 1 := by omega
      have hlt : j < L.length := by omega
      obtain ⟨b, off, v, rfl, hb, hv, hc⟩ := HL.out j L[j] (List.getElem?_eq_getElem hlt)
      have hxr : wr.cell? ⟨bx, 0, none⟩ = some (.slice (some ⟨b, off, none⟩) L.length c) := HC.out.cell hxW
      have hdr : (L.drop j).reverse = (L.drop (j + 1)).reverse ++ [L[j]] := by rw [List.drop_eq_getElem_cons hlt, List.reverse_cons]
      have hrest : (L.drop j).reverse ++ (L.take j).reverse = L.reverse := by rw [← List.reverse_append, List.take_append_drop]
      generalize L[j] = n at *
      obtain ⟨da, dc, aa, ac, rfl, hD, hA⟩ := hv
      have hcw : ∀ i u, (ndC n (.slice da n.data.length dc) (.slice aa n.acl.length ac))[i]? = some u → wr.cell? ((⟨b, off + j * 17, none⟩ : Addr).add i) = some u := fun i u hi => by
        rw [addr_add]; exact HC.out.cell (hc i u hi)
      have hG : GS TrueS (.agg (ndC n (.slice da n.data.length dc) (.slice aa n.acl.length ac)), n) wr := by
        refine ⟨da, dc, aa, ac, rfl, fun i u hi => ?_, fun i u hi => ?_⟩
        · obtain ⟨b', o', e, h1, h2⟩ := hD i u hi
          exact ⟨b', o', e, ⟨trivial, Nat.lt_of_lt_of_le h1 HC.out.1⟩, HC.out.cell h2⟩
        · obtain ⟨b', o', e, h1, h2⟩ := hA i u hi
          exact ⟨b', o', e, ⟨trivial, Nat.lt_of_lt_of_le h1 HC.out.1⟩, HC.out.cell h2⟩
      have HPre2 := Lib.hid (show (pre ++ [((j : Int), Value.agg (ndC n (.slice da n.data.length dc) (.slice aa n.acl.length ac)), n)]).map (·.2.2) = (L.drop j).reverse by rw [List.map_append, HP.out, hdr]; rfl)
      have hY5 := HY.out pre ((j : Int), Value.agg (ndC n (.slice da n.data.length dc) (.slice aa n.acl.length ac)), n) wr ⟨(L.take j).reverse, by rw [HPre2.out, hrest]⟩ hJk hG
      have HCW := Lib.hid hcw
      have HREST := Lib.hid hrest
      have hj0 : (0 : Int) ≤ (j : Int) := by omega
      have hj1 : (j : Int) < (L.length : Int) := by omega
      clear hcw hc hD hA hG hdr hrest hz hJk HP
      go_upto_region 3 with (fail)
      refine (wpIn_wide (n := 5)).1 (wpIn_region_list ?_)
      refine wpListIn_plain rfl fun K1 hK1 => operIn_value (ex_move rfl) (hK1 _ _ ?_)
      refine wpListIn_plain rfl fun K2 hK2 => operIn_value (ex_move rfl) (hK2 _ _ ?_)
      refine wpListIn_plain rfl fun K3 hK3 => operIn_value (ex_cell rfl _ _ rfl hxr rfl Tryz.underlying50) (hK3 _ _ ?_)
      refine wpListIn_plain rfl fun K4 hK4 => operIn_value (ex_move rfl) (hK4 _ _ ?_)
      refine wpListIn_plain rfl fun K5 hK5 => operIn_value (v := .pointer (some ⟨b, off + j * 17, none⟩)) (w' := wr) (by simp only [execOp]; simp [go_sem, Act.eval, hj0, hj1]) (hK5 _ _ ?_)
      refine wpListIn_plain rfl fun K6 hK6 => operIn_value (ex_load_at rfl _ rfl _ HCW.out Tryz.underlying44 rfl sizeNd) (hK6 _ _ ?_)
      revert hY5
      rintro ⟨fn, tmps, assign, body, hy, hR⟩
      refine wpListIn_plain rfl fun K7 hK7 => operIn_round (ex_yield rfl rfl (by simp only [List.map_toArray, List.map_cons, List.map_nil]; exact hy)) hR ?_
      rintro e W6 (⟨rfl, hJ6, hKp⟩ | ⟨rfl, hJx6⟩)
      · refine ⟨_, rfl, hK7 _ _ ?_⟩
        refine wpListIn_plain rfl fun K8 hK8 => operIn_value (v := .bool false) (w' := W6) (by kernel_rfl) (hK8 _ _ ?_)
        refine wpListIn_nil ?_
        have HC6 := Lib.hid (HC.out.keep hKp)
        clear hK1 hK2 hK3 hK4 hK5 hK6 hK7 hK8 hy hR HCW hKp hxr HC
        simp only [Exit.then, Act.put]
        go_simp
        rename_i hKd
        refine hKd _ _ ?_
        clear hKd
        go_wp2
        go_roundw
        case rel => exact ⟨_, j, _, rfl, by omega, by omega, HPre2, hJ6, HC6.out⟩
        case measure => simp [intOf] <;> omega
      · refine ⟨_, rfl, hK7 _ _ ?_⟩
        refine wpListIn_plain rfl fun K8 hK8 => operIn_value (v := .bool true) (w' := W6) (by kernel_rfl) (hK8 _ _ ?_)
        refine wpListIn_nil ?_
        clear hK1 hK2 hK3 hK4 hK5 hK6 hK7 hK8 hy hR HCW hxr HC
        simp only [Exit.then, Act.put]
        go_simp
        rename_i hKd
        refine hKd _ _ ?_
        clear hKd
        go_wp2
        refine ⟨rfl, _, results_none rfl _ _ _, ⟨_, rfl⟩, .inr ⟨_, ⟨(L.take j).reverse, ?_⟩, hJx6⟩⟩
        rw [HPre2.out, HREST.out]
    · obtain rfl : k = 0 := by omega
      obtain rfl : z = -1 := by omega
      have hP := HP.out
      rw [List.drop_zero] at hP
      have HP2 := Lib.hid hP
      clear hP HP
      go_wp2
      exact ⟨rfl, _, results_none rfl _ _ _, ⟨_, rfl⟩, .inl ⟨_, HP2.out, hJk⟩⟩

/-- What the loop's own assignment leaves. -/
def AggB (T : Array Value) (q p b : Tmp) (x : Int × Value × Nd) (a' : Act) (W : World) : Prop :=
  ∃ bl da dc aa ac, x.2.1 = .agg (ndC x.2.2 (.slice da x.2.2.data.length dc) (.slice aa x.2.2.acl.length ac)) ∧ W.heap[bl]? = some (.cells (ndC x.2.2 (.slice da x.2.2.data.length dc) (.slice aa x.2.2.acl.length ac)) 44 (0, 0)) ∧
    a' = { tmps := ((T.setIfInBounds q (.int .i64 x.1)).setIfInBounds p x.2.1).setIfInBounds b (.pointer (some ⟨bl, 0, none⟩)), defers := [] }

theorem wpIn_tells_back {n : Nat} {Q : Exit → Act → World → Prop} {a : Act} {w : World} {g : Operand} {body : Code} {gf : Nat} {lb : Array Value} {S Sp : List (Int × Value × Nd) → Prop} {id : Nat} {q p b : Tmp} {pos : String} {aft : Array Edge}
    (h1 : 1 ≤ n) (hg : a.eval g = .func (.func gf) #[] lb) (eg : ∀ args w, (callFunc gf args).run Tryz.prog w = .ok (.enter gf args) w)
    (hseq : Tells Fence.wide (n - 1) Tryz.prog gf lb (fun x : Int × Value × Nd => #[.int .i64 x.1, x.2.1]) (fun x W => GS TrueS x.2 W) (KeepS TrueS) TrueS S Sp w)
    (hp : p < a.tmps.size) (hb : b < a.tmps.size) (hne : b ≠ p)
    (I : List (Int × Value × Nd) → World → Prop) (Ix : Code → List (Int × Value × Nd) → World → Prop)
    (hI : ∀ pre X Y, I pre X → Turn w.heap.size X Y → I pre Y)
    (hIx : ∀ c pre X Y, Ix c pre X → Turn w.heap.size X Y → Ix c pre Y)
    (h0 : I [] w)
    (hbody : ∀ (l : Nat) (pre : List (Int × Value × Nd)) (z : Int) (m : Nd) (da : Option Addr) (dc : Nat) (aa : Option Addr) (ac bl : Nat) (W : World), w.heap.size ≤ l → (∃ r, W.heap[l]? = some (.loop r)) →
      Sp (pre ++ [(z, .agg (ndC m (.slice da m.data.length dc) (.slice aa m.acl.length ac)), m)]) → I pre W → GS TrueS (.agg (ndC m (.slice da m.data.length dc) (.slice aa m.acl.length ac)), m) W →
      W.heap[bl]? = some (.cells (ndC m (.slice da m.data.length dc) (.slice aa m.acl.length ac)) 44 (0, 0)) →
      body.wpIn (Fence.wide.inRound l) (n - 1 - 1) Tryz.prog (tellPost w.heap.size (KeepS TrueS) I Ix (pre ++ [(z, .agg (ndC m (.slice da m.data.length dc) (.slice aa m.acl.length ac)), m)]) W)
        { tmps := ((a.tmps.setIfInBounds q (.int .i64 z)).setIfInBounds p (.agg (ndC m (.slice da m.data.length dc) (.slice aa m.acl.length ac)))).setIfInBounds b (.pointer (some ⟨bl, 0, none⟩)), defers := [] } W)
    (hdone : ∀ (D : Nat) (xs : List (Int × Value × Nd)) (W : World), w.heap.size ≤ D → S xs → I xs W → W.heap[D]? = some (.deferred (some [])) → Q .normal { a with defers := { target := .collected D, args := #[] } :: a.defers } W)
    (hstop : ∀ (D : Nat) (c : Code) (pre : List (Int × Value × Nd)) (W : World), w.heap.size ≤ D → Sp pre → Ix c pre W → W.heap[D]? = some (.deferred (some [])) → c.wpIn Fence.wide n Tryz.prog Q { a with defers := { target := .collected D, args := #[] } :: a.defers } W) :
    (Code.rangeFunc g #[q, p] (Code.region id #[{ dst := some b, op := Op.alloc 44, type := 0, pos := pos, after := #[], guard := none }, { dst := none, op := Op.store 44 (Operand.tmp b) (Operand.tmp p), type := 0, pos := pos, after := aft, guard := none }] false) body).wpIn Fence.wide n Tryz.prog Q a w := by
  refine wpIn_tells rfl h1 hg trivial eg hseq (fun _ => rfl) I Ix (AggB a.tmps q p b) ?hKeep ?hI hIx ?hG ?hAx h0 ?assign ?body hdone hstop
  case hKeep =>
    intro A X Y Z h hk h2
    exact ⟨Nat.le_trans h.size (Nat.le_trans hk.1 h2.size), fun k c e f hc _ => ⟨h2.cells (hk.2 k c e f (h.cells hc) trivial).1, trivial⟩⟩
  case hI => exact fun pre X Y h hT => ⟨hI pre X Y h hT, fun _ _ => trivial, fun _ _ => trivial⟩
  case hG => exact fun x X Y h hT => NdS.imp h (fun k hk => ⟨trivial, Nat.lt_of_lt_of_le hk.2 hT.size⟩) fun _ _ _ _ hu => hT.cell hu
  case hAx =>
    rintro x a' X Y ⟨bl, da, dc, aa, ac, e1, e2, e3⟩ hT
    exact ⟨bl, da, dc, aa, ac, e1, hT.cells e2, e3⟩
  case assign =>
    rintro l pre ⟨z, xv, m⟩ W K hIp hG hK
    obtain ⟨da, dc, aa, ac, e, _⟩ := hG
    dsimp only at e
    subst e
    have hfr : ∀ u v : Value, (#[q, p].zip #[u, v]).foldl (fun (t : Array Value) (x : Tmp × Value) => match x with | (p, v) => t.setIfInBounds p v) a.tmps = (a.tmps.setIfInBounds q u).setIfInBounds p v := fun u v => by simp
    refine wpIn_region_list ?_
    rw [hfr]
    show wpListIn _ _ _ _ _ [_, _] { tmps := (a.tmps.setIfInBounds q (.int .i64 z)).setIfInBounds p (.agg (ndC m (.slice da m.data.length dc) (.slice aa m.acl.length ac))), defers := [] } W
    refine wpListIn_value (fun _ => trivial) rfl (fun c h => by cases h) (ex_alloc_nd rfl) ?_
    rw [put_frame]
    refine wpListIn_skipped (fun _ => trivial) rfl (fun c h => by cases h) (ex_store_row 44 (.tmp b) (.tmp p) rfl W.heap.size (ndC m (.slice da m.data.length dc) (.slice aa m.acl.length ac)) (eval_set_same (by simpa using hb)) (eval_set_other (by simpa using hp) hne) 44 zeroNd (heap_alloc_new W _) sizeNd rfl (cells_node m da aa _ _ dc ac)) ?_
    rw [setRow_alloc]
    refine wpListIn_nil ?_
    refine hK _ _ (Ext.alloc _ _) ⟨W.heap.size, da, dc, aa, ac, rfl, heap_alloc_new W _, rfl⟩
  case body =>
    rintro l pre ⟨z, xv, m⟩ a' W hl hr hSp hIp hG ⟨bl, da, dc, aa, ac, e1, e2, rfl⟩
    dsimp only at e1
    subst e1
    exact hbody l pre z m da dc aa ac bl W hl hr hSp hIp hG e2
end Go.Proofs.YthinpbdbhijbgaaGreatDoor
namespace Go.Proofs.YthinpbdbhijbgaaGreatDoor
open Go.RowKit
set_option maxHeartbeats 1000000
set_option maxRecDepth 100000

/-- What stays when a row of the call's own is written behind. -/
def RowKeep (v v' : Value) (w w' : World) : Prop := w.heap.size ≤ w'.heap.size ∧ ∀ g, g < w.heap.size → v.ownBlock ≠ some g → w'.heap[g]? = w.heap[g]? ∧ v'.ownBlock ≠ some g
theorem RowKeep.refl (v : Value) (w : World) : RowKeep v v w w := ⟨Nat.le_refl _, fun _ _ h => ⟨rfl, h⟩⟩
theorem RowKeep.trans {v1 v2 v3 : Value} {a b c : World} (h : RowKeep v1 v2 a b) (k : RowKeep v2 v3 b c) : RowKeep v1 v3 a c :=
  ⟨Nat.le_trans h.1 k.1, fun g hg hn => let x := h.2 g hg hn; let y := k.2 g (Nat.lt_of_lt_of_le hg h.1) x.2; ⟨y.1.trans x.1, y.2⟩⟩
theorem RowKeep.alloc (v : Value) (w : World) (o : Obj) : RowKeep v v w (w.alloc o) := ⟨by simp, fun g hg hn => ⟨Below.heap_alloc _ _ _ hg, hn⟩⟩

/-- A row of bytes of the call's own. -/
def OwnB (B : Nat) (w : World) (v : Value) (l : List UInt8) : Prop := w.ownsRow B 5 1 v l.length (l.map u8v)
theorem OwnB.lt {B : Nat} {w : World} {v : Value} {l : List UInt8} (h : OwnB B w v l) : ∀ g, v.ownBlock = some g → g < w.heap.size ∧ B ≤ g := by
  intro g hg
  rcases h.2 with ⟨rfl, _⟩ | ⟨g', cap, cur, rfl, k1, k2, k3⟩
  · cases hg
  · simp only [Value.ownBlock, Option.some.injEq] at hg
    subst hg
    exact ⟨(Array.getElem?_eq_some_iff.1 k2).1, k1⟩
theorem OwnB.alloc {B : Nat} {w : World} {v : Value} {l : List UInt8} (h : OwnB B w v l) (o : Obj) : OwnB B (w.alloc o) v l :=
  ownsRow_keep h (fun g hg => Below.heap_alloc _ _ _ (h.lt g hg).1)
theorem OwnB.slice {B : Nat} {w : World} {v : Value} {l : List UInt8} (h : OwnB B w v l) : ∃ a m c, v = .slice a m c := ownsRow_slice h

theorem bytes_of_list (s : ByteArray) : byteCells s = s.data.toList.map u8v := rfl

end Go.Proofs.YthinpbdbhijbgaaGreatDoor
namespace Go.Proofs.YthinpbdbhijbgaaGreatDoor
open Go.RowKit Go.Sort
set_option maxHeartbeats 4000000
set_option maxRecDepth 100000

/-- A number's eight bytes, the highest first. -/
def mixB (s : Int) (j : Nat) : UInt8 := UInt8.ofNat (s / 2 ^ (56 - 8 * j) % 256).toNat
def mixL (s : Int) (k : Nat) : List UInt8 := (List.range k).map (mixB s)
def mixN (s : Int) (nm : ByteArray) : Int := fnv (mixL s 8 ++ nm.data.toList)
theorem mixL_succ (s : Int) (k : Nat) : mixL s (k + 1) = mixL s k ++ [mixB s k] := by unfold mixL; rw [List.range_succ, List.map_append]; rfl
theorem mixL_len (s : Int) (k : Nat) : (mixL s k).length = k := by unfold mixL; simp
theorem mixB_val (s : Int) (j : Nat) : u8v (mixB s j) = .int .u8 (s / 2 ^ (56 - 8 * j) % 256) := by
  unfold u8v mixB
  congr 1
  have h1 : 0 ≤ s / 2 ^ (56 - 8 * j) % 256 := Int.emod_nonneg _ (by decide)
  have h2 : s / 2 ^ (56 - 8 * j) % 256 < 256 := Int.emod_lt_of_pos _ (by decide)
  generalize s / 2 ^ (56 - 8 * j) % 256 = z at *
  rw [UInt8.toNat_ofNat_of_lt' (by show z.toNat < 256; omega)]
  omega

theorem mixed_any (s : Int) (nm : ByteArray) (w : World) (hn : nm.size ≤ 4096) : Calls Tryz.prog 128 #[.int .u64 s, .string nm] w fun e w' => e = .returned (.int .u64 (mixN s nm)) ∧ Ext w w' := by
  obtain ⟨i0, hi, hz0, hz1', hz2⟩ := info_parts infoU8
  go_enter Tryz.func128, Tryz.ntmps128
  go_wp2
  go_loopw [5, 6] (fun ov i wr => ∃ j : Nat, i = .int .i64 (56 - 8 * (j : Int)) ∧ j ≤ 8 ∧ Hid (wr.ownsRow w.heap.size 5 1 ov j ((mixL s j).map u8v)) ∧ Hid (Ext w wr)) (fun _ i _ => (intOf i + 8).toNat)
  case atStart => exact ⟨0, rfl, by omega, World.ownsRow_nil _ _ _ _, Ext.refl _⟩
  case round =>
    obtain ⟨j, rfl, hj, HO, HE⟩ := hrel
    have hzr := HE.out.size
    by_cases hlt : j < 8
    · have h0 : (0 : Int) ≤ 56 - 8 * (j : Int) := by omega
      obtain ⟨sa, sc, rfl, _⟩ := ownsRow_from HO.out
      have hv := mixB_val s j
      have hownA := HO.out.alloc (.cells #[.int .u8 (s / 2 ^ (56 - 8 * j) % 256)] 5)
      have hs1 : Cells (wr.alloc (.cells #[.int .u8 (s / 2 ^ (56 - 8 * j) % 256)] 5)).heap.size (wr.alloc (.cells #[.int .u8 (s / 2 ^ (56 - 8 * j) % 256)] 5)) (some ⟨wr.heap.size, 0, none⟩) [.int .u8 (s / 2 ^ (56 - 8 * j) % 256)] := fun k u hk => by
        refine ⟨_, 0, rfl, by simp, ?_⟩
        rw [Nat.zero_add, cell_of_row _ _ _ _ _ _ (heap_alloc_new wr _)]
        simpa using hk
      have hsrc : Src Tryz.prog 1 41 (.slice (some ⟨wr.heap.size, 0, none⟩) 1 1) 1 [.int .u8 (s / 2 ^ (56 - 8 * j) % 256)] (wr.alloc (.cells #[.int .u8 (s / 2 ^ (56 - 8 * j) % 256)] 5)) := hs1.src Tryz.underlying41 1 1 (by simp) (fun u hu => by simp at hu; subst hu; rfl)
      have hlst : (mixL s j).map u8v ++ [.int .u8 (s / 2 ^ (56 - 8 * j) % 256)] = (mixL s (j + 1)).map u8v := by rw [mixL_succ, List.map_append, List.map_cons, hv]; rfl
      have HLST := Lib.hid hlst
      have HSRC := Lib.hid hsrc
      have HOA := Lib.hid hownA
      clear hv hownA hs1 hsrc hlst
      go_wp2_with (at_builtin; refine wpList_append_src _ rfl (.tmp 11) (.tmp 17) 41 41 rfl w.heap.size 5 i0 (.int .u8 0) 1 1 Tryz.underlying41 hi hz0 hz1' hz2 rfl (by decide) _ j _ rfl HOA.out _ 1 _ rfl HSRC.out ?c1 ?c2 ?c3 ?_)
      case c1 => unfold maxLen; omega
      case c2 => omega
      case c3 => simp; omega
      intro v' W6 hO6 hg6 _ _
      rw [HLST.out] at hO6
      have HO6 := Lib.hid hO6
      have hE6 : Ext w W6 := (Below.alloc HE.out hzr _).grown hg6 (by simp; omega) (fun g hg => ownBlock_ge HO.out g hg)
      have HE6 := Lib.hid hE6
      clear hO6 hg6 hE6 HOA HSRC HO HE HLST
      go_wp2
      go_roundw
      case rel => exact ⟨j + 1, by go_num, by omega, HO6.out, HE6.out⟩
      case measure => simp [intOf]; omega
    · obtain rfl : j = 8 := by omega
      obtain ⟨sa, sc, rfl, _⟩ := ownsRow_from HO.out
      have hsrc : Src Tryz.prog 1 9 (.string nm) nm.size (nm.data.toList.map u8v) wr := bytes_of_list nm ▸ Src.ofString wr Tryz.underlying9 nm
      have HSRC := Lib.hid hsrc
      clear hsrc
      go_wp2_with (at_builtin; refine wpList_append_src _ rfl (.tmp 19) (.tmp 20) 41 9 rfl w.heap.size 5 i0 (.int .u8 0) 1 1 Tryz.underlying41 hi hz0 hz1' hz2 rfl (by decide) _ 8 _ rfl HO.out _ nm.size _ rfl HSRC.out ?c1 ?c2 ?c3 ?_)
      case c1 => unfold maxLen; omega
      case c2 => omega
      case c3 => omega
      intro v' W6 hO6 hg6 _ _
      have hlst : (mixL s 8).map u8v ++ nm.data.toList.map u8v = (mixL s 8 ++ nm.data.toList).map u8v := by rw [List.map_append]
      rw [hlst] at hO6
      have hll : (mixL s 8 ++ nm.data.toList).length = 8 + nm.size := by rw [List.length_append, mixL_len, size_list]
      obtain ⟨ra, rc, rfl, hcs⟩ := ownsRow_cells hO6
      have hE6 : Ext w W6 := HE.out.grown hg6 hzr (fun g hg => ownBlock_ge HO.out g hg)
      have CS := sum_any ra rc (mixL s 8 ++ nm.data.toList) W6 hcs (by omega)
      rw [hll] at CS
      have CS := Lib.hid CS
      have HE6 := Lib.hid hE6
      clear hO6 hg6 hE6 hcs hlst hll HSRC HO HE
      go_wp2_with fail
      refine CS.out.mono ?_
      rintro e W7 ⟨rfl, rfl⟩
      clear CS
      go_wp2
      go_ret
      exact ⟨rfl, HE6.out⟩
end Go.Proofs.YthinpbdbhijbgaaGreatDoor
