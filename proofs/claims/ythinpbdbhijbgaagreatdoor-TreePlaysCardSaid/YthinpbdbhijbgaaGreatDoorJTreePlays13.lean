/- The ranges of a node's numbers, as it is opened. Plain laws: what an add, a put, a removal leave as it was: closed, in range, short. No program in sight. The program's tree and the document's, both in one memory: what a call on both leaves. Plain law: the parent of a path is a path. No program in sight. The walk of arborref03.Under. A row of the call's own that shows nodes that were cloned for it; how it grows by one. The plain sums of TreeSums. The walk of (*Tree).Weigh. The walk of arborref07's Below. The walk of arborref07's Weigh. The walk of arborref07's After. -/
import Derived.Test.YthinpbdbhijbgaaGreatDoorJTreePlays5
import Derived.Test.YthinpbdbhijbgaaGreatDoorJTreePlays11
import Derived.Test.YthinpbdbhijbgaaGreatDoorJTreePlays10
import Derived.Test.YthinpbdbhijbgaaGreatDoorJTreePlays12
import Derived.Test.YthinpbdbhijbgaaGreatDoorJTreePlays9
import Derived.Test.YthinpbdbhijbgaaGreatDoorJTreePlays2
import Derived.Test.YthinpbdbhijbgaaGreatDoorJTreePlays8
namespace Go.Proofs.YthinpbdbhijbgaaGreatDoor
open Go.ChangeShapes Go.WideShapes Go.ChangeAt Go.RowKit Go.Deep
set_option maxHeartbeats 2000000
set_option maxRecDepth 100000

/-- A node's numbers are what their types hold. -/
def Ir (n : Nd) : Prop := (∀ z ∈ [n.owner, n.czxid, n.mzxid, n.pzxid, n.azxid, n.qzxid, n.ctime, n.mtime, n.count, n.bytes], (Lit.int .i64 z).wf = true) ∧ ∀ z ∈ [n.version, n.creates, n.aversion], (Lit.int .i32 z).wf = true
theorem wf_i64 {z : Int} (h : (Lit.int .i64 z).wf = true) : -9223372036854775808 ≤ z ∧ z ≤ 9223372036854775807 := by
  simp [Lit.wf, IntKind.wrap] at h
  first | omega | exact h | (have := h; unfold wrap64 at this; omega)

section
variable {H : Type} {enc : TypeId × Value → H} {w : World} {fuel : Nat}
theorem node_rng {n : Nd} {da aa : Option Addr} {dc ac : Nat} {x : DataW H × List MemPlace} (h : DataW.trod enc Tryz.prog w 0 (fun _ => true) true fuel 44 (ndC n (.slice da n.data.length dc) (.slice aa n.acl.length ac)).toList = some x) : Ir n := by
  obtain ⟨xs, m, _, rfl, hl, hn, hf⟩ := DataW.trod_struct Tryz.underlying44 h
  match xs, hn with
  | [x0, x1, x2, x3, x4, x5, x6, x7, x8, x9, x10, x11, x12, x13, x14], _ =>
    have f3 := hf 3 _ rfl
    have f4 := hf 4 _ rfl
    have f5 := hf 5 _ rfl
    have f6 := hf 6 _ rfl
    have f7 := hf 7 _ rfl
    have f8 := hf 8 _ rfl
    have f9 := hf 9 _ rfl
    have f10 := hf 10 _ rfl
    have f11 := hf 11 _ rfl
    have f12 := hf 12 _ rfl
    have f13 := hf 13 _ rfl
    have f14 := hf 14 _ rfl
    clear hf h
    unfold ndC at f3 f4 f5 f6 f7 f8 f9 f10 f11 f12 f13 f14
    simp [Tryz.cells_str, Tryz.cells_u8s, Tryz.cells_acls, Tryz.cells_i64, Tryz.cells_i32, Tryz.cells_quota] at f3 f4 f5 f6 f7 f8 f9 f10 f11 f12 f13 f14
    obtain ⟨z3, e3, _, r3⟩ := DataW.trod_int Tryz.underlying2 f3
    obtain ⟨z4, e4, _, r4⟩ := DataW.trod_int Tryz.underlying2 f4
    obtain ⟨z5, e5, _, r5⟩ := DataW.trod_int Tryz.underlying2 f5
    obtain ⟨z6, e6, _, r6⟩ := DataW.trod_int Tryz.underlying2 f6
    obtain ⟨z7, e7, _, r7⟩ := DataW.trod_int Tryz.underlying2 f7
    obtain ⟨z8, e8, _, r8⟩ := DataW.trod_int Tryz.underlying2 f8
    obtain ⟨z9, e9, _, r9⟩ := DataW.trod_int Tryz.underlying2 f9
    obtain ⟨z10, e10, _, r10⟩ := DataW.trod_int Tryz.underlying2 f10
    obtain ⟨z11, e11, _, r11⟩ := DataW.trod_int Tryz.underlying21 f11
    obtain ⟨z12, e12, _, r12⟩ := DataW.trod_int Tryz.underlying21 f12
    obtain ⟨z13, e13, _, r13⟩ := DataW.trod_int Tryz.underlying21 f13
    obtain ⟨q0, q1, q2, m2, _, _, g0, g1, g2⟩ := trod_struct3 Tryz.underlying23 f14
    simp only [Tryz.cells_bool, Tryz.cells_i64, List.drop_succ_cons, List.drop_zero, List.take_succ_cons, List.take_zero] at g0 g1 g2
    obtain ⟨z15, e15, _, r15⟩ := DataW.trod_int Tryz.underlying2 g1
    obtain ⟨z16, e16, _, r16⟩ := DataW.trod_int Tryz.underlying2 g2
    simp only [List.cons.injEq, and_true, Value.int.injEq, true_and] at e3 e4 e5 e6 e7 e8 e9 e10 e11 e12 e13 e15 e16
    subst e3 e4 e5 e6 e7 e8 e9 e10 e11 e12 e13 e15 e16
    refine ⟨fun z hz => ?_, fun z hz => ?_⟩
    · simp only [List.mem_cons, List.not_mem_nil, or_false] at hz
      rcases hz with rfl | rfl | rfl | rfl | rfl | rfl | rfl | rfl | rfl | rfl <;> assumption
    · simp only [List.mem_cons, List.not_mem_nil, or_false] at hz
      rcases hz with rfl | rfl | rfl <;> assumption

end
end Go.Proofs.YthinpbdbhijbgaaGreatDoor
namespace Go.Proofs.YthinpbdbhijbgaaGreatDoor
open Go.RowKit

/-- What the growing tree's nodes keep. -/
structure Well7 (K : Nat) (M : List (Key × Nd)) : Prop where
  clo : Clo M
  ir : ∀ x ∈ M, Ir x.2
  len : M.length ≤ K
theorem Well7.more {K K' : Nat} {M : List (Key × Nd)} (h : Well7 K M) (hk : K ≤ K') : Well7 K' M := ⟨h.clo, h.ir, Nat.le_trans h.len hk⟩
theorem mdel_len7 {α : Type} (M : List (Key × α)) (k : Key) : (mdel M k).length ≤ M.length := List.length_filter_le _ _
theorem mput_len7 {α : Type} (M : List (Key × α)) (k : Key) (v : α) : (mput M k v).length ≤ M.length + 1 := by
  unfold mput
  rw [mins_length]
  have := mdel_len7 M k
  omega
theorem ir_put7 {M : List (Key × Nd)} (h : ∀ x ∈ M, Ir x.2) {n : Nd} (hn : Ir n) : ∀ x ∈ mput M (keyN n) n, Ir x.2 := fun x hx => by
  rcases mem_mput.1 hx with rfl | ⟨h1, _⟩
  · exact hn
  · exact h x h1

theorem well7_add {K : Nat} {M : List (Key × Nd)} {n : Nd} (hM : MOk M) (h : Well7 K M) (hn : Ir n) : Well7 (K + 1) (addM M n) := by
  unfold addM
  split
  · rename_i he
    unfold addE at he
    split at he
    · rename_i h1; exact absurd he h1
    split at he
    · cases he
    split at he
    · cases he
    rename_i hr hno hp
    have hno' : mget M (keyN n) = none := by simpa using hno
    obtain ⟨hp1, hp2⟩ := not_or.1 hp
    obtain ⟨y, hy⟩ := Option.ne_none_iff_exists'.1 hp2
    have hyp : y.path = parentB n.path := (ba_ext (hM.at hy).1).symm
    have keep : ∀ z ∈ M, z ∈ mput M (keyN n) n := fun z hz => mem_mput.2 (.inr ⟨hz, mget_none hno' z hz⟩)
    refine ⟨fun x hx hs => ?_, ir_put7 h.ir hn, Nat.le_trans (mput_len7 _ _ _) (Nat.succ_le_succ h.len)⟩
    rcases mem_mput.1 hx with rfl | ⟨h1, _⟩
    · exact ⟨_, keep _ (mget_some_mem hy), hyp⟩
    · obtain ⟨z, hz, e⟩ := h.clo x h1 hs
      exact ⟨z, keep z hz, e⟩
  · exact h.more (by omega)

theorem well7_put {K : Nat} {M : List (Key × Nd)} {n : Nd} (hM : MOk M) (h : Well7 K M) (hn : Ir n) : Well7 (K + 1) (putM M n) := by
  unfold putM
  split
  · rename_i he
    unfold putE at he
    split at he
    · rename_i h1; exact absurd he h1
    split at he
    rotate_left
    · cases he
    rename_i hr hy0
    obtain ⟨y, hy⟩ := Option.isSome_iff_exists.1 hy0
    have hyp : y.path = n.path := keyN_inj (hM.at hy).1.symm
    have keep : ∀ p, (∃ z ∈ M, z.2.path = p) → ∃ z ∈ mput M (keyN n) n, z.2.path = p := by
      rintro p ⟨z, hz, e⟩
      by_cases hk : z.1 = keyN n
      · refine ⟨(keyN n, n), mem_mput.2 (.inl rfl), ?_⟩
        have := keyN_inj ((hM.key z hz).symm.trans hk)
        rw [← e, this]
      · exact ⟨z, mem_mput.2 (.inr ⟨hz, hk⟩), e⟩
    refine ⟨fun x hx hs => ?_, ir_put7 h.ir hn, Nat.le_trans (mput_len7 _ _ _) (Nat.succ_le_succ h.len)⟩
    rcases mem_mput.1 hx with rfl | ⟨h1, _⟩
    · refine keep _ ?_
      have := h.clo _ (mget_some_mem hy) (by show y.path.size ≠ 1; rw [hyp]; exact hs)
      rw [show (keyN n, y).2.path = n.path from hyp] at this
      exact this
    · exact keep _ (h.clo x h1 hs)
  · exact h.more (by omega)

theorem well7_rem {K : Nat} {M : List (Key × Nd)} {s : ByteArray} (hM : MOk M) (h : Well7 K M) : Well7 (K + 1) (remM M s) := by
  unfold remM
  split
  · rename_i he
    unfold remE at he
    split at he
    · cases he
    split at he
    · cases he
    split at he
    · cases he
    rename_i hv hg hk
    have hk0 : kidsOf M s = [] := List.eq_nil_of_length_eq_zero (by simpa using hk)
    refine ⟨fun x hx hs => ?_, fun x hx => h.ir x (mem_mdel.1 hx).1, Nat.le_trans (mdel_len7 _ _) (by have := h.len; omega)⟩
    obtain ⟨h1, _⟩ := mem_mdel.1 hx
    obtain ⟨z, hz, e⟩ := h.clo x h1 hs
    refine ⟨z, mem_mdel.2 ⟨hz, fun hzk => ?_⟩, e⟩
    have hzs : z.2.path = s := ba_ext ((hM.key z hz).symm.trans hzk)
    have : (nameK x.2, Value.agg #[]) ∈ kidsOf M s := mem_kids.2 ⟨x, h1, by
      unfold childOf
      rw [Bool.and_eq_true]
      exact ⟨by simpa using hs, by rw [← hzs, e]; exact beq_self_eq_true _⟩, rfl⟩
    rw [hk0] at this
    simp at this
  · exact h.more (by omega)
theorem well7_op {K : Nat} {M : List (Key × Nd)} {o : Opn} (hM : MOk M) (h : Well7 K M) (hn : Ir o.n) : Well7 (K + 1) (opM M o) := by
  unfold opM
  split
  · exact well7_put hM h hn
  split
  · exact well7_rem hM h
  · exact well7_add hM h hn
end Go.Proofs.YthinpbdbhijbgaaGreatDoor
namespace Go.Proofs.YthinpbdbhijbgaaGreatDoor
open Go.RowKit
set_option maxHeartbeats 2000000

/-- Both trees hold the same nodes, in blocks apart, none below B. -/
structure Two7 (B : Nat) (S R : Nat → Prop) (w : World) (bt br K : Nat) (M : List (Key × Nd)) : Prop where
  tree : TreeAt S w bt M K
  ref : RTree R w br (nds M)
  ap : ∀ k, S k → ¬ R k ∧ k ≠ br
  low : ∀ k, S k ∨ R k → B ≤ k
  own : B ≤ br
  well : Well7 K M
theorem Two7.ext {B : Nat} {S R : Nat → Prop} {w w' : World} {bt br K : Nat} {M : List (Key × Nd)} (h : Two7 B S R w bt br K M) (hE : Ext w w') : Two7 B S R w' bt br K M := ⟨h.tree.ext hE, h.ref.ext hE, h.ap, h.low, h.own, h.well⟩
theorem Two7.more {B : Nat} {S R : Nat → Prop} {w : World} {bt br K K' : Nat} {M : List (Key × Nd)} (h : Two7 B S R w bt br K M) (hk : K ≤ K') : Two7 B S R w bt br K' M := ⟨h.tree.keep (fun _ _ => rfl) (fun _ h => h) h.tree.bound hk, h.ref, h.ap, h.low, h.own, h.well.more hk⟩
theorem Two7.size {B : Nat} {S R : Nat → Prop} {w : World} {bt br K : Nat} {M : List (Key × Nd)} (h : Two7 B S R w bt br K M) : B ≤ w.heap.size := Nat.le_trans h.own (Nat.le_of_lt h.ref.lt)
theorem Two7.chg {B : Nat} {S R C : Nat → Prop} {w w' : World} {bt br K : Nat} {M : List (Key × Nd)} (h : Two7 B S R w bt br K M) (hC : Chg C w w') (hn : ∀ k, C k → ¬ S k ∧ ¬ R k ∧ k ≠ br) : Two7 B S R w' bt br K M :=
  have hb : ∀ k, k < w.heap.size → ¬ C k → w'.heap[k]? = w.heap[k]? := fun k hk hc => hC.same k hk hc
  ⟨h.tree.keep (fun k hk => hb k (h.tree.bound k hk) fun hc => (hn k hc).1 hk) (fun _ h => h) (fun k hk => Nat.lt_of_lt_of_le (h.tree.bound k hk) hC.size) (Nat.le_refl _),
    h.ref.keep (fun _ h => h) (hb br h.ref.lt fun hc => (hn br hc).2.2 rfl) (fun k hk => hb k (h.ref.bound k hk).1 fun hc => (hn k hc).2.1 hk) (fun k hk => ⟨Nat.lt_of_lt_of_le (h.ref.bound k hk).1 hC.size, (h.ref.bound k hk).2⟩), h.ap, h.low, h.own, h.well⟩

/-- Both trees behind a call, seen from a world X behind w. -/
def Aft7 (B : Nat) (S R : Nat → Prop) (w X : World) (bt br K : Nat) (M : List (Key × Nd)) (W : World) : Prop :=
  ∃ S' R', Two7 B S' R' W bt br K M ∧ (∀ k, S' k ∨ R' k → S k ∨ R k ∨ (X.heap.size ≤ k ∧ k < W.heap.size)) ∧ Chg (fun k => S k ∨ k = br) w W
theorem Aft7.ext {B : Nat} {S R : Nat → Prop} {w X W W' : World} {bt br K : Nat} {M : List (Key × Nd)} (h : Aft7 B S R w X bt br K M W) (hE : Ext W W') : Aft7 B S R w X bt br K M W' := by
  obtain ⟨S', R', h1, h2, h3⟩ := h
  exact ⟨S', R', h1.ext hE, fun k hk => (h2 k hk).imp id fun h => h.imp id fun h => ⟨h.1, Nat.lt_of_lt_of_le h.2 hE.size⟩, h3.trans (Chg.of_ext (S := fun _ => False) hE) fun _ _ h => h.elim⟩
/-- Blocks made between w and X are nobody's. -/
theorem Aft7.chg {B : Nat} {S R C : Nat → Prop} {w X W W' : World} {bt br K : Nat} {M : List (Key × Nd)} (h : Aft7 B S R w X bt br K M W) (hS : ∀ k, S k ∨ R k ∨ k = br → k < w.heap.size) (hC : Chg C W W') (hc : ∀ k, C k → w.heap.size ≤ k ∧ k < X.heap.size) : Aft7 B S R w X bt br K M W' := by
  obtain ⟨S', R', h1, h2, h3⟩ := h
  refine ⟨S', R', h1.chg hC fun k hk => ?_, fun k hk => (h2 k hk).imp id fun h => h.imp id fun h => ⟨h.1, Nat.lt_of_lt_of_le h.2 hC.size⟩, h3.trans hC fun k hk h => ?_⟩
  · have h4 := hc k hk
    have h5 : ¬ (S' k ∨ R' k) := fun h => by
      rcases h2 k h with h | h | h
      · have := hS k (.inl h); omega
      · have := hS k (.inr (.inl h)); omega
      · omega
    exact ⟨fun h => h5 (.inl h), fun h => h5 (.inr h), fun e => by have := hS k (.inr (.inr e)); omega⟩
  · have := (hc k h).1; omega
theorem Aft7.base {B : Nat} {S R : Nat → Prop} {w X W : World} {bt br K : Nat} {M : List (Key × Nd)} (h : Aft7 B S R w X bt br K M W) (hX : w.heap.size ≤ X.heap.size) : Aft7 B S R w w bt br K M W := by
  obtain ⟨S', R', h1, h2, h3⟩ := h
  exact ⟨S', R', h1, fun k hk => (h2 k hk).imp id fun h => h.imp id fun h => ⟨by omega, h.2⟩, h3⟩
theorem Mod.chg {S : Nat → Prop} {a b : World} (h : Mod S a b) : Chg S a b := ⟨h.os, h.tape, h.output, h.size, fun k hk hn => by rw [h.same k _ (Array.getElem?_eq_getElem hk) (.inl hn), Array.getElem?_eq_getElem hk]⟩

/-- The program's tree is turned, the document's is not. -/
def Mid7 (S R : Nat → Prop) (X : World) (bt br K : Nat) (M M' : List (Key × Nd)) (W : World) : Prop :=
  ∃ S', TreeAt S' W bt M' K ∧ RTree R W br (nds M) ∧ (∀ k, S' k → S k ∨ (X.heap.size ≤ k ∧ k < W.heap.size)) ∧ Chg S X W
theorem Mid7.ext {S R : Nat → Prop} {X W W' : World} {bt br K : Nat} {M M' : List (Key × Nd)} (h : Mid7 S R X bt br K M M' W) (hE : Ext W W') : Mid7 S R X bt br K M M' W' := by
  obtain ⟨S', h1, h2, h3, h4⟩ := h
  exact ⟨S', h1.ext hE, h2.ext hE, fun k hk => (h3 k hk).imp id fun h => ⟨h.1, Nat.lt_of_lt_of_le h.2 hE.size⟩, h4.trans (Chg.of_ext (S := fun _ => False) hE) fun _ _ h => h.elim⟩
theorem Two7.mid {B : Nat} {S R : Nat → Prop} {X W W' : World} {bt br K N' : Nat} {M M' : List (Key × Nd)} {v : Value} {e : Ending} (h : Two7 B S R X bt br K M) (hE : Ext X W) (hT : TreeTo S W bt M' N' v e W') (hN : N' ≤ K + 1) : Mid7 S R X bt br (K + 1) M M' W' := by
  obtain ⟨_, h2, h3⟩ := hT
  refine ⟨_, h2.keep (fun _ _ => rfl) (fun _ h => h) h2.bound hN, (h.ref.ext hE).keep (fun _ h => h) (h3.chg.same br (h.ref.ext hE).lt fun hs => (h.ap br hs).2 rfl) (fun k hk => h3.chg.same k ((h.ref.ext hE).bound k hk).1 fun hs => (h.ap k hs).1 hk) (fun k hk => ⟨Nat.lt_of_lt_of_le ((h.ref.ext hE).bound k hk).1 h3.size, (h.ref.bound k hk).2⟩), fun k hk => hk.imp id fun h => ⟨Nat.le_trans hE.size h.1, h.2⟩, (Chg.of_ext (S := S) hE).trans h3.chg fun _ _ h => h⟩
theorem Mid7.aft {B : Nat} {S R : Nat → Prop} {w X W W' : World} {bt br K : Nat} {M M' : List (Key × Nd)} {v : Value} {e : Ending} (h0 : Two7 B S R X bt br K M) (hw : Ext w X) (h : Mid7 S R X bt br (K + 1) M M' W) (hR : RTo R W br M' v e W') (hW : Well7 (K + 1) M') : Aft7 B S R w X bt br (K + 1) M' W' ∧ Chg (fun k => S k ∨ k = br) X W' := by
  obtain ⟨S', h1, h2, h3, h4⟩ := h
  obtain ⟨_, h5, h6⟩ := hR
  have hbl := h0.ref.lt
  have hz := h4.size
  have hne : ∀ k, S' k → k ≠ br := fun k hk => by
    rcases h3 k hk with h | h
    · exact (h0.ap k h).2
    · omega
  have hCX : Chg (fun k => S k ∨ k = br) X W' := (h4.mono (S' := fun k => S k ∨ k = br) fun k _ h => .inl h).trans h6 fun k _ h => .inr h
  refine ⟨?_, hCX⟩
  refine ⟨S', _, ⟨h1.keep (fun k hk => h6.same k (h1.bound k hk) (hne k hk)) (fun _ h => h) (fun k hk => Nat.lt_of_lt_of_le (h1.bound k hk) h6.size) (Nat.le_refl _), h5, fun k hk => ⟨fun hr => ?_, hne k hk⟩, fun k hk => ?_, h0.own, hW⟩, fun k hk => ?_, ?_⟩
  · rcases hr with hr | hr
    · rcases h3 k hk with h | h
      · exact (h0.ap k h).1 hr
      · have := (h0.ref.bound k hr).1; omega
    · have := h1.bound k hk; omega
  · have hs := h0.size
    rcases hk with hk | hk | hk
    · rcases h3 k hk with h | h
      · exact h0.low k (.inl h)
      · omega
    · exact h0.low k (.inr hk)
    · omega
  · have hz6 := h6.size
    rcases hk with hk | hk | hk
    · rcases h3 k hk with h | h
      · exact .inl h
      · exact .inr (.inr ⟨h.1, by omega⟩)
    · exact .inr (.inl hk)
    · exact .inr (.inr ⟨by omega, hk.2⟩)
  · exact (Chg.of_ext (S := fun k => S k ∨ k = br) hw).trans hCX fun _ _ h => h

/-- What holds while a region turns first the one, then the other; d: which operations are done. -/
def PG7 (j1 j2 : Nat) (B : Nat) (S R : Nat → Prop) (w X : World) (bt br K : Nat) (M M' : List (Key × Nd)) (d : Nat → Bool) (W : World) : Prop :=
  if d j2 = true then Aft7 B S R w X bt br (K + 1) M' W ∧ Chg (fun k => S k ∨ k = br) X W else if d j1 = true then Mid7 S R X bt br (K + 1) M M' W else Ext X W
theorem PG7.ext {j1 j2 : Nat} {B : Nat} {S R : Nat → Prop} {w X : World} {bt br K : Nat} {M M' : List (Key × Nd)} {i : Nat} (h1 : i ≠ j1) (h2 : i ≠ j2) (d d' : Nat → Bool) (W W' : World) (h : PG7 j1 j2 B S R w X bt br K M M' d W) (hE : Ext W W') (hd : ∀ k, k ≠ i → d' k = d k) : PG7 j1 j2 B S R w X bt br K M M' d' W' := by
  unfold PG7 at h ⊢
  rw [hd j2 fun e => h2 e.symm, hd j1 fun e => h1 e.symm]
  split
  · rename_i e; rw [if_pos e] at h; exact ⟨h.1.ext hE, h.2.trans (Chg.of_ext (S := fun _ => False) hE) fun _ _ h => h.elim⟩
  · rename_i e; rw [if_neg e] at h
    split
    · rename_i e; rw [if_pos e] at h; exact h.ext hE
    · rename_i e; rw [if_neg e] at h; exact h.trans hE
/-- All but both trees is as it was. -/
theorem PG7.chg {j1 j2 : Nat} {B : Nat} {S R : Nat → Prop} {w X : World} {bt br K : Nat} {M M' : List (Key × Nd)} {d : Nat → Bool} {W : World} (h : PG7 j1 j2 B S R w X bt br K M M' d W) (h2 : d j2 = false) : Chg S X W := by
  unfold PG7 at h
  simp only [h2, Bool.false_eq_true, if_false] at h
  split at h
  · obtain ⟨_, _, _, _, h⟩ := h; exact h
  · exact Chg.of_ext h

/-- A cell of a row of the call's own is written. -/
theorem own_set {w : World} {base n size : Nat} {e : TypeId} {v u : Value} {xs : List Value} (h : w.ownsRow base e size v n xs) {i : Nat} (hi : i < xs.length) : ∃ g cap cur, v = .slice (some ⟨g, 0, none⟩) n cap ∧ base ≤ g ∧ w.heap[g]? = some (.cells cur e (0, 0)) ∧ i + 1 ≤ cur.size ∧
    (w.setRow g (cur.toList.take i ++ [u] ++ cur.toList.drop (i + 1)).toArray).ownsRow base e size v n (xs.set i u) := by
  rcases h.2 with ⟨rfl, h0⟩ | ⟨g, cap, cur, rfl, hb, hg, h1, h2, h3, h4⟩
  · exfalso
    have := h.1
    rw [h0, Nat.zero_mul] at this; omega
  · have hlen : xs.length ≤ cur.size := by
      rw [← h4]; simp; omega
    have e1 : cur.toList.take i ++ [u] ++ cur.toList.drop (i + 1) = cur.toList.set i u := by
      rw [List.set_eq_take_append_cons_drop, if_pos (by simp; omega)]; simp
    refine ⟨g, cap, cur, rfl, hb, hg, by omega, ⟨by rw [List.length_set]; exact h.1, .inr ⟨g, cap, _, rfl, hb, setRow_heap _ _ _ _ _ _ hg, h1, h2, ?_, ?_⟩⟩⟩
    · rw [e1]; simp [h3]
    · rw [e1]
      show (cur.toList.set i u).take (n * size) = _
      rw [List.take_set, h4]
end Go.Proofs.YthinpbdbhijbgaaGreatDoor
namespace Go.Proofs.YthinpbdbhijbgaaGreatDoor
open Go.RowKit

theorem dec_take {s t : ByteArray} {i : Nat} (hi : i < s.size) (h47 : bat s i = 47) (ht : t.size = i) (hb : ∀ k, k < i → bat t k = bat s k) (p : Nat) (hp : p < i) : Utf8.decode t p = Utf8.decode s p := by
  have c : ∀ k, p + k ≤ i → (decide (p + k < t.size) && bat t (p + k) / 64 == 2) = (decide (p + k < s.size) && bat s (p + k) / 64 == 2) := fun k hk => by
    by_cases h : p + k < i
    · rw [hb _ h, ht]
      simp only [h, decide_true, Bool.true_and, show p + k < s.size by omega]
    · obtain e : p + k = i := by omega
      rw [e, h47, ht]
      simp
  have f : ∀ k, i ≤ p + k → (decide (p + k < t.size) && bat t (p + k) / 64 == 2) = false := fun k hk => by
    rw [ht]
    simp only [show ¬ p + k < i by omega, decide_false, Bool.false_and]
  have g : ∀ k, p + k = i → (decide (p + k < s.size) && bat s (p + k) / 64 == 2) = false := fun k hk => by
    rw [hk, h47]
    simp
  rw [dec_eq, dec_eq]
  simp only [hb p hp]
  by_cases h1 : p + 1 = i
  · have a1 := f 1 (by omega)
    have b1 := g 1 h1
    simp only [a1, b1, Bool.and_false, Bool.false_and, Bool.false_eq_true, if_false]
  · have e1 := c 1 (by omega)
    have v1 := hb (p + 1) (by omega)
    by_cases h2 : p + 2 = i
    · have a2 := f 2 (by omega)
      have b2 := g 2 h2
      simp only [e1, a2, b2]
      simp only [v1, Bool.and_false, Bool.false_and, Bool.false_eq_true, if_false]
    · have e2 := c 2 (by omega)
      have v2 := hb (p + 2) (by omega)
      by_cases h3 : p + 3 = i
      · have a3 := f 3 (by omega)
        have b3 := g 3 h3
        simp only [e1, e2, a3, b3]
        simp only [v1, v2, Bool.and_false, Bool.false_and, Bool.false_eq_true, if_false]
      · have e3 := c 3 (by omega)
        have v3 := hb (p + 3) (by omega)
        simp only [e1, e2, e3]
        simp only [v1, v2, v3]

theorem part_take {s t : ByteArray} {i : Nat} (hi : i < s.size) (h47 : bat s i = 47) (ht : t.data.toList = s.data.toList.take i) (p : Nat) (hp : p ≤ i) : partL t p = partL s p := by
  unfold partL
  have e : s.data.toList.drop p = (s.data.toList.take i).drop p ++ 47 :: s.data.toList.drop (i + 1) := by
    rw [← drop_at_slash hi h47]
    conv => lhs; rw [← List.take_append_drop i s.data.toList]
    rw [List.drop_append_of_le_length (by rw [List.length_take, size_list]; omega)]
  rw [e, ht, List.takeWhile_append]
  split
  · rename_i h
    simp
    have : List.takeWhile (fun x => x != 47) (List.drop p (List.take i s.data.toList)) = List.drop p (List.take i s.data.toList) := by
      exact (List.takeWhile_prefix _).eq_of_length h
    exact this
  · rfl

theorem bat_take {s t : ByteArray} {i : Nat} (hi : i ≤ s.size) (ht : t.data.toList = s.data.toList.take i) (hts : t.size = i) (k : Nat) (hk : k < i) : bat t k = bat s k := by
  rw [bat_get t k (by omega), bat_get s k (by omega)]
  have h1 : t[k]'(by omega) = t.data.toList[k]'(by rw [size_list]; omega) := by rw [Array.getElem_toList]; rfl
  have h2 : s[k]'(by omega) = s.data.toList[k]'(by rw [size_list]; omega) := by rw [Array.getElem_toList]; rfl
  rw [h1, h2]
  simp only [ht, List.getElem_take]

theorem scan_take {s t : ByteArray} {i : Nat} (hi : i < s.size) (h47 : bat s i = 47) (ht : t.data.toList = s.data.toList.take i) (hts : t.size = i) :
    ∀ (n p : Nat), i ≤ p + n → scanAt s p = true → scanAt t p = true
  | 0, p, hn, h => scanAt_end t p (by omega)
  | n + 1, p, hn, h => by
    by_cases hp : p < i
    · have hd := dec_take hi h47 hts (fun k hk => bat_take (by omega) ht hts k hk) p hp
      have d := (dec s p (by omega)).pos
      rw [scanAt_step s p (by omega)] at h
      rw [scanAt_step t p (by omega), hd]
      simp only [Bool.and_eq_true] at h ⊢
      refine ⟨⟨h.1.1, ?_⟩, scan_take hi h47 ht hts n _ (by omega) h.2⟩
      have h2 := h.1.2
      unfold sep dots at h2 ⊢
      rw [part_take hi h47 ht (p + 1) (by omega), bat_take (by omega) ht hts p hp]
      by_cases h0 : 0 < p
      · rw [bat_take (by omega) ht hts (p - 1) (by omega)]
        exact h2
      · have : p = 0 := by omega
        subst this
        simpa using h2
    · exact scanAt_end t p (by omega)

theorem vpath_slash : vpath ⟨#[47]⟩ = true := by decide +kernel
/-- The parent of a path is a path. -/
theorem vpath_parent {s : ByteArray} (h : vpath s = true) (h1 : s.size ≠ 1) : vpath (parentB s) = true := by
  obtain ⟨i, e, hi, h47, hn⟩ := lastS_spec h
  obtain ⟨g1, g2, g3, g4⟩ := vpath_facts h
  have eL : (parentB s).data.toList = s.data.toList.take (max i 1) := by
    unfold parentB
    rw [extract_list, e, List.drop_zero]
    congr 1
    omega
  by_cases h0 : i = 0
  · subst h0
    have : parentB s = ⟨#[47]⟩ := by
      apply ba_ext
      rw [eL]
      have := drop_at_slash (s := s) (i := 0) (by omega) g3
      rw [List.drop_zero] at this
      rw [this]; rfl
    rw [this]; exact vpath_slash
  · have hi1 : i ≠ 1 := by
      intro e1
      subst e1
      exact vpath_noadj h 0 (by omega) g3 h47
    rw [show max i 1 = i by omega] at eL
    have hts : (parentB s).size = i := by rw [← size_list, eL, List.length_take, size_list]; omega
    have hb := fun k hk => bat_take (by omega) eL hts k hk
    rcases g4 with g4 | ⟨_, g4⟩
    · omega
    · have hsc := scan_take hi h47 eL hts i 0 (by omega) g4
      have hlast : bat (parentB s) (i - 1) ≠ 47 := by
        rw [hb (i - 1) (by omega)]
        intro h2
        exact vpath_noadj h (i - 1) (by omega) h2 (by rw [show i - 1 + 1 = i by omega]; exact h47)
      have h3 : bat (parentB s) 0 = 47 := by rw [hb 0 (by omega)]; exact g3
      unfold vpath
      unfold scanAt at hsc
      rw [hts] at hsc ⊢
      simp only [Bool.and_eq_true, Bool.or_eq_true, bne_iff_ne, beq_iff_eq, decide_eq_true_eq, ne_eq]
      exact ⟨⟨⟨by omega, by omega⟩, h3⟩, .inr ⟨hlast, hsc⟩⟩

/-- A step towards the root, of any path. -/
theorem undV_fuel : ∀ (f g : Nat) (p : ByteArray), vpath p = true → p.size ≤ f → p.size ≤ g → ∀ s, undF f p s = undF g p s
  | 0, _, p, hv, hf, _, s => by have := (vpath_facts hv).1; omega
  | _ + 1, 0, p, hv, hf, hg, s => by have := (vpath_facts hv).1; omega
  | f + 1, g + 1, p, hv, hf, hg, s => by
    simp only [undF]
    by_cases h1 : p.size = 1
    · simp only [h1, bne_self_eq_false, Bool.false_and]
    · have hs := (path_split hv h1).2.2.1
      rw [undV_fuel f g (parentB p) (vpath_parent hv h1) (by omega) (by omega) s]
theorem undV_one {p : ByteArray} (h1 : p.size = 1) (s : ByteArray) : und p s = (p.data == s.data) := by
  unfold und
  rw [h1]
  simp only [undF, h1, bne_self_eq_false, Bool.false_and, Bool.or_false]
theorem undV_up {p : ByteArray} (hv : vpath p = true) (h1 : p.size ≠ 1) (s : ByteArray) : und p s = (p.data == s.data || und (parentB p) s) := by
  have hp := (vpath_facts hv).1
  have hs := (path_split hv h1).2.2.1
  obtain ⟨g, hg⟩ : ∃ g, p.size = g + 1 := ⟨p.size - 1, by omega⟩
  have e1 := undV_fuel g (parentB p).size (parentB p) (vpath_parent hv h1) (by omega) (Nat.le_refl _) s
  have h2 : (p.size != 1) = true := by simpa using h1
  unfold und
  rw [hg]
  simp only [undF]
  rw [h2, e1, Bool.true_and]
end Go.Proofs.YthinpbdbhijbgaaGreatDoor
namespace Go.Proofs.YthinpbdbhijbgaaGreatDoor
open Go.RowKit
set_option maxHeartbeats 2000000
set_option maxRecDepth 100000

theorem data_toList (p s : ByteArray) : (p.toList == s.toList) = (p.data == s.data) := by
  rw [ByteArray.toList_eq, ByteArray.toList_eq]
  by_cases h : p.data = s.data
  · rw [h]; simp
  · have : ¬ p.data.toList = s.data.toList := fun e => h (Array.toList_inj.1 e)
    rw [beq_eq_false_iff_ne.2 this, beq_eq_false_iff_ne.2 h]

theorem rund_any (p s : ByteArray) (w : World) (hp : p.size ≤ 9223372036854775800) (hs : s.size ≤ 9223372036854775800) : Calls Tryz.prog 122 #[.string s, .string p] w fun e w' => e = .returned (.bool (vpath s && vpath p && und p s)) ∧ Ext w w' := by
  have C1 := rvalid_any s w hs
  cases hvs : vpath s with
  | false =>
    rw [hvs] at C1
    have C1 := Lib.hid C1
    clear hvs
    go_enter Tryz.func122, Tryz.ntmps122
    go_wp2_with fail
    refine C1.out.mono ?_
    rintro e w1 ⟨rfl, hb1⟩
    clear C1
    go_wp2
    go_ret
    exact ⟨by simp, hb1⟩
  | true =>
    rw [hvs] at C1
    have C1 := Lib.hid C1
    have C2 := Lib.hid fun W => rvalid_any p W hp
    cases hvp : vpath p with
    | false =>
      rw [hvp] at C2
      clear hvp hvs
      go_enter Tryz.func122, Tryz.ntmps122
      go_wp2_with fail
      refine C1.out.mono ?_
      rintro e w1 ⟨rfl, hb1⟩
      clear C1
      go_wp2_with fail
      refine (C2.out w1).mono ?_
      rintro e w2 ⟨rfl, hb2⟩
      have HFIN := Lib.hid (Ext.trans hb1 hb2)
      clear C2 hb1 hb2
      go_wp2
      go_ret
      exact ⟨by simp, HFIN.out⟩
    | true =>
      rw [hvp] at C2
      have HVP := Lib.hid hvp
      clear hvp hvs
      go_enter Tryz.func122, Tryz.ntmps122
      go_wp2_with fail
      refine C1.out.mono ?_
      rintro e w1 ⟨rfl, hb1⟩
      clear C1
      go_wp2_with fail
      refine (C2.out w1).mono ?_
      rintro e w2 ⟨rfl, hb2⟩
      have HE2 := Lib.hid (Ext.trans hb1 hb2)
      clear C2 hb1 hb2
      go_wp2
      go_loopw [1] (fun v wr => ∃ q : ByteArray, v = .string q ∧ Hid (vpath q = true) ∧ q.size ≤ 4096 ∧ Hid (und p s = und q s) ∧ Ext w wr) (fun v _ => match v with | .string q => q.size | _ => 0)
      case atStart => exact ⟨p, rfl, HVP.out, (vpath_facts HVP.out).2.1, rfl, HE2.out⟩
      case round =>
        obtain ⟨q, rfl, HQ, hq, HU, hE⟩ := hrel
        have hroot := root_iff HQ.out
        have hone := fun h => undV_one (p := q) h s
        have hup := fun h => undV_up HQ.out h s
        have hdt := data_toList q s
        have HE := Lib.hid hE
        by_cases h1 : q.data = s.data
        · have e1 : (q.data == s.data) = true := by simpa using h1
          have e2 : (q.toList == s.toList) = true := hdt.trans e1
          have e3 : q.toList = s.toList := by simpa using e2
          have hu : und q s = true := by
            by_cases h : q.size = 1
            · rw [hone h, e1]
            · rw [hup h, e1, Bool.true_or]
          have HR := Lib.hid (HU.out.trans hu)
          clear hroot hone hup hdt hE h1 e1 hu HU
          go_wp2
          go_ret
          exact ⟨by rw [HR.out]; simp, HE.out⟩
        · have e1 : (q.data == s.data) = false := by simpa using h1
          have e2 : (q.toList == s.toList) = false := hdt.trans e1
          have e3 : ¬ q.toList = s.toList := by simpa using e2
          by_cases h2 : q.size = 1
          · have r2 : q.toList = [47] := by rw [ByteArray.toList_eq]; exact hroot.1 h2
            have r1 : (q.toList == [47]) = true := by simpa using r2
            have hu : und q s = false := by rw [hone h2, e1]
            have e4 : ¬ [47] = s.toList := by rw [← r2]; exact e3
            have e5 : ([47] == s.toList) = false := by simpa using e4
            have HR := Lib.hid (HU.out.trans hu)
            clear hroot hone hup hdt hE h1 e1 hu HU
            go_wp2
            go_ret
            exact ⟨by rw [HR.out]; simp, HE.out⟩
          · have r2 : ¬ q.toList = [47] := by rw [ByteArray.toList_eq]; exact fun h => h2 (hroot.2 h)
            have r1 : (q.toList == [47]) = false := by simpa using r2
            have hu : und q s = und (parentB q) s := by rw [hup h2, e1, Bool.false_or]
            have HR := Lib.hid (HU.out.trans hu)
            have hv2 := vpath_parent HQ.out h2
            have hsz := (path_split HQ.out h2).2.2.1
            have hsz2 := (vpath_facts hv2).2.1
            have CP := rparent_any q wr (by omega)
            rw [show parV q = .tuple #[.string (parentB q), .int .i64 0] by unfold parV; rw [if_pos ⟨HQ.out, h2⟩]] at CP
            have CP := Lib.hid CP
            have HV2 := Lib.hid hv2
            clear hroot hone hup hdt hE h1 e1 hu HU hv2 HQ h2
            go_wp2_with fail
            refine CP.out.mono ?_
            rintro e w3 ⟨rfl, hE3⟩
            have HE3 := Lib.hid (Ext.trans HE.out hE3)
            clear CP hE3
            go_wp2
            go_roundw
            case rel => exact ⟨_, rfl, HV2.out, hsz2, HR.out, HE3.out⟩
            case measure => first | exact hsz | simpa using hsz
end Go.Proofs.YthinpbdbhijbgaaGreatDoor
namespace Go.Proofs.YthinpbdbhijbgaaGreatDoor
open Go.RowKit Go.Sort
set_option maxHeartbeats 2000000
set_option maxRecDepth 100000

/-- What a clone of the row's nodes may lie in. -/
def NewN (base : Nat) (v : Value) (w : World) (b : Nat) : Prop := base ≤ b ∧ b < w.heap.size ∧ v.ownBlock ≠ some b
def OwnN (base : Nat) (L : List Nd) (v : Value) (w : World) : Prop :=
  ∃ vs : List (Array Value), w.ownsRow base 44 17 v L.length (vs.flatMap Array.toList) ∧ EachN (NewN base v w) w vs L

theorem EachN.imp {S S' : Nat → Prop} {w w' : World} {vs : List (Array Value)} {L : List Nd} (h : EachN S w vs L) (hS : ∀ b, S b → S' b) (hw : ∀ (b o : Nat) u, S b → w.cell? ⟨b, o, none⟩ = some u → w'.cell? ⟨b, o, none⟩ = some u) : EachN S' w' vs L :=
  ⟨h.1, fun j cs hj => by
    obtain ⟨n, hn, hN⟩ := h.2 j cs hj
    exact ⟨n, hn, NdS.imp hN hS fun b o u hb hu => hw b o u hb hu⟩⟩

theorem OwnN.nil (base : Nat) (w : World) : OwnN base [] (.slice none 0 0) w :=
  ⟨[], World.ownsRow_nil _ _ _ _, ⟨rfl, fun j cs h => by simp at h⟩⟩

theorem cell_ext {w w' : World} (h : Ext w w') (b o : Nat) (u : Value) (hu : w.cell? ⟨b, o, none⟩ = some u) : w'.cell? ⟨b, o, none⟩ = some u :=
  (h.cell (p := ⟨b, o, none⟩) (World.block_lt_of_cell? _ _ hu)).trans hu

theorem OwnN.ext {base : Nat} {L : List Nd} {v : Value} {w w' : World} (h : OwnN base L v w) (hE : Ext w w') : OwnN base L v w' := by
  obtain ⟨vs, h1, h2⟩ := h
  exact ⟨vs, h1.kept (grown_of_ext hE none) (Classical.em _), h2.imp (fun b hb => ⟨hb.1, Nat.lt_of_lt_of_le hb.2.1 hE.size, hb.2.2⟩) fun b o u _ hu => cell_ext hE b o u hu⟩

/-- A new node is handed to the row. -/
theorem OwnN.step {base : Nat} {L : List Nd} {v v' : Value} {w w5 : World} {vs : List (Array Value)} {cs : Array Value} {n : Nd} {t : TypeId} (hE : EachN (NewN base v w) w vs L) (hN : NdS (NewN base v w) w (.agg cs) n)
    (hown : w5.ownsRow base 44 17 v' (L.length + 1) (vs.flatMap Array.toList ++ cs.toList)) (hg : (w.alloc (.cells cs t)).grownBy w5 v.ownBlock) (ho : v'.ownBlock = v.ownBlock ∨ v'.ownBlock = some (w.heap.size + 1)) :
    OwnN base (L ++ [n]) v' w5 := by
  have hz := hg.size
  simp only [World.size_alloc] at hz
  have hS : ∀ b, NewN base v w b → NewN base v' w5 b := fun b hb => ⟨hb.1, by have := hb.2.1; omega, fun e => by
    rcases ho with h | h
    · rw [h] at e; exact hb.2.2 e
    · rw [h] at e; cases e; have := hb.2.1; omega⟩
  have hw : ∀ (b o : Nat) u, NewN base v w b → w.cell? ⟨b, o, none⟩ = some u → w5.cell? ⟨b, o, none⟩ = some u := fun b o u hb hu => by
    rw [World.cell?_of_block ((hg.block b (by simp; have := hb.2.1; omega) (fun e => hb.2.2 e.symm)).trans (heap_alloc_old w _ hb.2.1))]
    exact hu
  refine ⟨vs ++ [cs], by simpa using hown, (hE.imp hS hw).append ((EachN.one hN).imp hS hw)⟩

/-- Memory as it was, but the row. -/
theorem OwnN.keep {base : Nat} {v : Value} {w w5 : World} {cs : Array Value} {n : Nat} {xs : List Value} {t : TypeId} {w0 : World} (hE0 : Ext w0 w) (hb : w0.heap.size ≤ base) (hown : w.ownsRow base 44 17 v n xs) (hg : (w.alloc (.cells cs t)).grownBy w5 v.ownBlock) : Ext w0 w5 := by
  refine hE0.trans' ⟨hg.os, hg.tape, hg.output, by have := hg.size; simp at this; omega, fun k hk => ?_⟩
  have hz := hE0.size
  refine (hg.block k (by simp; omega) (fun e => ?_)).trans (heap_alloc_old w _ (by omega))
  have := ownBlock_ge hown k e.symm
  omega

/-- The row as rows that show nodes. -/
theorem OwnN.rows {base : Nat} {L : List Nd} {v : Value} {w : World} (h : OwnN base L v w) : ∃ a c vs, v = .slice a L.length c ∧ L.length ≤ c ∧ c ≤ maxLen ∧ RowsOf (fun k => base ≤ k ∧ k < w.heap.size) w a vs L ∧ PlainA a c := by
  obtain ⟨vs, h1, h2⟩ := h
  obtain ⟨a, c, e, h3, h4, h5, h6⟩ := RowsOf.of_own (S := fun k => base ≤ k ∧ k < w.heap.size) h1 rfl h2.1 (fun k h1 h2 => ⟨h1, h2⟩) (h2.imp (fun b hb => ⟨hb.1, hb.2.1⟩) fun _ _ _ _ h => h).2
  exact ⟨a, c, vs, e, h3, h4, h5, h6⟩

theorem nds_take_succ {M : List (Key × Nd)} {k : Nat} (hk : k < M.length) : nds (M.take (k + 1)) = nds (M.take k) ++ [M[k].2] := by
  unfold nds
  rw [List.take_succ_eq_append_getElem hk, List.map_append]; rfl
end Go.Proofs.YthinpbdbhijbgaaGreatDoor
namespace Go.Proofs.YthinpbdbhijbgaaGreatDoor
open Go.RowKit
set_option maxHeartbeats 1000000

theorem sum_le_len {α : Type} (l : List α) (a : α → Nat) (B : Nat) (h : ∀ x ∈ l, a x ≤ B) : (l.map a).sum ≤ l.length * B := by
  induction l with
  | nil => simp
  | cons x l ih =>
    have h1 := h x (List.mem_cons_self ..)
    have h2 := ih fun y hy => h y (List.mem_cons_of_mem _ hy)
    simp only [List.map_cons, List.sum_cons, List.length_cons, Nat.add_mul]; omega
theorem undK_length_le (M : List (Key × Nd)) (s : ByteArray) : (undK M s).length ≤ M.length := by
  unfold undK; rw [List.length_map]; exact List.length_filter_le _ _

/-- The bytes of the nodes at these paths. -/
def bytesK (M : List (Key × Nd)) (ks : List Key) : Nat := (ks.map fun k => ((mget M k).getD zeroN).data.length).sum
theorem bytesK_succ (M : List (Key × Nd)) (ks : List Key) (k : Nat) (hk : k < ks.length) : bytesK M (ks.take (k + 1)) = bytesK M (ks.take k) + ((mget M ks[k]).getD zeroN).data.length := by
  unfold bytesK
  rw [List.take_succ_eq_append_getElem hk, List.map_append, List.sum_append]
  simp
theorem data_le {M : List (Key × Nd)} (hM : MOk M) (k : Key) : ((mget M k).getD zeroN).data.length ≤ 1048575 := by
  cases hg : mget M k with
  | none => simp [zeroN]
  | some n => exact (right_fit (hM.at hg).2).2.1
theorem bytesK_le {M : List (Key × Nd)} (hM : MOk M) (ks : List Key) : bytesK M ks ≤ ks.length * 1048575 :=
  sum_le_len ks _ _ fun k _ => data_le hM k

end Go.Proofs.YthinpbdbhijbgaaGreatDoor
namespace Go.Proofs.YthinpbdbhijbgaaGreatDoor
open Go.RowKit Go.Sort
set_option maxHeartbeats 2000000
set_option maxRecDepth 100000

theorem wpList_field {P : Program} {ops : Array Oper} {rest : List Oper} {o : Oper} {a : Act} {Q : Exit → Act → World → Prop} {w : World} (hg : o.guard = none) (ty : TypeId) (x : Operand) (i : Nat) (ho : o.op = .field ty x i) (u : Value) (hx : a.eval x = u) (v : Value)
    (hr : (Instr.field ty u i).run P w = .ok v w) (hK : wpList P ops Q rest (a.put o.dst v) w) : wpList P ops Q (o :: rest) a w :=
  wpList_plain hg fun K hK' => by
    subst hx
    unfold Oper.wp
    simp only [execOp, ho, Sem.run_bind, Sem.run_pure, Result.andThen_ok, hr]
    exact hK' _ _ hK
theorem field_data {a b c d e f g h i j k l m n o p q : Value} {w : World} : (Instr.field 44 (.agg #[a, b, c, d, e, f, g, h, i, j, k, l, m, n, o, p, q]) 1).run Tryz.prog w = .ok b w := by
  kernel_rfl

def WeighOut (M : List (Key × Nd)) (s : ByteArray) (w : World) (e : Ending) (w' : World) : Prop :=
  e = .returned (if (mget M s.data.toList).isSome = true then .tuple #[.int .i64 (undK M s).length, .int .i64 (bytesK M (undK M s)), .int .i64 0] else .tuple #[.int .i64 0, .int .i64 0, .int .i64 70]) ∧ Ext w w'

theorem UndL_none {M : List (Key × Nd)} {s : ByteArray} (h : mget M s.data.toList = none) : UndL M s = [] := by unfold UndL; rw [h]; rfl
theorem UndL_some {M : List (Key × Nd)} {s : ByteArray} {y : Nd} (h : mget M s.data.toList = some y) : UndL M s = undK M s := by unfold UndL; rw [h]; rfl
theorem und_self_mem {M : List (Key × Nd)} (hM : MOk M) {s : ByteArray} {y : Nd} (h : mget M s.data.toList = some y) : 0 < (undK M s).length := by
  have hm := mget_some_mem h
  have hp : y.path = s := (ba_ext (hM.at h).1).symm
  have : s.data.toList ∈ undK M s := by
    unfold undK
    exact List.mem_map.2 ⟨_, List.mem_filter.2 ⟨hm, by show und y.path s = true; rw [hp]; exact und_self s⟩, rfl⟩
  exact List.length_pos_of_mem this

theorem weigh_any (S : Nat → Prop) (w : World) (bt : Nat) (M : List (Key × Nd)) (N : Nat) (hT : TreeAt S w bt M N) (hc : Clo M) (s : ByteArray) (hs : s.size ≤ maxLen) (hN : M.length * 168 ≤ 140737488355328) :
    Calls Tryz.prog 85 #[.pointer (some ⟨bt, 0, none⟩), .string s] w (WeighOut M s w) := by
  have C1 := Lib.hid (under_any S w bt M N hT hc s hs (by omega))
  have HT := Lib.hid hT
  have hM := hT.ok
  clear hT
  go_enter Tryz.func85, Tryz.ntmps85
  go_wp2_with fail
  refine C1.out.mono ?_
  rintro e w1 ⟨v, rfl, hrow, hnil, hE1⟩
  clear C1
  obtain ⟨sa, sc, rfl, hcs⟩ := ownsRow_cells hrow
  cases hg : mget M s.data.toList with
  | none =>
    have hfin : WeighOut M s w (.returned (.tuple #[.int .i64 0, .int .i64 0, .int .i64 70])) w1 := ⟨by rw [hg]; rfl, hE1⟩
    have HFIN := Lib.hid hfin
    have e0 : (UndL M s).length = 0 := by rw [UndL_none hg]; rfl
    rw [e0] at *
    clear hfin hg hrow hnil hE1 hcs
    go_wp2
    go_ret3
    exact HFIN.out
  | some y =>
    have hU := UndL_some hg
    have hpos := und_self_mem hM hg
    rw [hU] at hcs
    rw [hU]
    generalize hks : undK M s = ks at *
    have hkl : ks.length ≤ M.length := by rw [← hks]; exact undK_length_le M s
    have hkey : ∀ k ∈ ks, k.length ≤ maxLen := fun k hk => by
      rw [← hks] at hk
      unfold undK at hk
      obtain ⟨x, hx, rfl⟩ := List.mem_map.1 hk
      have hxM := (List.mem_filter.1 hx).1
      have h1 := hM.key x hxM
      have h2 := (vpath_facts (right_vpath (hM.right x hxM))).2.1
      rw [h1]
      unfold keyN maxLen
      rw [size_list]; omega
    have hfin : WeighOut M s w (.returned (.tuple #[.int .i64 ks.length, .int .i64 (bytesK M ks), .int .i64 0])) w1 := ⟨by rw [hg, hks]; rfl, hE1⟩
    have HFIN := Lib.hid hfin
    have HCS := Lib.hid hcs
    have HKEY := Lib.hid hkey
    have hT1 := HT.out.ext hE1
    have HT1 := Lib.hid hT1
    have hlp : ¬ ks.length = 0 := by omega
    have hlb : ((ks.length : Int) == 0) = false := by simp; exact fun e => hlp (by rw [e]; rfl)
    have hl64 : ks.length ≤ 9223372036854775807 := by omega
    clear hfin hg hrow hnil hE1 hcs hkey hT1 hks HT hU hpos
    go_wp2
    go_loopw [8, 19] (fun sm i wr => ∃ k : Nat, k ≤ ks.length ∧ i = .int .i64 k ∧ sm = .int .i64 (bytesK M (ks.take k)) ∧ wr = w1) (fun _ i _ => ks.length - (intOf i).toNat)
    case atStart => exact ⟨0, Nat.zero_le _, rfl, rfl, rfl⟩
    case round =>
      obtain ⟨k, hk, rfl, rfl, rfl⟩ := hrel
      by_cases hlt : k < ks.length
      · obtain ⟨b, off, rfl, hb, hc⟩ := HCS.out k (encStr ks[k]) (by rw [List.getElem?_map, List.getElem?_eq_getElem hlt]; rfl)
        have hkz : (⟨ks[k].toArray⟩ : ByteArray).size ≤ maxLen := by
          have := HKEY.out ks[k] (List.getElem_mem hlt)
          rw [← size_list]; simpa using this
        obtain ⟨bn, bk, K, hd, hNd, hKd⟩ := HT1.out
        have hx := TreeAt.box hd
        obtain ⟨vv, hvv, _, hq⟩ := hNd.look' ⟨ks[k].toArray⟩ hkz
        rw [key_back] at hvv
        have hsucc := bytesK_succ M ks k hlt
        have hle1 := bytesK_le hM (ks.take k)
        have hle2 := data_le hM ks[k]
        have hln : (ks.take k).length ≤ ks.length := by simp; omega
        obtain ⟨ea, ec, fa, fc, rfl, _⟩ := hvv
        generalize (mget M ks[k]).getD zeroN = n at *
        have HSC := Lib.hid hsucc
        have hb1 : (0 : Int) ≤ (bytesK M (ks.take k) : Int) + (n.data.length : Int) := by omega
        have hb2 : (bytesK M (ks.take k) : Int) + (n.data.length : Int) < 9223372036854775808 := by omega
        unfold Box treeC at hx
        unfold ndC at hq
        clear hd hNd hKd hsucc
        go_wp2_with (refine wpList_field rfl 44 (.tmp 29) 1 rfl _ rfl (.slice ea n.data.length ec) field_data ?_)
        go_roundw
        case rel => exact ⟨k + 1, by omega, by go_num, by rw [HSC.out]; push_cast; go_num, by first | rfl | trivial⟩
        case measure => simp [intOf]; omega
      · obtain rfl : k = ks.length := by omega
        rw [List.take_length]
        go_wp2
        go_ret3
        exact HFIN.out
end Go.Proofs.YthinpbdbhijbgaaGreatDoor
namespace Go.Proofs.YthinpbdbhijbgaaGreatDoor
open Go.RowKit Go.Sort
set_option maxHeartbeats 4000000
set_option maxRecDepth 100000

/-- What of a list is under a path that is there. -/
def belB (M : List (Key × Nd)) (s : ByteArray) (x : Key × Nd) : Bool := (mget M s.data.toList).isSome && und x.2.path s
def belF (M : List (Key × Nd)) (s : ByteArray) (k : Nat) : List (Key × Nd) := (M.take k).filter (belB M s)
theorem belF_zero (M : List (Key × Nd)) (s : ByteArray) : belF M s 0 = [] := by simp [belF]
theorem belF_succ (M : List (Key × Nd)) (s : ByteArray) (k : Nat) (hk : k < M.length) : belF M s (k + 1) = belF M s k ++ if belB M s M[k] = true then [M[k]] else [] := by
  unfold belF
  rw [List.take_succ_eq_append_getElem hk, List.filter_append]
  congr 1
  by_cases h : belB M s M[k] = true
  · rw [if_pos h, List.filter_cons_of_pos h]; rfl
  · rw [if_neg h, List.filter_cons_of_neg h]; rfl
theorem belF_le (M : List (Key × Nd)) (s : ByteArray) (k : Nat) : (belF M s k).length ≤ k := by
  unfold belF
  refine Nat.le_trans (List.length_filter_le _ _) ?_
  rw [List.length_take]; omega
theorem belF_all {M : List (Key × Nd)} (hM : MOk M) (s : ByteArray) : nds (belF M s M.length) = nodesOf M (UndL M s) := by
  unfold belF
  rw [List.take_length]
  unfold UndL
  by_cases hg : (mget M s.data.toList).isSome = true
  · rw [if_pos hg]
    unfold undK nodesOf nds
    rw [List.map_map]
    have e : M.filter (belB M s) = M.filter fun x => und x.2.path s := List.filter_congr fun x _ => by unfold belB; rw [hg, Bool.true_and]
    rw [e]
    refine List.map_congr_left fun x hx => ?_
    simp only [Function.comp]
    rw [mget_of_mem hM.sorted (List.mem_filter.1 hx).1]; rfl
  · rw [if_neg hg]
    have e : M.filter (belB M s) = [] := List.filter_eq_nil_iff.2 fun x _ => by
      unfold belB
      cases h : (mget M s.data.toList).isSome with
      | true => exact absurd h hg
      | false => simp
    rw [e]; rfl

/-- A row of the call's own that shows these nodes. -/
def NodesOut (L : List Nd) (w : World) (e : Ending) (w' : World) : Prop := ∃ v, e = .returned v ∧ OwnN w.heap.size L v w' ∧ Ext w w'

theorem belB_there {M : List (Key × Nd)} {s : ByteArray} {y : Nd} (hg : mget M s.data.toList = some y) (x : Key × Nd) : belB M s x = und x.2.path s := by unfold belB; rw [hg]; rfl
theorem belB_none {M : List (Key × Nd)} {s : ByteArray} (hg : mget M s.data.toList = none) (x : Key × Nd) : belB M s x = false := by unfold belB; rw [hg]; rfl

theorem rbelow_any (w : World) (b : Nat) (M : List (Key × Nd)) (hR : RT w b (nds M)) (hM : MOk M) (s : ByteArray) (hs : s.size ≤ 9223372036854775800) (hl : M.length * 168 ≤ 140737488355328) :
    Calls Tryz.prog 87 #[.pointer (some ⟨b, 0, none⟩), .string s] w (NodesOut (nodesOf M (UndL M s)) w) := by
  have hR0 := hR
  obtain ⟨a, cap, vs, hb, hlc, hcm, hS, hrows, _⟩ := hR
  have hcb : w.cell? ⟨b, 0, none⟩ = some (.slice a (nds M).length cap) := cell_of_row _ _ _ _ _ _ hb
  have hbl := (Array.getElem?_eq_some_iff.1 hb).1
  rw [nds_length] at hcb
  have hl64 : M.length ≤ 9223372036854775807 := by omega
  have HR := Lib.hid hR0
  have HROWS := Lib.hid hrows
  have HS := Lib.hid hS
  have HM := Lib.hid hM
  have HALL := Lib.hid (belF_all hM s)
  clear hb hrows hS hM hlc hcm hR0
  go_enter Tryz.func87, Tryz.ntmps87
  go_wp2
  go_loopw [5, 6] (fun ov i wr => ∃ k : Nat, k ≤ M.length ∧ i = .int .i64 k ∧ Hid (OwnN w.heap.size (nds (belF M s k)) ov wr) ∧ Ext w wr) (fun _ i _ => M.length - (intOf i).toNat)
  case atStart => exact ⟨0, Nat.zero_le _, rfl, by unfold Hid; rw [belF_zero]; exact OwnN.nil _ _, Ext.refl _⟩
  case round =>
    obtain ⟨k, hk, rfl, HO, hE⟩ := hrel
    have hcr : wr.cell? ⟨b, 0, none⟩ = some (.slice a M.length cap) := (hE.cell (p := ⟨b, 0, none⟩) hbl).trans hcb
    by_cases hlt : k < M.length
    · have hMk : (nds M)[k]? = some M[k].2 := by unfold nds; rw [List.getElem?_map, List.getElem?_eq_getElem hlt]; rfl
      obtain ⟨bl, off, da, dc, aa, ac, ea, hSb, hc, hD, hA, _⟩ := HROWS.out.row hMk
      subst ea
      have hfit := (right_fit (HM.out.right M[k] (List.getElem_mem hlt))).1
      have hvp := right_vpath (HM.out.right M[k] (List.getElem_mem hlt))
      have hsucc := belF_succ M s k hlt
      have hle := belF_le M s (k + 1)
      have hle0 := belF_le M s k
      have hbT := fun (y : Nd) (hg : mget M s.data.toList = some y) => belB_there hg M[k]
      have hbN := fun (hg : mget M s.data.toList = none) => belB_none hg M[k]
      have hndc : ∀ l : List (Key × Nd), nds (l ++ [M[k]]) = nds l ++ [M[k].2] := fun l => by unfold nds; simp
      generalize hxx : M[k] = x at *
      obtain ⟨xk, n⟩ := x
      simp only at *
      have c0 : wr.cell? ⟨bl, off + k * 17, none⟩ = some (.string n.path) := (hE.cell (p := ⟨bl, off + k * 17, none⟩) (HS.out bl hSb).1).trans (hc 0 _ rfl)
      have CG := Lib.hid (rget_any wr b M (HR.out.ext hE) HM.out s hs)
      have HC := Lib.hid hc
      have HD := Lib.hid ((hD.cells fun b hb => (HS.out b hb).1))
      have HA := Lib.hid ((hA.cells fun b hb => (HS.out b hb).1))
      have HFIT := Lib.hid hfit
      have hp64 := hfit.path
      have HB := Lib.hid (HS.out bl hSb)
      have HSUCC := Lib.hid hsucc
      have HNDC := Lib.hid hndc
      have HBT := Lib.hid hbT
      have HBN := Lib.hid hbN
      have HVP := Lib.hid hvp
      have HE := Lib.hid hE
      clear hc hD hA hfit hE hMk hsucc hbT hbN hndc hxx hvp
      go_wp2_with fail
      refine CG.out.mono ?_
      rintro e w2 ⟨v, rfl, hv, hE2⟩
      obtain ⟨ga, gc, ha, hc, rfl, _, _⟩ := hv
      generalize (mget M s.data.toList).getD zeroN = n0
      obtain ⟨W3, hW3⟩ : ∃ W3, W3 = w2.alloc (.cells (ndC n0 (.slice ga n0.data.length gc) (.slice ha n0.acl.length hc)) 44) := ⟨_, rfl⟩
      have HSET := Lib.hid ((setRow_alloc w2 zeroNd (ndC n0 (.slice ga n0.data.length gc) (.slice ha n0.acl.length hc)) 44).trans hW3.symm)
      have HNew := Lib.hid (heap_alloc_new w2 (.cells zeroNd 44))
      have hE2' : Ext wr w2 := hE2
      have hE3 : Ext wr W3 := hE2'.trans (by rw [hW3]; exact Ext.alloc _ _)
      have hcr3 : W3.cell? ⟨b, 0, none⟩ = some (.slice (some ⟨bl, off, none⟩) M.length cap) := (hE3.cell (p := ⟨b, 0, none⟩) (World.block_lt_of_cell? _ _ hcr)).trans hcr
      have c03 : W3.cell? ⟨bl, off + k * 17, none⟩ = some (.string n.path) := (hE3.cell (p := ⟨bl, off + k * 17, none⟩) (World.block_lt_of_cell? _ _ c0)).trans c0
      have HEW3 := Lib.hid (HE.out.trans hE3)
      have HO3 := Lib.hid (HO.out.ext hE3)
      unfold ndC at HSET ⊢
      unfold zeroNd at HSET HNew
      clear CG hE2 hE2' hE3 hW3 hcr c0
      cases hg : mget M s.data.toList with
      | none =>
        have hst : belF M s (k + 1) = belF M s k := by rw [HSUCC.out, HBN.out hg]; simp
        have HST := Lib.hid hst
        clear hst hg
        go_wp2_with (refine wpList_store_row rfl 44 (.tmp 7) (.tmp 26) rfl w2.heap.size _ rfl rfl 44 _ HNew.out sizeNd rfl (cells_node n0 ga ha _ _ gc hc) ?_; rw [HSET.out])
        go_roundw
        case rel => exact ⟨k + 1, by omega, by go_num, by unfold Hid; rw [HST.out]; exact HO3.out, HEW3.out⟩
        case measure => simp [intOf]; omega
      | some y =>
        have hvs : vpath s = true := by
          have := right_vpath (HM.out.at hg).2
          have hk := (HM.out.at hg).1
          unfold keyN at hk
          rwa [← ba_ext hk] at this
        have CU := rund_any n.path s W3 hp64 hs
        rw [hvs, HVP.out, Bool.true_and, Bool.true_and] at CU
        have CU := Lib.hid CU
        have hbt := HBT.out _ hg
        clear hvs
        cases hu : und n.path s with
        | false =>
          rw [hu] at CU hbt
          have hst : belF M s (k + 1) = belF M s k := by rw [HSUCC.out, hbt]; simp
          have HST := Lib.hid hst
          clear hst hg hbt hu
          go_wp2_with (refine wpList_store_row rfl 44 (.tmp 7) (.tmp 26) rfl w2.heap.size _ rfl rfl 44 _ HNew.out sizeNd rfl (cells_node n0 ga ha _ _ gc hc) ?_; rw [HSET.out])
          refine CU.out.mono ?_
          rintro e W4 ⟨rfl, hE4⟩
          have HE4 := Lib.hid (HEW3.out.trans hE4)
          have HO4 := Lib.hid (HO3.out.ext hE4)
          clear CU hE4 hcr3 c03
          go_wp2
          go_roundw
          case rel => exact ⟨k + 1, by omega, by go_num, by unfold Hid; rw [HST.out]; exact HO4.out, HE4.out⟩
          case measure => simp [intOf]; omega
        | true =>
          rw [hu] at CU hbt
          have hst : nds (belF M s (k + 1)) = nds (belF M s k) ++ [n] := by rw [HSUCC.out, hbt, if_pos rfl, HNDC.out]
          have hll : (nds (belF M s k)).length ≤ k := by rw [nds_length]; exact hle0
          have HST := Lib.hid hst
          clear hst hg hbt hu
          go_wp2_with (refine wpList_store_row rfl 44 (.tmp 7) (.tmp 26) rfl w2.heap.size _ rfl rfl 44 _ HNew.out sizeNd rfl (cells_node n0 ga ha _ _ gc hc) ?_; rw [HSET.out])
          refine CU.out.mono ?_
          rintro e W4 ⟨rfl, hE4⟩
          have hE4 : Ext W3 W4 := hE4
          have hE04 := HEW3.out.trans hE4
          have hcr4 : W4.cell? ⟨b, 0, none⟩ = some (.slice (some ⟨bl, off, none⟩) M.length cap) := (hE4.cell (p := ⟨b, 0, none⟩) (World.block_lt_of_cell? _ _ hcr3)).trans hcr3
          have hcw : ∀ j u, (ndC n (.slice da n.data.length dc) (.slice aa n.acl.length ac))[j]? = some u → W4.cell? ((⟨bl, off + k * 17, none⟩ : Addr).add j) = some u := fun j u hj => by
            rw [addr_add, hE04.cell (p := ⟨bl, off + k * 17 + j, none⟩) HB.out.1]
            exact HC.out j u hj
          have CC := Lib.hid (rclone_new n da aa dc ac W4 HFIT.out (HD.out.ext hE04) (HA.out.ext hE04))
          have HC4 := Lib.hid hcw
          have HE4 := Lib.hid hE04
          have HO4 := Lib.hid (HO3.out.ext hE4)
          unfold ndC at HC4
          clear CU hE4 hE04 hcr3 c03 hcw HC HD HA HO3 HO
          go_wp2_with (refine wpList_load_at rfl 44 (.tmp 47) rfl _ rfl _ _ HC4.out Tryz.underlying44 rfl sizeNd ?_)
          refine CC.out.mono ?_
          rintro e W5 ⟨v, rfl, hN, hE5⟩
          have hE5 : Ext W4 W5 := hE5
          obtain ⟨qa, qc, ra, rc, rfl, hQ1, hQ2⟩ := hN
          obtain ⟨ws, hown4, heach4⟩ := HO4.out
          have hzw := HE4.out.size
          have hz5 := hE5.size
          have hlt4 : ∀ g, u5.ownBlock = some g → w.heap.size ≤ g ∧ g < W4.heap.size := fun g hg => hown4.lt g hg
          have hown5 := hown4.kept (grown_of_ext hE5 none) (Classical.em _)
          have heach5 : EachN (NewN w.heap.size u5 W5) W5 ws (nds (belF M s k)) := heach4.imp (fun b hb => ⟨hb.1, Nat.lt_of_lt_of_le hb.2.1 hE5.size, hb.2.2⟩) fun b o u _ hu => cell_ext hE5 b o u hu
          have hnew5 : NdS (NewN w.heap.size u5 W5) W5 (.agg (ndC n (.slice qa n.data.length qc) (.slice ra n.acl.length rc))) n := NdS.imp ⟨qa, qc, ra, rc, rfl, hQ1, hQ2⟩ (fun k hk => ⟨by omega, hk.2, fun e => by have := (hlt4 k e).2; omega⟩) fun _ _ _ _ h => h
          have hs17 : Cells (W5.alloc (.cells (ndC n (.slice qa n.data.length qc) (.slice ra n.acl.length rc)) 44)).heap.size (W5.alloc (.cells (ndC n (.slice qa n.data.length qc) (.slice ra n.acl.length rc)) 44)) (some ⟨W5.heap.size, 0, none⟩) (ndC n (.slice qa n.data.length qc) (.slice ra n.acl.length rc)).toList := fun j u hj => by
            refine ⟨_, 0, rfl, by simp, ?_⟩
            rw [Nat.zero_add, cell_of_row _ _ _ _ _ _ (heap_alloc_new W5 _)]
            simpa using hj
          have hsrc : Src Tryz.prog 17 50 (.slice (some ⟨W5.heap.size, 0, none⟩) 1 1) 1 (ndC n (.slice qa n.data.length qc) (.slice ra n.acl.length rc)).toList (W5.alloc (.cells (ndC n (.slice qa n.data.length qc) (.slice ra n.acl.length rc)) 44)) :=
            hs17.src Tryz.underlying50 1 1 (by simp [ndC]) (fun u hu => by
              have := cells_node n qa ra n.data.length n.acl.length qc rc
              rw [← Array.all_toList] at this
              exact List.all_eq_true.1 this u hu)
          obtain ⟨i0, hi, hz0, hz1', hz2⟩ := info_parts infoNd
          have hownA := hown5.alloc (.cells (ndC n (.slice qa n.data.length qc) (.slice ra n.acl.length rc)) 44)
          have HE5 := Lib.hid (HE4.out.trans hE5)
          have HEA := Lib.hid heach5
          have HNW := Lib.hid hnew5
          have HO5 := Lib.hid hown5
          unfold ndC at hownA hsrc
          clear CC hE5 hQ1 hQ2 hown4 heach4 hlt4 hown5 heach5 hnew5 hs17 HC4 hcr4 HO4
          unfold ndC
          go_wp2_with (at_builtin; refine wpList_append_src _ rfl (.tmp 41) (.tmp 50) 50 50 rfl w.heap.size 44 i0 (.agg zeroNd) 17 168 Tryz.underlying50 hi hz0 hz1' hz2 rfl (by decide) _ (nds (belF M s k)).length _ rfl hownA _ 1 _ rfl hsrc ?c1 ?c2 ?c3 ?_)
          case c1 => unfold maxLen; omega
          case c2 => omega
          case c3 => first | omega | (simp; omega)
          intro v' w6 hown6 hg6 _ ho6
          rw [show [Value.string n.path, .slice qa n.data.length qc, .slice ra n.acl.length rc, .int .i64 n.owner, .int .i64 n.czxid, .int .i64 n.mzxid, .int .i64 n.pzxid, .int .i64 n.azxid, .int .i64 n.qzxid, .int .i64 n.ctime, .int .i64 n.mtime, .int .i32 n.version, .int .i32 n.creates, .int .i32 n.aversion, .bool n.has, .int .i64 n.count, .int .i64 n.bytes] = (ndC n (.slice qa n.data.length qc) (.slice ra n.acl.length rc)).toList from rfl] at hown6
          have hstep := OwnN.step HEA.out HNW.out hown6 hg6 ho6
          have hkeep := OwnN.keep HE5.out (Nat.le_refl _) HO5.out hg6
          rw [← HST.out] at hstep
          have HSTEP := Lib.hid hstep
          have HKEEP := Lib.hid hkeep
          clear hown6 hg6 ho6 hstep hkeep hownA hsrc
          go_wp2
          go_roundw
          case rel => exact ⟨k + 1, by omega, by go_num, HSTEP.out, HKEEP.out⟩
          case measure => simp [intOf]; omega
    · obtain rfl : k = M.length := by omega
      have hfin : NodesOut (nodesOf M (UndL M s)) w (.returned u5) wr := ⟨_, rfl, by rw [← HALL.out]; exact HO.out, hE⟩
      have HFIN := Lib.hid hfin
      clear hfin hE hcb HROWS HO
      go_wp2
      go_ret
      exact HFIN.out
end Go.Proofs.YthinpbdbhijbgaaGreatDoor
namespace Go.Proofs.YthinpbdbhijbgaaGreatDoor
open Go.RowKit Go.Sort
set_option maxHeartbeats 4000000
set_option maxRecDepth 100000

theorem rweigh_any (w : World) (b : Nat) (M : List (Key × Nd)) (hR : RT w b (nds M)) (hM : MOk M) (s : ByteArray) (hs : s.size ≤ 9223372036854775800) (hl : M.length * 168 ≤ 140737488355328) :
    Calls Tryz.prog 86 #[.pointer (some ⟨b, 0, none⟩), .string s] w (WeighOut M s w) := by
  have C1 := Lib.hid (rbelow_any w b M hR hM s hs hl)
  have HM := Lib.hid hM
  clear hR hM
  go_enter Tryz.func86, Tryz.ntmps86
  go_wp2_with fail
  refine C1.out.mono ?_
  rintro e w1 ⟨v, rfl, hown, hE1⟩
  obtain ⟨la, lc, vs, rfl, _, _, hrows, _⟩ := hown.rows
  clear C1 hown
  cases hg : mget M s.data.toList with
  | none =>
    have hfin : WeighOut M s w (.returned (.tuple #[.int .i64 0, .int .i64 0, .int .i64 70])) w1 := ⟨by rw [hg]; rfl, hE1⟩
    have HFIN := Lib.hid hfin
    have e0 : (nodesOf M (UndL M s)).length = 0 := by rw [UndL_none hg]; rfl
    rw [e0]
    clear hfin hg hrows hE1
    go_wp2
    go_ret3
    exact HFIN.out
  | some y =>
    have hU := UndL_some hg
    have hpos := und_self_mem HM.out hg
    rw [hU] at hrows ⊢
    generalize hks : undK M s = ks at *
    have hkl : ks.length ≤ M.length := by rw [← hks]; exact undK_length_le M s
    have hnl : (nodesOf M ks).length = ks.length := by unfold nodesOf; exact List.length_map _
    have hfin : WeighOut M s w (.returned (.tuple #[.int .i64 ks.length, .int .i64 (bytesK M ks), .int .i64 0])) w1 := ⟨by rw [hg, hks]; rfl, hE1⟩
    have HFIN := Lib.hid hfin
    have HROWS := Lib.hid hrows
    have hlp : ¬ ks.length = 0 := by omega
    have hlb : ((ks.length : Int) == 0) = false := by simp; exact fun e => hlp (by rw [e]; rfl)
    have hl64 : ks.length ≤ 9223372036854775807 := by omega
    rw [hnl]
    clear hfin hg hE1 hks hU hpos hrows
    go_wp2
    go_loopw [8, 9] (fun sm i wr => ∃ k : Nat, k ≤ ks.length ∧ i = .int .i64 k ∧ sm = .int .i64 (bytesK M (ks.take k)) ∧ wr = w1) (fun _ i _ => ks.length - (intOf i).toNat)
    case atStart => exact ⟨0, Nat.zero_le _, rfl, rfl, rfl⟩
    case round =>
      obtain ⟨k, hk, rfl, rfl, rfl⟩ := hrel
      by_cases hlt : k < ks.length
      · have hnk : (nodesOf M ks)[k]? = some ((mget M ks[k]).getD zeroN) := by unfold nodesOf; rw [List.getElem?_map, List.getElem?_eq_getElem hlt]; rfl
        obtain ⟨bl, off, da, dc, aa, ac, ea, hSb, hc, hD, hA, _⟩ := HROWS.out.row hnk
        subst ea
        have hsucc := bytesK_succ M ks k hlt
        have hle1 := bytesK_le HM.out (ks.take k)
        have hle2 := data_le HM.out ks[k]
        have hln : (ks.take k).length ≤ ks.length := by simp; omega
        generalize (mget M ks[k]).getD zeroN = n at *
        have c1 : wr.cell? ⟨bl, off + k * 17 + 1, none⟩ = some (.slice da n.data.length dc) := hc 1 _ rfl
        have HSC := Lib.hid hsucc
        have hb1 : (0 : Int) ≤ (bytesK M (ks.take k) : Int) + (n.data.length : Int) := by omega
        have hb2 : (bytesK M (ks.take k) : Int) + (n.data.length : Int) < 9223372036854775808 := by omega
        clear hc hD hA hsucc hnk
        go_wp2
        go_roundw
        case rel => exact ⟨k + 1, by omega, by go_num, by rw [HSC.out]; push_cast; go_num, by first | rfl | trivial⟩
        case measure => simp [intOf]; omega
      · obtain rfl : k = ks.length := by omega
        rw [List.take_length]
        go_wp2
        go_ret3
        exact HFIN.out
end Go.Proofs.YthinpbdbhijbgaaGreatDoor
namespace Go.Proofs.YthinpbdbhijbgaaGreatDoor
open Go.RowKit Go.Sort
set_option maxHeartbeats 4000000
set_option maxRecDepth 100000

theorem ordL_pos (a b : List UInt8) : 0 < ordL a b ↔ bytesBefore b a = true := by
  rw [ordL_eq]
  split
  · rename_i e
    subst e
    cases h : bytesBefore a a with
    | false => simp
    | true => exact (before_asymm h h).elim
  · rename_i hne
    split
    · rename_i h
      exact ⟨fun h => by omega, fun h2 => (before_asymm h h2).elim⟩
    · rename_i h
      refine ⟨fun _ => ?_, fun _ => by omega⟩
      rcases WideAt.bytes_total _ _ hne with h' | h'
      · exact absurd h' h
      · exact h'

theorem after_skip {M : List (Key × Nd)} (hM : MOk M) (s : ByteArray) {k : Nat} (hk : k < M.length) (h : ¬ 0 < ordL M[k].2.path.data.toList s.data.toList) : (M.drop k).find? (fun x => bytesBefore s.data.toList x.1) = (M.drop (k + 1)).find? fun x => bytesBefore s.data.toList x.1 := by
  rw [List.drop_eq_getElem_cons hk, List.find?_cons]
  have e := hM.key M[k] (List.getElem_mem hk)
  unfold keyN at e
  rw [ordL_pos, ← e] at h
  simp only [h]
theorem after_hit {M : List (Key × Nd)} (hM : MOk M) (s : ByteArray) {k : Nat} (hk : k < M.length) (h : 0 < ordL M[k].2.path.data.toList s.data.toList) : (M.drop k).find? (fun x => bytesBefore s.data.toList x.1) = some M[k] := by
  rw [List.drop_eq_getElem_cons hk, List.find?_cons]
  have e := hM.key M[k] (List.getElem_mem hk)
  unfold keyN at e
  rw [ordL_pos, ← e] at h
  simp only [h]

theorem rafter_any (w : World) (b : Nat) (M : List (Key × Nd)) (hR : RT w b (nds M)) (hM : MOk M) (s : ByteArray) (hs : s.size ≤ 9223372036854775800) : Calls Tryz.prog 84 #[.pointer (some ⟨b, 0, none⟩), .string s] w (AfterOut M s w) := by
  obtain ⟨W1, hW1⟩ : ∃ W1, W1 = w.alloc (.cells zeroNd 44) := ⟨_, rfl⟩
  have hE1 : Ext w W1 := by rw [hW1]; exact Ext.alloc _ _
  have hz1 : W1.heap.size = w.heap.size + 1 := by rw [hW1]; simp
  have hr1 : W1.heap[w.heap.size]? = some (.cells zeroNd 44 (0, 0)) := by rw [hW1]; exact heap_alloc_new w _
  obtain ⟨a, cap, vs, hb, hlc, hcm, hS, hrows, _⟩ := hR
  have hcb : w.cell? ⟨b, 0, none⟩ = some (.slice a (nds M).length cap) := cell_of_row _ _ _ _ _ _ hb
  have hbl := (Array.getElem?_eq_some_iff.1 hb).1
  rw [nds_length] at hcb hlc
  have hl64 : M.length ≤ 9223372036854775807 := by unfold maxLen at hcm; omega
  have HROWS := Lib.hid hrows
  have HS := Lib.hid hS
  have HM := Lib.hid hM
  have HW1 := Lib.hid hW1
  have HE1 := Lib.hid hE1
  have HR1 := Lib.hid hr1
  unfold zeroNd at HW1
  have hcb1 : W1.cell? ⟨b, 0, none⟩ = some (.slice a M.length cap) := (hE1.cell (p := ⟨b, 0, none⟩) hbl).trans hcb
  have HCB := Lib.hid hcb1
  clear hb hrows hS hM hW1 hE1 hr1 hcb hcb1
  go_enter Tryz.func84, Tryz.ntmps84
  go_wp2_with fail
  rw [← HW1.out]
  clear HW1
  go_loopw [6] (fun i wr => ∃ k : Nat, k ≤ M.length ∧ i = .int .i64 k ∧ Hid (afterN M s = (M.drop k).find? fun x => bytesBefore s.data.toList x.1) ∧ Ext W1 wr) (fun i _ => M.length - (intOf i).toNat)
  case atStart => exact ⟨0, Nat.zero_le _, rfl, rfl, Ext.refl _⟩
  case round =>
    obtain ⟨k, hk, rfl, HF, hE⟩ := hrel
    have hcr : wr.cell? ⟨b, 0, none⟩ = some (.slice a M.length cap) := (hE.cell (p := ⟨b, 0, none⟩) (show b < W1.heap.size by omega)).trans HCB.out
    have hrr : wr.heap[w.heap.size]? = some (.cells zeroNd 44 (0, 0)) := (hE.block w.heap.size (by omega)).trans HR1.out
    have HE := Lib.hid hE
    have HRR := Lib.hid hrr
    by_cases hlt : k < M.length
    · have hMk : (nds M)[k]? = some M[k].2 := by unfold nds; rw [List.getElem?_map, List.getElem?_eq_getElem hlt]; rfl
      obtain ⟨bl, off, da, dc, aa, ac, ea, hSb, hc, hD, hA, _⟩ := HROWS.out.row hMk
      subst ea
      have hfit := (right_fit (HM.out.right M[k] (List.getElem_mem hlt))).1
      have hskip := after_skip HM.out s hlt
      have hhit := after_hit HM.out s hlt
      generalize hxx : M[k] = x at *
      obtain ⟨xk, n⟩ := x
      simp only at *
      have hEw := HE1.out.trans hE
      have hcw : ∀ j u, (ndC n (.slice da n.data.length dc) (.slice aa n.acl.length ac))[j]? = some u → wr.cell? ((⟨bl, off + k * 17, none⟩ : Addr).add j) = some u := fun j u hj => by
        rw [addr_add, hEw.cell (p := ⟨bl, off + k * 17 + j, none⟩) (HS.out bl hSb).1]
        exact hc j u hj
      have c0 : wr.cell? ⟨bl, off + k * 17, none⟩ = some (.string n.path) := (hEw.cell (p := ⟨bl, off + k * 17, none⟩) (HS.out bl hSb).1).trans (hc 0 _ rfl)
      have CO := Lib.hid (order_any n.path s wr hfit.path hs)
      have HC := Lib.hid hcw
      have HD := Lib.hid (((hD.cells fun b hb => (HS.out b hb).1)).ext hEw)
      have HA := Lib.hid (((hA.cells fun b hb => (HS.out b hb).1)).ext hEw)
      have HFIT := Lib.hid hfit
      have HB := Lib.hid (HS.out bl hSb).2
      clear hcw hc hD hA hfit hE hEw hrr
      by_cases hgt : 0 < ordL n.path.data.toList s.data.toList
      · have hf := HF.out.trans (hhit hgt)
        have HF2 := Lib.hid hf
        have e1 : decide (0 < ordL n.path.data.toList s.data.toList) = true := by simpa using hgt
        clear hskip hhit hf HF
        generalize ordL n.path.data.toList s.data.toList = od at *
        go_wp2_with fail
        refine CO.out.mono ?_
        rintro e W2 ⟨rfl, hE2⟩
        have hE2 : Ext wr W2 := hE2
        have hr2 := (hE2.block w.heap.size (Array.getElem?_eq_some_iff.1 HRR.out).1).trans HRR.out
        have hcr2 : W2.cell? ⟨b, 0, none⟩ = some (.slice (some ⟨bl, off, none⟩) M.length cap) := (hE2.cell (p := ⟨b, 0, none⟩) (World.block_lt_of_cell? _ _ hcr)).trans hcr
        have hcw2 : ∀ j u, (ndC n (.slice da n.data.length dc) (.slice aa n.acl.length ac))[j]? = some u → W2.cell? ((⟨bl, off + k * 17, none⟩ : Addr).add j) = some u := fun j u hj => by
          have h0 := HC.out j u hj
          exact (hE2.cell (World.block_lt_of_cell? _ _ h0)).trans h0
        have CC := Lib.hid (rclone_new n da aa dc ac W2 HFIT.out (HD.out.ext hE2) (HA.out.ext hE2))
        have HR2 := Lib.hid hr2
        have HE2 := Lib.hid ((HE1.out.trans HE.out).trans hE2)
        have HC2 := Lib.hid hcw2
        unfold ndC at HC2
        clear hE2 hr2 CO HC HD HA hcw2 c0 hcr HRR HE
        go_wp2_with (refine wpList_load_at rfl 44 (.tmp 36) rfl _ rfl _ _ HC2.out Tryz.underlying44 rfl sizeNd ?_)
        refine CC.out.mono ?_
        rintro e W3 ⟨v, rfl, hN, hE3⟩
        have hE3 : Ext W2 W3 := hE3
        have hr3 := (hE3.block w.heap.size (Array.getElem?_eq_some_iff.1 HR2.out).1).trans HR2.out
        obtain ⟨va, vc, vb, vd, rfl, hr4, hN4, hE4⟩ := getOut_store M s true n w W3 _ W2.heap.size (by have := (Array.getElem?_eq_some_iff.1 HR2.out).1; omega) v (HE2.out.trans hE3) hr3 hN
        have hfin : AfterOut M s w (.returned (.tuple #[.agg (ndC n (.slice va n.data.length vc) (.slice vb n.acl.length vd)), .bool true])) _ := ⟨_, by rw [HF2.out]; rfl, by rw [HF2.out]; exact hN4, hE4⟩
        have HR3 := Lib.hid hr3
        have HR4 := Lib.hid hr4
        have HFIN := Lib.hid hfin
        clear hE3 hr3 hr4 hN hN4 hE4 hfin CC HC2 hcr2
        go_wp2_with (refine wpList_store_row rfl 44 (.tmp 4) (.tmp 38) rfl w.heap.size _ rfl rfl 44 _ HR3.out sizeNd rfl (cells_node n va vb _ _ vc vd) ?_)
        refine bodyPost_ret (v := .tuple #[.agg (ndC n (.slice va n.data.length vc) (.slice vb n.acl.length vd)), .bool true]) ?_ rfl HFIN.out
        exact results_cell_row2 (p := 4) (q := 5) (ty := 44) rfl _ _ w.heap.size 44 _ (0, 0) _ _ rfl rfl HR4.out Tryz.underlying44 rfl sizeNd
      · have hf := HF.out.trans (hskip hgt)
        have HF2 := Lib.hid hf
        have e1 : decide (0 < ordL n.path.data.toList s.data.toList) = false := by simpa using hgt
        clear hskip hhit hf HF
        generalize ordL n.path.data.toList s.data.toList = od at *
        go_wp2_with fail
        refine CO.out.mono ?_
        rintro e W2 ⟨rfl, hE2⟩
        have HE2 := Lib.hid (HE.out.trans hE2)
        clear hE2 CO HC HD HA hcr c0
        go_wp2
        go_roundw
        case rel => exact ⟨k + 1, by omega, by go_num, HF2.out, HE2.out⟩
        case measure => simp [intOf]; omega
    · obtain rfl : k = M.length := by omega
      have hnone : afterN M s = none := by have := HF.out; rw [List.drop_length] at this; simpa using this
      have HS0 := Lib.hid (setRow_same wr w.heap.size zeroNd 44 hrr)
      have hfin : AfterOut M s w (.returned (.tuple #[.agg zeroNd, .bool false])) wr := ⟨_, by rw [hnone]; rfl, by rw [hnone]; exact zeroN_nds _ _, HE1.out.trans hE⟩
      have HFIN := Lib.hid hfin
      unfold zeroNd at HS0
      clear hfin hnone hE hrr HF HROWS
      go_wp2_with (refine wpList_store_row rfl 44 (.tmp 4) (.tmp 39) rfl w.heap.size _ rfl rfl 44 _ HRR.out sizeNd rfl zeroNd_one ?_; rw [HS0.out])
      refine bodyPost_ret (v := .tuple #[.agg zeroNd, .bool false]) ?_ rfl HFIN.out
      exact results_cell_row2 (p := 4) (q := 5) (ty := 44) rfl _ _ w.heap.size 44 _ (0, 0) _ _ rfl rfl HRR.out Tryz.underlying44 rfl sizeNd
end Go.Proofs.YthinpbdbhijbgaaGreatDoor
