/- The walk of tree.New. The look whether a node's path is there already: a region that draws its order. A slice of nodes in memory; what From makes of nodes. The walk of tree.From. The walk of Get. A slice of nodes, opened. What the bound on the bulk says of a list of nodes: how long it is. The ranges of a node's numbers, as it is opened. Plain laws: a quota's text, and the quota of a text, as the program has it and as the document has it. No program in sight. The walks of the references' own texts up to Valid: whether a text is a path, as the document has it. The walks of the reference of paths up to Valid. -/
import Derived.Test.YthinpbdbhijbgaaGreatDoorJQuotaTexts3
import Derived.Test.YthinpbdbhijbgaaGreatDoorJQuotaTexts1
import Derived.Test.YthinpbdbhijbgaaGreatDoorRows
import Derived.Lib.ParseIntBTie
import Derived.Lib.ParseIntBCases
import Derived.Lib.IndexMore
import Derived.Lib.ItoaNum
import Derived.Lib.ItoaMem
import Derived.Lib.Strings
namespace Go.Proofs.YthinpbdbhijbgaaGreatDoor
open Go.RowKit
set_option maxHeartbeats 2000000
set_option maxRecDepth 100000

/-- A tree without nodes, as New and From begin it. -/
def emptyW (w : World) : World := ((w.alloc (.map #[] 0)).alloc (.map #[] 0)).alloc (.cells (treeC w.heap.size (w.heap.size + 1)) 123)
theorem emptyW_size (w : World) : (emptyW w).heap.size = w.heap.size + 1 + 1 + 1 := by simp [emptyW]
theorem emptyW_ext (w : World) : Ext w (emptyW w) := ((Ext.alloc w _).trans (Ext.alloc _ _)).trans (Ext.alloc _ _)
theorem tree_empty (w : World) : TreeAt (fun k => w.heap.size ≤ k ∧ k < (emptyW w).heap.size) (emptyW w) (w.heap.size + 1 + 1) [] 0 := by
  have hz := emptyW_size w
  have h1 : SMap Tryz.prog 9 (emptyW w) w.heap.size [] := (SMap.made Tryz.prog 9 w).keep (by
    show (((w.alloc (.map #[] 0)).alloc (.map #[] 0)).alloc _).heap[w.heap.size]? = _
    rw [Below.heap_alloc _ _ _ (by simp; omega), Below.heap_alloc _ _ _ (by simp)])
  have h2 : SMap Tryz.prog 9 (emptyW w) (w.heap.size + 1) [] := by
    have h := SMap.made Tryz.prog 9 (w.alloc (.map #[] 0))
    rw [World.size_alloc] at h
    refine h.keep ?_
    show (((w.alloc (.map #[] 0)).alloc (.map #[] 0)).alloc _).heap[w.heap.size + 1]? = _
    rw [Below.heap_alloc _ _ _ (by simp)]
  refine ⟨w.heap.size, w.heap.size + 1, [], ⟨?_, ⟨by omega, by omega⟩, ⟨by omega, by omega⟩, ⟨by omega, by omega⟩, by omega, fun k hk => hk.2⟩, ⟨⟨[], h1, .nil⟩, MOk.nil, Nat.le_refl _⟩, ⟨h2, Nat.le_refl _, fun x hx => by simp at hx, List.Pairwise.nil, fun p _ => rfl⟩⟩
  have h := heap_alloc_new ((w.alloc (.map #[] 0)).alloc (.map #[] 0)) (.cells (treeC w.heap.size (w.heap.size + 1)) 123)
  simp only [World.size_alloc] at h
  exact h

def rootAc : Ac := ⟨31, ⟨#[119, 111, 114, 108, 100]⟩, ⟨#[97, 110, 121, 111, 110, 101]⟩⟩
def rootN : Nd := newN rootP [] [rootAc] 0 0 0
theorem rootN_right : rightN rootN = 0 := by decide +kernel

end Go.Proofs.YthinpbdbhijbgaaGreatDoor
namespace Go.Proofs.YthinpbdbhijbgaaGreatDoor
open Go.RowKit
set_option maxHeartbeats 2000000
set_option maxRecDepth 100000

def zeroNd : Array Value := #[.string ⟨#[]⟩, .slice none 0 0, .slice none 0 0, .int .i64 0, .int .i64 0, .int .i64 0, .int .i64 0, .int .i64 0, .int .i64 0, .int .i64 0, .int .i64 0, .int .i32 0, .int .i32 0, .int .i32 0, .bool false, .int .i64 0, .int .i64 0]

/-- Below a block number nothing has turned; rows keep their size. -/
structure Shp (B : Nat) (w w' : World) : Prop where
  below : Below B w w'
  rows : ∀ (g : Nat) (cs : Array Value) (t : TypeId), w.heap[g]? = some (.cells cs t (0, 0)) → ∃ cs' : Array Value, w'.heap[g]? = some (.cells cs' t (0, 0)) ∧ cs'.size = cs.size
theorem Shp.refl (B : Nat) (w : World) : Shp B w w := ⟨Below.refl _ _, fun _ cs _ h => ⟨cs, h, rfl⟩⟩
theorem Shp.trans {B : Nat} {a b c : World} (h : Shp B a b) (k : Shp B b c) : Shp B a c := ⟨h.below.trans k.below, fun g cs t hg => by
  obtain ⟨c1, h1, h2⟩ := h.rows g cs t hg
  obtain ⟨c2, h3, h4⟩ := k.rows g c1 t h1
  exact ⟨c2, h3, h4.trans h2⟩⟩
theorem Shp.of_ext {B : Nat} {a b : World} (h : Ext a b) (hB : B ≤ a.heap.size) : Shp B a b := ⟨Below.mono h hB, fun g cs t hg => ⟨cs, (h.block g (Array.getElem?_eq_some_iff.1 hg).1).trans hg, rfl⟩⟩

def PhiT (n0 bt bn g : Nat) (s : ByteArray) (x : Value) (bb : Bool) : Nat → Value → World → Prop
  | 0, v, _ => v = .pointer (some ⟨bt, 0, none⟩)
  | 1, v, _ => v = .pointer (some ⟨bt, 0, none⟩)
  | 2, v, _ => v = .pointer (some ⟨bt, 0, none⟩)
  | 3, v, _ => v = .map (some bn)
  | 4, v, _ => v = .pointer (some ⟨g, 0, none⟩)
  | 5, v, _ => v = .string s
  | 6, v, _ => v = .tuple #[x, .bool bb]
  | 7, v, _ => v = .tuple #[x, .bool bb]
  | 8, v, _ => v = x
  | 9, v, _ => v = .bool bb
  | 10, v, w => ∃ (g : Nat) (cs : Array Value), v = .pointer (some ⟨g, 0, none⟩) ∧ n0 ≤ g ∧ w.heap[g]? = some (.cells cs 44 (0, 0)) ∧ cs.size = 17
  | 12, v, _ => v = .bool bb
  | _, _, _ => True
theorem PhiT.stab (B n0 bt bn g : Nat) (s : ByteArray) (x : Value) (bb : Bool) (i : Nat) (v : Value) (w w' : World) (h : PhiT n0 bt bn g s x bb i v w) (he : Shp B w w') : PhiT n0 bt bn g s x bb i v w' := by
  unfold PhiT at h ⊢
  split at h <;> first | exact h | (obtain ⟨g, cs, h1, h2, h3, h4⟩ := h; obtain ⟨c', k1, k2⟩ := he.rows g cs _ h3; exact ⟨g, c', h1, h2, k1, k2.trans h4⟩)

theorem there_region {id : Nat} {Q : Exit → Act → World → Prop} {a0 : Act} {w0 : World} (s0 s1 s2 s3 s4 s5 s6 s7 s8 s9 s10 s11 tt bx : Tmp) (pos : String) (m : Nat)
    (hsz : a0.tmps.size = m) (hnd : decide ([s0, s1, s2, s3, s4, s5, s6, s7, s8, s9, s10, s11].Nodup) = true) (hlt : ([s0, s1, s2, s3, s4, s5, s6, s7, s8, s9, s10, s11].all fun s => decide (s < m)) = true)
    (hnt : ([s0, s1, s2, s3, s4, s5, s6, s7, s8, s9, s10, s11].all fun s => s != tt && s != bx) = true)
    {S : Nat → Prop} {bt bn bk : Nat} {M : List (Key × Nd)} {N : Nat} (hd : Hd S w0 bt bn bk) (hNd : NodesAt S w0 bn M N) (g : Nat) (s : ByteArray) (cs : Array Value) (hbox : w0.heap[g]? = some (.cells cs 44 (0, 0))) (hcs : cs[0]? = some (.string s)) (hps : s.size ≤ maxLen)
    (htt : a0.tmps.getD tt undef = .pointer (some ⟨bt, 0, none⟩)) (hbx : a0.tmps.getD bx undef = .pointer (some ⟨g, 0, none⟩))
    (hend : ∀ u0 u1 u2 u3 u4 u5 u6 u7 u8 u9 u10 w, Ext w0 w → Q .normal (((((((((((((a0.put (some s0) u0).put (some s1) u1).put (some s2) u2).put (some s3) u3).put (some s4) u4).put (some s5) u5).put (some s6) u6).put (some s7) u7).put (some s8) u8).put (some s9) u9).put (some s10) u10).put (some s11) (.bool (mget M s.data.toList).isSome))) w) :
    (Code.region id #[{ dst := some s0, op := Op.move (Operand.tmp tt), type := 37, pos := pos, after := #[], guard := none }, { dst := some s1, op := Op.nilCheck (Operand.tmp s0), type := 0, pos := pos, after := #[{ on := 0, ground := Ground.data }], guard := none }, { dst := some s2, op := Op.fieldAddr 123 (Operand.tmp s1) 0, type := 0, pos := pos, after := #[{ on := 1, ground := Ground.data }], guard := none }, { dst := some s3, op := Op.load 120 (Operand.tmp s2), type := 120, pos := pos, after := #[{ on := 2, ground := Ground.data }], guard := none }, { dst := some s4, op := Op.fieldAddr 44 (Operand.tmp bx) 0, type := 0, pos := pos, after := #[], guard := none }, { dst := some s5, op := Op.load 9 (Operand.tmp s4), type := 9, pos := pos, after := #[{ on := 4, ground := Ground.data }], guard := none }, { dst := some s6, op := Op.lookup 120 (Operand.tmp s3) (Operand.tmp s5) true, type := 99, pos := pos, after := #[{ on := 3, ground := Ground.data }, { on := 5, ground := Ground.data }], guard := none }, { dst := some s7, op := Op.move (Operand.tmp s6), type := 99, pos := pos, after := #[{ on := 6, ground := Ground.data }], guard := none }, { dst := some s8, op := Op.extract (Operand.tmp s7) 0, type := 44, pos := pos, after := #[{ on := 7, ground := Ground.data }], guard := none }, { dst := some s9, op := Op.extract (Operand.tmp s7) 1, type := 4, pos := pos, after := #[{ on := 7, ground := Ground.data }, { on := 11, ground := Ground.gcOnly Departure.lateStores }], guard := none }, { dst := some s10, op := Op.alloc 44, type := 0, pos := pos, after := #[], guard := none }, { dst := none, op := Op.store 44 (Operand.tmp s10) (Operand.tmp s8), type := 0, pos := pos, after := #[{ on := 10, ground := Ground.data }, { on := 8, ground := Ground.data }, { on := 0, ground := Ground.phase }, { on := 1, ground := Ground.phase }, { on := 2, ground := Ground.phase }, { on := 3, ground := Ground.phase }, { on := 4, ground := Ground.phase }, { on := 5, ground := Ground.phase }, { on := 6, ground := Ground.phase }, { on := 7, ground := Ground.phase }, { on := 8, ground := Ground.phase }, { on := 9, ground := Ground.textOnly Departure.lateStores }, { on := 10, ground := Ground.phase }], guard := none }, { dst := some s11, op := Op.assign (Operand.tmp s9), type := 4, pos := pos, after := #[{ on := 9, ground := Ground.data }, { on := 11, ground := Ground.chain }, { on := 0, ground := Ground.phase }, { on := 1, ground := Ground.phase }, { on := 2, ground := Ground.phase }, { on := 3, ground := Ground.phase }, { on := 4, ground := Ground.phase }, { on := 5, ground := Ground.phase }, { on := 6, ground := Ground.phase }, { on := 7, ground := Ground.phase }, { on := 8, ground := Ground.phase }, { on := 9, ground := Ground.phase }, { on := 10, ground := Ground.phase }, { on := 11, ground := Ground.phase }], guard := none }] true).wp Tryz.prog Q a0 w0 := by
  obtain ⟨mm, hm, hr⟩ := hNd.ex
  have hx : ∃ (da : Option Addr) (dc : Nat × Nat) (aa : Option Addr) (ac : Nat × Nat) (nn : Nd), (mget mm s.data.toList).getD (.agg zeroNd) = .agg (ndC nn (.slice da dc.1 dc.2) (.slice aa ac.1 ac.2)) := by
    rcases hr.get s.data.toList with ⟨_, h2⟩ | ⟨y, v, _, h2, h3⟩
    · rw [h2]; exact ⟨none, (0, 0), none, (0, 0), ⟨⟨#[]⟩, [], [], 0, 0, 0, 0, 0, 0, 0, 0, 0, 0, 0, false, 0, 0⟩, rfl⟩
    · obtain ⟨da, dc, aa, ac, rfl, _⟩ := h3
      rw [h2]; exact ⟨da, (_, dc), aa, (_, ac), y, rfl⟩
  have hbb : (mget mm s.data.toList).isSome = (mget M s.data.toList).isSome := by
    rcases hr.get s.data.toList with ⟨h1, h2⟩ | ⟨y, v, h1, h2, _⟩
    · rw [h1, h2]; rfl
    · rw [h1, h2]; rfl
  obtain ⟨da, dc, aa, ac, nn, hx⟩ := hx
  have hbtl := hd.bound _ hd.st
  have hgl : g < w0.heap.size := (Array.getElem?_eq_some_iff.1 hbox).1
  simp only [List.all_cons, List.all_nil, Bool.and_eq_true, bne_iff_ne, ne_eq, Bool.and_true, decide_eq_true_eq] at hnt hlt
  have nt : ∀ (ops : Array Oper) (t : Tmp), ops.toList.map (·.dst) = [some s0, some s1, some s2, some s3, some s4, some s5, some s6, some s7, some s8, some s9, some s10, none, some s11] → (¬ s0 = t ∧ ¬ s1 = t ∧ ¬ s2 = t ∧ ¬ s3 = t ∧ ¬ s4 = t ∧ ¬ s5 = t ∧ ¬ s6 = t ∧ ¬ s7 = t ∧ ¬ s8 = t ∧ ¬ s9 = t ∧ ¬ s10 = t ∧ ¬ s11 = t) → (ops.toList.all fun o => o.dst != some t) = true := fun ops t h hn => by
    have e : (ops.toList.all fun o => o.dst != some t) = (ops.toList.map (·.dst)).all fun d => d != some t := by rw [List.all_map]; rfl
    rw [e, h]
    simp [hn]
  refine wp_region_rel_e m (Shp w0.heap.size) (Shp.refl _) (fun _ _ _ => Shp.trans) (fun w => ⟨(Below.refl _ w).drew, fun _ cs _ h => ⟨cs, h, rfl⟩⟩) (by kernel_rfl) (PhiT w0.heap.size bt bn g s ((mget mm s.data.toList).getD (.agg zeroNd)) (mget M s.data.toList).isSome) (PhiT.stab _ _ _ _ _ _ _ _) ?hund ?hchk hsz ?hd ?hend
  case hund =>
    intro i v w h ho
    by_cases h11 : i = 11
    · subst h11; exact trivial
    · match i, h11, ho with
      | 0, _, ho | 1, _, ho | 2, _, ho | 3, _, ho | 4, _, ho | 5, _, ho | 6, _, ho | 7, _, ho | 8, _, ho | 9, _, ho | 10, _, ho | 12, _, ho => simp at ho
      | i + 13, _, ho => simp at ho
  case hchk =>
    simp only [Bool.and_eq_true]
    refine ⟨⟨hnd, ?_⟩, ?_⟩
    · rfl
    · simp [hlt]
  case hend =>
    intro us w hS hl hP
    obtain ⟨u0, u1, u2, u3, u4, u5, u6, u7, u8, u9, u10, u11, u12, rfl⟩ := us13 us hl
    have e12 : u12 = .bool (mget M s.data.toList).isSome := hP 12 _ rfl
    rw [e12]
    have h := hend u0 u1 u2 u3 u4 u5 u6 u7 u8 u9 u10 w hS.below
    simp only [filled, List.zip_cons_cons, List.zip_nil_right, List.foldl_cons, List.foldl_nil, put_none]
    exact h
  case hd =>
    refine ⟨?_, ?_, ?_, ?_, ?_, ?_, ?_, ?_, ?_, ?_, ?_, ?_, ?_, trivial⟩
    · exact dutyR_free rfl fun a w' hE hF hA => wp_value (w' := w') (ex_move rfl) ⟨_, rfl, hF.slot tt _ (nt _ tt rfl (by simp [hnt])) htt, Shp.refl _ _⟩
    · refine dutyR_free rfl fun a w' hE hF hA => ?_
      have x1 : a.eval (.tmp s0) = _ := hA.slot 0 s0 rfl rfl ⟨⟨0, .data⟩, by simp, rfl, rfl⟩
      exact wp_value (ex_nilCheck rfl _ x1) ⟨_, rfl, rfl, Shp.refl _ _⟩
    · refine dutyR_free rfl fun a w' hE hF hA => ?_
      have x1 : a.eval (.tmp s1) = _ := hA.slot 1 s1 rfl rfl ⟨⟨1, .data⟩, by simp, rfl, rfl⟩
      exact wp_value (v := .pointer (some ⟨bt, 0, none⟩)) (w' := w') (by simp only [execOp, x1]; simp [go_sem]) ⟨_, rfl, rfl, Shp.refl _ _⟩
    · refine dutyR_free rfl fun a w' hE hF hA => ?_
      have x1 : a.eval (.tmp s2) = _ := hA.slot 2 s2 rfl rfl ⟨⟨2, .data⟩, by simp, rfl, rfl⟩
      refine wp_value (ex_cell rfl _ (.map (some bn)) x1 ?_ rfl Tryz.underlying120) ⟨_, rfl, rfl, Shp.refl _ _⟩
      exact cell_of_row w' bt 0 _ _ _ ((hE.below.block bt hbtl).trans hd.blk)
    · refine dutyR_free rfl fun a w' hE hF hA => ?_
      have x1 : a.eval (.tmp bx) = _ := hF.slot bx _ (nt _ bx rfl (by simp [hnt])) hbx
      exact wp_value (v := .pointer (some ⟨g, 0, none⟩)) (w' := w') (by simp only [execOp, x1]; simp [go_sem]) ⟨_, rfl, rfl, Shp.refl _ _⟩
    · refine dutyR_free rfl fun a w' hE hF hA => ?_
      have x1 : a.eval (.tmp s4) = _ := hA.slot 4 s4 rfl rfl ⟨⟨4, .data⟩, by simp, rfl, rfl⟩
      refine wp_value (ex_cell rfl _ (.string s) x1 ?_ rfl Tryz.underlying9) ⟨_, rfl, rfl, Shp.refl _ _⟩
      rw [cell_of_row w' g 0 _ _ _ ((hE.below.block g hgl).trans hbox)]
      exact hcs
    · refine dutyR_free rfl fun a w' hE hF hA => ?_
      have x1 : a.eval (.tmp s3) = _ := hA.slot 3 s3 rfl rfl ⟨⟨3, .data⟩, by simp, rfl, rfl⟩
      have x2 : a.eval (.tmp s5) = _ := hA.slot 5 s5 rfl rfl ⟨⟨5, .data⟩, by simp, rfl, rfl⟩
      have hq := SMap.look_ok (e := 44) (hm.keep (hE.below.block bn (hd.bound _ hd.sn))) strT Tryz.underlying120 (z := .agg zeroNd) (by kernel_rfl) hps
      rw [hbb] at hq
      exact wp_value (w' := w') (by simp only [execOp, x1, x2, hq, Sem.run_bind, Result.andThen_ok, Sem.run_pure]) ⟨_, rfl, rfl, Shp.refl _ _⟩
    · refine dutyR_free rfl fun a w' hE hF hA => ?_
      exact wp_value (w' := w') (ex_move rfl) ⟨_, rfl, hA.slot 6 s6 rfl rfl ⟨⟨6, .data⟩, by simp, rfl, rfl⟩, Shp.refl _ _⟩
    · refine dutyR_free rfl fun a w' hE hF hA => ?_
      have x1 : a.eval (.tmp s7) = _ := hA.slot 7 s7 rfl rfl ⟨⟨7, .data⟩, by simp, rfl, rfl⟩
      exact wp_value (v := (mget mm s.data.toList).getD (.agg zeroNd)) (w' := w') (by simp only [execOp, x1]; simp [go_sem]) ⟨_, rfl, rfl, Shp.refl _ _⟩
    · refine dutyR_free rfl fun a w' hE hF hA => ?_
      have x1 : a.eval (.tmp s7) = _ := hA.slot 7 s7 rfl rfl ⟨⟨7, .data⟩, by simp, rfl, rfl⟩
      exact wp_value (v := .bool (mget M s.data.toList).isSome) (w' := w') (by simp only [execOp, x1]; simp [go_sem]) ⟨_, rfl, rfl, Shp.refl _ _⟩
    · refine dutyR_free rfl fun a w' hE hF hA => ?_
      exact wp_value (w' := w'.alloc (.cells zeroNd 44)) (v := .pointer (some ⟨w'.heap.size, 0, none⟩)) (by kernel_rfl) ⟨_, rfl, ⟨_, _, rfl, hE.below.size, heap_alloc_new w' _, rfl⟩, Shp.of_ext (Ext.alloc _ _) hE.below.size⟩
    · refine dutyR_free rfl fun a w' hE hF hA => ?_
      obtain ⟨g', c', x1, hg0, hg', hc'⟩ := hA.slot 10 s10 rfl rfl ⟨⟨10, .data⟩, by simp, rfl, rfl⟩
      have x2 : a.eval (.tmp s8) = _ := hA.slot 8 s8 rfl rfl ⟨⟨8, .data⟩, by simp, rfl, rfl⟩
      rw [hx] at x2
      refine wp_store_row 44 (.tmp s10) (.tmp s8) rfl g' _ x1 x2 44 c' hg' sizeNd hc' (cells_node nn da aa _ _ _ _) ⟨_, rfl, trivial, ⟨⟨rfl, rfl, rfl, by simp, fun k hk => setRow_other _ _ _ _ (by omega)⟩, fun k cs t hk => ?_⟩⟩
      by_cases e : k = g'
      · subst e
        rw [hg'] at hk
        cases hk
        exact ⟨_, setRow_heap _ _ _ _ _ _ hg', hc'.symm⟩
      · exact ⟨cs, (setRow_other _ _ _ _ e).trans hk, rfl⟩
    · refine dutyR_free rfl fun a w' hE hF hA => ?_
      exact wp_value (w' := w') (ex_assign rfl) ⟨_, rfl, hA.slot 9 s9 rfl rfl ⟨⟨9, .data⟩, by simp, rfl, rfl⟩, Shp.refl _ _⟩
end Go.Proofs.YthinpbdbhijbgaaGreatDoor
namespace Go.Proofs.YthinpbdbhijbgaaGreatDoor
open Go.RowKit

/-- A slice of nodes: each node's seventeen cells in a row, its two slices' cells below a block number. -/
def NdsAt (B : Nat) (w : World) (a : Option Addr) (L : List Nd) : Prop :=
  ∀ i n, L[i]? = some n → ∃ b off v, a = some ⟨b, off, none⟩ ∧ b < B ∧ NdV B w v n ∧ ∀ j u, v.cells[j]? = some u → w.cell? ⟨b, off + i * 17 + j, none⟩ = some u

theorem NdV.below {B : Nat} {w w' : World} {v : Value} {n : Nd} (h : NdV B w v n) (hb : Below B w w') : NdV B w' v n := by
  obtain ⟨da, dc, aa, ac, rfl, h1, h2⟩ := h
  exact ⟨da, dc, aa, ac, rfl, h1.below hb, h2.below hb⟩
theorem NdV.mono {B B' : Nat} {w : World} {v : Value} {n : Nd} (h : NdV B w v n) (hb : B ≤ B') : NdV B' w v n := by
  obtain ⟨da, dc, aa, ac, rfl, h1, h2⟩ := h
  exact ⟨da, dc, aa, ac, rfl, h1.mono hb, h2.mono hb⟩
theorem NdsAt.below {B : Nat} {w w' : World} {a : Option Addr} {L : List Nd} (h : NdsAt B w a L) (hb : Below B w w') : NdsAt B w' a L := fun i n hi => by
  obtain ⟨b, off, v, h1, h2, h3, h4⟩ := h i n hi
  exact ⟨b, off, v, h1, h2, h3.below hb, fun j u hj => (hb.cell (p := ⟨b, off + i * 17 + j, none⟩) h2).trans (h4 j u hj)⟩

theorem addr_add (b o j : Nat) : (⟨b, o, none⟩ : Addr).add j = ⟨b, o + j, none⟩ := by unfold Addr.add; split <;> simp_all

/-- A struct is read out of the middle of a block. -/
theorem run_loadVar_at {P : Program} (w : World) (p : Addr) (ty : TypeId) (cs : Array Value) (d : TypeDesc) (hc : ∀ j u, cs[j]? = some u → w.cell? (p.add j) = some u) (hu : P.underlying ty = some d) (hd : oneD d = false) (hi : (P.info? ty).map (·.size) = some cs.size) :
    (loadVar ty p).run P w = .ok (.agg cs) w := by
  have hl : (loadCells p cs.toList.length).run P w = .ok cs.toList.toArray w := run_loadCells_list (P := P) w p cs.toList (fun j v hv => hc j v (by simpa using hv))
  cases hq : P.info? ty with
  | none => simp [hq] at hi
  | some i =>
    have hs : i.size = cs.size := by simpa [hq] using hi
    have hsz : (sizeOf ty).run P w = .ok i.size w := by simp [sizeOf, typeInfo, hq]
    simp only [loadVar, isAgg, Sem.run_bind, run_underlying hu, Result.andThen_ok]
    have he : cs.toList.length = cs.size := Array.length_toList
    rw [he] at hl
    cases d <;> first | (simp [oneD] at hd; done) | (simp [Sem.run, hsz, hs, hl, Result.andThen])

theorem wpList_load_at {P : Program} {w : World} {ops : Array Oper} {rest : List Oper} {o : Oper} {a : Act} {Q : Exit → Act → World → Prop} (hg : o.guard = none) (ty : TypeId) (x : Operand) (ho : o.op = .load ty x) (p : Addr) (hx : a.eval x = .pointer (some p))
    (cs : Array Value) (d : TypeDesc) (hc : ∀ j u, cs[j]? = some u → w.cell? (p.add j) = some u) (hu : P.underlying ty = some d) (hd : oneD d = false) (hi : (P.info? ty).map (·.size) = some cs.size)
    (hK : wpList P ops Q rest (a.put o.dst (.agg cs)) w) : wpList P ops Q (o :: rest) a w :=
  wpList_plain hg fun K hK' => by
    unfold Oper.wp execOp
    simp only [ho, hx, Instr.loadAt, Instr.sureAddr, Sem.run_bind, Sem.run_pure, Result.andThen_ok, run_loadVar_at w p ty cs d hc hu hd hi]
    exact hK' _ _ hK

/-- What From makes of nodes: the tree, or the place and the number of what is wrong. -/
def fromL : List Nd → Nat → List (Key × Nd) → Except (Nat × Int) (List (Key × Nd))
  | [], _, M => .ok M
  | n :: l, i, M => if rightN n ≠ 0 then .error (i, rightN n) else if (mget M (keyN n)).isSome = true then .error (i, 71) else fromL l (i + 1) (mput M (keyN n) n)
def parL (M : List (Key × Nd)) : List Nd → Nat → Except (Nat × Int) Unit
  | [], _ => .ok ()
  | n :: l, i => if n.path.size ≠ 1 ∧ mget M (parentB n.path).data.toList = none then .error (i, 73) else parL M l (i + 1)
def fromN (L : List Nd) : Except (Nat × Int) (List (Key × Nd)) :=
  match fromL L 0 [] with
  | .error e => .error e
  | .ok M => if mget M [47] = none then .error (0, 70) else match parL M L 0 with
    | .error e => .error e
    | .ok _ => .ok M

theorem fromL_step (L : List Nd) (k : Nat) (n : Nd) (M : List (Key × Nd)) (h : L[k]? = some n) : fromL (L.drop k) k M = if rightN n ≠ 0 then .error (k, rightN n) else if (mget M (keyN n)).isSome = true then .error (k, 71) else fromL (L.drop (k + 1)) (k + 1) (mput M (keyN n) n) := by
  obtain ⟨hk, e⟩ := List.getElem?_eq_some_iff.1 h
  rw [List.drop_eq_getElem_cons hk, e]; rfl
theorem parL_step (M : List (Key × Nd)) (L : List Nd) (k : Nat) (n : Nd) (h : L[k]? = some n) : parL M (L.drop k) k = if n.path.size ≠ 1 ∧ mget M (parentB n.path).data.toList = none then .error (k, 73) else parL M (L.drop (k + 1)) (k + 1) := by
  obtain ⟨hk, e⟩ := List.getElem?_eq_some_iff.1 h
  rw [List.drop_eq_getElem_cons hk, e]; rfl
theorem fromL_right : ∀ (l : List Nd) (i : Nat) (M0 M : List (Key × Nd)), fromL l i M0 = .ok M → ∀ n ∈ l, rightN n = 0
  | [], _, _, _, _, n, hn => by simp at hn
  | x :: l, i, M0, M, h, n, hn => by
    unfold fromL at h
    split at h
    · cases h
    · rename_i hx
      split at h
      · cases h
      · rcases List.mem_cons.1 hn with rfl | hn
        · simpa using hx
        · exact fromL_right l _ _ _ h n hn

/-- What a look into the map of nodes gives. -/
theorem NodesAt.look {S : Nat → Prop} {w : World} {bn : Nat} {M : List (Key × Nd)} {N : Nat} (h : NodesAt S w bn M N) (s : ByteArray) (hs : s.size ≤ maxLen) :
    ∃ cs, (cs.size = 17 ∧ cs.all (·.oneCell') = true) ∧ (Instr.lookup 120 (.map (some bn)) (.string s) true).run Tryz.prog w = .ok (.tuple #[.agg cs, .bool (mget M s.data.toList).isSome]) w ∧
      (Instr.lookup 120 (.map (some bn)) (.string s) false).run Tryz.prog w = .ok (.agg cs) w ∧
      ∀ n, mget M s.data.toList = some n → NdS S w (.agg cs) n := by
  obtain ⟨mm, hm, hr⟩ := h.ex
  have q1 := SMap.look_ok (e := 44) hm strT Tryz.underlying120 (z := .agg zeroNd) (by kernel_rfl) hs
  have q2 := SMap.look (e := 44) hm strT Tryz.underlying120 (z := .agg zeroNd) (by kernel_rfl) hs
  rcases hr.get s.data.toList with ⟨h1, h2⟩ | ⟨y, v, h1, h2, h3⟩
  · rw [h2] at q1 q2
    exact ⟨zeroNd, ⟨rfl, by simp [zeroNd, Value.oneCell']⟩, by rw [h1]; exact q1, q2, fun n hn => by rw [h1] at hn; cases hn⟩
  · obtain ⟨da, dc, aa, ac, rfl, h4⟩ := h3
    rw [h2] at q1 q2
    exact ⟨_, ⟨rfl, cells_node _ _ _ _ _ _ _⟩, by rw [h1]; exact q1, q2, fun n hn => by rw [h1] at hn; cases hn; exact ⟨da, dc, aa, ac, rfl, h4⟩⟩
end Go.Proofs.YthinpbdbhijbgaaGreatDoor
namespace Go.Proofs.YthinpbdbhijbgaaGreatDoor
open Go.RowKit
set_option maxHeartbeats 2000000
set_option maxRecDepth 100000

theorem world_ext {u v : World} (h1 : u.heap = v.heap) (h2 : u.tape = v.tape) (h3 : u.drawn = v.drawn) (h4 : u.os = v.os) (h5 : u.output = v.output) : u = v := by
  cases u; cases v; simp_all
theorem setRow_alloc (w : World) (z cs : Array Value) (t : TypeId) : (w.alloc (.cells z t)).setRow w.heap.size cs = w.alloc (.cells cs t) := by
  refine world_ext ?_ rfl rfl rfl rfl
  apply Array.ext_getElem?
  intro i
  by_cases h : i = w.heap.size
  · subst h
    rw [setRow_heap _ _ _ _ _ _ (heap_alloc_new w (.cells z t)), heap_alloc_new]
  · rw [setRow_other _ _ _ _ h]
    show (w.heap.push _)[i]? = (w.heap.push _)[i]?
    rw [Array.getElem?_push, Array.getElem?_push, if_neg h, if_neg h]

def FromOut (L : List Nd) (w : World) (e : Ending) (w' : World) : Prop :=
  match fromN L with
  | .error (i, x) => e = .returned (.tuple #[.pointer none, .int .i64 i, .int .i64 x]) ∧ Ext w w'
  | .ok M => ∃ b, e = .returned (.tuple #[.pointer (some ⟨b, 0, none⟩), .int .i64 0, .int .i64 0]) ∧ TreeAt (fun k => w.heap.size ≤ k ∧ k < w'.heap.size) w' b M L.length ∧ Ext w w'

theorem fromOut_err {L : List Nd} {w w' : World} {i : Nat} {x : Int} (h : fromN L = .error (i, x)) (hb : Ext w w') : FromOut L w (.returned (.tuple #[.pointer none, .int .i64 i, .int .i64 x])) w' := by
  unfold FromOut; rw [h]; exact ⟨rfl, hb⟩

theorem from_any (L : List Nd) (a : Option Addr) (c : Nat) (w : World) (hT0 : Tabs w) (hL : NdsAt w.heap.size w a L) (hf : ∀ n ∈ L, Fit n) (hl : L.length ≤ 140737488355328) : Calls Tryz.prog 51 #[.slice a L.length c] w (FromOut L w) := by
  have hz := emptyW_size w
  have hE := emptyW_ext w
  have hTr := tree_empty w
  have hmm := @run_makeMap Tryz.prog
  obtain ⟨W1, hW1⟩ : ∃ W1, W1 = emptyW w := ⟨_, rfl⟩
  rw [← hW1] at hz hE hTr
  have HW1 := Lib.hid hW1
  unfold emptyW treeC at HW1
  have hl2 : L.length ≤ 9223372036854775807 := by omega
  clear hW1
  go_enter Tryz.func51, Tryz.ntmps51
  go_wp2
  rw [← HW1.out]
  clear hmm
  go_loopw [25] (fun i wr => ∃ (k : Nat) (M : List (Key × Nd)), k ≤ L.length ∧ i = .int .i64 k ∧ Hid (fromL L 0 [] = fromL (L.drop k) k M) ∧ TreeAt (fun b => w.heap.size ≤ b ∧ b < wr.heap.size) wr (w.heap.size + 1 + 1) M k ∧ Below w.heap.size w wr) (fun i _ => L.length - (intOf i).toNat)
  case atStart => exact ⟨0, [], Nat.zero_le _, rfl, rfl, hTr, hE⟩
  case round =>
    obtain ⟨k, M, hk, rfl, HF, hT, hB⟩ := hrel
    by_cases hlt : k < L.length
    · have hLk : L[k]? = some L[k] := List.getElem?_eq_getElem hlt
      have hfk := hf L[k] (List.getElem_mem hlt)
      have HS := Lib.hid (HF.out.trans (fromL_step L k L[k] M hLk))
      obtain ⟨b, off, v, rfl, hb, hv, hc⟩ := hL k L[k] hLk
      have hLb := hL
      generalize L[k] = n at *
      obtain ⟨da, dc, aa, ac, rfl, hD, hA⟩ := hv
      have hcw : ∀ j u, (ndC n (.slice da n.data.length dc) (.slice aa n.acl.length ac))[j]? = some u → wr.cell? ((⟨b, off + k * 17, none⟩ : Addr).add j) = some u := fun j u hj => by
        rw [addr_add, hB.cell (p := ⟨b, off + k * 17 + j, none⟩) hb]
        exact hc j u hj
      have hDr := (hD.below hB).mono hB.size
      have hAr := (hA.below hB).mono hB.size
      obtain ⟨W2, hW2⟩ : ∃ W2, W2 = wr.alloc (.cells (ndC n (.slice da n.data.length dc) (.slice aa n.acl.length ac)) 44) := ⟨_, rfl⟩
      have he2 : Ext wr W2 := by rw [hW2]; exact Ext.alloc _ _
      have hn2 : W2.heap[wr.heap.size]? = some (.cells (ndC n (.slice da n.data.length dc) (.slice aa n.acl.length ac)) 44 (0, 0)) := by rw [hW2]; exact heap_alloc_new wr _
      have hz2 : W2.heap.size = wr.heap.size + 1 := by rw [hW2]; simp
      have hT2 := hT.ext he2
      have hB2 : Below w.heap.size w W2 := hB.trans (he2.mono hB.size)
      have hu2 : Tabs W2 := hT0.below hB2 hT0.size
      have hD2 := hDr.ext he2
      have hA2 := hAr.ext he2
      have CR := right_any n da aa dc ac W2 hfk hu2 hA2
      have hset := setRow_alloc wr zeroNd (ndC n (.slice da n.data.length dc) (.slice aa n.acl.length ac)) 44
      have HC := Lib.hid hcw
      have HN := Lib.hid hn2
      have HT := Lib.hid hT2
      have HSET := Lib.hid (hset.trans hW2.symm)
      have HNew := Lib.hid (heap_alloc_new wr (.cells zeroNd 44))
      have CR := Lib.hid CR
      have HL := Lib.hid hLb
      unfold ndC at HC HN CR HSET
      unfold zeroNd at HSET HNew
      clear hcw hn2 hT2 hset hW2 hc hL hT hDr hAr hD hA hLb
      go_wp2_with (first | (refine wpList_load_at rfl 44 (.tmp 28) rfl _ rfl _ _ HC.out Tryz.underlying44 rfl sizeNd ?_) | (refine wpList_store_row rfl 44 (.tmp 7) (.tmp 29) rfl wr.heap.size _ rfl rfl 44 _ HNew.out sizeNd rfl (cells_node n da aa _ _ dc ac) ?_; rw [HSET.out]) | (refine wpList_load_row rfl 44 (.tmp 7) rfl wr.heap.size rfl 44 _ (0, 0) _ HN.out Tryz.underlying44 rfl sizeNd ?_))
      refine CR.out.mono ?_
      rintro e w3 ⟨rfl, hb3⟩
      have hE3 : Ext W2 w3 := hb3
      have hB3 : Below w.heap.size w w3 := hB2.trans (hE3.mono hB2.size)
      by_cases hr : rightN n = 0
      · rw [hr]
        have HR := Lib.hid hr
        have hT3 := HT.out.ext hE3
        have hn3 := (hE3.block wr.heap.size (by omega)).trans HN.out
        have hD3 := hD2.ext hE3
        have hA3 := hA2.ext hE3
        obtain ⟨bn, bk, K, hd, hNd, hKd⟩ := hT3
        have hps : n.path.size ≤ maxLen := by
          have := (vpath_facts (right_vpath hr)).2.1
          unfold maxLen; omega
        clear hr CR HC HN HSET HNew hb3 hz2 hD2 hA2 he2 hB2 hu2
        go_wp2
        refine there_region _ _ _ _ _ _ _ _ _ _ _ _ 5 7 _ 91 rfl (by decide) (by decide) (by decide) hd hNd wr.heap.size n.path _ hn3 rfl hps rfl rfl ?_
        intro v0 v1 v2 v3 v4 v5 v6 v7 v8 v9 v10 w4 hE4
        simp only [Act.put]
        go_simp
        rename_i hK
        refine hK _ _ ?_
        have hB4 : Below w.heap.size w w4 := hB3.trans (hE4.mono hB3.size)
        have hT4 : TreeAt (fun b => w.heap.size ≤ b ∧ b < wr.heap.size) w4 (w.heap.size + 1 + 1) M k := TreeAt.ext ⟨bn, bk, K, hd, hNd, hKd⟩ hE4
        have hD4 := hD3.ext hE4
        have hA4 := hA3.ext hE4
        have hn4 := (hE4.block wr.heap.size (Array.getElem?_eq_some_iff.1 hn3).1).trans hn3
        clear hd hNd hKd hn3 hD3 hA3 hB3
        cases hg : mget M n.path.data.toList with
        | some y =>
          have hfin : FromOut L w (.returned (.tuple #[.pointer none, .int .i64 k, .int .i64 71])) w4 := fromOut_err (by
            unfold fromN
            rw [HS.out, if_neg (by rw [HR.out]; simp), if_pos (by unfold keyN; rw [hg]; rfl)]) hB4
          have HFIN := Lib.hid hfin
          clear hfin hT4 hB4 hD4 hA4 hn4 hg HS
          go_wp2
          go_ret3
          exact HFIN.out
        | none =>
          have C3 := lay_any _ w4 _ M k hT4 n da aa dc ac HR.out hg (by omega) hD4 hA4
          have HS2 := Lib.hid (HS.out.trans (by rw [if_neg (by rw [HR.out]; simp), if_neg (by unfold keyN; rw [hg]; simp)]))
          have HN4 := Lib.hid hn4
          have C3 := Lib.hid C3
          unfold ndC at HN4 C3
          have hz4 : wr.heap.size ≤ w4.heap.size := by have := (Array.getElem?_eq_some_iff.1 hn4).1; omega
          clear hT4 hD4 hA4 hn4 hg HS
          go_wp2_with (refine wpList_load_row rfl 44 (.tmp 7) rfl wr.heap.size rfl 44 _ (0, 0) _ HN4.out Tryz.underlying44 rfl sizeNd ?_)
          refine C3.out.mono ?_
          rintro e w5 ⟨rfl, hT5, hM5⟩
          have hz5 := hM5.size
          have hB5 : Below w.heap.size w w5 := hB4.trans (hM5.below (fun b hb => hb.1) (by have := hB4.size; omega))
          have HT5 := Lib.hid hT5
          have hzw := hB.size
          clear C3 HN4 hT5 hM5 hB4
          go_wp2
          go_roundw
          case rel =>
            exact ⟨k + 1, _, by omega, by go_num, HS2.out, HT5.out.keep (fun _ _ => rfl) (fun b hb => ⟨by rcases hb with h | h <;> omega, HT5.out.bound b hb⟩) (fun b hb => hb.2) (Nat.le_refl _), hB5⟩
          case measure => simp [intOf]; omega
      · have hne : (rightN n != 0) = true := by simpa using hr
        have hfin : FromOut L w (.returned (.tuple #[.pointer none, .int .i64 k, .int .i64 (rightN n)])) w3 := fromOut_err (by
          unfold fromN
          rw [HS.out, if_pos hr]) hB3
        have HFIN := Lib.hid hfin
        clear hfin hr HS CR HC HN HSET HNew HT hb3 hE3 hB3 hB2 hD2 hA2 he2 hu2
        go_wp2
        go_ret3
        exact HFIN.out
    · obtain rfl : k = L.length := by omega
      have HF2 : Hid (fromL L 0 [] = .ok M) := by
        have := HF.out
        rw [List.drop_length] at this
        exact this
      obtain ⟨bn, bk, K, hd, hNd, hKd⟩ := hT
      have hT : TreeAt (fun b => w.heap.size ≤ b ∧ b < wr.heap.size) wr (w.heap.size + 1 + 1) M L.length := ⟨bn, bk, K, hd, hNd, hKd⟩
      have hbox : Box wr (w.heap.size + 1 + 1) (treeC bn bk) := fun j => cell_of_row _ _ _ _ _ _ hd.blk
      obtain ⟨cs, ⟨hc17, hc1⟩, hq, _, _⟩ := hNd.look ⟨#[47]⟩ (by unfold maxLen; decide)
      have hsz17 : (Tryz.prog.info? 44).map (·.size) = some cs.size := by rw [hc17]; exact sizeNd
      have hzs : zeroNd.size = cs.size := by rw [hc17]; rfl
      obtain ⟨W2, hW2⟩ : ∃ W2, W2 = wr.alloc (.cells cs 44) := ⟨_, rfl⟩
      have HSET := Lib.hid ((setRow_alloc wr zeroNd cs 44).trans hW2.symm)
      have HNew := Lib.hid (heap_alloc_new wr (.cells zeroNd 44))
      have hE2 : Ext wr W2 := by rw [hW2]; exact Ext.alloc _ _
      have hB2 : Below w.heap.size w W2 := hB.trans (hE2.mono hB.size)
      have hT2 : TreeAt (fun b => w.heap.size ≤ b ∧ b < W2.heap.size) W2 (w.heap.size + 1 + 1) M L.length := (hT.ext hE2).keep (fun _ _ => rfl) (fun b hb => ⟨hb.1, Nat.lt_of_lt_of_le hb.2 hE2.size⟩) (fun b hb => hb.2) (Nat.le_refl _)
      have hhid := Lib.hid hzs
      change Hid (zeroNd.size = cs.size) at hhid
      unfold zeroNd at HSET HNew
      unfold Box treeC at hbox
      have hkl : ((⟨#[47]⟩ : ByteArray)).data.toList = [47] := rfl
      rw [hkl] at hq
      have HC1 := Lib.hid hc1
      have H17 := Lib.hid hsz17
      clear hW2 hd hNd hKd hT hzs hc1 hc17 hsz17 hkl
      cases hg : mget M [47] with
      | none =>
        rw [hg] at hq
        have hq' : (Instr.lookup 120 (.map (some bn)) (.string ⟨#[47]⟩) true).run Tryz.prog wr = .ok (.tuple #[.agg cs, .bool false]) wr := hq
        have hfin : FromOut L w (.returned (.tuple #[.pointer none, .int .i64 0, .int .i64 70])) W2 := fromOut_err (i := 0) (by
          unfold fromN
          rw [HF2.out]
          simp only
          rw [if_pos hg]) hB2
        have HFIN := Lib.hid hfin
        clear hq hfin hg hT2 hE2 hB2
        go_wp2_with (refine wpList_store_row rfl 44 (.tmp 11) (.tmp 58) rfl wr.heap.size _ rfl rfl 44 _ HNew.out H17.out hhid.out HC1.out ?_; rw [HSET.out])
        go_ret3
        exact HFIN.out
      | some y0 =>
        rw [hg] at hq
        have hq' : (Instr.lookup 120 (.map (some bn)) (.string ⟨#[47]⟩) true).run Tryz.prog wr = .ok (.tuple #[.agg cs, .bool true]) wr := hq
        have HG := Lib.hid hg
        have HRt := Lib.hid (fromL_right L 0 [] M HF2.out)
        clear hq hg hE2
        go_wp2_with (refine wpList_store_row rfl 44 (.tmp 11) (.tmp 58) rfl wr.heap.size _ rfl rfl 44 _ HNew.out H17.out hhid.out HC1.out ?_; rw [HSET.out])
        clear hq' HNew HSET hhid H17 HC1 hbox
        generalize wr.heap.size = gx
        go_loopw [64] (fun i wt => ∃ k : Nat, k ≤ L.length ∧ i = .int .i64 k ∧ Hid (parL M L 0 = parL M (L.drop k) k) ∧ TreeAt (fun b => w.heap.size ≤ b ∧ b < wt.heap.size) wt (w.heap.size + 1 + 1) M L.length ∧ Below w.heap.size w wt) (fun i _ => L.length - (intOf i).toNat)
        case atStart => exact ⟨0, Nat.zero_le _, rfl, rfl, hT2, hB2⟩
        case round =>
          obtain ⟨k, hk, rfl, HP, hT3, hB3⟩ := hrel
          by_cases hlt : k < L.length
          · have hLk : L[k]? = some L[k] := List.getElem?_eq_getElem hlt
            have hrk := HRt.out L[k] (List.getElem_mem hlt)
            have HS := Lib.hid (HP.out.trans (parL_step M L k L[k] hLk))
            obtain ⟨b, off, v, rfl, hb, hv, hc⟩ := hL k L[k] hLk
            have HL := Lib.hid hL
            generalize L[k] = n at *
            obtain ⟨da, dc, aa, ac, rfl, hD, hA⟩ := hv
            have hcw : ∀ j u, (ndC n (.slice da n.data.length dc) (.slice aa n.acl.length ac))[j]? = some u → wr.cell? ((⟨b, off + k * 17, none⟩ : Addr).add j) = some u := fun j u hj => by
              rw [addr_add, hB3.cell (p := ⟨b, off + k * 17 + j, none⟩) hb]
              exact hc j u hj
            obtain ⟨W4, hW4⟩ : ∃ W4, W4 = wr.alloc (.cells (ndC n (.slice da n.data.length dc) (.slice aa n.acl.length ac)) 44) := ⟨_, rfl⟩
            have hE4 : Ext wr W4 := by rw [hW4]; exact Ext.alloc _ _
            have hn4 : W4.heap[wr.heap.size]? = some (.cells (ndC n (.slice da n.data.length dc) (.slice aa n.acl.length ac)) 44 (0, 0)) := by rw [hW4]; exact heap_alloc_new wr _
            have hz4 : W4.heap.size = wr.heap.size + 1 := by rw [hW4]; simp
            have hT4 := hT3.ext hE4
            have hB4 : Below w.heap.size w W4 := hB3.trans (hE4.mono hB3.size)
            have hx4 : Box W4 wr.heap.size (ndC n (.slice da n.data.length dc) (.slice aa n.acl.length ac)) := fun j => cell_of_row _ _ _ _ _ _ hn4
            have hvp := right_vpath hrk
            have hvf := vpath_facts hvp
            have CP := parent_any n.path W4 (by omega)
            have HC := Lib.hid hcw
            have HN := Lib.hid hn4
            have HSET := Lib.hid ((setRow_alloc wr zeroNd (ndC n (.slice da n.data.length dc) (.slice aa n.acl.length ac)) 44).trans hW4.symm)
            have HNew := Lib.hid (heap_alloc_new wr (.cells zeroNd 44))
            have HT4 := Lib.hid hT4
            have hwt := hB3.size
            unfold ndC at HC HN HSET
            unfold zeroNd at HSET HNew
            unfold Box ndC at hx4
            clear hcw hn4 hW4 hc hL hD hA hT3 hT4 hB3 hvf
            by_cases hroot : n.path.size = 1
            · rw [show parV n.path = .tuple #[.string ⟨#[]⟩, .int .i64 30] by unfold parV; rw [if_neg (fun h => h.2 hroot)]] at CP
              have HS2 := Lib.hid (HS.out.trans (by rw [if_neg (fun h => h.1 hroot)]))
              have CP := Lib.hid CP
              clear hroot HS hvp hrk
              go_wp2_with (first | (refine wpList_load_at rfl 44 (.tmp 67) rfl _ rfl _ _ HC.out Tryz.underlying44 rfl sizeNd ?_) | (refine wpList_store_row rfl 44 (.tmp 14) (.tmp 68) rfl wr.heap.size _ rfl rfl 44 _ HNew.out sizeNd rfl (cells_node n da aa _ _ dc ac) ?_; rw [HSET.out]))
              refine CP.out.mono ?_
              rintro e w5 ⟨rfl, hb5⟩
              have hE5 : Ext W4 w5 := hb5
              have hz5 := hE5.size
              have hB5 : Below w.heap.size w w5 := hB4.trans (hE5.mono hB4.size)
              have HT5 := Lib.hid (HT4.out.ext hE5)
              clear CP HC HN HSET HNew hx4 hb5 hB4 HT4
              go_wp2
              go_roundw
              case rel => exact ⟨k + 1, by omega, by go_num, HS2.out, HT5.out.keep (fun _ _ => rfl) (fun b hb => ⟨hb.1, HT5.out.bound b hb⟩) (fun b hb => hb.2) (Nat.le_refl _), hB5⟩
              case measure => simp [intOf]; omega
            · rw [show parV n.path = .tuple #[.string (parentB n.path), .int .i64 0] by unfold parV; rw [if_pos ⟨hvp, hroot⟩]] at CP
              have hps : (parentB n.path).size ≤ maxLen := by
                have := (path_split hvp hroot).2.2.1
                have := (vpath_facts hvp).2.1
                unfold maxLen; omega
              have CP := Lib.hid CP
              have HRoot := Lib.hid hroot
              clear hroot hvp hrk
              go_wp2_with (first | (refine wpList_load_at rfl 44 (.tmp 67) rfl _ rfl _ _ HC.out Tryz.underlying44 rfl sizeNd ?_) | (refine wpList_store_row rfl 44 (.tmp 14) (.tmp 68) rfl wr.heap.size _ rfl rfl 44 _ HNew.out sizeNd rfl (cells_node n da aa _ _ dc ac) ?_; rw [HSET.out]))
              refine CP.out.mono ?_
              rintro e w5 ⟨rfl, hb5⟩
              have hE5 : Ext W4 w5 := hb5
              have hz5 := hE5.size
              have hB5 : Below w.heap.size w w5 := hB4.trans (hE5.mono hB4.size)
              have hT5 := HT4.out.ext hE5
              obtain ⟨bn, bk, K, hd, hNd, hKd⟩ := hT5
              have hT5 : TreeAt (fun b => w.heap.size ≤ b ∧ b < wr.heap.size) w5 (w.heap.size + 1 + 1) M L.length := ⟨bn, bk, K, hd, hNd, hKd⟩
              have hbox : Box w5 (w.heap.size + 1 + 1) (treeC bn bk) := fun j => cell_of_row _ _ _ _ _ _ hd.blk
              obtain ⟨cs, ⟨hc17, hc1⟩, hq, _, _⟩ := hNd.look (parentB n.path) hps
              have hsz17 : (Tryz.prog.info? 44).map (·.size) = some cs.size := by rw [hc17]; exact sizeNd
              have hzs : zeroNd.size = cs.size := by rw [hc17]; rfl
              obtain ⟨W6, hW6⟩ : ∃ W6, W6 = w5.alloc (.cells cs 44) := ⟨_, rfl⟩
              have HSET6 := Lib.hid ((setRow_alloc w5 zeroNd cs 44).trans hW6.symm)
              have HNew6 := Lib.hid (heap_alloc_new w5 (.cells zeroNd 44))
              have hE6 : Ext w5 W6 := by rw [hW6]; exact Ext.alloc _ _
              have hz6 := hE6.size
              have hB6 : Below w.heap.size w W6 := hB5.trans (hE6.mono hB5.size)
              have HT6 := Lib.hid (hT5.ext hE6)
              have hhid := Lib.hid hzs
              change Hid (zeroNd.size = cs.size) at hhid
              unfold zeroNd at HSET6 HNew6
              unfold Box treeC at hbox
              have HC1 := Lib.hid hc1
              have H17 := Lib.hid hsz17
              clear hW6 hd hNd hKd hT5 hzs hc1 hc17 hsz17 CP HC HN HSET HNew hx4 hb5 hB4 HT4 hE6 hE5 hB5
              cases hg : mget M (parentB n.path).data.toList with
              | none =>
                rw [hg] at hq
                have hq' : (Instr.lookup 120 (.map (some bn)) (.string (parentB n.path)) true).run Tryz.prog w5 = .ok (.tuple #[.agg cs, .bool false]) w5 := hq
                have hfin : FromOut L w (.returned (.tuple #[.pointer none, .int .i64 k, .int .i64 73])) W6 := fromOut_err (by
                  unfold fromN
                  rw [HF2.out]
                  simp only
                  rw [if_neg (by rw [HG.out]; simp), HS.out, if_pos ⟨HRoot.out, hg⟩]) hB6
                have HFIN := Lib.hid hfin
                clear hq hfin hg hB6 HS HT6
                go_wp2_with (refine wpList_store_row rfl 44 (.tmp 17) (.tmp 84) rfl w5.heap.size _ rfl rfl 44 _ HNew6.out H17.out hhid.out HC1.out ?_; rw [HSET6.out])
                go_ret3
                exact HFIN.out
              | some y1 =>
                rw [hg] at hq
                have hq' : (Instr.lookup 120 (.map (some bn)) (.string (parentB n.path)) true).run Tryz.prog w5 = .ok (.tuple #[.agg cs, .bool true]) w5 := hq
                have HS2 := Lib.hid (HS.out.trans (by rw [if_neg (fun h => by rw [hg] at h; cases h.2)]))
                clear hq hg HS
                go_wp2_with (refine wpList_store_row rfl 44 (.tmp 17) (.tmp 84) rfl w5.heap.size _ rfl rfl 44 _ HNew6.out H17.out hhid.out HC1.out ?_; rw [HSET6.out])
                go_roundw
                case rel => exact ⟨k + 1, by omega, by go_num, HS2.out, HT6.out.keep (fun _ _ => rfl) (fun b hb => ⟨hb.1, HT6.out.bound b hb⟩) (fun b hb => hb.2) (Nat.le_refl _), hB6⟩
                case measure => simp [intOf]; omega
          · obtain rfl : k = L.length := by omega
            have hfin : FromOut L w (.returned (.tuple #[.pointer (some ⟨w.heap.size + 1 + 1, 0, none⟩), .int .i64 0, .int .i64 0])) wr := by
              unfold FromOut fromN
              rw [HF2.out]
              simp only
              rw [if_neg (by rw [HG.out]; simp), HP.out, List.drop_length]
              exact ⟨_, rfl, hT3, hB3⟩
            have HFIN := Lib.hid hfin
            clear hfin hT3 hB3 HP HG HF2
            go_wp2
            go_ret3
            exact HFIN.out
end Go.Proofs.YthinpbdbhijbgaaGreatDoor
namespace Go.Proofs.YthinpbdbhijbgaaGreatDoor
open Go.RowKit
set_option maxHeartbeats 2000000
set_option maxRecDepth 100000

theorem results_cell_row2 {P : Program} {fn : Func} {p q : Tmp} {ty : TypeId} (h : fn.results = #[.cell p ty, .tmp q]) (tmps : Array Value) (w : World) (g : Nat) (t : TypeId) (cs : Array Value) (fr : Nat × Nat) (d : TypeDesc) (v : Value)
    (hp : tmps.getD p undef = .pointer (some ⟨g, 0, none⟩)) (hq : tmps.getD q undef = v) (hg : w.heap[g]? = some (.cells cs t fr))
    (hu : P.underlying ty = some d) (hd : (match d with | .struct _ | .array _ _ => true | _ => false) = true) (hi : (P.info? ty).map (·.size) = some cs.size) :
    (results fn tmps).run P w = .ok (.tuple #[.agg cs, v]) w := by
  have hp' : tmps[p]?.getD undef = .pointer (some ⟨g, 0, none⟩) := by simpa using hp
  have hq' : tmps[q]?.getD undef = v := by simpa using hq
  simp [results, h, hp', hq', asAddr, run_loadVar_row w g t ty cs fr d hg hu hd hi]

theorem TreeAt.box {S : Nat → Prop} {w : World} {bt bn bk : Nat} (hd : Hd S w bt bn bk) : Box w bt (treeC bn bk) := fun j => cell_of_row _ _ _ _ _ _ hd.blk

def zeroN : Nd := ⟨⟨#[]⟩, [], [], 0, 0, 0, 0, 0, 0, 0, 0, 0, 0, 0, false, 0, 0⟩
theorem zeroN_fit : Fit zeroN := ⟨by simp [zeroN, ByteArray.size], by simp [zeroN], by simp [zeroN], fun x hx => by simp [zeroN] at hx⟩
theorem zeroN_nds (S : Nat → Prop) (w : World) : NdS S w (.agg zeroNd) zeroN := ⟨none, 0, none, 0, rfl, fun j u h => by simp [zeroN] at h, fun j u h => by simp [zeroN, acCs] at h⟩

theorem NodesAt.look' {S : Nat → Prop} {w : World} {bn : Nat} {M : List (Key × Nd)} {N : Nat} (h : NodesAt S w bn M N) (s : ByteArray) (hs : s.size ≤ maxLen) :
    ∃ v, NdS S w v ((mget M s.data.toList).getD zeroN) ∧ (Instr.lookup 120 (.map (some bn)) (.string s) true).run Tryz.prog w = .ok (.tuple #[v, .bool (mget M s.data.toList).isSome]) w ∧
      (Instr.lookup 120 (.map (some bn)) (.string s) false).run Tryz.prog w = .ok v w := by
  obtain ⟨mm, hm, hr⟩ := h.ex
  have q1 := SMap.look_ok (e := 44) hm strT Tryz.underlying120 (z := .agg zeroNd) (by kernel_rfl) hs
  have q2 := SMap.look (e := 44) hm strT Tryz.underlying120 (z := .agg zeroNd) (by kernel_rfl) hs
  rcases hr.get s.data.toList with ⟨h1, h2⟩ | ⟨y, v, h1, h2, h3⟩
  · rw [h2] at q1 q2
    rw [h1]
    exact ⟨.agg zeroNd, zeroN_nds S w, q1, q2⟩
  · rw [h2] at q1 q2
    rw [h1]
    exact ⟨v, h3, q1, q2⟩

theorem MOk.fit {M : List (Key × Nd)} (h : MOk M) (k : Key) : Fit ((mget M k).getD zeroN) := by
  cases hg : mget M k with
  | none => exact zeroN_fit
  | some n => exact (right_fit (h.at hg).2).1

def GetOut (M : List (Key × Nd)) (s : ByteArray) (w : World) (e : Ending) (w' : World) : Prop :=
  ∃ v, e = .returned (.tuple #[v, .bool (mget M s.data.toList).isSome]) ∧ NdS (fun b => w.heap.size ≤ b ∧ b < w'.heap.size) w' v ((mget M s.data.toList).getD zeroN) ∧ Ext w w'

theorem tget_any (S : Nat → Prop) (w : World) (bt : Nat) (M : List (Key × Nd)) (N : Nat) (hT : TreeAt S w bt M N) (s : ByteArray) (hs : s.size ≤ maxLen) : Calls Tryz.prog 54 #[.pointer (some ⟨bt, 0, none⟩), .string s] w (GetOut M s w) := by
  obtain ⟨W1, hW1⟩ : ∃ W1, W1 = w.alloc (.cells zeroNd 44) := ⟨_, rfl⟩
  have hE1 : Ext w W1 := by rw [hW1]; exact Ext.alloc _ _
  have hz1 : W1.heap.size = w.heap.size + 1 := by rw [hW1]; simp
  have hr1 : W1.heap[w.heap.size]? = some (.cells zeroNd 44 (0, 0)) := by rw [hW1]; exact heap_alloc_new w _
  have hT1 := hT.ext hE1
  have hok := hT.ok
  have hbnd := hT.bound
  obtain ⟨bn, bk, K, hd, hNd, hKd⟩ := hT1
  have hx := TreeAt.box hd
  obtain ⟨v, hv, hq, hq2⟩ := hNd.look' s hs
  clear hq2
  have hfit := hok.fit s.data.toList
  generalize hn : (mget M s.data.toList).getD zeroN = n at *
  obtain ⟨da, dc, aa, ac, rfl, hD, hA⟩ := hv
  obtain ⟨W2, hW2⟩ : ∃ W2, W2 = W1.alloc (.cells (ndC n (.slice da n.data.length dc) (.slice aa n.acl.length ac)) 44) := ⟨_, rfl⟩
  have hE2 : Ext W1 W2 := by rw [hW2]; exact Ext.alloc _ _
  have hz2 : W2.heap.size = W1.heap.size + 1 := by rw [hW2]; simp
  have hr2 := (hE2.block w.heap.size (by omega)).trans hr1
  have hb2 : W2.heap[W1.heap.size]? = some (.cells (ndC n (.slice da n.data.length dc) (.slice aa n.acl.length ac)) 44 (0, 0)) := by rw [hW2]; exact heap_alloc_new W1 _
  have hD2 : Cells W2.heap.size W2 da (n.data.map u8v) := (hD.cells hd.bound).ext hE2
  have hA2 : Cells W2.heap.size W2 aa (acCs n.acl) := (hA.cells hd.bound).ext hE2
  have C := sclone_nd n da aa dc ac W2 hfit hD2 hA2
  have HSET := Lib.hid ((setRow_alloc W1 zeroNd (ndC n (.slice da n.data.length dc) (.slice aa n.acl.length ac)) 44).trans hW2.symm)
  have HNew := Lib.hid (heap_alloc_new W1 (.cells zeroNd 44))
  rw [hz1] at hb2
  have HB2 := Lib.hid hb2
  have HR2 := Lib.hid hr2
  have HW1 := Lib.hid hW1
  have HN := Lib.hid hn
  unfold ndC at HSET HB2 C hq
  unfold zeroNd at HSET HNew HW1 HR2
  unfold Box treeC at hx
  have C := Lib.hid C
  have hx' := hx
  have hq' := hq
  have HS' := HSET.out
  rw [HW1.out] at hx' hq' HS'
  rw [World.size_alloc] at HS'
  have HS2 := Lib.hid HS'
  have HNew' := HNew.out
  rw [HW1.out, World.size_alloc] at HNew'
  have HN2 := Lib.hid HNew'
  clear HSET HNew HNew' HS' hx hq
  clear hW1 hr1 hd hNd hKd hD hA hW2 hb2 hr2 hD2 hA2 hT hn hok hbnd hfit
  go_enter Tryz.func54, Tryz.ntmps54
  go_wp2_with (first | (refine wpList_store_row rfl 44 (.tmp 6) (.tmp 18) rfl (w.heap.size + 1) _ rfl rfl 44 _ HN2.out sizeNd rfl (cells_node n da aa _ _ dc ac) ?_; rw [HS2.out]) | (refine wpList_load_row rfl 44 (.tmp 6) rfl (w.heap.size + 1) rfl 44 _ (0, 0) _ HB2.out Tryz.underlying44 rfl sizeNd ?_))
  refine C.out.mono ?_
  rintro e w3 ⟨v3, rfl, hN3, hb3⟩
  have hE3 : Ext W2 w3 := hb3
  obtain ⟨va, vc, vb, vd, rfl, h1, h2⟩ := hN3
  have HR3 := Lib.hid ((hE3.block w.heap.size (by omega)).trans HR2.out)
  have hz3 := hE3.size
  have hEw : Ext w w3 := (hE1.trans hE2).trans hE3
  clear C HB2 HN2 HS2 hx' hq' hb3
  go_wp2_with (refine wpList_store_row rfl 44 (.tmp 4) (.tmp 21) rfl w.heap.size _ rfl rfl 44 _ HR3.out sizeNd rfl (cells_node n va vb _ _ vc vd) ?_)
  obtain ⟨cs, hcs⟩ : ∃ cs, cs = ndC n (.slice va n.data.length vc) (.slice vb n.acl.length vd) := ⟨_, rfl⟩
  have hR4 := setRow_heap w3 w.heap.size _ cs 44 (0, 0) HR3.out
  have hs4 : (w3.setRow w.heap.size cs).heap.size = w3.heap.size := by simp [World.setRow]
  have hb4 : Ext w (w3.setRow w.heap.size cs) := hEw.trans' ⟨rfl, rfl, rfl, by rw [hs4]; exact Nat.le_refl _, fun k hk => setRow_other _ _ _ _ (by omega)⟩
  have hk : ∀ (b o : Nat) u, (W2.heap.size ≤ b ∧ b < w3.heap.size) → w3.cell? ⟨b, o, none⟩ = some u → (w3.setRow w.heap.size cs).cell? ⟨b, o, none⟩ = some u := fun b o u hb hu =>
    (World.cell?_of_block (setRow_other _ _ _ _ (show b ≠ w.heap.size by have := hb.1; omega))).trans hu
  have c1 := h1.imp (S' := fun b => w.heap.size ≤ b ∧ b < (w3.setRow w.heap.size cs).heap.size) (fun b hb => ⟨by omega, by omega⟩) hk
  have c2 := h2.imp (S' := fun b => w.heap.size ≤ b ∧ b < (w3.setRow w.heap.size cs).heap.size) (fun b hb => ⟨by omega, by omega⟩) hk
  have hsz17 : (Tryz.prog.info? 44).map (·.size) = some cs.size := by rw [hcs]; exact sizeNd
  have hfin : GetOut M s w (.returned (.tuple #[.agg cs, .bool (mget M s.data.toList).isSome])) (w3.setRow w.heap.size cs) :=
    ⟨_, rfl, by rw [HN.out]; exact ⟨va, vc, vb, vd, by rw [hcs], c1, c2⟩, hb4⟩
  rw [hcs] at hfin hR4 hsz17
  refine bodyPost_ret (v := .tuple #[.agg (ndC n (.slice va n.data.length vc) (.slice vb n.acl.length vd)), .bool (mget M s.data.toList).isSome]) ?_ rfl hfin
  exact results_cell_row2 (p := 4) (q := 5) (ty := 44) rfl _ _ w.heap.size 44 _ (0, 0) _ _ rfl rfl hR4 Tryz.underlying44 rfl hsz17
end Go.Proofs.YthinpbdbhijbgaaGreatDoor
namespace Go.Proofs.YthinpbdbhijbgaaGreatDoor
open Go.ChangeShapes Go.WideShapes Go.ChangeAt Go.RowKit Go.Deep
set_option maxHeartbeats 2000000
set_option maxRecDepth 100000

instance : Inhabited Nd := ⟨zeroN⟩

section
variable {H : Type} {enc : TypeId × Value → H} {w : World} {fuel : Nat}

end
end Go.Proofs.YthinpbdbhijbgaaGreatDoor
namespace Go.Proofs.YthinpbdbhijbgaaGreatDoor
open Go.ChangeShapes Go.WideShapes Go.ChangeAt Go.RowKit Go.Deep
set_option maxHeartbeats 2000000

theorem bulk_mem {H : Type} {d : DataW H} : ∀ {l : List (DataW H)}, d ∈ l → Rows.uptoBulk d ≤ Rows.uptoBulkAll l
  | [], h => by cases h
  | x :: r, h => by
    simp only [Rows.uptoBulkAll]
    rcases List.mem_cons.1 h with rfl | h
    · omega
    · have := bulk_mem h; omega
theorem small_mem {H : Type} {l : List (DataW H)} (h : Rows.uptoSmall H l = true) {d : DataW H} (hd : d ∈ l) : Rows.uptoBulk d ≤ 1048576 := by
  have h1 : Rows.uptoBulkAll l ≤ 1048576 := of_decide_eq_true h
  have := bulk_mem hd
  omega
end Go.Proofs.YthinpbdbhijbgaaGreatDoor
namespace Go.Proofs.YthinpbdbhijbgaaGreatDoor
open Go.ChangeShapes Go.WideShapes Go.ChangeAt Go.RowKit Go.Deep
set_option maxHeartbeats 2000000
set_option maxRecDepth 100000

theorem wf_i64 {z : Int} (h : (Lit.int .i64 z).wf = true) : -9223372036854775808 ≤ z ∧ z ≤ 9223372036854775807 := by
  simp [Lit.wf, IntKind.wrap] at h
  first | omega | exact h | (have := h; unfold wrap64 at this; omega)

section
variable {H : Type} {enc : TypeId × Value → H} {w : World} {fuel : Nat}
end
end Go.Proofs.YthinpbdbhijbgaaGreatDoor
namespace Go.Proofs.YthinpbdbhijbgaaGreatDoor
open Go.Lib

theorem decDigits_big {u : Nat} (h : ¬ u < 10) : decDigits u = decDigits (u / 10) ++ [UInt8.ofNat (48 + u % 10)] := by rw [decDigits, dif_neg h]
/-- What digits spell behind a number. -/
def digs : Nat → List UInt8 → Option Nat
  | acc, [] => some acc
  | acc, c :: r => if 48 ≤ c.toNat ∧ c.toNat ≤ 57 then digs (acc * 10 + (c.toNat - 48)) r else none
theorem digs_cons (acc : Nat) (c : UInt8) (r : List UInt8) : digs acc (c :: r) = if 48 ≤ c.toNat ∧ c.toNat ≤ 57 then digs (acc * 10 + (c.toNat - 48)) r else none := rfl
theorem digs_append : ∀ (l r : List UInt8) (acc : Nat), digs acc (l ++ r) = (digs acc l).bind fun m => digs m r
  | [], r, acc => rfl
  | c :: l, r, acc => by
    rw [List.cons_append, digs_cons, digs_cons]
    split
    · exact digs_append l r _
    · rfl
theorem dig_toNat {d : Nat} (h : d < 10) : (UInt8.ofNat (48 + d)).toNat = 48 + d := by
  rw [UInt8.toNat_ofNat']
  omega
theorem digs_one (acc : Nat) {d : Nat} (h : d < 10) : digs acc [UInt8.ofNat (48 + d)] = some (acc * 10 + d) := by
  unfold digs
  rw [dig_toNat h, if_pos (by omega)]
  show some (acc * 10 + (48 + d - 48)) = _
  congr 1
  omega
theorem digs_dec : ∀ (f n : Nat), n ≤ f → digs 0 (decDigits n) = some n
  | f, n, hf => by
    by_cases h : n < 10
    · rw [decDigits_one h, digs_one 0 h]
      congr 1
      omega
    · rw [decDigits_big h, digs_append]
      match f, hf with
      | f + 1, hf =>
        rw [digs_dec f (n / 10) (by omega), Option.bind_some, digs_one _ (by omega)]
        congr 1
        omega
      | 0, hf => omega
theorem dec_ne (n : Nat) : decDigits n ≠ [] := fun h => by
  have := decDigits_length n
  have h1 := nDigits_pos n
  rw [h] at this
  simp at this
  omega
theorem dec_head : ∀ (f n : Nat), n ≤ f → n ≠ 0 → ∃ c r, decDigits n = c :: r ∧ 49 ≤ c.toNat ∧ c.toNat ≤ 57
  | f, n, hf, h0 => by
    by_cases h : n < 10
    · exact ⟨_, _, decDigits_one h, by rw [dig_toNat h]; omega, by rw [dig_toNat h]; omega⟩
    · match f, hf with
      | f + 1, hf =>
        obtain ⟨c, r, e, h1⟩ := dec_head f (n / 10) (by omega) (by omega)
        exact ⟨c, r ++ [UInt8.ofNat (48 + n % 10)], by rw [decDigits_big h, e]; rfl, h1⟩
      | 0, hf => omega
theorem dec_all (n : Nat) : ∀ c ∈ decDigits n, 48 ≤ c.toNat ∧ c.toNat ≤ 57 := by
  have key : ∀ (l : List UInt8) (acc n : Nat), digs acc l = some n → ∀ c ∈ l, 48 ≤ c.toNat ∧ c.toNat ≤ 57 := by
    intro l
    induction l with
    | nil => intro _ _ _ c hc; simp at hc
    | cons a l ih =>
      intro acc n h c hc
      unfold digs at h
      split at h
      · rename_i ha
        rcases List.mem_cons.1 hc with rfl | hc
        · exact ha
        · exact ih _ _ h c hc
      · cases h
  exact key _ _ _ (digs_dec n n (Nat.le_refl _))

/-- The numeral without a needless nought. -/
theorem digs_canon : ∀ (k : Nat) (l : List UInt8) (n : Nat), l.length = k → l ≠ [] → (1 < l.length → l.head? ≠ some 48) → digs 0 l = some n → l = decDigits n
  | 0, l, n, hk, hl, _, _ => absurd (List.eq_nil_of_length_eq_zero hk) hl
  | k + 1, l, n, hk, hl, hh, hd => by
    obtain ⟨l', c, rfl⟩ : ∃ l' c, l = l' ++ [c] := ⟨l.dropLast, l.getLast hl, (List.dropLast_concat_getLast hl).symm⟩
    rw [digs_append] at hd
    obtain ⟨m, hm, hc⟩ := Option.bind_eq_some_iff.1 hd
    unfold digs at hc
    split at hc
    rotate_left
    · cases hc
    rename_i hcd
    simp only [digs, Option.some.injEq] at hc
    have hcc : c = UInt8.ofNat (48 + (c.toNat - 48)) := by
      rw [← UInt8.toNat_inj, dig_toNat (by omega)]
      omega
    by_cases he : l' = []
    · subst he
      simp only [digs, Option.some.injEq] at hm
      have hn : n = c.toNat - 48 := by omega
      rw [hn, decDigits_one (by omega), ← hcc]
      rfl
    · have hlen : 1 < (l' ++ [c]).length := by
        have := List.length_pos_iff.2 he
        simp; omega
      have hhd : (l' ++ [c]).head? = l'.head? := by
        cases l' with
        | nil => exact absurd rfl he
        | cons a r => rfl
      have hh2 := hh hlen
      rw [hhd] at hh2
      have ih := digs_canon k l' m (by simp at hk; omega) he (fun _ => hh2) hm
      have hm0 : m ≠ 0 := fun h0 => by
        rw [ih, h0, decDigits_one (by omega)] at hh2
        exact hh2 rfl
      have hn10 : ¬ n < 10 := by omega
      rw [decDigits_big hn10, show n / 10 = m by omega, ← ih, show n % 10 = c.toNat - 48 by omega, ← hcc]

/-- The document's number of a text. -/
def numR (l : List UInt8) : Option Int :=
  if l = [45, 49] then some (-1)
  else if l.length < 1 ∨ 19 < l.length ∨ (1 < l.length ∧ l.head? = some 48) then none
  else match digs 0 l with
    | some n => if n ≤ 9223372036854775807 then some (n : Int) else none
    | none => none
theorem itoa_m1 : itoa (-1) = [45, 49] := by
  have h := itoa_neg 1 (Nat.le_refl _)
  rw [decDigits_one (by omega)] at h
  exact h
theorem nDigits_le19 {n : Nat} (h : n ≤ 9223372036854775807) : nDigits n ≤ 19 := by
  by_cases h0 : nDigits n ≤ 19
  · exact h0
  · exfalso
    by_cases hn : n < 10
    · rw [nDigits_small hn] at h0; omega
    · have key : ∀ (k n : Nat), n < 10 ^ (k + 1) → nDigits n ≤ k + 1 := by
        intro k
        induction k with
        | zero => intro n h; rw [nDigits_small (by simpa using h)]; omega
        | succ k ih =>
          intro n h
          by_cases hn : n < 10
          · rw [nDigits_small hn]; omega
          · rw [nDigits_big hn]
            have := ih (n / 10) (by rw [Nat.pow_succ] at h ⊢; rw [Nat.pow_succ] at h; omega)
            omega
      have := key 18 n (by omega)
      omega
theorem numR_iff (l : List UInt8) (v : Int) : numR l = some v ↔ l = itoa v ∧ -1 ≤ v ∧ v ≤ 9223372036854775807 := by
  constructor
  · intro h
    unfold numR at h
    split at h
    · rename_i e
      cases h
      exact ⟨by rw [e, itoa_m1], by omega, by omega⟩
    split at h
    · cases h
    rename_i h2
    split at h
    · rename_i n hn
      split at h
      · rename_i hle
        cases h
        have hl : l ≠ [] := fun e => h2 (.inl (by rw [e]; simp))
        refine ⟨?_, by omega, by omega⟩
        rw [itoa_nonneg]
        exact digs_canon _ l n rfl hl (fun h1 h3 => h2 (.inr (.inr ⟨h1, h3⟩))) hn
      · cases h
    · cases h
  · rintro ⟨rfl, h1, h2⟩
    by_cases hv : v = -1
    · subst hv
      rw [itoa_m1]; rfl
    · obtain ⟨n, rfl⟩ := Int.eq_ofNat_of_zero_le (show 0 ≤ v by omega)
      rw [itoa_nonneg]
      unfold numR
      have hlen := decDigits_length n
      have h19 := nDigits_le19 (n := n) (by omega)
      have hpos := nDigits_pos n
      rw [if_neg, if_neg, digs_dec n n (Nat.le_refl _)]
      · show (if n ≤ 9223372036854775807 then some (n : Int) else none) = _
        rw [if_pos (by omega)]
      · rintro (h | h | ⟨h3, h4⟩)
        · omega
        · omega
        · by_cases h0 : n = 0
          · subst h0; rw [decDigits_one (by omega)] at h3; simp at h3
          · obtain ⟨c, r, e, h5, h6⟩ := dec_head n n (Nat.le_refl _) h0
            rw [e] at h4
            simp only [List.head?_cons, Option.some.injEq] at h4
            subst h4
            exact absurd h5 (by decide)
      · intro e
        have := dec_all n 45 (by rw [e]; simp)
        exact absurd this.1 (by decide)

theorem parse_digs (M : Nat) (hM : M = 18446744073709551615) : ∀ (l : List UInt8) (acc n : Nat), digs acc l = some n → n ≤ M → acc ≤ n ∧ parseUintM M acc l = .ok n
  | [], acc, n, h, hn => by
    simp only [digs, Option.some.injEq] at h
    subst h
    exact ⟨Nat.le_refl _, rfl⟩
  | c :: l, acc, n, h, hn => by
    unfold digs at h
    split at h
    · rename_i hc
      obtain ⟨h1, h2⟩ := parse_digs M hM l _ n h hn
      refine ⟨by omega, ?_⟩
      unfold parseUintM
      rw [if_pos hc, if_neg (by omega), if_neg (by omega)]
      exact h2
    · cases h
theorem parse_itoa {v : Int} (h1 : -1 ≤ v) (h2 : v ≤ 9223372036854775807) : parseIntB 64 (itoa v) = .ok v := by
  by_cases hv : v = -1
  · subst hv
    rw [itoa_m1]
    decide
  · obtain ⟨n, rfl⟩ := Int.eq_ofNat_of_zero_le (show 0 ≤ v by omega)
    rw [itoa_nonneg]
    have hd := (parse_digs 18446744073709551615 rfl (decDigits n) 0 n (digs_dec n n (Nat.le_refl _)) (by omega)).2
    have hne := dec_ne n
    have hall := dec_all n
    generalize decDigits n = l at *
    cases l with
    | nil => exact absurd rfl hne
    | cons c r =>
      have hc := hall c (List.mem_cons_self ..)
      have hu : parseUintB 64 (c :: r) = .ok n := by
        unfold parseUintB
        rw [if_neg (by simp)]
        exact hd
      unfold parseIntB
      simp only
      rw [if_neg (by omega), hu]
      simp only
      have h45 : ¬ c.toNat = 45 := by omega
      rw [if_neg (by intro h; have := h.2; simp at this; omega), if_neg (by intro h; exact h45 h.1), if_neg h45]

/-! The text of a quota. -/
def countT : List UInt8 := [99, 111, 117, 110, 116, 61]
def bytesT : List UInt8 := [44, 98, 121, 116, 101, 115, 61]
def quoT (c b : Int) : List UInt8 := countT ++ (itoa c ++ (bytesT ++ itoa b))
theorem itoa_comma {v : Int} (h1 : -1 ≤ v) : (44 : UInt8) ∉ itoa v := by
  by_cases hv : v = -1
  · subst hv
    rw [itoa_m1]
    decide
  · obtain ⟨n, rfl⟩ := Int.eq_ofNat_of_zero_le (show 0 ≤ v by omega)
    rw [itoa_nonneg]
    intro h
    exact absurd (dec_all n _ h).1 (by decide)
theorem index_behind (sub rest : List UInt8) (hp : (44 :: sub).isPrefixOf (44 :: rest) = true) : ∀ l : List UInt8, (44 : UInt8) ∉ l → index (l ++ 44 :: rest) (44 :: sub) = l.length
  | [], _ => by
    show index (44 :: rest) (44 :: sub) = 0
    unfold index
    rw [if_pos hp]
  | a :: l, h => by
    have ha : ¬ (44 : UInt8) = a := fun e => h (by rw [e]; exact List.mem_cons_self ..)
    have hl := index_behind sub rest hp l fun e => h (List.mem_cons_of_mem _ e)
    rw [List.cons_append]
    unfold index
    have hf : (44 :: sub).isPrefixOf (a :: (l ++ 44 :: rest)) = false := by
      rw [List.isPrefixOf_cons_cons]
      simp [ha]
    rw [hf, hl]
    have : ((l.length : Int) == -1) = false := by rw [beq_eq_false_iff_ne]; omega
    simp [this]
theorem cut_quo {c b : Int} (h1 : -1 ≤ c) : cut (trimPrefix (quoT c b) countT) bytesT = (itoa c, itoa b, true) := by
  have ht : trimPrefix (quoT c b) countT = itoa c ++ (bytesT ++ itoa b) := by
    unfold trimPrefix quoT hasPrefix
    rw [if_pos (by simp [countT]), List.drop_left]
  rw [ht]
  have e1 : bytesT ++ itoa b = 44 :: ([98, 121, 116, 101, 115, 61] ++ itoa b) := rfl
  have e2 : bytesT = 44 :: [98, 121, 116, 101, 115, 61] := rfl
  have hi : index (itoa c ++ (bytesT ++ itoa b)) bytesT = (itoa c).length := by
    rw [e1, e2]
    exact index_behind [98, 121, 116, 101, 115, 61] ([98, 121, 116, 101, 115, 61] ++ itoa b) (by simp) (itoa c) (itoa_comma h1)
  unfold cut
  rw [hi, if_pos (by omega)]
  refine Prod.ext ?_ (Prod.ext ?_ rfl)
  · show List.take ((itoa c).length : Int).toNat _ = _
    rw [Int.toNat_natCast, List.take_left]
  · show List.drop (((itoa c).length : Int).toNat + bytesT.length) _ = _
    rw [Int.toNat_natCast, ← List.append_assoc, ← List.length_append, List.drop_left]

/-- The program's quota of a text. -/
def parseP (s : List UInt8) : Option (Int × Int) :=
  match parseIntB 64 (cut (trimPrefix s countT) bytesT).1, parseIntB 64 (cut (trimPrefix s countT) bytesT).2.1 with
  | .ok c, .ok b => if -1 ≤ c ∧ -1 ≤ b ∧ quoT c b = s then some (c, b) else none
  | _, _ => none
/-- Where the first comma behind the sixth place is. -/
def commaAt (s : List UInt8) : Nat := ((s.drop 6).takeWhile (· != 44)).length
/-- The document's. -/
def parseR (s : List UInt8) : Option (Int × Int) :=
  if s.length < 6 ∨ s.take 6 ≠ countT then none
  else if s.length < 6 + commaAt s + 7 ∨ (s.drop (6 + commaAt s)).take 7 ≠ bytesT then none
  else match numR ((s.drop 6).take (commaAt s)), numR (s.drop (6 + commaAt s + 7)) with
    | some c, some b => some (c, b)
    | _, _ => none

theorem parseP_iff (s : List UInt8) (c b : Int) : parseP s = some (c, b) ↔ s = quoT c b ∧ (-1 ≤ c ∧ c ≤ 9223372036854775807) ∧ (-1 ≤ b ∧ b ≤ 9223372036854775807) := by
  constructor
  · intro h
    unfold parseP at h
    split at h
    · rename_i c' b' hc hb
      split at h
      · rename_i hh
        cases h
        have l1 := (parseIntB_bounds hc).2
        have l2 := (parseIntB_bounds hb).2
        exact ⟨hh.2.2.symm, ⟨hh.1, by omega⟩, hh.2.1, by omega⟩
      · cases h
    · cases h
  · rintro ⟨rfl, ⟨h1, h2⟩, h3, h4⟩
    unfold parseP
    rw [cut_quo h1]
    simp only
    rw [parse_itoa h1 h2, parse_itoa h3 h4]
    simp only
    simp [h1, h3]
theorem comma_behind : ∀ (l r : List UInt8), (44 : UInt8) ∉ l → (l ++ 44 :: r).takeWhile (· != 44) = l
  | [], r, _ => by simp
  | a :: l, r, h => by
    have ha : (a != 44) = true := by
      simp only [bne_iff_ne, ne_eq]
      exact fun e => h (by rw [e]; exact List.mem_cons_self ..)
    rw [List.cons_append, List.takeWhile_cons, ha, if_pos rfl, comma_behind l r fun e => h (List.mem_cons_of_mem _ e)]
theorem parseR_iff (s : List UInt8) (c b : Int) : parseR s = some (c, b) ↔ s = quoT c b ∧ (-1 ≤ c ∧ c ≤ 9223372036854775807) ∧ (-1 ≤ b ∧ b ≤ 9223372036854775807) := by
  constructor
  · intro h
    unfold parseR at h
    split at h
    · cases h
    rename_i h1
    split at h
    · cases h
    rename_i h2
    obtain ⟨h1a, h1b⟩ := not_or.1 h1
    obtain ⟨h2a, h2b⟩ := not_or.1 h2
    have h1b := Decidable.not_not.1 h1b
    have h2b := Decidable.not_not.1 h2b
    split at h
    · rename_i c' b' hc hb
      cases h
      obtain ⟨e1, r1⟩ := (numR_iff _ _).1 hc
      obtain ⟨e2, r2⟩ := (numR_iff _ _).1 hb
      refine ⟨?_, r1, r2⟩
      unfold quoT
      rw [← e1, ← e2, ← h2b, ← h1b]
      have s1 := List.take_append_drop 7 (s.drop (6 + commaAt s))
      have s2 := List.take_append_drop (commaAt s) (s.drop 6)
      rw [List.drop_drop] at s1 s2
      rw [s1, s2, List.take_append_drop]
    · cases h
  · rintro ⟨rfl, h1, h3⟩
    have hl : (quoT c b).length = 6 + (itoa c).length + 7 + (itoa b).length := by
      unfold quoT countT bytesT
      simp only [List.length_append, List.length_cons, List.length_nil]
      omega
    have hd : (quoT c b).drop 6 = itoa c ++ (bytesT ++ itoa b) := rfl
    have hca : commaAt (quoT c b) = (itoa c).length := by
      unfold commaAt
      rw [hd, show bytesT ++ itoa b = 44 :: ([98, 121, 116, 101, 115, 61] ++ itoa b) from rfl]
      exact congrArg List.length (comma_behind (itoa c) ([98, 121, 116, 101, 115, 61] ++ itoa b) (itoa_comma h1.1))
    have hd2 : (quoT c b).drop (6 + (itoa c).length) = bytesT ++ itoa b := by
      rw [← List.drop_drop, hd, List.drop_left]
    have hd3 : (quoT c b).drop (6 + (itoa c).length + 7) = itoa b := by
      rw [← List.drop_drop, hd2]; rfl
    unfold parseR
    rw [hca, if_neg, if_neg, hd, hd3, List.take_left, (numR_iff _ _).2 ⟨rfl, h1⟩, (numR_iff _ _).2 ⟨rfl, h3⟩]
    · rw [hd2, hl]
      rintro (h | h)
      · omega
      · exact h rfl
    · rw [hl]
      rintro (h | h)
      · omega
      · exact h rfl
/-- The two are one. -/
theorem parse_same (s : List UInt8) : parseP s = parseR s := Option.ext fun x => by
  obtain ⟨c, b⟩ := x
  rw [parseP_iff, parseR_iff]
end Go.Proofs.YthinpbdbhijbgaaGreatDoor
namespace Go.Proofs.YthinpbdbhijbgaaGreatDoor
open Go.RowKit
set_option maxHeartbeats 400000
set_option maxRecDepth 100000

end Go.Proofs.YthinpbdbhijbgaaGreatDoor
namespace Go.Proofs.YthinpbdbhijbgaaGreatDoor
open Go.RowKit
set_option maxHeartbeats 400000
set_option maxRecDepth 100000

end Go.Proofs.YthinpbdbhijbgaaGreatDoor
