/- The look whether a node's path is there already: a region that draws its order. -/
import Derived.Test.YtfgjbcejpjcpeaaDoorArm
namespace Go.Proofs.YtfgjbcejpjcpeaaDoor
open Go.RowKit
set_option maxHeartbeats 2000000
set_option maxRecDepth 100000

def zeroNd : Array Value := #[.string ⟨#[]⟩, .slice none 0 0, .slice none 0 0, .int .i64 0, .int .i64 0, .int .i64 0, .int .i64 0, .int .i64 0, .int .i64 0, .int .i64 0, .int .i64 0, .int .i32 0, .int .i32 0, .int .i32 0, .bool false, .int .i64 0, .int .i64 0]

/-- Below a block number nothing has turned; rows keep their size. -/
structure Shp (B : Nat) (w w' : World) : Prop where
  below : Below B w w'
  rows : ∀ (g : Nat) (cs : Array Value) (t : TypeId), w.heap[g]? = some (.cells cs t (0, 0)) → ∃ cs' : Array Value, w'.heap[g]? = some (.cells cs' t (0, 0)) ∧ cs'.size = cs.size
theorem Shp.refl (B : Nat) (w : World) : Shp B w w := ⟨Below.refl _ _, fun _ cs _ h => ⟨cs, h, rfl⟩⟩
theorem Shp.trans {B : Nat} {a b c : World} (h : Shp B a b) (k : Shp B b c) : Shp B a c := ⟨h.below.trans k.below, fun g cs t hg => by
  obtain ⟨c1, h1, h2⟩ := h.rows g cs t hg
  obtain ⟨c2, h3, h4⟩ := k.rows g c1 t h1
  exact ⟨c2, h3, h4.trans h2⟩⟩
theorem Shp.of_ext {B : Nat} {a b : World} (h : Ext a b) (hB : B ≤ a.heap.size) : Shp B a b := ⟨Below.mono h hB, fun g cs t hg => ⟨cs, (h.block g (Array.getElem?_eq_some_iff.1 hg).1).trans hg, rfl⟩⟩

def PhiT (n0 bt bn g : Nat) (s : ByteArray) (x : Value) (bb : Bool) : Nat → Value → World → Prop
  | 0, v, _ => v = .pointer (some ⟨bt, 0, none⟩)
  | 1, v, _ => v = .pointer (some ⟨bt, 0, none⟩)
  | 2, v, _ => v = .pointer (some ⟨bt, 0, none⟩)
  | 3, v, _ => v = .map (some bn)
  | 4, v, _ => v = .pointer (some ⟨g, 0, none⟩)
  | 5, v, _ => v = .string s
  | 6, v, _ => v = .tuple #[x, .bool bb]
  | 7, v, _ => v = .tuple #[x, .bool bb]
  | 8, v, _ => v = x
  | 9, v, _ => v = .bool bb
  | 10, v, w => ∃ (g : Nat) (cs : Array Value), v = .pointer (some ⟨g, 0, none⟩) ∧ n0 ≤ g ∧ w.heap[g]? = some (.cells cs 37 (0, 0)) ∧ cs.size = 17
  | 12, v, _ => v = .bool bb
  | _, _, _ => True
theorem PhiT.stab (B n0 bt bn g : Nat) (s : ByteArray) (x : Value) (bb : Bool) (i : Nat) (v : Value) (w w' : World) (h : PhiT n0 bt bn g s x bb i v w) (he : Shp B w w') : PhiT n0 bt bn g s x bb i v w' := by
  unfold PhiT at h ⊢
  split at h <;> first | exact h | (obtain ⟨g, cs, h1, h2, h3, h4⟩ := h; obtain ⟨c', k1, k2⟩ := he.rows g cs _ h3; exact ⟨g, c', h1, h2, k1, k2.trans h4⟩)

theorem there_region {id : Nat} {Q : Exit → Act → World → Prop} {a0 : Act} {w0 : World} (s0 s1 s2 s3 s4 s5 s6 s7 s8 s9 s10 s11 tt bx : Tmp) (pos : String) (m : Nat)
    (hsz : a0.tmps.size = m) (hnd : decide ([s0, s1, s2, s3, s4, s5, s6, s7, s8, s9, s10, s11].Nodup) = true) (hlt : ([s0, s1, s2, s3, s4, s5, s6, s7, s8, s9, s10, s11].all fun s => decide (s < m)) = true)
    (hnt : ([s0, s1, s2, s3, s4, s5, s6, s7, s8, s9, s10, s11].all fun s => s != tt && s != bx) = true)
    {S : Nat → Prop} {bt bn bk : Nat} {M : List (Key × Nd)} {N : Nat} (hd : Hd S w0 bt bn bk) (hNd : NodesAt S w0 bn M N) (g : Nat) (s : ByteArray) (cs : Array Value) (hbox : w0.heap[g]? = some (.cells cs 37 (0, 0))) (hcs : cs[0]? = some (.string s)) (hps : s.size ≤ maxLen)
    (htt : a0.tmps.getD tt undef = .pointer (some ⟨bt, 0, none⟩)) (hbx : a0.tmps.getD bx undef = .pointer (some ⟨g, 0, none⟩))
    (hend : ∀ u0 u1 u2 u3 u4 u5 u6 u7 u8 u9 u10 w, Ext w0 w → Q .normal (((((((((((((a0.put (some s0) u0).put (some s1) u1).put (some s2) u2).put (some s3) u3).put (some s4) u4).put (some s5) u5).put (some s6) u6).put (some s7) u7).put (some s8) u8).put (some s9) u9).put (some s10) u10).put (some s11) (.bool (mget M s.data.toList).isSome))) w) :
    (Code.region id #[{ dst := some s0, op := Op.move (Operand.tmp tt), type := 24, pos := pos, after := #[], guard := none }, { dst := some s1, op := Op.nilCheck (Operand.tmp s0), type := 0, pos := pos, after := #[{ on := 0, ground := Ground.data }], guard := none }, { dst := some s2, op := Op.fieldAddr 87 (Operand.tmp s1) 0, type := 0, pos := pos, after := #[{ on := 1, ground := Ground.data }], guard := none }, { dst := some s3, op := Op.load 84 (Operand.tmp s2), type := 84, pos := pos, after := #[{ on := 2, ground := Ground.data }], guard := none }, { dst := some s4, op := Op.fieldAddr 37 (Operand.tmp bx) 0, type := 0, pos := pos, after := #[], guard := none }, { dst := some s5, op := Op.load 9 (Operand.tmp s4), type := 9, pos := pos, after := #[{ on := 4, ground := Ground.data }], guard := none }, { dst := some s6, op := Op.lookup 84 (Operand.tmp s3) (Operand.tmp s5) true, type := 42, pos := pos, after := #[{ on := 3, ground := Ground.data }, { on := 5, ground := Ground.data }], guard := none }, { dst := some s7, op := Op.move (Operand.tmp s6), type := 42, pos := pos, after := #[{ on := 6, ground := Ground.data }], guard := none }, { dst := some s8, op := Op.extract (Operand.tmp s7) 0, type := 37, pos := pos, after := #[{ on := 7, ground := Ground.data }], guard := none }, { dst := some s9, op := Op.extract (Operand.tmp s7) 1, type := 4, pos := pos, after := #[{ on := 7, ground := Ground.data }, { on := 11, ground := Ground.gcOnly Departure.lateStores }], guard := none }, { dst := some s10, op := Op.alloc 37, type := 0, pos := pos, after := #[], guard := none }, { dst := none, op := Op.store 37 (Operand.tmp s10) (Operand.tmp s8), type := 0, pos := pos, after := #[{ on := 10, ground := Ground.data }, { on := 8, ground := Ground.data }, { on := 0, ground := Ground.phase }, { on := 1, ground := Ground.phase }, { on := 2, ground := Ground.phase }, { on := 3, ground := Ground.phase }, { on := 4, ground := Ground.phase }, { on := 5, ground := Ground.phase }, { on := 6, ground := Ground.phase }, { on := 7, ground := Ground.phase }, { on := 8, ground := Ground.phase }, { on := 9, ground := Ground.textOnly Departure.lateStores }, { on := 10, ground := Ground.phase }], guard := none }, { dst := some s11, op := Op.assign (Operand.tmp s9), type := 4, pos := pos, after := #[{ on := 9, ground := Ground.data }, { on := 11, ground := Ground.chain }, { on := 0, ground := Ground.phase }, { on := 1, ground := Ground.phase }, { on := 2, ground := Ground.phase }, { on := 3, ground := Ground.phase }, { on := 4, ground := Ground.phase }, { on := 5, ground := Ground.phase }, { on := 6, ground := Ground.phase }, { on := 7, ground := Ground.phase }, { on := 8, ground := Ground.phase }, { on := 9, ground := Ground.phase }, { on := 10, ground := Ground.phase }, { on := 11, ground := Ground.phase }], guard := none }] true).wp Tryd.prog Q a0 w0 := by
  obtain ⟨mm, hm, hr⟩ := hNd.ex
  have hx : ∃ (da : Option Addr) (dc : Nat × Nat) (aa : Option Addr) (ac : Nat × Nat) (nn : Nd), (mget mm s.data.toList).getD (.agg zeroNd) = .agg (ndC nn (.slice da dc.1 dc.2) (.slice aa ac.1 ac.2)) := by
    rcases hr.get s.data.toList with ⟨_, h2⟩ | ⟨y, v, _, h2, h3⟩
    · rw [h2]; exact ⟨none, (0, 0), none, (0, 0), ⟨⟨#[]⟩, [], [], 0, 0, 0, 0, 0, 0, 0, 0, 0, 0, 0, false, 0, 0⟩, rfl⟩
    · obtain ⟨da, dc, aa, ac, rfl, _⟩ := h3
      rw [h2]; exact ⟨da, (_, dc), aa, (_, ac), y, rfl⟩
  have hbb : (mget mm s.data.toList).isSome = (mget M s.data.toList).isSome := by
    rcases hr.get s.data.toList with ⟨h1, h2⟩ | ⟨y, v, h1, h2, _⟩
    · rw [h1, h2]; rfl
    · rw [h1, h2]; rfl
  obtain ⟨da, dc, aa, ac, nn, hx⟩ := hx
  have hbtl := hd.bound _ hd.st
  have hgl : g < w0.heap.size := (Array.getElem?_eq_some_iff.1 hbox).1
  simp only [List.all_cons, List.all_nil, Bool.and_eq_true, bne_iff_ne, ne_eq, Bool.and_true, decide_eq_true_eq] at hnt hlt
  have nt : ∀ (ops : Array Oper) (t : Tmp), ops.toList.map (·.dst) = [some s0, some s1, some s2, some s3, some s4, some s5, some s6, some s7, some s8, some s9, some s10, none, some s11] → (¬ s0 = t ∧ ¬ s1 = t ∧ ¬ s2 = t ∧ ¬ s3 = t ∧ ¬ s4 = t ∧ ¬ s5 = t ∧ ¬ s6 = t ∧ ¬ s7 = t ∧ ¬ s8 = t ∧ ¬ s9 = t ∧ ¬ s10 = t ∧ ¬ s11 = t) → (ops.toList.all fun o => o.dst != some t) = true := fun ops t h hn => by
    have e : (ops.toList.all fun o => o.dst != some t) = (ops.toList.map (·.dst)).all fun d => d != some t := by rw [List.all_map]; rfl
    rw [e, h]
    simp [hn]
  refine wp_region_rel_e m (Shp w0.heap.size) (Shp.refl _) (fun _ _ _ => Shp.trans) (fun w => ⟨(Below.refl _ w).drew, fun _ cs _ h => ⟨cs, h, rfl⟩⟩) (by kernel_rfl) (PhiT w0.heap.size bt bn g s ((mget mm s.data.toList).getD (.agg zeroNd)) (mget M s.data.toList).isSome) (PhiT.stab _ _ _ _ _ _ _ _) ?hund ?hchk hsz ?hd ?hend
  case hund =>
    intro i v w h ho
    by_cases h11 : i = 11
    · subst h11; exact trivial
    · match i, h11, ho with
      | 0, _, ho | 1, _, ho | 2, _, ho | 3, _, ho | 4, _, ho | 5, _, ho | 6, _, ho | 7, _, ho | 8, _, ho | 9, _, ho | 10, _, ho | 12, _, ho => simp at ho
      | i + 13, _, ho => simp at ho
  case hchk =>
    simp only [Bool.and_eq_true]
    refine ⟨⟨hnd, ?_⟩, ?_⟩
    · rfl
    · simp [hlt]
  case hend =>
    intro us w hS hl hP
    obtain ⟨u0, u1, u2, u3, u4, u5, u6, u7, u8, u9, u10, u11, u12, rfl⟩ := us13 us hl
    have e12 : u12 = .bool (mget M s.data.toList).isSome := hP 12 _ rfl
    rw [e12]
    have h := hend u0 u1 u2 u3 u4 u5 u6 u7 u8 u9 u10 w hS.below
    simp only [filled, List.zip_cons_cons, List.zip_nil_right, List.foldl_cons, List.foldl_nil, put_none]
    exact h
  case hd =>
    refine ⟨?_, ?_, ?_, ?_, ?_, ?_, ?_, ?_, ?_, ?_, ?_, ?_, ?_, trivial⟩
    · exact dutyR_free rfl fun a w' hE hF hA => wp_value (w' := w') (ex_move rfl) ⟨_, rfl, hF.slot tt _ (nt _ tt rfl (by simp [hnt])) htt, Shp.refl _ _⟩
    · refine dutyR_free rfl fun a w' hE hF hA => ?_
      have x1 : a.eval (.tmp s0) = _ := hA.slot 0 s0 rfl rfl ⟨⟨0, .data⟩, by simp, rfl, rfl⟩
      exact wp_value (ex_nilCheck rfl _ x1) ⟨_, rfl, rfl, Shp.refl _ _⟩
    · refine dutyR_free rfl fun a w' hE hF hA => ?_
      have x1 : a.eval (.tmp s1) = _ := hA.slot 1 s1 rfl rfl ⟨⟨1, .data⟩, by simp, rfl, rfl⟩
      exact wp_value (v := .pointer (some ⟨bt, 0, none⟩)) (w' := w') (by simp only [execOp, x1]; simp [go_sem]) ⟨_, rfl, rfl, Shp.refl _ _⟩
    · refine dutyR_free rfl fun a w' hE hF hA => ?_
      have x1 : a.eval (.tmp s2) = _ := hA.slot 2 s2 rfl rfl ⟨⟨2, .data⟩, by simp, rfl, rfl⟩
      refine wp_value (ex_cell rfl _ (.map (some bn)) x1 ?_ rfl Tryd.underlying84) ⟨_, rfl, rfl, Shp.refl _ _⟩
      exact cell_of_row w' bt 0 _ _ _ ((hE.below.block bt hbtl).trans hd.blk)
    · refine dutyR_free rfl fun a w' hE hF hA => ?_
      have x1 : a.eval (.tmp bx) = _ := hF.slot bx _ (nt _ bx rfl (by simp [hnt])) hbx
      exact wp_value (v := .pointer (some ⟨g, 0, none⟩)) (w' := w') (by simp only [execOp, x1]; simp [go_sem]) ⟨_, rfl, rfl, Shp.refl _ _⟩
    · refine dutyR_free rfl fun a w' hE hF hA => ?_
      have x1 : a.eval (.tmp s4) = _ := hA.slot 4 s4 rfl rfl ⟨⟨4, .data⟩, by simp, rfl, rfl⟩
      refine wp_value (ex_cell rfl _ (.string s) x1 ?_ rfl Tryd.underlying9) ⟨_, rfl, rfl, Shp.refl _ _⟩
      rw [cell_of_row w' g 0 _ _ _ ((hE.below.block g hgl).trans hbox)]
      exact hcs
    · refine dutyR_free rfl fun a w' hE hF hA => ?_
      have x1 : a.eval (.tmp s3) = _ := hA.slot 3 s3 rfl rfl ⟨⟨3, .data⟩, by simp, rfl, rfl⟩
      have x2 : a.eval (.tmp s5) = _ := hA.slot 5 s5 rfl rfl ⟨⟨5, .data⟩, by simp, rfl, rfl⟩
      have hq := SMap.look_ok (e := 37) (hm.keep (hE.below.block bn (hd.bound _ hd.sn))) strT Tryd.underlying84 (z := .agg zeroNd) (by kernel_rfl) hps
      rw [hbb] at hq
      exact wp_value (w' := w') (by simp only [execOp, x1, x2, hq, Sem.run_bind, Result.andThen_ok, Sem.run_pure]) ⟨_, rfl, rfl, Shp.refl _ _⟩
    · refine dutyR_free rfl fun a w' hE hF hA => ?_
      exact wp_value (w' := w') (ex_move rfl) ⟨_, rfl, hA.slot 6 s6 rfl rfl ⟨⟨6, .data⟩, by simp, rfl, rfl⟩, Shp.refl _ _⟩
    · refine dutyR_free rfl fun a w' hE hF hA => ?_
      have x1 : a.eval (.tmp s7) = _ := hA.slot 7 s7 rfl rfl ⟨⟨7, .data⟩, by simp, rfl, rfl⟩
      exact wp_value (v := (mget mm s.data.toList).getD (.agg zeroNd)) (w' := w') (by simp only [execOp, x1]; simp [go_sem]) ⟨_, rfl, rfl, Shp.refl _ _⟩
    · refine dutyR_free rfl fun a w' hE hF hA => ?_
      have x1 : a.eval (.tmp s7) = _ := hA.slot 7 s7 rfl rfl ⟨⟨7, .data⟩, by simp, rfl, rfl⟩
      exact wp_value (v := .bool (mget M s.data.toList).isSome) (w' := w') (by simp only [execOp, x1]; simp [go_sem]) ⟨_, rfl, rfl, Shp.refl _ _⟩
    · refine dutyR_free rfl fun a w' hE hF hA => ?_
      exact wp_value (w' := w'.alloc (.cells zeroNd 37)) (v := .pointer (some ⟨w'.heap.size, 0, none⟩)) (by kernel_rfl) ⟨_, rfl, ⟨_, _, rfl, hE.below.size, heap_alloc_new w' _, rfl⟩, Shp.of_ext (Ext.alloc _ _) hE.below.size⟩
    · refine dutyR_free rfl fun a w' hE hF hA => ?_
      obtain ⟨g', c', x1, hg0, hg', hc'⟩ := hA.slot 10 s10 rfl rfl ⟨⟨10, .data⟩, by simp, rfl, rfl⟩
      have x2 : a.eval (.tmp s8) = _ := hA.slot 8 s8 rfl rfl ⟨⟨8, .data⟩, by simp, rfl, rfl⟩
      rw [hx] at x2
      refine wp_store_row 37 (.tmp s10) (.tmp s8) rfl g' _ x1 x2 37 c' hg' sizeNd hc' (cells_node nn da aa _ _ _ _) ⟨_, rfl, trivial, ⟨⟨rfl, rfl, rfl, by simp, fun k hk => setRow_other _ _ _ _ (by omega)⟩, fun k cs t hk => ?_⟩⟩
      by_cases e : k = g'
      · subst e
        rw [hg'] at hk
        cases hk
        exact ⟨_, setRow_heap _ _ _ _ _ _ hg', hc'.symm⟩
      · exact ⟨cs, (setRow_other _ _ _ _ e).trans hk, rfl⟩
    · refine dutyR_free rfl fun a w' hE hF hA => ?_
      exact wp_value (w' := w') (ex_assign rfl) ⟨_, rfl, hA.slot 9 s9 rfl rfl ⟨⟨9, .data⟩, by simp, rfl, rfl⟩, Shp.refl _ _⟩
end Go.Proofs.YtfgjbcejpjcpeaaDoor
