/- The walk of Note: any note in any book. The walks of At and Part: what is kept in a book, and where two books part. The walk of Part: the least number at which two books part. -/
import Derived.Test.YtfgjbcejpjcpeaaDoorJDigestBooks8
namespace Go.Proofs.YtfgjbcejpjcpeaaDoor
open Go.RowKit
set_option maxHeartbeats 8000000
set_option maxRecDepth 100000

/-- What a note makes of a book. -/
def noteR (every most last : Int) (R : List (Int × Int)) (first : Nat) (z v : Int) : Bool × Int × List (Int × Int) × Nat :=
  if z < 1 ∨ z ≤ last then (false, last, R, first)
  else if (bits .and .i64 z 4294967295).tmod every ≠ 0 then (true, z, R, first)
  else if (R.length : Int) < most then (true, z, R ++ [(z, v)], first)
  else (true, z, R.set first (z, v), ((first + 1 : Nat) : Int).tmod most |>.toNat)

def NoteOut (S : Nat → Prop) (bb : Nat) (every most : Int) (r : Bool × Int × List (Int × Int) × Nat) (w : World) (e : Ending) (w' : World) : Prop :=
  e = .returned (.bool r.1) ∧ (∃ v', BookAt (fun k => S k ∨ (w.heap.size ≤ k ∧ k < w'.heap.size)) w' bb every most r.2.1 r.2.2.1 r.2.2.2 v') ∧ Chg S w w'

theorem entC_append (R : List (Int × Int)) (z v : Int) : entC (R ++ [(z, v)]) = entC R ++ [.int .i64 z, .int .u64 v] := by simp [entC]

theorem ownsRow_ext {w w' : World} {base e size n : Nat} {v : Value} {xs : List Value} (h : w.ownsRow base e size v n xs) (hE : Ext w w') : w'.ownsRow base e size v n xs :=
  row_at h fun g _ _ hc => (hE.block g (Array.getElem?_eq_some_iff.1 hc).1).trans hc

/-- A ring that an entry has been put behind. -/
def RingA (rv : Value) (n : Nat) (xs : List Value) (z v : Int) (B : Nat) (u : Value) (w : World) : Prop :=
  w.ownsRow 0 109 2 u (n + 1) (xs ++ [.int .i64 z, .int .u64 v]) ∧ ∀ k, u.ownBlock = some k → (rv.ownBlock = some k ∨ B ≤ k) ∧ k < w.heap.size
theorem RingA.ext {rv : Value} {n : Nat} {xs : List Value} {z v : Int} {B : Nat} {u : Value} {w w' : World} (h : RingA rv n xs z v B u w) (hE : Ext w w') : RingA rv n xs z v B u w' :=
  ⟨ownsRow_ext h.1 hE, fun k hk => ⟨(h.2 k hk).1, Nat.lt_of_lt_of_le (h.2 k hk).2 hE.size⟩⟩

/-- What each operation of the statement that appends leaves. -/
def PhiA (bb : Nat) (rv : Value) (n : Nat) (xs : List Value) (z v : Int) (B : Nat) (row : Value → Array Value) (i : Nat) (u : Value) (w : World) : Prop :=
  match i with
  | 0 => u = .pointer (some ⟨bb, 0, none⟩)
  | 1 => u = .pointer (some ⟨bb, 0, none⟩)
  | 2 => u = .pointer (some ⟨bb, 0, none⟩)
  | 3 => u = .pointer (some ⟨bb, 3, none⟩)
  | 4 => u = rv
  | 5 => u = .agg #[.int .i64 z, .int .u64 v]
  | 6 => ∃ g, u = .slice (some ⟨g, 0, none⟩) 1 1 ∧ B ≤ g ∧ w.heap[g]? = some (.cells #[.int .i64 z, .int .u64 v] 109 (0, 0))
  | 7 => RingA rv n xs z v B u w
  | 8 => u = .pointer (some ⟨bb, 0, none⟩)
  | 9 => u = .pointer (some ⟨bb, 3, none⟩)
  | 10 => ∃ v', w.heap[bb]? = some (.cells (row v') 107 (0, 0)) ∧ RingA rv n xs z v B v' w
  | _ => False
theorem PhiA.ext {bb : Nat} {rv : Value} {n : Nat} {xs : List Value} {z v : Int} {B : Nat} {row : Value → Array Value} : ∀ (i : Nat) (u : Value) (w w' : World), PhiA bb rv n xs z v B row i u w → Ext w w' → PhiA bb rv n xs z v B row i u w' := by
  intro i u w w' h hE
  match i, h with
  | 0, h | 1, h | 2, h | 3, h | 4, h | 5, h | 8, h | 9, h => exact h
  | 6, ⟨g, h1, h2, h3⟩ => exact ⟨g, h1, h2, (hE.block g (Array.getElem?_eq_some_iff.1 h3).1).trans h3⟩
  | 7, h => exact RingA.ext h hE
  | 10, ⟨v', h1, h2⟩ => exact ⟨v', (hE.block bb (Array.getElem?_eq_some_iff.1 h1).1).trans h1, h2.ext hE⟩
theorem PhiA.und {bb : Nat} {rv : Value} {n : Nat} {xs : List Value} {z v : Int} {B : Nat} {row : Value → Array Value} {u u' : Value} {w : World} (h : PhiA bb rv n xs z v B row 10 u w) : PhiA bb rv n xs z v B row 10 u' w := h

def GA (S : Nat → Prop) (W3 : World) (bb : Nat) (row : Value → Array Value) (b : Bool) (w : World) : Prop :=
  (b = false → Ext W3 w) ∧ Chg S W3 w ∧ ∃ v0, w.heap[bb]? = some (.cells (row v0) 107 (0, 0))
theorem GA.ext {S : Nat → Prop} {W3 : World} {bb : Nat} {row : Value → Array Value} : ∀ (b : Bool) (w w' : World), GA S W3 bb row b w → Ext w w' → GA S W3 bb row b w' := by
  rintro b w w' ⟨h1, h2, v0, h3⟩ hE
  exact ⟨fun e => (h1 e).trans hE, h2.trans (Chg.of_ext (S := S) hE) fun _ _ h => h, v0, (hE.block bb (Array.getElem?_eq_some_iff.1 h3).1).trans h3⟩

theorem entC_set : ∀ (R : List (Int × Int)) (f : Nat) (e : Int × Int), f < R.length → entC (R.set f e) = (entC R).take (f * 2) ++ [.int .i64 e.1, .int .u64 e.2] ++ (entC R).drop (f * 2 + 2)
  | [], f, e, h => by simp at h
  | x :: R, 0, e, _ => by simp [entC]
  | x :: R, f + 1, e, h => by
    have ih := entC_set R f e (by simpa using h)
    have h1 : entC (x :: R) = [.int .i64 x.1, .int .u64 x.2] ++ entC R := rfl
    have h2 : entC ((x :: R).set (f + 1) e) = [.int .i64 x.1, .int .u64 x.2] ++ entC (R.set f e) := rfl
    rw [h1, h2, ih, show (f + 1) * 2 = f * 2 + 2 by omega]
    rfl
theorem take_mid {α : Type} (X ys : List α) (a n : Nat) (h1 : a + ys.length ≤ n) (h2 : n ≤ X.length) : (X.take a ++ ys ++ X.drop (a + ys.length)).take n = (X.take n).take a ++ ys ++ (X.take n).drop (a + ys.length) := by
  have e1 : (X.take a).length = a := by simp; omega
  have e2 : (X.take n).take a = X.take a := by rw [List.take_take]; congr 1; omega
  have e3 : (X.take n).drop (a + ys.length) = (X.drop (a + ys.length)).take (n - (a + ys.length)) := List.drop_take
  rw [e2, e3, List.take_append, List.take_of_length_le (l := X.take a ++ ys) (by rw [List.length_append, e1]; exact h1), List.length_append, e1]

theorem note_any (S : Nat → Prop) (w : World) (bb : Nat) (every most last : Int) (R : List (Int × Int)) (first : Nat) (rv : Value) (h : BookAt S w bb every most last R first rv) (z v : Int) (he : 1 ≤ every) (hm : 1 ≤ most) (hfm : (first : Int) < most) (hRm : (R.length : Int) ≤ most) (hmx : most ≤ 9223372036854775807)
    (hR : (R.length + 1) * 16 ≤ 140737488355328) :
    Calls Tryd.prog 25 #[.pointer (some ⟨bb, 0, none⟩), .int .i64 z, .int .u64 v] w (NoteOut S bb every most (noteR every most last R first z v) w) := by
  obtain ⟨ra, rc, rfl⟩ : ∃ a c, rv = .slice a R.length c := by
    rcases h.ring.2 with ⟨rfl, h0⟩ | ⟨g, cap, cur, rfl, _⟩
    · exact ⟨none, 0, by rw [h0]⟩
    · exact ⟨_, _, rfl⟩
  have hx : Box w bb (bookC every most last (.slice ra R.length rc) first) := fun j => cell_of_row _ _ _ _ _ _ h.blk
  have hN0 : NoteOut S bb every most (false, last, R, first) w (.returned (.bool false)) w := ⟨rfl, ⟨_, h.blk, h.ring, fun k hk => ⟨.inl (h.own k hk).1, (h.own k hk).2⟩, .inl h.mine, fun k hk => hk.elim (h.bound k) fun hk => hk.2⟩, Chg.refl _ _⟩
  have HN0 := Lib.hid hN0
  have HB := Lib.hid h
  unfold Box bookC at hx
  clear hN0 h
  by_cases h1 : z < 1
  · have hd : decide (z < 1) = true := by simpa using h1
    rw [show noteR every most last R first z v = (false, last, R, first) by unfold noteR; rw [if_pos (.inl h1)]]
    go_enter Tryd.func25, Tryd.ntmps25
    go_wp2
    go_ret
    exact HN0.out
  · have hd : decide (z < 1) = false := by simpa using h1
    by_cases h2 : z ≤ last
    · have hd2 : decide (z ≤ last) = true := by simpa using h2
      rw [show noteR every most last R first z v = (false, last, R, first) by unfold noteR; rw [if_pos (.inr h2)]]
      go_enter Tryd.func25, Tryd.ntmps25
      go_wp2
      go_ret
      exact HN0.out
    · have hd2 : decide (z ≤ last) = false := by simpa using h2
      have hne : every ≠ 0 := by omega
      obtain ⟨W1, hW1⟩ : ∃ W1, W1 = w.setRow bb (bookC every most z (.slice ra R.length rc) first) := ⟨_, rfl⟩
      have hb1 : W1.heap[bb]? = some (.cells (bookC every most z (.slice ra R.length rc) first) 107 (0, 0)) := by rw [hW1]; exact setRow_heap _ _ _ _ _ _ HB.out.blk
      have hx1 : Box W1 bb (bookC every most z (.slice ra R.length rc) first) := fun j => cell_of_row _ _ _ _ _ _ hb1
      have hC1 : Chg S w W1 := by rw [hW1]; exact Chg.set _ _ _ HB.out.mine
      have hz1a : W1.heap.size ≤ w.heap.size := by rw [hW1]; simp
      have hz1b : w.heap.size ≤ W1.heap.size := by rw [hW1]; simp
      have hring1 : W1.ownsRow 0 109 2 (.slice ra R.length rc) R.length (entC R) := row_at HB.out.ring fun g c hg hc => by rw [hW1]; exact (setRow_other _ _ _ _ (HB.out.own g hg).2).trans hc
      have HW1 := Lib.hid hW1
      have HB1 := Lib.hid hb1
      have HC1 := Lib.hid hC1
      have HRING1 := Lib.hid hring1
      unfold bookC at HW1 HB1
      unfold Box bookC at hx1
      clear hW1 hb1 hC1 hring1
      have HBLK := Lib.hid HB.out.blk
      unfold bookC at HBLK
      by_cases hmod : (bits .and .i64 z 4294967295).tmod every ≠ 0
      · have hdm : ((bits .and .i64 z 4294967295).tmod every != 0) = true := by simpa using hmod
        rw [show noteR every most last R first z v = (true, z, R, first) by unfold noteR; rw [if_neg (by omega), if_pos hmod]]
        clear hmod
        go_enter Tryd.func25, Tryd.ntmps25
        go_wp2_with (refine wpList_store_in rfl 2 (.tmp 25) (.tmp 23) rfl bb 2 (.int .i64 z) rfl rfl (by simp [Value.cells, Value.oneCell']) 107 _ HBLK.out (by simp [Value.cells]) infoI64 #[.int .i64 every, .int .i64 most, .int .i64 z, .slice ra R.length rc, .int .i64 first] (by simp [Value.cells]) ?_; rw [← HW1.out])
        go_ret
        exact ⟨rfl, ⟨_, HB1.out, HRING1.out, fun k hk => ⟨.inl (HB.out.own k hk).1, (HB.out.own k hk).2⟩, .inl HB.out.mine, fun k hk => hk.elim (fun hk => Nat.lt_of_lt_of_le (HB.out.bound k hk) hz1b) fun hk => hk.2⟩, HC1.out⟩
      · have hdm : ((bits .and .i64 z 4294967295).tmod every != 0) = false := by simpa using hmod
        obtain ⟨W2, hW2⟩ : ∃ W2, W2 = W1.alloc (.cells #[.int .i64 z, .int .u64 v] 109) := ⟨_, rfl⟩
        have hE2 : Ext W1 W2 := by rw [hW2]; exact Ext.alloc _ _
        have HSET := Lib.hid ((setRow_alloc W1 #[.int .i64 0, .int .u64 0] #[.int .i64 z, .int .u64 v] 109).trans hW2.symm)
        have HNew := Lib.hid (heap_alloc_new W1 (.cells #[.int .i64 0, .int .u64 0] 109))
        have ce : W2.heap[W1.heap.size]? = some (.cells #[.int .i64 z, .int .u64 v] 109 (0, 0)) := by rw [hW2]; exact heap_alloc_new _ _
        have hb2 := (hE2.block bb (Array.getElem?_eq_some_iff.1 HB1.out).1).trans HB1.out
        have c1 : W2.cell? ⟨bb, 1, none⟩ = some (.int .i64 most) := cell_of_row _ _ 1 _ _ _ hb2
        have c3 : W2.cell? ⟨bb, 3, none⟩ = some (.slice ra R.length rc) := cell_of_row _ _ 3 _ _ _ hb2
        have c4 : W2.cell? ⟨bb, 4, none⟩ = some (.int .i64 first) := cell_of_row _ _ 4 _ _ _ hb2
        have hbl1 : bb < w.heap.size := HB.out.bound _ HB.out.mine
        have hz2a : W2.heap.size ≤ W1.heap.size + 1 := by rw [hW2]; simp
        have hz2b : W1.heap.size + 1 ≤ W2.heap.size := by rw [hW2]; simp
        have hring2 : W2.ownsRow 0 109 2 (.slice ra R.length rc) R.length (entC R) := by rw [hW2]; exact HRING1.out.alloc _
        have HRING2 := Lib.hid hring2
        have HB2 := Lib.hid hb2
        have HCE := Lib.hid ce
        have HC2 := Lib.hid (HC1.out.trans (Chg.of_ext (S := S) hE2) fun _ _ h => h)
        have HC1' := Lib.hid c1
        have HC3' := Lib.hid c3
        have HC4' := Lib.hid c4
        clear hW2 hE2 hring2 hb2 ce c1 c3 c4
        by_cases hlt : (R.length : Int) < most
        · rw [show noteR every most last R first z v = (true, z, R ++ [(z, v)], first) by unfold noteR; rw [if_neg (by omega), if_neg hmod, if_pos hlt]]
          clear hmod
          go_enter Tryd.func25, Tryd.ntmps25
          go_wp2_with (first | (refine wpList_store_in rfl 2 (.tmp 25) (.tmp 23) rfl bb 2 (.int .i64 z) rfl rfl (by simp [Value.cells, Value.oneCell']) 107 _ HBLK.out (by simp [Value.cells]) infoI64 #[.int .i64 every, .int .i64 most, .int .i64 z, .slice ra R.length rc, .int .i64 first] (by simp [Value.cells]) ?_; rw [← HW1.out]) | (refine wpList_store_row rfl 109 (.tmp 7) (.tmp 36) rfl W1.heap.size _ rfl rfl 109 _ HNew.out sizeEnt rfl (by simp [Value.oneCell']) ?_; rw [HSET.out]))
          have c1 := HC1'.out
          have c3 := HC3'.out
          refine wp_region_P (by kernel_rfl) (region_vals 80 [.pointer (some ⟨bb, 0, none⟩), .pointer (some ⟨bb, 0, none⟩), .pointer (some ⟨bb, 3, none⟩), .slice ra R.length rc, .int .i64 R.length, .pointer (some ⟨bb, 0, none⟩), .pointer (some ⟨bb, 0, none⟩), .pointer (some ⟨bb, 1, none⟩), .int .i64 most, .bool true] rfl (by decide) rfl ?duties ?rest)
          case duties =>
            refine ⟨?_, ?_, ?_, ?_, ?_, ?_, ?_, ?_, ?_, ?_, trivial⟩
            · refine duty_free rfl fun a w' hE hF hA => ?_
              have x1 := hF.slot 0 _ (by decide) rfl
              exact wp_value (w' := w') (v := .pointer (some ⟨bb, 0, none⟩)) (by simp only [execOp, x1]; simp [go_sem]) ⟨_, rfl, rfl, Ext.refl _⟩
            · refine duty_free rfl fun a w' hE hF hA => ?_
              have x1 := hA.val 0 37 rfl rfl ⟨⟨0, .data⟩, by simp, rfl, rfl⟩ rfl
              exact wp_value (w' := w') (v := .pointer (some ⟨bb, 0, none⟩)) (by simp only [execOp, x1]; simp [go_sem]) ⟨_, rfl, rfl, Ext.refl _⟩
            · refine duty_free rfl fun a w' hE hF hA => ?_
              have x1 := hA.val 1 38 rfl rfl ⟨⟨1, .data⟩, by simp, rfl, rfl⟩ rfl
              exact wp_value (w' := w') (v := .pointer (some ⟨bb, 3, none⟩)) (by simp only [execOp, x1]; simp [go_sem]) ⟨_, rfl, rfl, Ext.refl _⟩
            · refine duty_free rfl fun a w' hE hF hA => ?_
              have x1 := hA.val 2 39 rfl rfl ⟨⟨2, .data⟩, by simp, rfl, rfl⟩ rfl
              exact wp_value (ex_cell rfl _ _ x1 ((hE.cell (World.block_lt_of_cell? _ _ c3)).trans c3) rfl Tryd.underlying105) ⟨_, rfl, rfl, Ext.refl _⟩
            · refine duty_free rfl fun a w' hE hF hA => ?_
              have x1 := hA.val 3 40 rfl rfl ⟨⟨3, .data⟩, by simp, rfl, rfl⟩ rfl
              exact wp_value (w' := w') (v := .int .i64 R.length) (by simp only [execOp, resolve, List.map_toArray, List.map_cons, List.map_nil, x1]; simp [go_sem, invoke, builtin, Builtin.len_]) ⟨_, rfl, rfl, Ext.refl _⟩
            · refine duty_free rfl fun a w' hE hF hA => ?_
              have x1 := hF.slot 0 _ (by decide) rfl
              exact wp_value (w' := w') (v := .pointer (some ⟨bb, 0, none⟩)) (by simp only [execOp, x1]; simp [go_sem]) ⟨_, rfl, rfl, Ext.refl _⟩
            · refine duty_free rfl fun a w' hE hF hA => ?_
              have x1 := hA.val 5 42 rfl rfl ⟨⟨5, .data⟩, by simp, rfl, rfl⟩ rfl
              exact wp_value (w' := w') (v := .pointer (some ⟨bb, 0, none⟩)) (by simp only [execOp, x1]; simp [go_sem]) ⟨_, rfl, rfl, Ext.refl _⟩
            · refine duty_free rfl fun a w' hE hF hA => ?_
              have x1 := hA.val 6 43 rfl rfl ⟨⟨6, .data⟩, by simp, rfl, rfl⟩ rfl
              exact wp_value (w' := w') (v := .pointer (some ⟨bb, 1, none⟩)) (by simp only [execOp, x1]; simp [go_sem]) ⟨_, rfl, rfl, Ext.refl _⟩
            · refine duty_free rfl fun a w' hE hF hA => ?_
              have x1 := hA.val 7 44 rfl rfl ⟨⟨7, .data⟩, by simp, rfl, rfl⟩ rfl
              exact wp_value (ex_cell rfl _ _ x1 ((hE.cell (World.block_lt_of_cell? _ _ c1)).trans c1) rfl Tryd.underlying3) ⟨_, rfl, rfl, Ext.refl _⟩
            · refine duty_free rfl fun a w' hE hF hA => ?_
              have x1 := hA.val 4 41 rfl rfl ⟨⟨4, .data⟩, by simp, rfl, rfl⟩ rfl
              have x2 := hA.val 8 45 rfl rfl ⟨⟨8, .data⟩, by simp, rfl, rfl⟩ rfl
              exact wp_value (w' := w') (v := .bool true) (by simp only [execOp, x1, x2]; simp [go_sem, hlt]) ⟨_, rfl, rfl, Ext.refl _⟩
          case rest =>
            intro W3 hE3
            clear c1 c3
            simp only [filled, List.zip_cons_cons, List.zip_nil_left, List.foldl_cons, List.foldl_nil, Act.put, List.setIfInBounds_toArray, List.set_cons_succ, List.set_cons_zero, Exit.then]
            rename_i hK
            refine hK _ _ ?_
            go_wp2
            have hb3 := (hE3.block bb (Array.getElem?_eq_some_iff.1 HB2.out).1).trans HB2.out
            have ce3 := (hE3.block _ (Array.getElem?_eq_some_iff.1 HCE.out).1).trans HCE.out
            have c3 : W3.cell? ⟨bb, 3, none⟩ = some (.slice ra R.length rc) := cell_of_row _ _ 3 _ _ _ hb3
            have hring3 := ownsRow_ext HRING2.out hE3
            have hC3 : Chg S w W3 := HC2.out.trans (Chg.of_ext (S := S) hE3) fun _ _ h => h
            have hz3 := hE3.size
            have hbnd := HB.out.bound
            have hown := HB.out.own
            obtain ⟨i0, hi, hz0, hz1', hz2⟩ := info_parts infoEnt
            have hG0 : GA S W3 bb (fun v' => bookC every most z v' first) false W3.drew := ⟨fun _ => Ext.drew _, Chg.of_ext (Ext.drew _), _, hb3⟩
            refine wp_region_P (by kernel_rfl) (region_pivot 80 7 (GA S W3 bb (fun v' => bookC every most z v' first)) hG0 (PhiA bb (.slice ra R.length rc) R.length (entC R) z v W3.heap.size (fun v' => bookC every most z v' first)) ?hund (by decide) rfl (by decide) ?duties2 ?hend)
            case hund =>
              intro i u w' h ho
              match i, h, ho with
              | 10, h, _ => exact h
              | 0, _, ho | 1, _, ho | 2, _, ho | 3, _, ho | 4, _, ho | 5, _, ho | 6, _, ho | 7, _, ho | 8, _, ho | 9, _, ho => simp at ho
            case duties2 =>
              refine ⟨?_, ?_, ?_, ?_, ?_, ?_, ?_, ?_, ?_, ?_, ?_, trivial⟩
              · exact dutyP_ext rfl PhiA.ext GA.ext fun b a w' hb hGw hF hA => wp_value (w' := w') (ex_move rfl) ⟨_, rfl, hF.slot 0 _ (by decide) rfl, Ext.refl _⟩
              · exact dutyP_ext rfl PhiA.ext GA.ext fun b a w' hb hGw hF hA => wp_value (w' := w') (ex_move rfl) ⟨_, rfl, hF.slot 0 _ (by decide) rfl, Ext.refl _⟩
              · refine dutyP_ext rfl PhiA.ext GA.ext fun b a w' hb hGw hF hA => ?_
                have x1 : a.eval (.tmp 48) = _ := hA.slot 1 48 rfl rfl ⟨⟨1, .data⟩, by simp, rfl, rfl⟩
                exact wp_value (ex_nilCheck rfl _ x1) ⟨_, rfl, rfl, Ext.refl _⟩
              · refine dutyP_ext rfl PhiA.ext GA.ext fun b a w' hb hGw hF hA => ?_
                have x1 : a.eval (.tmp 49) = _ := hA.slot 2 49 rfl rfl ⟨⟨2, .data⟩, by simp, rfl, rfl⟩
                exact wp_value (v := .pointer (some ⟨bb, 3, none⟩)) (w' := w') (by simp only [execOp, x1]; simp [go_sem]) ⟨_, rfl, rfl, Ext.refl _⟩
              · refine dutyP_ext rfl PhiA.ext GA.ext fun b a w' hb hGw hF hA => ?_
                have hE := hGw.1 (hb (by kernel_rfl))
                have x1 : a.eval (.tmp 50) = _ := hA.slot 3 50 rfl rfl ⟨⟨3, .data⟩, by simp, rfl, rfl⟩
                exact wp_value (ex_cell rfl _ _ x1 ((hE.cell (World.block_lt_of_cell? _ _ c3)).trans c3) rfl Tryd.underlying105) ⟨_, rfl, rfl, Ext.refl _⟩
              · refine dutyP_ext rfl PhiA.ext GA.ext fun b a w' hb hGw hF hA => ?_
                have hE := hGw.1 (hb (by kernel_rfl))
                have x1 := hF.slot 7 _ (by decide) rfl
                exact wp_value (ex_load_row rfl _ x1 109 _ (0, 0) _ ((hE.block _ (Array.getElem?_eq_some_iff.1 ce3).1).trans ce3) Tryd.underlying109 rfl sizeEnt) ⟨_, rfl, rfl, Ext.refl _⟩
              · refine dutyP_ext rfl PhiA.ext GA.ext fun b a w' hb hGw hF hA => ?_
                have hE := hGw.1 (hb (by kernel_rfl))
                have x1 : a.eval (.tmp 52) = _ := hA.slot 5 52 rfl rfl ⟨⟨5, .data⟩, by simp, rfl, rfl⟩
                refine wp_buildSlice 105 109 1 _ rfl #[.int .i64 z, .int .u64 v] i0 (.agg #[.int .i64 0, .int .u64 0]) Tryd.underlying105 hi hz0 (by rw [hz1']; decide) (by rw [hz1']; decide) (by simp only [List.map_toArray, List.map_cons, List.map_nil, x1, hz1']; kernel_rfl) ⟨_, rfl, ⟨w'.heap.size, rfl, hE.size, heap_alloc_new _ _⟩, Ext.alloc _ _⟩
              · intro b a w' hb _ hGw hF hA
                obtain rfl := hb (by kernel_rfl)
                have hE := hGw.1 rfl
                have hzE := hE.size
                have x1 : a.eval (.tmp 51) = _ := hA.slot 4 51 rfl rfl ⟨⟨4, .data⟩, by simp, rfl, rfl⟩
                obtain ⟨g, x2, hgB, hg⟩ : ∃ g, a.eval (.tmp 53) = .slice (some ⟨g, 0, none⟩) 1 1 ∧ W3.heap.size ≤ g ∧ w'.heap[g]? = some (.cells #[.int .i64 z, .int .u64 v] 109 (0, 0)) := hA.slot 6 53 rfl rfl ⟨⟨6, .data⟩, by simp, rfl, rfl⟩
                have hcs : Cells w'.heap.size w' (some ⟨g, 0, none⟩) [.int .i64 z, .int .u64 v] := fun j u hj => ⟨g, 0, rfl, (Array.getElem?_eq_some_iff.1 hg).1, by rw [Nat.zero_add, cell_of_row _ _ _ _ _ _ hg]; simpa using hj⟩
                have hsrc : Src Tryd.prog 2 105 (.slice (some ⟨g, 0, none⟩) 1 1) 1 [.int .i64 z, .int .u64 v] w' := hcs.src Tryd.underlying105 1 1 rfl (by simp [Value.oneCell'])
                obtain ⟨v', w2, hr, hown2, hgr, _, h5⟩ := run_append_own_src (P := Tryd.prog) w' 0 105 105 105 109 i0 (.agg #[.int .i64 0, .int .u64 0]) 2 16 Tryd.underlying105 hi hz0 hz1' hz2 rfl (by decide) _ R.length _ (ownsRow_ext hring3 hE) _ 1 _ hsrc (by unfold maxLen; omega) hR (Nat.zero_le _)
                have hgs := hgr.size
                have hlt2 : ∀ k, v'.ownBlock = some k → k < w2.heap.size := fun k hk => by
                  obtain ⟨c, hc⟩ := ownBlock_lt hown2 k hk
                  exact (Array.getElem?_eq_some_iff.1 hc).1
                refine wp_value (ex_append rfl (by rw [x1, x2]; exact hr)) ⟨_, rfl, ⟨hown2, fun k hk => ⟨?_, hlt2 k hk⟩⟩, fun j u _ hj h => ?_, ⟨fun e => (by cases e), ?_, ?_⟩⟩
                · rcases h5 with h5 | h5
                  · left; rw [← h5]; exact hk
                  · right; rw [h5] at hk; have := Option.some.inj hk; omega
                · have hj := hj rfl
                  match j, hj, h with
                  | 0, _, h | 1, _, h | 2, _, h | 3, _, h | 4, _, h | 5, _, h => exact h
                  | 6, _, ⟨g', h1, h2, h3⟩ => exact ⟨g', h1, h2, (hgr.block g' (Array.getElem?_eq_some_iff.1 h3).1 (fun e => by have := hbnd _ (hown _ e.symm).1; omega)).trans h3⟩
                · exact (Chg.of_ext hE).trans (Chg.grown (S := S) hgr fun k hk _ => (hown k hk).1) fun _ _ h => h
                · exact ⟨_, (hgr.block bb (Nat.lt_of_lt_of_le (Array.getElem?_eq_some_iff.1 hb3).1 hzE) (fun e => (hown _ e.symm).2 rfl)).trans ((hE.block bb (Array.getElem?_eq_some_iff.1 hb3).1).trans hb3)⟩
              · refine dutyP_ext rfl PhiA.ext GA.ext fun b a w' hb hGw hF hA => ?_
                have x1 : a.eval (.tmp 47) = _ := hA.slot 0 47 rfl rfl ⟨⟨0, .data⟩, by simp, rfl, rfl⟩
                exact wp_value (ex_nilCheck rfl _ x1) ⟨_, rfl, rfl, Ext.refl _⟩
              · refine dutyP_ext rfl PhiA.ext GA.ext fun b a w' hb hGw hF hA => ?_
                have x1 : a.eval (.tmp 55) = _ := hA.slot 8 55 rfl rfl ⟨⟨8, .data⟩, by simp, rfl, rfl⟩
                exact wp_value (v := .pointer (some ⟨bb, 3, none⟩)) (w' := w') (by simp only [execOp, x1]; simp [go_sem]) ⟨_, rfl, rfl, Ext.refl _⟩
              · intro b a w' _ hb hGw hF hA
                obtain rfl := hb (by decide)
                obtain ⟨_, hCw, v0, hb0⟩ := hGw
                have x1 : a.eval (.tmp 56) = _ := hA.slot 9 56 rfl rfl ⟨⟨9, .data⟩, by simp, rfl, rfl⟩
                have x2 : RingA (.slice ra R.length rc) R.length (entC R) z v W3.heap.size (a.eval (.tmp 54)) w' := hA.slot 7 54 rfl rfl ⟨⟨7, .data⟩, by simp, rfl, rfl⟩
                obtain ⟨a', c', hx2, _⟩ := ownsRow_from x2.1
                have hnb : ∀ k, (a.eval (.tmp 54)).ownBlock = some k → k ≠ bb := fun k hk => by
                  rcases (x2.2 k hk).1 with h | h
                  · exact (hown k h).2
                  · have := (Array.getElem?_eq_some_iff.1 hb3).1; omega
                have hst : ∀ u, RingA (.slice ra R.length rc) R.length (entC R) z v W3.heap.size u w' → (∀ k, u.ownBlock = some k → k ≠ bb) → RingA (.slice ra R.length rc) R.length (entC R) z v W3.heap.size u (w'.setRow bb (bookC every most z (.slice a' (R.length + 1) c') first)) := fun u h hk =>
                  ⟨row_at h.1 fun g c hg hc => (setRow_other _ _ _ _ (hk g hg)).trans hc, fun k hk' => ⟨(h.2 k hk').1, by simpa using (h.2 k hk').2⟩⟩
                refine wp_store_in 105 (.tmp 56) (.tmp 54) bb 3 (.slice a' (R.length + 1) c') 107 _ (bookC every most z (.slice a' (R.length + 1) c') first) hb0 (by simp [Value.cells, bookC]) infoEnts (by simp [Value.cells, bookC]) (by simp [Value.cells, Value.oneCell']) ?_ rfl x1 hx2
                refine ⟨undef, rfl, ⟨_, setRow_heap _ _ _ _ _ _ hb0, hst _ (by rw [← hx2]; exact x2) (by rw [← hx2]; exact hnb)⟩, fun j u hj _ h => ?_, ⟨fun e => (by cases e), hCw.trans (Chg.set (S := S) bb w' _ HB.out.mine) fun _ _ h => h, _, setRow_heap _ _ _ _ _ _ hb0⟩⟩
                match j, hj, h with
                | 0, _, h | 1, _, h | 2, _, h | 3, _, h | 4, _, h | 5, _, h | 8, _, h | 9, _, h => exact h
                | 6, _, ⟨g', h1, h2, h3⟩ => exact ⟨g', h1, h2, (setRow_other _ _ _ _ (by have := (Array.getElem?_eq_some_iff.1 hb3).1; omega)).trans h3⟩
                | 7, _, h =>
                  refine hst u h fun k hk => ?_
                  rcases (h.2 k hk).1 with h' | h'
                  · exact (hown k h').2
                  · have := (Array.getElem?_eq_some_iff.1 hb3).1
                    omega
                | 10, hj, _ => exact absurd rfl hj
                | j + 11, _, h => exact h.elim
            case hend =>
              intro us W4 hG4 hl hP
              have hl' : us.length = 11 := by simpa using hl
              clear hl
              obtain ⟨u0, u1, u2, u3, u4, u5, u6, u7, u8, u9, u10, rfl⟩ := us11 us hl'
              have h10 : PhiA bb (.slice ra R.length rc) R.length (entC R) z v W3.heap.size (fun v' => bookC every most z v' first) 10 u10 W4 := hP 10 u10 rfl
              have hfin : NoteOut S bb every most (true, z, R ++ [(z, v)], first) w (.returned (.bool true)) W4 := by
                obtain ⟨v', h1, h2, h3⟩ := h10
                have hCC := hC3.trans hG4.2.1 fun _ _ h => h
                refine ⟨rfl, ⟨v', h1, ?_, fun k hk => ?_, .inl HB.out.mine, fun k hk => hk.elim (fun hk => Nat.lt_of_lt_of_le (hbnd k hk) hCC.size) fun hk => hk.2⟩, hCC⟩
                · rw [entC_append, List.length_append]; exact h2
                · rcases (h3 k hk).1 with h | h
                  · exact ⟨.inl (hown k h).1, (hown k h).2⟩
                  · exact ⟨.inr ⟨by omega, (h3 k hk).2⟩, by omega⟩
              have HFIN := Lib.hid hfin
              clear hfin h10 hP hG4 hl'
              simp only [filled, List.zip_cons_cons, List.zip_nil_left, List.foldl_cons, List.foldl_nil, Act.put, List.setIfInBounds_toArray, List.set_cons_succ, List.set_cons_zero, Exit.inBlock, Exit.then]
              rename_i hK2
              refine hK2 _ _ ?_
              go_wp2
              go_ret
              exact HFIN.out
        · have hRn : R.length = most.toNat := by omega
          obtain ⟨g, cur, hra, hgc, hcs, htk⟩ : ∃ g cur, ra = some ⟨g, 0, none⟩ ∧ W2.heap[g]? = some (.cells cur 109 (0, 0)) ∧ R.length * 2 ≤ cur.size ∧ cur.toList.take (R.length * 2) = entC R := by
            rcases HRING2.out.2 with ⟨_, h0⟩ | ⟨g, cap, cur, e, _, h1, h2, _, h3, h4⟩
            · omega
            · simp only [Value.slice.injEq] at e
              exact ⟨g, cur, e.1, h1, by rw [h3]; exact Nat.mul_le_mul_right _ h2, h4⟩
          subst hra
          have HGC := Lib.hid hgc
          have HTK := Lib.hid htk
          have hgS : S g ∧ g ≠ bb := HB.out.own g rfl
          have hgw := HB.out.bound g hgS.1
          obtain ⟨cs, hcsE⟩ : ∃ cs : Array Value, cs = (cur.toList.take (first * 2) ++ [Value.int .i64 z, Value.int .u64 v] ++ cur.toList.drop (first * 2 + 2)).toArray := ⟨_, rfl⟩
          obtain ⟨f', hf'⟩ : ∃ f', f' = (((first + 1 : Nat) : Int).tmod most).toNat := ⟨_, rfl⟩
          have HCSE := Lib.hid hcsE
          have HF' := Lib.hid hf'
          clear hgc htk hcsE hf' hRn
          have hmne : most ≠ 0 := by omega
          have hRpos : 0 < R.length := by omega
          have hfR : first < R.length := by omega
          have hwr : IntKind.i64.wrap ((first : Int) + 1) = ((first + 1 : Nat) : Int) := by rw [IntKind.wrap_i64]; omega
          rw [show noteR every most last R first z v = (true, z, R.set first (z, v), f') by unfold noteR; rw [if_neg (by omega), if_neg hmod, if_neg hlt, HF'.out]]
          clear hmod
          go_enter Tryd.func25, Tryd.ntmps25
          go_wp2_with (first | (refine wpList_store_in rfl 2 (.tmp 25) (.tmp 23) rfl bb 2 (.int .i64 z) rfl rfl (by simp [Value.cells, Value.oneCell']) 107 _ HBLK.out (by simp [Value.cells]) infoI64 #[.int .i64 every, .int .i64 most, .int .i64 z, .slice (some ⟨g, 0, none⟩) R.length rc, .int .i64 first] (by simp [Value.cells]) ?_; rw [← HW1.out]) | (refine wpList_store_row rfl 109 (.tmp 7) (.tmp 36) rfl W1.heap.size _ rfl rfl 109 _ HNew.out sizeEnt rfl (by simp [Value.oneCell']) ?_; rw [HSET.out]))
          have c1 := HC1'.out
          have c3 := HC3'.out
          refine wp_region_P (by kernel_rfl) (region_vals 80 [.pointer (some ⟨bb, 0, none⟩), .pointer (some ⟨bb, 0, none⟩), .pointer (some ⟨bb, 3, none⟩), .slice (some ⟨g, 0, none⟩) R.length rc, .int .i64 R.length, .pointer (some ⟨bb, 0, none⟩), .pointer (some ⟨bb, 0, none⟩), .pointer (some ⟨bb, 1, none⟩), .int .i64 most, .bool false] rfl (by decide) rfl ?duties ?rest)
          case duties =>
            refine ⟨?_, ?_, ?_, ?_, ?_, ?_, ?_, ?_, ?_, ?_, trivial⟩
            · refine duty_free rfl fun a w' hE hF hA => ?_
              have x1 := hF.slot 0 _ (by decide) rfl
              exact wp_value (w' := w') (v := .pointer (some ⟨bb, 0, none⟩)) (by simp only [execOp, x1]; simp [go_sem]) ⟨_, rfl, rfl, Ext.refl _⟩
            · refine duty_free rfl fun a w' hE hF hA => ?_
              have x1 := hA.val 0 37 rfl rfl ⟨⟨0, .data⟩, by simp, rfl, rfl⟩ rfl
              exact wp_value (w' := w') (v := .pointer (some ⟨bb, 0, none⟩)) (by simp only [execOp, x1]; simp [go_sem]) ⟨_, rfl, rfl, Ext.refl _⟩
            · refine duty_free rfl fun a w' hE hF hA => ?_
              have x1 := hA.val 1 38 rfl rfl ⟨⟨1, .data⟩, by simp, rfl, rfl⟩ rfl
              exact wp_value (w' := w') (v := .pointer (some ⟨bb, 3, none⟩)) (by simp only [execOp, x1]; simp [go_sem]) ⟨_, rfl, rfl, Ext.refl _⟩
            · refine duty_free rfl fun a w' hE hF hA => ?_
              have x1 := hA.val 2 39 rfl rfl ⟨⟨2, .data⟩, by simp, rfl, rfl⟩ rfl
              exact wp_value (ex_cell rfl _ _ x1 ((hE.cell (World.block_lt_of_cell? _ _ c3)).trans c3) rfl Tryd.underlying105) ⟨_, rfl, rfl, Ext.refl _⟩
            · refine duty_free rfl fun a w' hE hF hA => ?_
              have x1 := hA.val 3 40 rfl rfl ⟨⟨3, .data⟩, by simp, rfl, rfl⟩ rfl
              exact wp_value (w' := w') (v := .int .i64 R.length) (by simp only [execOp, resolve, List.map_toArray, List.map_cons, List.map_nil, x1]; simp [go_sem, invoke, builtin, Builtin.len_]) ⟨_, rfl, rfl, Ext.refl _⟩
            · refine duty_free rfl fun a w' hE hF hA => ?_
              have x1 := hF.slot 0 _ (by decide) rfl
              exact wp_value (w' := w') (v := .pointer (some ⟨bb, 0, none⟩)) (by simp only [execOp, x1]; simp [go_sem]) ⟨_, rfl, rfl, Ext.refl _⟩
            · refine duty_free rfl fun a w' hE hF hA => ?_
              have x1 := hA.val 5 42 rfl rfl ⟨⟨5, .data⟩, by simp, rfl, rfl⟩ rfl
              exact wp_value (w' := w') (v := .pointer (some ⟨bb, 0, none⟩)) (by simp only [execOp, x1]; simp [go_sem]) ⟨_, rfl, rfl, Ext.refl _⟩
            · refine duty_free rfl fun a w' hE hF hA => ?_
              have x1 := hA.val 6 43 rfl rfl ⟨⟨6, .data⟩, by simp, rfl, rfl⟩ rfl
              exact wp_value (w' := w') (v := .pointer (some ⟨bb, 1, none⟩)) (by simp only [execOp, x1]; simp [go_sem]) ⟨_, rfl, rfl, Ext.refl _⟩
            · refine duty_free rfl fun a w' hE hF hA => ?_
              have x1 := hA.val 7 44 rfl rfl ⟨⟨7, .data⟩, by simp, rfl, rfl⟩ rfl
              exact wp_value (ex_cell rfl _ _ x1 ((hE.cell (World.block_lt_of_cell? _ _ c1)).trans c1) rfl Tryd.underlying3) ⟨_, rfl, rfl, Ext.refl _⟩
            · refine duty_free rfl fun a w' hE hF hA => ?_
              have x1 := hA.val 4 41 rfl rfl ⟨⟨4, .data⟩, by simp, rfl, rfl⟩ rfl
              have x2 := hA.val 8 45 rfl rfl ⟨⟨8, .data⟩, by simp, rfl, rfl⟩ rfl
              exact wp_value (w' := w') (v := .bool false) (by simp only [execOp, x1, x2]; simp [go_sem, hlt]) ⟨_, rfl, rfl, Ext.refl _⟩
          case rest =>
            intro W3 hE3
            clear c1 c3
            simp only [filled, List.zip_cons_cons, List.zip_nil_left, List.foldl_cons, List.foldl_nil, Act.put, List.setIfInBounds_toArray, List.set_cons_succ, List.set_cons_zero, Exit.then]
            rename_i hK
            refine hK _ _ ?_
            go_wp2
            have hb3 := (hE3.block bb (Array.getElem?_eq_some_iff.1 HB2.out).1).trans HB2.out
            have ce := (hE3.block _ (Array.getElem?_eq_some_iff.1 HCE.out).1).trans HCE.out
            have c3 : W3.cell? ⟨bb, 3, none⟩ = some (.slice (some ⟨g, 0, none⟩) R.length rc) := cell_of_row _ _ 3 _ _ _ hb3
            have c4 : W3.cell? ⟨bb, 4, none⟩ = some (.int .i64 first) := cell_of_row _ _ 4 _ _ _ hb3
            have hz3 := hE3.size
            refine wp_region_P (by kernel_rfl) (region_store_vals 80 [.pointer (some ⟨bb, 0, none⟩), .pointer (some ⟨bb, 0, none⟩), .pointer (some ⟨bb, 3, none⟩), .slice (some ⟨g, 0, none⟩) R.length rc, .pointer (some ⟨bb, 0, none⟩), .pointer (some ⟨bb, 0, none⟩), .pointer (some ⟨bb, 4, none⟩), .int .i64 first, .agg #[.int .i64 z, .int .u64 v], .pointer (some ⟨g, first * 2, none⟩)] 10 _ rfl rfl rfl rfl rfl (by decide) rfl ?duties2 ?last2)
            case duties2 =>
              refine ⟨?_, ?_, ?_, ?_, ?_, ?_, ?_, ?_, ?_, ?_, trivial⟩
              · refine duty_free rfl fun a w' hE hF hA => ?_
                have x1 := hF.slot 0 _ (by decide) rfl
                exact wp_value (w' := w') (v := .pointer (some ⟨bb, 0, none⟩)) (by simp only [execOp, x1]; simp [go_sem]) ⟨_, rfl, rfl, Ext.refl _⟩
              · refine duty_free rfl fun a w' hE hF hA => ?_
                have x1 := hA.val 0 57 rfl rfl ⟨⟨0, .data⟩, by simp, rfl, rfl⟩ rfl
                exact wp_value (w' := w') (v := .pointer (some ⟨bb, 0, none⟩)) (by simp only [execOp, x1]; simp [go_sem]) ⟨_, rfl, rfl, Ext.refl _⟩
              · refine duty_free rfl fun a w' hE hF hA => ?_
                have x1 := hA.val 1 58 rfl rfl ⟨⟨1, .data⟩, by simp, rfl, rfl⟩ rfl
                exact wp_value (w' := w') (v := .pointer (some ⟨bb, 3, none⟩)) (by simp only [execOp, x1]; simp [go_sem]) ⟨_, rfl, rfl, Ext.refl _⟩
              · refine duty_free rfl fun a w' hE hF hA => ?_
                have x1 := hA.val 2 59 rfl rfl ⟨⟨2, .data⟩, by simp, rfl, rfl⟩ rfl
                exact wp_value (ex_cell rfl _ _ x1 ((hE.cell (World.block_lt_of_cell? _ _ c3)).trans c3) rfl Tryd.underlying105) ⟨_, rfl, rfl, Ext.refl _⟩
              · refine duty_free rfl fun a w' hE hF hA => ?_
                have x1 := hF.slot 0 _ (by decide) rfl
                exact wp_value (w' := w') (v := .pointer (some ⟨bb, 0, none⟩)) (by simp only [execOp, x1]; simp [go_sem]) ⟨_, rfl, rfl, Ext.refl _⟩
              · refine duty_free rfl fun a w' hE hF hA => ?_
                have x1 := hA.val 4 61 rfl rfl ⟨⟨4, .data⟩, by simp, rfl, rfl⟩ rfl
                exact wp_value (w' := w') (v := .pointer (some ⟨bb, 0, none⟩)) (by simp only [execOp, x1]; simp [go_sem]) ⟨_, rfl, rfl, Ext.refl _⟩
              · refine duty_free rfl fun a w' hE hF hA => ?_
                have x1 := hA.val 5 62 rfl rfl ⟨⟨5, .data⟩, by simp, rfl, rfl⟩ rfl
                exact wp_value (w' := w') (v := .pointer (some ⟨bb, 4, none⟩)) (by simp only [execOp, x1]; simp [go_sem]) ⟨_, rfl, rfl, Ext.refl _⟩
              · refine duty_free rfl fun a w' hE hF hA => ?_
                have x1 := hA.val 6 63 rfl rfl ⟨⟨6, .data⟩, by simp, rfl, rfl⟩ rfl
                exact wp_value (ex_cell rfl _ _ x1 ((hE.cell (World.block_lt_of_cell? _ _ c4)).trans c4) rfl Tryd.underlying3) ⟨_, rfl, rfl, Ext.refl _⟩
              · refine duty_free rfl fun a w' hE hF hA => ?_
                have x1 := hF.slot 7 _ (by decide) rfl
                exact wp_value (ex_load_row rfl _ x1 109 _ (0, 0) _ ((hE.block _ (Array.getElem?_eq_some_iff.1 ce).1).trans ce) Tryd.underlying109 rfl sizeEnt) ⟨_, rfl, rfl, Ext.refl _⟩
              · refine duty_free rfl fun a w' hE hF hA => ?_
                have x1 := hA.val 3 60 rfl rfl ⟨⟨3, .data⟩, by simp, rfl, rfl⟩ rfl
                have x2 := hA.val 7 64 rfl rfl ⟨⟨7, .data⟩, by simp, rfl, rfl⟩ rfl
                exact wp_value (w' := w') (v := .pointer (some ⟨g, first * 2, none⟩)) (by simp only [execOp, x1, x2]; simp [go_sem, hfR]) ⟨_, rfl, rfl, Ext.refl _⟩
            case last2 =>
              intro W4 hE4
              have hg4 : W4.heap[g]? = some (.cells cur 109 (0, 0)) := ((hE3.trans hE4).block g (Array.getElem?_eq_some_iff.1 HGC.out).1).trans HGC.out
              have hb4 := (hE4.block bb (Array.getElem?_eq_some_iff.1 hb3).1).trans hb3
              have hg5 : (W4.setRow g cs).heap[g]? = some (.cells cs 109 (0, 0)) := setRow_heap _ _ _ _ _ _ hg4
              have hb5 := (setRow_other W4 g bb cs hgS.2.symm).trans hb4
              have hC5 : Chg S w (W4.setRow g cs) := ((HC2.out.trans (Chg.of_ext (S := S) hE3) fun _ _ h => h).trans (Chg.of_ext (S := S) hE4) fun _ _ h => h).trans (Chg.set (S := S) g W4 cs hgS.1) fun _ _ h => h
              have d1 : (W4.setRow g cs).cell? ⟨bb, 1, none⟩ = some (.int .i64 most) := cell_of_row _ _ 1 _ _ _ hb5
              have d4 : (W4.setRow g cs).cell? ⟨bb, 4, none⟩ = some (.int .i64 first) := cell_of_row _ _ 4 _ _ _ hb5
              have hz4 := hE4.size
              have hz5a : (W4.setRow g cs).heap.size ≤ W4.heap.size := by simp
              have hz5b : W4.heap.size ≤ (W4.setRow g cs).heap.size := by simp
              simp only [filled, List.take_succ_cons, List.take_zero, List.zip_cons_cons, List.zip_nil_left, List.foldl_cons, List.foldl_nil, Act.put, List.setIfInBounds_toArray, List.set_cons_succ, List.set_cons_zero]
              refine wp_store_in 109 (.tmp 66) (.tmp 65) g (first * 2) (.agg #[.int .i64 z, .int .u64 v]) 109 cur cs hg4 (by simp [Value.cells]; omega) (by simpa [Value.cells] using sizeEnt) (by rw [HCSE.out]; simp [Value.cells]) (by simp [Value.cells, Value.oneCell']) ?_ rfl rfl rfl
              generalize W4.setRow g cs = W5 at hg5 hb5 hC5 d1 d4 hz5a hz5b ⊢
              have HG5 := Lib.hid hg5
              have HB5 := Lib.hid hb5
              have HC5 := Lib.hid hC5
              have HD1 := Lib.hid d1
              have HD4 := Lib.hid d4
              clear hg4 hb4 hg5 hb5 hC5 d1 d4 c3 c4 ce hb3
              simp only [Exit.inBlock, Exit.then, Act.put]
              rename_i hK2
              refine hK2 _ _ ?_
              go_wp2
              rename_i hK3 _ _
              have d1 := HD1.out
              have d4 := HD4.out
              refine wp_region_P (by kernel_rfl) (region_store_vals 80 [.pointer (some ⟨bb, 0, none⟩), .pointer (some ⟨bb, 0, none⟩), .pointer (some ⟨bb, 0, none⟩), .pointer (some ⟨bb, 4, none⟩), .int .i64 first, .int .i64 ((first + 1 : Nat) : Int), .pointer (some ⟨bb, 0, none⟩), .pointer (some ⟨bb, 0, none⟩), .pointer (some ⟨bb, 1, none⟩), .int .i64 most, .int .i64 (((first + 1 : Nat) : Int).tmod most), .pointer (some ⟨bb, 0, none⟩), .pointer (some ⟨bb, 4, none⟩)] 13 _ rfl rfl rfl rfl rfl (by decide) rfl ?duties3 ?last3)
              case duties3 =>
                refine ⟨?_, ?_, ?_, ?_, ?_, ?_, ?_, ?_, ?_, ?_, ?_, ?_, ?_, trivial⟩
                · refine duty_free rfl fun a w' hE hF hA => ?_
                  have x1 := hF.slot 0 _ (by decide) rfl
                  exact wp_value (w' := w') (v := .pointer (some ⟨bb, 0, none⟩)) (by simp only [execOp, x1]; simp [go_sem]) ⟨_, rfl, rfl, Ext.refl _⟩
                · refine duty_free rfl fun a w' hE hF hA => ?_
                  have x1 := hF.slot 0 _ (by decide) rfl
                  exact wp_value (w' := w') (v := .pointer (some ⟨bb, 0, none⟩)) (by simp only [execOp, x1]; simp [go_sem]) ⟨_, rfl, rfl, Ext.refl _⟩
                · refine duty_free rfl fun a w' hE hF hA => ?_
                  have x1 := hA.val 1 68 rfl rfl ⟨⟨1, .data⟩, by simp, rfl, rfl⟩ rfl
                  exact wp_value (w' := w') (v := .pointer (some ⟨bb, 0, none⟩)) (by simp only [execOp, x1]; simp [go_sem]) ⟨_, rfl, rfl, Ext.refl _⟩
                · refine duty_free rfl fun a w' hE hF hA => ?_
                  have x1 := hA.val 2 69 rfl rfl ⟨⟨2, .data⟩, by simp, rfl, rfl⟩ rfl
                  exact wp_value (w' := w') (v := .pointer (some ⟨bb, 4, none⟩)) (by simp only [execOp, x1]; simp [go_sem]) ⟨_, rfl, rfl, Ext.refl _⟩
                · refine duty_free rfl fun a w' hE hF hA => ?_
                  have x1 := hA.val 3 70 rfl rfl ⟨⟨3, .data⟩, by simp, rfl, rfl⟩ rfl
                  exact wp_value (ex_cell rfl _ _ x1 ((hE.cell (World.block_lt_of_cell? _ _ d4)).trans d4) rfl Tryd.underlying3) ⟨_, rfl, rfl, Ext.refl _⟩
                · refine duty_free rfl fun a w' hE hF hA => ?_
                  have x1 := hA.val 4 71 rfl rfl ⟨⟨4, .data⟩, by simp, rfl, rfl⟩ rfl
                  exact wp_value (w' := w') (v := .int .i64 ((first + 1 : Nat) : Int)) (by simp only [execOp, x1]; simp [go_sem, hwr]) ⟨_, rfl, rfl, Ext.refl _⟩
                · refine duty_free rfl fun a w' hE hF hA => ?_
                  have x1 := hF.slot 0 _ (by decide) rfl
                  exact wp_value (w' := w') (v := .pointer (some ⟨bb, 0, none⟩)) (by simp only [execOp, x1]; simp [go_sem]) ⟨_, rfl, rfl, Ext.refl _⟩
                · refine duty_free rfl fun a w' hE hF hA => ?_
                  have x1 := hA.val 6 73 rfl rfl ⟨⟨6, .data⟩, by simp, rfl, rfl⟩ rfl
                  exact wp_value (w' := w') (v := .pointer (some ⟨bb, 0, none⟩)) (by simp only [execOp, x1]; simp [go_sem]) ⟨_, rfl, rfl, Ext.refl _⟩
                · refine duty_free rfl fun a w' hE hF hA => ?_
                  have x1 := hA.val 7 74 rfl rfl ⟨⟨7, .data⟩, by simp, rfl, rfl⟩ rfl
                  exact wp_value (w' := w') (v := .pointer (some ⟨bb, 1, none⟩)) (by simp only [execOp, x1]; simp [go_sem]) ⟨_, rfl, rfl, Ext.refl _⟩
                · refine duty_free rfl fun a w' hE hF hA => ?_
                  have x1 := hA.val 8 75 rfl rfl ⟨⟨8, .data⟩, by simp, rfl, rfl⟩ rfl
                  exact wp_value (ex_cell rfl _ _ x1 ((hE.cell (World.block_lt_of_cell? _ _ d1)).trans d1) rfl Tryd.underlying3) ⟨_, rfl, rfl, Ext.refl _⟩
                · refine duty_free rfl fun a w' hE hF hA => ?_
                  have x1 := hA.val 5 72 rfl rfl ⟨⟨5, .data⟩, by simp, rfl, rfl⟩ rfl
                  have x2 := hA.val 9 76 rfl rfl ⟨⟨9, .data⟩, by simp, rfl, rfl⟩ rfl
                  exact wp_value (w' := w') (v := .int .i64 (((first + 1 : Nat) : Int).tmod most)) (by simp only [execOp, x1, x2]; simp [go_sem, hmne]) ⟨_, rfl, rfl, Ext.refl _⟩
                · refine duty_free rfl fun a w' hE hF hA => ?_
                  have x1 := hA.val 0 67 rfl rfl ⟨⟨0, .data⟩, by simp, rfl, rfl⟩ rfl
                  exact wp_value (w' := w') (v := .pointer (some ⟨bb, 0, none⟩)) (by simp only [execOp, x1]; simp [go_sem]) ⟨_, rfl, rfl, Ext.refl _⟩
                · refine duty_free rfl fun a w' hE hF hA => ?_
                  have x1 := hA.val 11 78 rfl rfl ⟨⟨11, .data⟩, by simp, rfl, rfl⟩ rfl
                  exact wp_value (w' := w') (v := .pointer (some ⟨bb, 4, none⟩)) (by simp only [execOp, x1]; simp [go_sem]) ⟨_, rfl, rfl, Ext.refl _⟩
              case last3 =>
                intro W6 hE6
                have hb6 := (hE6.block bb (Array.getElem?_eq_some_iff.1 HB5.out).1).trans HB5.out
                have hg6 := (hE6.block g (Array.getElem?_eq_some_iff.1 HG5.out).1).trans HG5.out
                have hf0 : ((((first + 1 : Nat) : Int).tmod most).toNat : Int) = ((first + 1 : Nat) : Int).tmod most := Int.toNat_of_nonneg (Int.tmod_nonneg _ (by omega))
                have hf' := HF'.out
                have hz6 := hE6.size
                have hfin : NoteOut S bb every most (true, z, R.set first (z, v), f') w (.returned (.bool true)) (W6.setRow bb (bookC every most z (.slice (some ⟨g, 0, none⟩) R.length rc) f')) := by
                  have hCC : Chg S w (W6.setRow bb (bookC every most z (.slice (some ⟨g, 0, none⟩) R.length rc) f')) := (HC5.out.trans (Chg.of_ext (S := S) hE6) fun _ _ h => h).trans (Chg.set (S := S) bb W6 _ HB.out.mine) fun _ _ h => h
                  refine ⟨rfl, ⟨_, setRow_heap _ _ _ _ _ _ hb6, ?_, fun k hk => ⟨.inl (HB.out.own k hk).1, (HB.out.own k hk).2⟩, .inl HB.out.mine, fun k hk => hk.elim (fun hk => Nat.lt_of_lt_of_le (HB.out.bound k hk) hCC.size) fun hk => hk.2⟩, hCC⟩
                  have hr0 := HRING2.out
                  obtain ⟨hlen, hor⟩ := hr0
                  rcases hor with ⟨_, h0⟩ | ⟨g', cap, cur', e, hb0, h1, h2, h2', h3, h4⟩
                  · omega
                  · simp only [Value.slice.injEq, Option.some.injEq, Addr.mk.injEq, and_true, true_and] at e
                    obtain ⟨rfl, rfl⟩ := e
                    have hcc : cur = cur' := by have := HGC.out.symm.trans h1; simpa using this
                    subst hcc
                    rw [List.length_set]
                    refine ⟨by rw [entC_length, List.length_set], .inr ⟨g, rc, cs, rfl, Nat.zero_le _, (setRow_other _ _ _ _ hgS.2).trans hg6, h2, h2', ?_, ?_⟩⟩
                    · rw [HCSE.out]; simp; omega
                    · rw [HCSE.out, entC_set R first (z, v) hfR, ← h4]
                      exact take_mid cur.toList [.int .i64 z, .int .u64 v] (first * 2) (R.length * 2) (by simp; omega) (by simpa using hcs)
                have HFIN := Lib.hid hfin
                have HB6 := Lib.hid hb6
                clear hfin hb6 hg6 d1 d4 HD1 HD4 hf' hf0
                simp only [filled, List.take_succ_cons, List.take_zero, List.zip_cons_cons, List.zip_nil_left, List.foldl_cons, List.foldl_nil, Act.put, List.setIfInBounds_toArray, List.set_cons_succ, List.set_cons_zero]
                refine wp_store_in 3 (.tmp 79) (.tmp 77) bb 4 (.int .i64 (((first + 1 : Nat) : Int).tmod most)) 107 _ (bookC every most z (.slice (some ⟨g, 0, none⟩) R.length rc) f') HB6.out (by simp [Value.cells, bookC]) infoInt (by rw [HF'.out]; unfold bookC; rw [Int.toNat_of_nonneg (Int.tmod_nonneg _ (by omega))]; simp [Value.cells]) (by simp [Value.cells, Value.oneCell']) ?_ rfl rfl rfl
                simp only [Exit.inBlock, Exit.then, Act.put]
                refine hK3 _ _ ?_
                go_wp2
                go_ret
                exact HFIN.out
end Go.Proofs.YtfgjbcejpjcpeaaDoor
namespace Go.Proofs.YtfgjbcejpjcpeaaDoor
open Go.RowKit
set_option maxHeartbeats 4000000
set_option maxRecDepth 100000

/-- Entries that a slice shows. -/
def EntAt (w : World) (a : Option Addr) (R : List (Int × Int)) : Prop :=
  ∀ i e, R[i]? = some e → ∃ b off, a = some ⟨b, off, none⟩ ∧ b < w.heap.size ∧ w.cell? ⟨b, off + i * 2, none⟩ = some (.int .i64 e.1) ∧ w.cell? ⟨b, off + i * 2 + 1, none⟩ = some (.int .u64 e.2)
theorem EntAt.ext {w w' : World} {a : Option Addr} {R : List (Int × Int)} (h : EntAt w a R) (hE : Ext w w') : EntAt w' a R := fun i e hi => by
  obtain ⟨b, off, h1, h2, h3, h4⟩ := h i e hi
  exact ⟨b, off, h1, Nat.lt_of_lt_of_le h2 hE.size, (hE.cell (p := ⟨b, off + i * 2, none⟩) h2).trans h3, (hE.cell (p := ⟨b, off + i * 2 + 1, none⟩) h2).trans h4⟩
theorem entC_at : ∀ (R : List (Int × Int)) (i : Nat) (e : Int × Int), R[i]? = some e → (entC R)[i * 2]? = some (.int .i64 e.1) ∧ (entC R)[i * 2 + 1]? = some (.int .u64 e.2)
  | [], i, e, h => by simp at h
  | x :: R, 0, e, h => by
    obtain rfl : x = e := by simpa using h
    exact ⟨rfl, rfl⟩
  | x :: R, i + 1, e, h => by
    have ih := entC_at R i e (by simpa using h)
    rw [show (i + 1) * 2 = i * 2 + 1 + 1 by omega]
    exact ih
theorem EntAt.of_row {w : World} {base n : Nat} {a : Option Addr} {c : Nat} {R : List (Int × Int)} (h : w.ownsRow base 109 2 (.slice a n c) n (entC R)) : EntAt w a R := fun i e hi => by
  obtain ⟨a', c', he, hc⟩ := ownsRow_from h
  simp only [Value.slice.injEq, true_and] at he
  obtain ⟨rfl, rfl⟩ := he
  obtain ⟨h1, h2⟩ := entC_at R i e hi
  obtain ⟨b, off, e1, _, h4, h5⟩ := hc _ _ h1
  obtain ⟨b', off', e2, _, _, h6⟩ := hc _ _ h2
  rw [e1] at e2
  simp only [Option.some.injEq, Addr.mk.injEq, and_true] at e2
  obtain ⟨rfl, rfl⟩ := e2
  exact ⟨b, off, e1, h4, h5, by rw [Nat.add_assoc]; exact h6⟩

def atR (R : List (Int × Int)) (z : Int) : Option Int := (R.find? fun e => e.1 == z).map (·.2)
theorem atR_cons (e : Int × Int) (R : List (Int × Int)) (z : Int) : atR (e :: R) z = if e.1 = z then some e.2 else atR R z := by
  unfold atR
  rw [List.find?_cons]
  by_cases h : e.1 = z
  · rw [if_pos h, show (e.1 == z) = true by simpa using h]; rfl
  · rw [if_neg h, show (e.1 == z) = false by simpa using h]
theorem atR_drop (R : List (Int × Int)) (k : Nat) (hk : k < R.length) (z : Int) : atR (R.drop k) z = if R[k].1 = z then some R[k].2 else atR (R.drop (k + 1)) z := by
  rw [List.drop_eq_getElem_cons hk, atR_cons]

def AtOut (R : List (Int × Int)) (z : Int) (w : World) (e : Ending) (w' : World) : Prop := e = .returned (.tuple #[.int .u64 ((atR R z).getD 0), .bool (atR R z).isSome]) ∧ Ext w w'

theorem bat_nil (z : Int) (w : World) : Calls Tryd.prog 27 #[.pointer none, .int .i64 z] w (AtOut [] z w) := by
  have hfin : AtOut [] z w (.returned (.tuple #[.int .u64 0, .bool false])) w := ⟨rfl, Ext.refl _⟩
  have HFIN := Lib.hid hfin
  clear hfin
  go_enter Tryd.func27, Tryd.ntmps27
  go_wp2
  go_ret2
  exact HFIN.out

theorem bat_any (w : World) (bb : Nat) (ra : Option Addr) (rc : Nat) (R : List (Int × Int)) (h3 : w.cell? ⟨bb, 3, none⟩ = some (.slice ra R.length rc)) (hR : EntAt w ra R) (hl : R.length ≤ 9223372036854775807) (z : Int) :
    Calls Tryd.prog 27 #[.pointer (some ⟨bb, 0, none⟩), .int .i64 z] w (AtOut R z w) := by
  have HR := Lib.hid hR
  clear hR
  go_enter Tryd.func27, Tryd.ntmps27
  go_wp2
  go_loopw [15] (fun i wr => ∃ k : Nat, k ≤ R.length ∧ i = .int .i64 k ∧ Hid (atR R z = atR (R.drop k) z) ∧ Ext w wr) (fun i _ => R.length - (intOf i).toNat)
  case atStart => exact ⟨0, Nat.zero_le _, rfl, rfl, Ext.refl _⟩
  case round =>
    obtain ⟨k, hk, rfl, HD, hE⟩ := hrel
    by_cases hlt : k < R.length
    · obtain ⟨b, off, rfl, hb, c0, c1⟩ := HR.out k R[k] (List.getElem?_eq_getElem hlt)
      have HS := Lib.hid (HD.out.trans (atR_drop R k hlt z))
      generalize R[k] = en at *
      have hcw : ∀ j u, (#[.int .i64 en.1, .int .u64 en.2] : Array Value)[j]? = some u → wr.cell? ((⟨b, off + k * 2, none⟩ : Addr).add j) = some u := fun j u hj => by
        rw [addr_add, hE.cell (p := ⟨b, off + k * 2 + j, none⟩) hb]
        rcases j with _ | _ | j
        · simp at hj; rw [← hj]; exact c0
        · simp at hj; rw [← hj]; exact c1
        · simp at hj
      obtain ⟨W2, hW2⟩ : ∃ W2, W2 = wr.alloc (.cells #[.int .i64 en.1, .int .u64 en.2] 109) := ⟨_, rfl⟩
      have he2 : Ext wr W2 := by rw [hW2]; exact Ext.alloc _ _
      have hbx : Box W2 wr.heap.size #[.int .i64 en.1, .int .u64 en.2] := fun j => cell_of_row _ _ _ _ _ _ (by rw [hW2]; exact heap_alloc_new wr _)
      have HSET := Lib.hid ((setRow_alloc wr #[.int .i64 0, .int .u64 0] #[.int .i64 en.1, .int .u64 en.2] 109).trans hW2.symm)
      have HNew := Lib.hid (heap_alloc_new wr (.cells #[.int .i64 0, .int .u64 0] 109))
      have HC := Lib.hid hcw
      have HE2 := Lib.hid (hE.trans he2)
      unfold Box at hbx
      clear hcw hW2 he2 c0 c1 hE
      by_cases hz : en.1 = z
      · have hfin : AtOut R z w (.returned (.tuple #[.int .u64 en.2, .bool true])) W2 := ⟨by rw [HS.out, if_pos hz]; rfl, HE2.out⟩
        have HFIN := Lib.hid hfin
        have e1 : (en.1 == z) = true := by simpa using hz
        have e2 : decide (en.1 = z) = true := by simpa using hz
        clear hfin hz HS
        go_wp2_with (first | (refine wpList_load_at rfl 109 (.tmp 17) rfl _ rfl _ _ HC.out Tryd.underlying109 rfl sizeEnt ?_) | (refine wpList_store_row rfl 109 (.tmp 7) (.tmp 18) rfl wr.heap.size _ rfl rfl 109 _ HNew.out sizeEnt rfl (by simp [Value.oneCell']) ?_; rw [HSET.out]))
        go_ret2
        exact HFIN.out
      · have HS2 := Lib.hid (HS.out.trans (if_neg hz))
        have e1 : (en.1 == z) = false := by simpa using hz
        have e2 : decide (en.1 = z) = false := by simpa using hz
        clear hz HS
        go_wp2_with (first | (refine wpList_load_at rfl 109 (.tmp 17) rfl _ rfl _ _ HC.out Tryd.underlying109 rfl sizeEnt ?_) | (refine wpList_store_row rfl 109 (.tmp 7) (.tmp 18) rfl wr.heap.size _ rfl rfl 109 _ HNew.out sizeEnt rfl (by simp [Value.oneCell']) ?_; rw [HSET.out]))
        go_roundw
        case rel => exact ⟨k + 1, by omega, by go_num, HS2.out, HE2.out⟩
        case measure => simp [intOf]; omega
    · obtain rfl : k = R.length := by omega
      have hfin : AtOut R z w (.returned (.tuple #[.int .u64 0, .bool false])) wr := ⟨by rw [HD.out, List.drop_length]; rfl, hE⟩
      have HFIN := Lib.hid hfin
      clear hfin HD hE
      go_wp2
      go_ret2
      exact HFIN.out
end Go.Proofs.YtfgjbcejpjcpeaaDoor
namespace Go.Proofs.YtfgjbcejpjcpeaaDoor
open Go.RowKit
set_option maxHeartbeats 4000000
set_option maxRecDepth 100000

def partStep (Q : List (Int × Int)) (s : Int × Bool) (e : Int × Int) : Int × Bool :=
  match atR Q e.1 with
  | none => s
  | some v => if v ≠ e.2 ∧ (s.2 = false ∨ e.1 < s.1) then (e.1, true) else s
def partR (R Q : List (Int × Int)) : Int × Bool := R.foldl (partStep Q) (0, false)
theorem part_take (R Q : List (Int × Int)) (k : Nat) (h : k < R.length) : (R.take (k + 1)).foldl (partStep Q) (0, false) = partStep Q ((R.take k).foldl (partStep Q) (0, false)) R[k] := by
  rw [List.take_succ_eq_append_getElem h, List.foldl_append]; rfl

def PartOut (r : Int × Bool) (w : World) (e : Ending) (w' : World) : Prop := e = .returned (.tuple #[.int .i64 r.1, .bool r.2]) ∧ Ext w w'

theorem part_nil (b : Option Addr) (w : World) : Calls Tryd.prog 29 #[.pointer none, .pointer b] w (PartOut (0, false) w) := by
  have hfin : PartOut (0, false) w (.returned (.tuple #[.int .i64 0, .bool false])) w := ⟨rfl, Ext.refl _⟩
  have HFIN := Lib.hid hfin
  clear hfin
  go_enter Tryd.func29, Tryd.ntmps29
  go_wp2
  go_ret2
  exact HFIN.out

theorem part_any (w : World) (ba bb : Nat) (ra rb : Option Addr) (ca cb : Nat) (R Q : List (Int × Int)) (h3a : w.cell? ⟨ba, 3, none⟩ = some (.slice ra R.length ca)) (h3b : w.cell? ⟨bb, 3, none⟩ = some (.slice rb Q.length cb)) (hR : EntAt w ra R) (hQ : EntAt w rb Q)
    (hl : R.length ≤ 9223372036854775807) (hl2 : Q.length ≤ 9223372036854775807) :
    Calls Tryd.prog 29 #[.pointer (some ⟨ba, 0, none⟩), .pointer (some ⟨bb, 0, none⟩)] w (PartOut (partR R Q) w) := by
  have HR := Lib.hid hR
  have HQ := Lib.hid hQ
  have H3B := Lib.hid h3b
  clear hR hQ h3b
  go_enter Tryd.func29, Tryd.ntmps29
  go_wp2
  go_loopw [6, 7, 23] (fun l f i wr => ∃ (k : Nat) (s : Int × Bool), k ≤ R.length ∧ i = .int .i64 k ∧ l = .int .i64 s.1 ∧ f = .bool s.2 ∧ Hid (s = (R.take k).foldl (partStep Q) (0, false)) ∧ Ext w wr) (fun _ _ i _ => R.length - (intOf i).toNat)
  case atStart => exact ⟨0, (0, false), Nat.zero_le _, rfl, rfl, rfl, rfl, Ext.refl _⟩
  case round =>
    obtain ⟨k, ⟨ls, fd⟩, hk, rfl, rfl, rfl, HD, hE⟩ := hrel
    dsimp only
    by_cases hlt : k < R.length
    · obtain ⟨b, off, rfl, hb, c0, c1⟩ := HR.out k R[k] (List.getElem?_eq_getElem hlt)
      have HS := Lib.hid ((part_take R Q k hlt).trans (by rw [← HD.out]))
      generalize R[k] = en at *
      have hcw : ∀ j u, (#[.int .i64 en.1, .int .u64 en.2] : Array Value)[j]? = some u → wr.cell? ((⟨b, off + k * 2, none⟩ : Addr).add j) = some u := fun j u hj => by
        rw [addr_add, hE.cell (p := ⟨b, off + k * 2 + j, none⟩) hb]
        rcases j with _ | _ | j
        · simp at hj; rw [← hj]; exact c0
        · simp at hj; rw [← hj]; exact c1
        · simp at hj
      obtain ⟨W2, hW2⟩ : ∃ W2, W2 = wr.alloc (.cells #[.int .i64 en.1, .int .u64 en.2] 109) := ⟨_, rfl⟩
      have he2 : Ext wr W2 := by rw [hW2]; exact Ext.alloc _ _
      have hE2 := hE.trans he2
      have hbk : W2.heap[wr.heap.size]? = some (.cells #[.int .i64 en.1, .int .u64 en.2] 109 (0, 0)) := by rw [hW2]; exact heap_alloc_new wr _
      have hbx : Box W2 wr.heap.size #[.int .i64 en.1, .int .u64 en.2] := fun j => cell_of_row _ _ _ _ _ _ hbk
      have HSET := Lib.hid ((setRow_alloc wr #[.int .i64 0, .int .u64 0] #[.int .i64 en.1, .int .u64 en.2] 109).trans hW2.symm)
      have HNew := Lib.hid (heap_alloc_new wr (.cells #[.int .i64 0, .int .u64 0] 109))
      have HC := Lib.hid hcw
      have HE2 := Lib.hid hE2
      have HBK := Lib.hid hbk
      have CA := Lib.hid (bat_any W2 bb rb cb Q ((hE2.cell (p := ⟨bb, 3, none⟩) (World.block_lt_of_cell? _ _ H3B.out)).trans H3B.out) (HQ.out.ext hE2) hl2 en.1)
      unfold Box at hbx
      clear hcw hW2 he2 c0 c1 hE hE2 hbk HD
      go_wp2_with (first | (refine wpList_load_at rfl 109 (.tmp 25) rfl _ rfl _ _ HC.out Tryd.underlying109 rfl sizeEnt ?_) | (refine wpList_store_row rfl 109 (.tmp 9) (.tmp 26) rfl wr.heap.size _ rfl rfl 109 _ HNew.out sizeEnt rfl (by simp [Value.oneCell']) ?_; rw [HSET.out]))
      refine CA.out.mono ?_
      rintro e W3 ⟨rfl, hE3⟩
      have hbx3 : Box W3 wr.heap.size #[.int .i64 en.1, .int .u64 en.2] := fun j => cell_of_row _ _ _ _ _ _ ((hE3.block _ (Array.getElem?_eq_some_iff.1 HBK.out).1).trans HBK.out)
      have HE3 := Lib.hid (HE2.out.trans hE3)
      unfold Box at hbx3
      clear hbx hE3 HE2 HBK CA HSET HNew HC
      cases ha : atR Q en.1 with
      | none =>
        have HS2 := Lib.hid (HS.out.trans (by unfold partStep; rw [ha] : partStep Q (ls, fd) en = (ls, fd)))
        clear ha HS
        simp only [Option.getD_none, Option.isSome_none]
        go_wp2
        go_roundw
        case rel => exact ⟨k + 1, (ls, fd), by omega, by go_num, rfl, rfl, HS2.out.symm, HE3.out⟩
        case measure => simp [intOf]; omega
      | some v =>
        simp only [Option.getD_some, Option.isSome_some]
        by_cases hv : v = en.2
        · have HS2 := Lib.hid (HS.out.trans (by unfold partStep; rw [ha]; exact if_neg (fun h => h.1 hv) : partStep Q (ls, fd) en = (ls, fd)))
          have e1 : (v != en.2) = false := by simpa using hv
          have e2 : decide (v = en.2) = true := by simpa using hv
          clear ha HS hv
          go_wp2
          go_roundw
          case rel => exact ⟨k + 1, (ls, fd), by omega, by go_num, rfl, rfl, HS2.out.symm, HE3.out⟩
          case measure => simp [intOf]; omega
        · have e1 : (v != en.2) = true := by simpa using hv
          have e2 : decide (v = en.2) = false := by simpa using hv
          cases fd with
          | false =>
            have HS2 := Lib.hid (HS.out.trans (by unfold partStep; rw [ha]; exact if_pos ⟨hv, .inl rfl⟩ : partStep Q (ls, false) en = (en.1, true)))
            clear ha HS hv
            go_wp2
            go_roundw
            case rel => exact ⟨k + 1, (en.1, true), by omega, by go_num, rfl, rfl, HS2.out.symm, HE3.out⟩
            case measure => simp [intOf]; omega
          | true =>
            by_cases hle : en.1 < ls
            · have HS2 := Lib.hid (HS.out.trans (by unfold partStep; rw [ha]; exact if_pos ⟨hv, .inr hle⟩ : partStep Q (ls, true) en = (en.1, true)))
              have e3 : decide (en.1 < ls) = true := by simpa using hle
              clear ha HS hv hle
              go_wp2
              go_roundw
              case rel => exact ⟨k + 1, (en.1, true), by omega, by go_num, rfl, rfl, HS2.out.symm, HE3.out⟩
              case measure => simp [intOf]; omega
            · have HS2 := Lib.hid (HS.out.trans (by unfold partStep; rw [ha]; exact if_neg (fun h => h.2.elim (fun h => by cases h) hle) : partStep Q (ls, true) en = (ls, true)))
              have e3 : decide (en.1 < ls) = false := by simpa using hle
              clear ha HS hv hle
              go_wp2
              go_roundw
              case rel => exact ⟨k + 1, (ls, true), by omega, by go_num, rfl, rfl, HS2.out.symm, HE3.out⟩
              case measure => simp [intOf]; omega
    · obtain rfl : k = R.length := by omega
      have hfin : PartOut (partR R Q) w (.returned (.tuple #[.int .i64 ls, .bool fd])) wr := ⟨by unfold partR; have := HD.out; rw [List.take_length] at this; rw [← this], hE⟩
      have HFIN := Lib.hid hfin
      clear hfin HD hE
      go_wp2
      go_ret2
      exact HFIN.out
end Go.Proofs.YtfgjbcejpjcpeaaDoor
