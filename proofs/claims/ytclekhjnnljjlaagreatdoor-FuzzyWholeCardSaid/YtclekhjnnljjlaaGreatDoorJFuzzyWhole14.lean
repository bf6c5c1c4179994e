/- The walk of the table's Clone: a range over the map of sessions, each laid into a new table, whatever the order. slices.Sorted(maps.Keys(m)) at the map of the sessions: its ids in order. The walk of session's List: the sessions of a table, in order, each in new memory. The walk of arborref08.Same. The walks of slices.Equal at identities, of the session tables' Equal at two tables of the same sessions. A region that draws its order, its operations turning memory and making values: an invariant that knows which of them are done, and what they yielded. The walk of arborref07's Take. The walks of arborref03's last and Parent. The walk of the reference of stat.Right. -/
import Derived.Test.YtclekhjnnljjlaaGreatDoorJFuzzyWhole12
import Derived.Test.YtclekhjnnljjlaaGreatDoorJFuzzyWhole13
import Derived.Test.YtclekhjnnljjlaaGreatDoorIterI
import Derived.Test.YtclekhjnnljjlaaGreatDoorJFuzzyWhole2
import Derived.Test.YtclekhjnnljjlaaGreatDoorJFuzzyWhole9
import Derived.Great.BuildSlice
import Derived.Test.YtclekhjnnljjlaaGreatDoorJFuzzyWhole8
import Derived.Test.YtclekhjnnljjlaaGreatDoorJFuzzyWhole4
import Derived.Test.YtclekhjnnljjlaaGreatDoorJFuzzyWhole11
namespace Go.Proofs.YtclekhjnnljjlaaGreatDoor
open Go.RowKit
set_option maxHeartbeats 4000000
set_option maxRecDepth 100000

theorem tmem_ext {a b : List Se} (ha : TSorted a) (hb : TSorted b) (h : ∀ x, x ∈ a ↔ x ∈ b) : a = b := by
  have hs : ∀ {l : List Se}, TSorted l → ISorted (l.map (kvS id)) := fun h => by
    unfold ISorted; rw [List.pairwise_map]; exact h
  have := imem_ext (hs ha) (hs hb) fun x => by
    simp only [List.mem_map]
    constructor
    · rintro ⟨y, hy, rfl⟩; exact ⟨y, (h y).1 hy, rfl⟩
    · rintro ⟨y, hy, rfl⟩; exact ⟨y, (h y).2 hy, rfl⟩
  exact (List.map_inj_right (fun x y e => by cases x; cases y; simp [kvS] at e; simp [e])).1 this
/-- The sessions that the range has come to. -/
structure Laid8 (T : List Se) (left : Lit → Bool) (T' : List Se) : Prop where
  sorted : TSorted T'
  mem : ∀ x, x ∈ T' ↔ x ∈ T ∧ left (.int .i64 x.id) = false
theorem tmem_id {T : List Se} (hs : TSorted T) {x y : Se} (hx : x ∈ T) (hy : y ∈ T) (e : x.id = y.id) : x = y := by
  obtain ⟨i, hi, rfl⟩ := List.getElem_of_mem hx
  obtain ⟨j, hj, rfl⟩ := List.getElem_of_mem hy
  have hp := List.pairwise_iff_getElem.1 hs
  rcases Nat.lt_trichotomy i j with h | h | h
  · have := hp i j hi hj h; omega
  · subst h; rfl
  · have := hp j i hj hi h; omega
theorem Laid8.new {T : List Se} {left : Lit → Bool} {T' : List Se} (h : Laid8 T left T') {k : Int} (hl : left (.int .i64 k) = true) : ∀ y ∈ T', y.id ≠ k := fun y hy e => by
  have := ((h.mem y).1 hy).2
  rw [e, hl] at this; cases this
theorem Laid8.step {T : List Se} {left : Lit → Bool} {T' : List Se} (h : Laid8 T left T') {s : Se} (hm : s ∈ T) (hs : TSorted T) (hl : left (.int .i64 s.id) = true) : Laid8 T (fun z => left z && !z.sameKey (.int .i64 s.id)) (tins s T') := by
  refine ⟨tins_sorted h.sorted (h.new hl), fun x => ?_⟩
  rw [mem_tins, h.mem, same_ki]
  simp only [Bool.and_eq_false_iff, Bool.not_eq_false', beq_iff_eq]
  constructor
  · rintro (rfl | ⟨h1, h2⟩)
    · exact ⟨hm, .inr rfl⟩
    · exact ⟨h1, .inl h2⟩
  · rintro ⟨h1, h2⟩
    by_cases e : x.id = s.id
    · exact .inl (tmem_id hs h1 hm e)
    · exact .inr ⟨h1, h2.resolve_right e⟩
theorem Laid8.done {T : List Se} {left : Lit → Bool} {T' : List Se} (h : Laid8 T left T') (hs : TSorted T) (hl : ∀ kl, left kl = false) : T' = T :=
  tmem_ext h.sorted hs fun x => by rw [h.mem, hl]; simp
def PhiC (B bt bm : Nat) (s : Se) (cs : Array Value) : Nat → Value → World → Prop
  | 0, v, _ => v = .pointer (some ⟨bt, 0, none⟩)
  | 1, v, _ => v = .pointer (some ⟨bt, 0, none⟩)
  | 2, v, _ => v = .pointer (some ⟨bt, 0, none⟩)
  | 3, v, _ => v = .map (some bm)
  | 4, v, _ => v = .int .i64 s.id
  | 5, v, _ => v = .agg cs
  | 6, v, w => SeS (fun b => B ≤ b ∧ b < w.heap.size) w v s
  | _, _, _ => True
theorem PhiC.stab (B bt bm : Nat) (s : Se) (cs : Array Value) (i : Nat) (v : Value) (w w' : World) (h : PhiC B bt bm s cs i v w) (he : Ext w w') : PhiC B bt bm s cs i v w' := by
  unfold PhiC at h ⊢
  split at h <;> first | exact h | exact h.imp (fun b hb => ⟨hb.1, Nat.lt_of_lt_of_le hb.2 he.size⟩) (fun b o u hb hu => (he.cell (p := ⟨b, o, none⟩) hb.2).trans hu)

def STCloneOut (T : List Se) (w : World) (e : Ending) (w' : World) : Prop := ∃ b bm, e = .returned (.pointer (some ⟨b, 0, none⟩)) ∧ TblAt (fun k => w.heap.size ≤ k ∧ k < w'.heap.size) w' b bm T T.length ∧ Ext w w'

theorem stclone_any (S : Nat → Prop) (w : World) (bt bm : Nat) (T : List Se) (N : Nat) (hT : TblAt S w bt bm T N) (hl : T.length < 4611686018427387904) : Calls Tryz.prog 49 #[.pointer (some ⟨bt, 0, none⟩)] w (STCloneOut T w) := by
  have hcb : w.cell? ⟨bt, 0, none⟩ = some (.map (some bm)) := cell_of_row _ _ _ _ _ _ hT.blk
  have hbl := hT.bound _ hT.st
  have hmbl := hT.bound _ hT.sm
  obtain ⟨mm, hm, hr⟩ := hT.ex
  have hml : mm.length = T.length := by have := hr.length; simpa using this.symm
  have HML := Lib.hid hml
  have C1 := Lib.hid (snew_any w)
  have HT := Lib.hid hT
  have HM := Lib.hid hm
  have HR := Lib.hid hr
  clear hT hm hr hml
  go_enter Tryz.func49, Tryz.ntmps49
  go_wp2_with fail
  refine C1.out.mono ?_
  rintro e W1 ⟨bu, bmu, rfl, hU, hE1⟩
  have hE1 : Ext w W1 := hE1
  have hcb1 := (hE1.cell (p := ⟨bt, 0, none⟩) hbl).trans hcb
  have hm1 : IMap Tryz.prog 2 W1 bm mm := HM.out.keep (hE1.block bm hmbl)
  have HU := Lib.hid hU
  have HE1 := Lib.hid hE1
  clear C1 hU hE1
  go_wp2_with (at_range; refine wpList_range_i _ rfl _ 112 rfl 2 62 intT Tryz.underlying112 bm _ rfl hm1 ?_; intro w0 hrg0 hg0 hs0)
  go_frame
  have hEr : Ext W1 w0 := ⟨hg0.os, hg0.tape, hg0.output, hg0.size, fun k hk => hg0.block k hk (by simp)⟩
  have hz1 := HE1.out.size
  obtain ⟨B, hB⟩ : ∃ B, B = W1.heap.size := ⟨_, rfl⟩
  rw [← hB] at hrg0 hs0 ⊢
  have HU0 := Lib.hid (HU.out.keep (w' := w0) (S' := fun k => w.heap.size ≤ k ∧ k < w0.heap.size ∧ k ≠ B) (fun k hk => hEr.block k hk.2) (fun k hk => ⟨hk.1, by have := hk.2; omega, by have := hk.2; omega⟩) (fun k hk => hk.2.1) (Nat.le_refl 0))
  have HRG0 := Lib.hid hrg0
  have HE0 := Lib.hid (HE1.out.trans hEr)
  have hkeep : ∀ k, k < w.heap.size → w0.heap[k]? = w.heap[k]? := fun k hk => (HE1.out.trans hEr).block k hk
  have hz0 : w0.heap.size = B + 1 := hs0
  have hBw : w.heap.size ≤ B := by omega
  clear hm1 hrg0 hg0 hEr hcb1 hcb HU hB
  go_loopw [] (fun wr => ∃ (left : Lit → Bool) (cnt : Nat) (T' : List Se), wr.ranges Tryz.prog 2 Rv bm B mm.length (kiD mm) left cnt ∧ Hid (Laid8 T left T') ∧ Hid (TblAt (fun k => w.heap.size ≤ k ∧ k < wr.heap.size ∧ k ≠ B) wr bu bmu T' T'.length) ∧ T'.length + cnt ≤ mm.length ∧ B < wr.heap.size ∧ Ext w wr) (fun wr => wr.rangeLeft bm B)
  case atStart =>
    refine ⟨_, _, [], HRG0.out, ⟨List.Pairwise.nil, fun x => ?_⟩, HU0.out, by simp [kiD, Maps.size], by omega, HE0.out⟩
    constructor
    · intro h; simp at h
    · rintro ⟨h1, h2⟩
      rw [kiD_has] at h2
      have hg := tbl_get HR.out x.id
      rw [h2] at hg
      exact absurd rfl (tget_none.1 hg.symm x h1)
  case round =>
    obtain ⟨left, cnt, T', hrg, HL, HT', hle, hBl, hE⟩ := hrel
    have HEr := Lib.hid hE
    clear hE HRG0 HU0 HE0
    go_wp2_with (at_next; refine wpList_next_i _ rfl _ rfl 2 intT bm B _ mm left cnt rfl hrg ?_ ?_)
    · intro hl0
      have hdn := HL.out.done HT.out.sorted hl0
      have hfin : STCloneOut T w (.returned (.pointer (some ⟨bu, 0, none⟩))) wr :=
        ⟨_, bmu, rfl, by
          have h := HT'.out
          rw [hdn] at h
          exact h.keep (fun _ _ => rfl) (fun k hk => ⟨hk.1, hk.2.1⟩) (fun k hk => hk.2) (Nat.le_refl _), HEr.out⟩
      have HFIN := Lib.hid hfin
      clear hfin hrg hdn hl0
      go_wp2
      go_ret
      exact HFIN.out
    · intro k v w6 cnt6 hwf hlf hmg hrg6 hlt6 hg6 hsz6 hen
      obtain ⟨s, hmem, rfl, hv⟩ : ∃ s ∈ T, s.id = k ∧ SeS S w v s := by
        have hg := iget_tget (id : Se → Se) T k
        rcases HR.out.get k with ⟨_, h2⟩ | ⟨y, u, h1, h2, h3⟩
        · rw [h2] at hmg; cases hmg
        · rw [h2] at hmg; cases hmg
          rw [h1] at hg
          cases hq : tget T k with
          | none => rw [hq] at hg; cases hg
          | some z =>
            rw [hq] at hg
            obtain rfl : y = z := Option.some.inj hg
            exact ⟨y, List.mem_of_find?_eq_some hq, by simpa using List.find?_some hq, h3⟩
      have hne := HL.out.new hlf
      have HL2 := Lib.hid (HL.out.step hmem HT.out.sorted hlf)
      have hfit := HT.out.fit s hmem
      have hrt := HT.out.right s hmem
      obtain ⟨ia, ic, rfl, hic, hI⟩ := hv
      have hsz := HEr.out.size
      obtain ⟨W7, hW7⟩ : ∃ W7, W7 = w6.alloc (.cells (seC s (.slice ia s.ids.length ic)) 62) := ⟨_, rfl⟩
      have hE7 : Ext w6 W7 := by rw [hW7]; exact Ext.alloc _ _
      have hz7 : W7.heap.size = w6.heap.size + 1 := by rw [hW7]; simp
      have hn7 : W7.heap[w6.heap.size]? = some (.cells (seC s (.slice ia s.ids.length ic)) 62 (0, 0)) := by rw [hW7]; exact heap_alloc_new _ _
      have h67 : ∀ k, k < w6.heap.size → W7.heap[k]? = w6.heap[k]? := fun k hk => hE7.block k hk
      have hr6 : ∀ k, k < wr.heap.size → k ≠ B → w6.heap[k]? = wr.heap[k]? := fun k hk hne => hg6.block k hk (fun e => hne (Option.some.inj e))
      have hEw7 : Ext w W7 := HEr.out.trans' ⟨hE7.os.trans hg6.os, hE7.tape.trans hg6.tape, hE7.output.trans hg6.output, by omega, fun k hk => (h67 k (by omega)).trans (hr6 k (by omega) (by omega))⟩
      have hI7 : Cells W7.heap.size W7 ia (idCs s.ids) := fun j u hj => by
        obtain ⟨b, o, e, h1, h2⟩ := hI j u hj
        have hb := HT.out.bound b h1
        exact ⟨b, o, e, by omega, (hEw7.cell (p := ⟨b, o + j, none⟩) hb).trans h2⟩
      have hT7 := HT'.out.keep (w' := W7) (S' := fun k => w.heap.size ≤ k ∧ k < wr.heap.size ∧ k ≠ B) (fun k hk => (h67 k (by omega)).trans (hr6 k hk.2.1 hk.2.2)) (fun _ h => h) (fun k hk => by have := hk.2.1; omega) (Nat.le_refl _)
      have hrg7 := hrg6.kept (grown_ext hE7 none) (by simp) (by simp)
      have HT7 := Lib.hid hT7
      have HRG7 := Lib.hid hrg7
      have HSET := Lib.hid ((setRow_alloc w6 zeroSe (seC s (.slice ia s.ids.length ic)) 62).trans hW7.symm)
      have HNEW := Lib.hid (heap_alloc_new w6 (.cells zeroSe 62))
      have HN7 := Lib.hid hn7
      have HEW7 := Lib.hid hEw7
      have HI7 := Lib.hid hI7
      have HRG := Lib.hid hrg
      have HLE : Hid ((tins s T').length + cnt6 ≤ mm.length) := by unfold Hid; rw [tins_length]; omega
      have h6a : w6.heap.size ≤ wr.heap.size := by omega
      have h6b : wr.heap.size ≤ w6.heap.size := by omega
      have hT'l : T'.length ≤ mm.length := by omega
      have HNE := Lib.hid hne
      have HFIT := Lib.hid hfit
      have HRT := Lib.hid hrt
      have HLT6 := Lib.hid hlt6
      clear hsz6
      have hblk7 := hT7.blk
      unfold seC at HSET hen
      unfold zeroSe at HSET HNEW
      clear hrg hrg6 hrg7 hg6 hE7 hEw7 hn7 hW7 h67 hr6 hI7 hT7 hI hmg hmem hne HL hfit hrt hlt6
      go_wp2_with (first | (refine wpList_store_row rfl 62 (.tmp 5) (.tmp 18) rfl w6.heap.size _ rfl rfl 62 _ HNEW.out sizeSe rfl (cells_se s ia _ ic) ?_; rw [HSET.out]))
      obtain ⟨mu, hmu, hru⟩ := HT7.out.ex
      have HRU := Lib.hid hru
      clear hru
      have hen2 := fun (f : FuncId) (fn : Func) (c : Code) (hf : Tryz.prog.funcs[f]? = some fn) (hname : (fn.name == "runtime.NumGoroutine") = false) (hb : fn.body = some c) => enters_f hf hname hb
      refine wp_region_last_e 27 (by kernel_rfl) (PhiC W7.heap.size bu bmu s (seC s (.slice ia s.ids.length ic))) (PhiC.stab _ _ _ _ _) (by decide) rfl 7 _ rfl rfl rfl rfl ?_ ?fin
      · refine ⟨?_, ?_, ?_, ?_, ?_, ?_, ?_, trivial⟩
        · exact duty_free rfl fun a w' hE hF hA => wp_value (w' := w') (ex_move rfl) ⟨_, rfl, hF.slot 3 _ (by decide) rfl, Ext.refl _⟩
        · refine duty_free rfl fun a w' hE hF hA => ?_
          have x1 : a.eval (.tmp 19) = _ := hA.slot 0 19 rfl rfl ⟨⟨0, .data⟩, by simp, rfl, rfl⟩
          exact wp_value (ex_nilCheck rfl _ x1) ⟨_, rfl, rfl, Ext.refl _⟩
        · refine duty_free rfl fun a w' hE hF hA => ?_
          have x1 : a.eval (.tmp 20) = _ := hA.slot 1 20 rfl rfl ⟨⟨1, .data⟩, by simp, rfl, rfl⟩
          exact wp_value (v := .pointer (some ⟨bu, 0, none⟩)) (w' := w') (by simp only [execOp, x1]; simp [go_sem]) ⟨_, rfl, rfl, Ext.refl _⟩
        · refine duty_free rfl fun a w' hE hF hA => ?_
          have x1 : a.eval (.tmp 21) = _ := hA.slot 2 21 rfl rfl ⟨⟨2, .data⟩, by simp, rfl, rfl⟩
          refine wp_value (ex_cell rfl _ (.map (some bmu)) x1 ?_ rfl Tryz.underlying112) ⟨_, rfl, rfl, Ext.refl _⟩
          exact cell_of_row w' bu 0 _ _ _ ((hE.block bu (Array.getElem?_eq_some_iff.1 hblk7).1).trans hblk7)
        · exact duty_free rfl fun a w' hE hF hA => wp_value (w' := w') (ex_move rfl) ⟨_, rfl, hF.slot 4 (.int .i64 s.id) (by decide) rfl, Ext.refl _⟩
        · refine duty_free rfl fun a w' hE hF hA => ?_
          have x1 : a.eval (.tmp 5) = _ := hF.slot 5 (.pointer (some ⟨w6.heap.size, 0, none⟩)) (by decide) rfl
          exact wp_value (ex_load_row rfl w6.heap.size x1 62 _ (0, 0) _ ((hE.block w6.heap.size (by omega)).trans HN7.out) Tryz.underlying62 rfl sizeSe) ⟨_, rfl, rfl, Ext.refl _⟩
        · refine duty_free rfl fun a' w' hE hF hA => ?_
          have x1 : a'.eval (.tmp 24) = _ := hA.slot 5 24 rfl rfl ⟨⟨5, .data⟩, by simp, rfl, rfl⟩
          refine wp_enter (ex_call rfl (hen2 _ _ _ Tryz.func45 (by kernel_rfl) rfl)) (by simp only [List.map_toArray, List.map_cons, List.map_nil, x1]; exact own_any s ia ic w' HFIT.out (HI7.out.ext hE)) ?_
          rintro e w5 ⟨v, rfl, hv, hb⟩
          exact ⟨_, rfl, v, rfl, hv.imp (fun b hb' => ⟨by have := hE.size; omega, hb'.2⟩) (fun _ _ _ _ h => h), hb⟩
      case fin =>
        intro us w2 hE hl hP
        obtain ⟨u0, u1, u2, u3, u4, u5, u6, rfl⟩ := us7 us hl
        obtain rfl : u3 = .map (some bmu) := hP 3 _ rfl
        obtain rfl : u4 = .int .i64 s.id := hP 4 _ rfl
        have h7 : SeS (fun b => W7.heap.size ≤ b ∧ b < w2.heap.size) w2 u6 s := hP 6 _ rfl
        clear hP hl hen2
        have hm2 : IMap Tryz.prog 2 w2 bmu mu := hmu.keep (hE.block bmu hmu.lt)
        have q1 : mu.length < maxLen := by
          have h1 := HRU.out.length
          rw [List.length_map] at h1
          have h2 := HML.out
          unfold maxLen; omega
        have hQ := IMap.store hm2 intT Tryz.underlying112 q1 HFIT.out.id u6
        have hQ1 := hQ.choose_spec
        generalize hQ.choose = w8 at hQ1
        have hrun := hQ1.1
        have hTM := tbl_put HT7.out HRU.out HFIT.out hE HRT.out HNE.out h7 hQ1.2.1 hQ1.2.2
        have hT8 := hTM.1
        have hM8 := hTM.2
        clear hTM
        have hz8 := hM8.size
        have hsame8 : ∀ k, k < W7.heap.size → ¬ (w.heap.size ≤ k ∧ k < wr.heap.size ∧ k ≠ B) → w8.heap[k]? = W7.heap[k]? := fun k hk hn => by
          rw [hM8.same k _ (Array.getElem?_eq_getElem hk) (.inl hn), Array.getElem?_eq_getElem hk]
        have hE8 : Ext w w8 := HEW7.out.trans' ⟨hM8.os, hM8.tape, hM8.output, hM8.size, fun k hk => hsame8 k (by omega) (fun h => by omega)⟩
        have hrg8 := ranges_blocks HRG7.out (hsame8 bm (by omega) (fun h => by omega)) (hsame8 _ (by omega) (fun h => h.2.2 rfl))
        have hT9 := hT8.keep (S' := fun k => w.heap.size ≤ k ∧ k < w8.heap.size ∧ k ≠ B) (fun _ _ => rfl) (fun k hk => by
          rcases hk with hk | hk
          · exact ⟨hk.1, by have := hk.2.1; omega, hk.2.2⟩
          · exact ⟨by omega, hk.2, by omega⟩) (fun k hk => hk.2.1) (N' := (tins s T').length) (by rw [tins_length]; exact Nat.le_refl _)
        have HREL := Lib.hid (show ∃ (left : Lit → Bool) (cnt : Nat) (T' : List Se), w8.ranges Tryz.prog 2 Rv bm B mm.length (kiD mm) left cnt ∧ Hid (Laid8 T left T') ∧ Hid (TblAt (fun k => w.heap.size ≤ k ∧ k < w8.heap.size ∧ k ≠ B) w8 bu bmu T' T'.length) ∧ T'.length + cnt ≤ mm.length ∧ B < w8.heap.size ∧ Ext w w8 from ⟨_, _, _, hrg8, HL2.out, hT9, HLE.out, by omega, hE8⟩)
        have HMS := Lib.hid (show w8.rangeLeft bm B < wr.rangeLeft bm B by rw [hrg8.left_eq, HRG.out.left_eq]; exact HLT6.out)
        clear hQ1 hQ hm2 hmu h7 hE hT8 hM8 hsame8 hE8 hrg8 hT9 HRG7 HRG HSET HNEW HN7 hblk7
        simp only [filled, List.take_succ_cons, List.take_zero, List.zip_cons_cons, List.zip_nil_right, List.foldl_cons, List.foldl_nil, Act.put]
        go_simp
        clear hrun
        go_roundw
        case rel => exact ⟨_, _, _, _, _, _, _, _, _, _, _, _, _, _, HREL.out, rfl⟩
        case measure => exact HMS.out
end Go.Proofs.YtclekhjnnljjlaaGreatDoor
namespace Go.Proofs.YtclekhjnnljjlaaGreatDoor
open Go.RowKit Go.Maps Go.Sort Go.Shelf
set_option maxHeartbeats 2000000

theorem intT0 : Tryz.prog.underlying 2 = some (.int .i64) := Tryz.underlying2
theorem sortedIds {l ss : List Int} (hs : l.Pairwise fun a b => a < b) (hp : ss.Perm l) : ss.mergeSort (fun x y => decide (x ≤ y)) = l := by
  have h1 : (ss.mergeSort (fun x y => decide (x ≤ y))).Perm l := (List.mergeSort_perm ss _).trans hp
  have h2 : (ss.mergeSort (fun x y => decide (x ≤ y))).Pairwise (fun x y => x ≤ y) := by
    have := List.pairwise_mergeSort (le := fun x y : Int => decide (x ≤ y)) (fun a b c h1 h2 => by
      simp only [decide_eq_true_eq] at h1 h2 ⊢; omega) (fun a b => by
      simp only [Bool.or_eq_true, decide_eq_true_eq]; omega) ss
    exact this.imp fun h => by simpa using h
  have h3 : l.Pairwise (fun x y => x ≤ y) := hs.imp fun h => Int.le_of_lt h
  exact h1.eq_of_pairwise (fun a b _ _ h1 h2 => Int.le_antisymm h1 h2) h2 h3
/-- A new slice that holds these ids. -/
def SortedI (l : List Int) (w : World) (e : Ending) (w' : World) : Prop :=
  ∃ v, e = .returned v ∧ w'.ownsRow w.heap.size 2 1 v l.length (l.map (Value.int .i64)) ∧ (v = .slice none 0 0 ↔ l = []) ∧ Ext w w'
theorem sortsI (m : Nat) : AnyZI.SortsIn Tryz.prog Tryz.sortedI_ren Fence.wide m :=
  ⟨fun blk off cap ss W hH hblk hsz => callsIn_wide.2 (AnyM.slices_Sort_int Tryz.sortI blk off cap ss W hH hblk hsz),
   fun p cap W => callsIn_wide.2 (AnyM.slices_Sort_int_none Tryz.sortI p cap W)⟩
theorem keysI_any (mb : Option Nat) (W : World) : Calls Tryz.prog 65 #[.map mb] W fun e w' => e = .returned (.func (.func 102) #[] #[.pointer (some ⟨W.heap.size, 0, none⟩)]) ∧ w' = W.alloc (.cells #[.map mb] 112) :=
  (callsIn_wide (n := 5)).1 (AnyZI.keys_in Tryz.keysI Fence.wide 5 trivial rfl mb W)
theorem sortedI_own {H : Type} (b nn : Nat) (D0 : DataW H) (R : Value → Option (DataW H × List MemPlace)) (w : World) (hown : w.ownsMap Tryz.prog 2 R b nn D0) (hmax : Maps.size D0 ≤ maxLen) (hbytes : Maps.size D0 * 8 ≤ 140737488355328) :
    CallsIn Fence.wide 5 Tryz.prog 64 #[.func (.func 102) #[] #[.pointer (some ⟨w.heap.size, 0, none⟩)]] (w.alloc (.cells #[.map (some b)] 112)) fun e w' => ∃ (v : Value) (ss : List Int), e = .returned v ∧ ss.Perm (intKeys D0) ∧
      w'.ownsRow (w.alloc (.cells #[.map (some b)] 112)).heap.size 2 1 v ss.length ((ss.mergeSort (fun x y => decide (x ≤ y))).map encZ) ∧ (v = .slice none 0 0 ↔ ss = []) ∧ Below (w.alloc (.cells #[.map (some b)] 112)).heap.size (w.alloc (.cells #[.map (some b)] 112)) w' := by
  have hbl := hown.lt
  have hseq : SeqGives Fence.wide 2 Tryz.prog 102 #[.pointer (some ⟨w.heap.size, 0, none⟩)] encZ (fun ss => ss.Perm (intKeys D0)) (Maps.size D0) (w.alloc (.cells #[.map (some b)] 112)) :=
    AnyZI.keys_gives (ρ := Tryz.keysI_ren) { Tryz.keysI with } Fence.wide _ trivial rfl (by omega) w.heap.size b nn D0 _ (by simp) (by simp) (by
      obtain ⟨es, clock, hb, Ft, hs, hD⟩ := hown
      exact ⟨es, clock, (Below.heap_alloc _ _ b hbl).trans hb, Ft, hs, hD⟩)
  exact AnyZI.sorted_in Tryz.sortedI Fence.wide 5 trivial trivial trivial trivial rfl (by omega) (sortsI _) (enters_of Tryz.func101 (by kernel_rfl) rfl) 102 #[.pointer (some ⟨w.heap.size, 0, none⟩)] trivial (enters_of Tryz.func102 (by kernel_rfl) rfl) _ _ hmax hbytes _ hseq
theorem sortedI_any (b : Nat) (m : List (IKey × Value)) (w : World) (h : IMap Tryz.prog 2 w b m) (hl : m.length * 8 ≤ 140737488355328) :
    Calls Tryz.prog 64 #[.func (.func 102) #[] #[.pointer (some ⟨w.heap.size, 0, none⟩)]] (w.alloc (.cells #[.map (some b)] 112)) (SortedI (m.map (·.1)) (w.alloc (.cells #[.map (some b)] 112))) := by
  have hsz : Maps.size (kiD m) = m.length := by simp [kiD, Maps.size]
  have hk : intKeys (kiD m) = m.map (·.1) := by
    simp only [kiD, intKeys, List.map_map]
    rfl
  have hs : (m.map (·.1)).Pairwise fun a b => a < b := by rw [List.pairwise_map]; exact IMap.sorted (Maps.int_keyed intT0) h
  refine ((callsIn_wide (n := 5)).1 (sortedI_own b _ (kiD m) Rv w h (by rw [hsz]; unfold maxLen; omega) (by rw [hsz]; exact hl))).mono fun e w' hq => ?_
  obtain ⟨v, ss, rfl, hp, hrow, hnil, hb⟩ := hq
  rw [hk] at hp
  rw [sortedIds hs hp, hp.length_eq] at hrow
  exact ⟨v, rfl, hrow, hnil.trans ⟨fun e => by rw [e] at hp; exact hp.nil_eq.symm, fun e => by rw [e] at hp; exact hp.eq_nil⟩, hb⟩
end Go.Proofs.YtclekhjnnljjlaaGreatDoor
namespace Go.Proofs.YtclekhjnnljjlaaGreatDoor
open Go.RowKit
set_option maxHeartbeats 2000000
set_option maxRecDepth 100000

def SesOut (T : List Se) (w : World) (e : Ending) (w' : World) : Prop := ∃ v, e = .returned v ∧ OwnSe w.heap.size T v w' ∧ Ext w w'
theorem kv_sorted {T : List Se} (h : TSorted T) : ISorted (T.map (kvS id)) := by
  unfold ISorted
  rw [List.pairwise_map]
  exact h
theorem tbl_at {S : Nat → Prop} {w : World} {T : List Se} {m : List (IKey × Value)} (hr : RelI (fun s v => SeS S w v s) (T.map (kvS id)) m) (hs : TSorted T) {k : Nat} (hk : k < T.length) : ∃ v, iget m T[k].id = some v ∧ SeS S w v T[k] := by
  have h1 : iget (T.map (kvS id)) T[k].id = some T[k] := iget_of_mem (kv_sorted hs) (List.mem_map.2 ⟨T[k], List.getElem_mem hk, rfl⟩)
  rcases hr.get T[k].id with ⟨h2, _⟩ | ⟨x, y, h2, h3, h4⟩
  · rw [h1] at h2; cases h2
  · rw [h1] at h2
    cases h2
    exact ⟨y, h3, h4⟩

theorem slist_any (S : Nat → Prop) (w : World) (bt bm : Nat) (T : List Se) (N : Nat) (hT : TblAt S w bt bm T N) (hl : T.length * 40 ≤ 140737488355328) :
    Calls Tryz.prog 35 #[.pointer (some ⟨bt, 0, none⟩)] w (SesOut T w) := by
  have hbound := hT.bound
  obtain ⟨m, hm, hr⟩ := hT.ex
  have hks : m.map (·.1) = T.map (·.id) := by rw [← hr.keys, List.map_map]; rfl
  have hml : m.length = T.length := by have := hr.length; simpa using this.symm
  have hcb : w.cell? ⟨bt, 0, none⟩ = some (.map (some bm)) := cell_of_row _ _ _ _ _ _ hT.blk
  have CK := Lib.hid (keysI_any (some bm) w)
  have CS := sortedI_any bm m w hm (by omega)
  rw [hks] at CS
  have CS := Lib.hid CS
  have HT := Lib.hid hT
  have HM := Lib.hid hm
  have HR := Lib.hid hr
  have HB := Lib.hid hbound
  have hbl := hT.bound _ hT.st
  clear hT hm hr hbound hks hml
  go_enter Tryz.func35, Tryz.ntmps35
  go_wp2_with fail
  refine CK.out.mono ?_
  rintro e W1 ⟨rfl, rfl⟩
  clear CK
  go_wp2_with fail
  refine CS.out.mono ?_
  rintro e W2 ⟨v, rfl, hrow, _, hE2⟩
  have hE2 : Ext w W2 := (Ext.alloc w _).trans hE2
  obtain ⟨a, c, rfl, hcell⟩ := ownsRow_from hrow
  rw [List.length_map]
  have HC := Lib.hid hcell
  have HE2 := Lib.hid hE2
  have hcb2 := (hE2.cell (p := ⟨bt, 0, none⟩) hbl).trans hcb
  clear CS hrow hcell hE2
  go_wp2
  go_loopw [3, 15] (fun ov i wr => ∃ k : Nat, k ≤ T.length ∧ i = .int .i64 k ∧ Hid (OwnSe W2.heap.size (T.take k) ov wr) ∧ Ext W2 wr) (fun _ i _ => T.length - (intOf i).toNat)
  case atStart => exact ⟨0, Nat.zero_le _, rfl, OwnSe.nil _ _, Ext.refl _⟩
  case round =>
    obtain ⟨k, hk, rfl, HO, hE⟩ := hrel
    have hcr : wr.cell? ⟨bt, 0, none⟩ = some (.map (some bm)) := (hE.cell (p := ⟨bt, 0, none⟩) (Nat.lt_of_lt_of_le hbl HE2.out.size)).trans hcb2
    have hEw := HE2.out.trans hE
    by_cases hlt : k < T.length
    · have hki : (T.map (·.id)).map (Value.int .i64) = T.map fun s => Value.int .i64 s.id := by rw [List.map_map]; rfl
      obtain ⟨b, off, rfl, _, hb, hc⟩ := HC.out k (.int .i64 T[k].id) (by rw [hki, List.getElem?_map, List.getElem?_eq_getElem hlt]; rfl)
      have hcr2 := (hE.cell (p := ⟨b, off + k, none⟩) hb).trans hc
      obtain ⟨v, hv, hS⟩ := tbl_at HR.out HT.out.sorted hlt
      have hfit := HT.out.fit T[k] (List.getElem_mem hlt)
      have htk : T.take (k + 1) = T.take k ++ [T[k]] := List.take_succ_eq_append_getElem hlt
      have hll : (T.take k).length ≤ k := by rw [List.length_take]; omega
      generalize T[k] = s at *
      have hq := IMap.look (e := 62) (HM.out.keep (hEw.block bm HM.out.lt)) intT Tryz.underlying112 (z := .agg zeroSe) (by kernel_rfl) hfit.id
      rw [hv] at hq
      obtain ⟨ia, ic, rfl, hic, hI⟩ := hS
      simp only [Option.getD_some] at hq
      have CO := Lib.hid (own_any s ia ic wr hfit (fun j u hj => by
        obtain ⟨b, o, e, h1, h2⟩ := hI j u hj
        exact ⟨b, o, e, Nat.lt_of_lt_of_le (HB.out b h1) hEw.size, (hEw.cell (p := ⟨b, o + j, none⟩) (HB.out b h1)).trans h2⟩))
      have HTK := Lib.hid htk
      have HE := Lib.hid hE
      have HEW := Lib.hid hEw
      unfold seC at hq CO
      clear hc hE hEw htk hI hv hfit hki
      go_wp2_with fail
      refine CO.out.mono ?_
      rintro e W5 ⟨v, rfl, hN, hE5⟩
      have hE5 : Ext wr W5 := hE5
      have HN := Lib.hid hN
      obtain ⟨qa, qc, rfl, _, _⟩ := hN
      have hbz : W2.heap.size ≤ wr.heap.size := HE.out.size
      have HE5 := Lib.hid hE5
      have HE25 := Lib.hid (HE.out.trans hE5)
      unfold seC at HN ⊢
      clear CO hE5 hcr hcr2 hq
      go_wp2_with (at_builtin; refine wpList_append_se rfl (.tmp 19) (.tmp 27) rfl W2.heap.size (T.take k) _ HO.out HE5.out hbz s _ HN.out (by omega) rfl rfl ?_)
      intro v' W6 hO6 hE6
      have HO6 := Lib.hid hO6
      have HE6 := Lib.hid (hE6 W2 HE25.out (Nat.le_refl _))
      clear hO6 hE6
      go_wp2
      go_roundw
      case rel => exact ⟨k + 1, by omega, by go_num, by unfold Hid; rw [HTK.out]; exact HO6.out, HE6.out⟩
      case measure => simp [intOf]; omega
    · obtain rfl : k = T.length := by omega
      rw [List.take_length] at HO
      have HFIN := Lib.hid (show SesOut T w (.returned u3) wr from ⟨_, rfl, HO.out.mono HE2.out.size, hEw⟩)
      clear hE HO hEw
      go_wp2
      go_ret
      exact HFIN.out
end Go.Proofs.YtclekhjnnljjlaaGreatDoor
namespace Go.Proofs.YtclekhjnnljjlaaGreatDoor
open Go.RowKit
set_option maxHeartbeats 2000000
set_option maxRecDepth 100000

theorem ids_eq_iff {x y : List (ByteArray × ByteArray)} (hl : x.length = y.length) : x = y ↔ ∀ j (h1 : j < x.length) (h2 : j < y.length), x[j] = y[j] :=
  ⟨fun e j _ _ => by subst e; rfl, fun h => List.ext_getElem hl h⟩
theorem rsame8_any (s t : Se) (a b : Option Addr) (c d : Nat) (w : World) (hs : s.ids.length ≤ 9223372036854775800) (ht : t.ids.length ≤ 9223372036854775800) (hc : Cells w.heap.size w a (idCs s.ids)) (hd : Cells w.heap.size w b (idCs t.ids)) :
    Calls Tryz.prog 84 #[.agg (seC s (.slice a s.ids.length c)), .agg (seC t (.slice b t.ids.length d))] w fun e w' => e = .returned (.bool (sameS s t)) ∧ Ext w w' := by
  obtain ⟨W1, hW1⟩ : ∃ W1, W1 = (w.alloc (.cells (seC s (.slice a s.ids.length c)) 62)).alloc (.cells (seC t (.slice b t.ids.length d)) 62) := ⟨_, rfl⟩
  have hE1 : Ext w W1 := by rw [hW1]; exact (Ext.alloc _ _).trans (Ext.alloc _ _)
  have hr1 : W1.heap[w.heap.size]? = some (.cells (seC s (.slice a s.ids.length c)) 62 (0, 0)) := by rw [hW1]; exact heap_alloc2_old w _ _
  have hr2 : W1.heap[w.heap.size + 1]? = some (.cells (seC t (.slice b t.ids.length d)) 62 (0, 0)) := by rw [hW1]; exact heap_alloc2_new w _ _
  have g2 : W1.cell? ⟨w.heap.size, 2, none⟩ = some (.slice a s.ids.length c) := cell_of_row _ _ _ _ _ _ hr1
  have k2 : W1.cell? ⟨w.heap.size + 1, 2, none⟩ = some (.slice b t.ids.length d) := cell_of_row _ _ _ _ _ _ hr2
  have HW := Lib.hid hW1
  have hg := guard_id
  have hnq := neq_id
  unfold seC at HW ⊢
  clear hW1 hr1 hr2
  by_cases h1 : s.id ≠ t.id
  · have H : Hid (sameS s t = false) := by unfold Hid sameS; rw [decide_eq_false h1]; rfl
    have d1 : (s.id != t.id) = true := by simpa using h1
    clear h1
    go_enter Tryz.func84, Tryz.ntmps84
    go_wp2
    rw [← HW.out]
    go_ret
    exact ⟨by rw [H.out]; rfl, hE1⟩
  have h1 : s.id = t.id := by omega
  have d1 : (s.id != t.id) = false := by simpa using h1
  by_cases h2 : s.tm ≠ t.tm
  · have H : Hid (sameS s t = false) := by unfold Hid sameS; rw [decide_eq_false h2]; simp
    have d2 : (s.tm != t.tm) = true := by simpa using h2
    clear h1 h2
    go_enter Tryz.func84, Tryz.ntmps84
    go_wp2
    rw [← HW.out]
    go_ret
    exact ⟨by rw [H.out]; rfl, hE1⟩
  have h2 : s.tm = t.tm := by omega
  have d2 : (s.tm != t.tm) = false := by simpa using h2
  by_cases h3 : s.ids.length ≠ t.ids.length
  · have H : Hid (sameS s t = false) := by unfold Hid sameS; rw [decide_eq_false (p := s.ids = t.ids) (fun e => h3 (by rw [e]))]; simp
    have d3 : ((s.ids.length : Int) != t.ids.length) = true := by simp; omega
    clear h1 h2 h3
    go_enter Tryz.func84, Tryz.ntmps84
    go_wp2
    rw [← HW.out]
    go_ret
    exact ⟨by rw [H.out]; rfl, hE1⟩
  have h3 : s.ids.length = t.ids.length := by omega
  have d3 : ((s.ids.length : Int) != t.ids.length) = false := by simp; omega
  have HS : Hid (sameS s t = decide (s.ids = t.ids)) := by unfold Hid sameS; rw [decide_eq_true h1, decide_eq_true h2]; rfl
  have HL := Lib.hid h3
  clear h1 h2 h3
  go_enter Tryz.func84, Tryz.ntmps84
  go_wp2
  rw [← HW.out]
  go_loopw [5] (fun i wr => ∃ (k n : Nat), k ≤ s.ids.length ∧ i = .int .i64 k ∧ wr = W1.drewN n ∧ Hid (∀ j (h1 : j < s.ids.length) (h2 : j < t.ids.length), j < k → s.ids[j] = t.ids[j])) (fun i _ => s.ids.length - (intOf i).toNat)
  case atStart => exact ⟨0, 0, Nat.zero_le _, rfl, rfl, fun j _ _ h => by omega⟩
  case round =>
    obtain ⟨k, n, hk, rfl, rfl, HQ⟩ := hrel
    by_cases hlt : k < s.ids.length
    · have hlt' : k < t.ids.length := by have := HL.out; omega
      obtain ⟨b1, o1, rfl, _, c0, c1⟩ := idCells (hc.below hE1) k hlt
      obtain ⟨b2, o2, rfl, _, e0, e1⟩ := idCells (hd.below hE1) k hlt'
      have hk1 : (k : Int) < s.ids.length := by omega
      have hk2 : (k : Int) < t.ids.length := by omega
      have hk0 : (0 : Int) ≤ k := by omega
      cases he : eqId s.ids[k] t.ids[k]
      · have H : Hid (sameS s t = false) := by
          unfold Hid
          rw [HS.out]
          refine decide_eq_false fun e => ?_
          have := (ids_eq_iff HL.out).1 e k hlt hlt'
          rw [eqId_eq, this] at he
          simp at he
        clear hc hd
        go_wp2
        go_quiet (fail)
        go_wp2
        go_ret
        exact ⟨by rw [H.out]; rfl, hE1.trans (below_drewN (below_drewN (Below.refl _ _) _) _)⟩
      · have hx : s.ids[k] = t.ids[k] := by
          rw [eqId_eq] at he
          exact of_decide_eq_true he
        have HN : Hid (∀ j (h1 : j < s.ids.length) (h2 : j < t.ids.length), j < k + 1 → s.ids[j] = t.ids[j]) := fun j h1 h2 hj => by
          by_cases e : j = k
          · subst e; exact hx
          · exact HQ.out j h1 h2 (by omega)
        clear hx hc hd
        go_wp2
        go_quiet (fail)
        go_wp2
        go_roundw
        case rel => exact ⟨k + 1, _, by omega, by go_num, rfl, HN⟩
        case measure => simp [intOf]; omega
    · have H : Hid (sameS s t = true) := by
        unfold Hid
        rw [HS.out]
        exact decide_eq_true ((ids_eq_iff HL.out).2 fun j h1 h2 => HQ.out j h1 h2 (by omega))
      clear hc hd
      go_wp2
      go_ret
      exact ⟨by rw [H.out]; rfl, hE1.trans (below_drewN (Below.refl _ _) _)⟩
end Go.Proofs.YtclekhjnnljjlaaGreatDoor
namespace Go.Proofs.YtclekhjnnljjlaaGreatDoor
open Go.RowKit
set_option maxHeartbeats 4000000
set_option maxRecDepth 100000

theorem idsEq_self (l : List (ByteArray × ByteArray)) (a b : Option Addr) (c d : Nat) (w : World) (hc : Cells w.heap.size w a (idCs l)) (hd : Cells w.heap.size w b (idCs l)) (hm : l.length ≤ 9223372036854775800) :
    Calls Tryz.prog 59 #[.slice a l.length c, .slice b l.length d] w fun e w' => e = .returned (.bool true) ∧ Ext w w' := by
  have hg := guard_id
  have hnq := neq_id
  go_enter Tryz.func59, Tryz.ntmps59
  go_wp2
  go_loopw [13] (fun i wr => ∃ (k n : Nat), k ≤ l.length ∧ i = .int .i64 k ∧ wr = w.drewN n) (fun i _ => l.length - (intOf i).toNat)
  case atStart => exact ⟨0, 0, Nat.zero_le _, rfl, rfl⟩
  case round =>
    obtain ⟨k, n, hk, rfl, rfl⟩ := hrel
    by_cases hlt : k < l.length
    · obtain ⟨b1, o1, rfl, hb1, c0, c1⟩ := idCells hc k hlt
      obtain ⟨b2, o2, rfl, hb2, d0, d1⟩ := idCells hd k hlt
      have hk1 : (k : Int) < l.length := by omega
      have hk0 : (0 : Int) ≤ k := by omega
      have he : eqId l[k] l[k] = true := by rw [eqId_eq]; simp
      clear hc hd
      go_wp2
      go_quiet (fail)
      go_wp2
      go_roundw
      case rel => exact ⟨k + 1, _, by omega, by go_num, rfl⟩
      case measure => simp [intOf]; omega
    · obtain rfl : k = l.length := by omega
      clear hc hd
      go_wp2
      go_ret
      exact ⟨rfl, below_drewN (Below.refl _ _) _⟩
theorem seq_self (s : Se) (a b : Option Addr) (c d : Nat) (w : World) (hf : FitS s) (hc : Cells w.heap.size w a (idCs s.ids)) (hd : Cells w.heap.size w b (idCs s.ids)) :
    Calls Tryz.prog 58 #[.agg (seC s (.slice a s.ids.length c)), .agg (seC s (.slice b s.ids.length d))] w fun e w' => e = .returned (.bool true) ∧ Ext w w' := by
  obtain ⟨W1, hW1⟩ : ∃ W1, W1 = (w.alloc (.cells (seC s (.slice a s.ids.length c)) 62)).alloc (.cells (seC s (.slice b s.ids.length d)) 62) := ⟨_, rfl⟩
  have hE1 : Ext w W1 := by rw [hW1]; exact (Ext.alloc _ _).trans (Ext.alloc _ _)
  have hr1 : W1.heap[w.heap.size]? = some (.cells (seC s (.slice a s.ids.length c)) 62 (0, 0)) := by rw [hW1]; exact heap_alloc2_old w _ _
  have hr2 : W1.heap[w.heap.size + 1]? = some (.cells (seC s (.slice b s.ids.length d)) 62 (0, 0)) := by rw [hW1]; exact heap_alloc2_new w _ _
  have hids := hf.ids
  have C1 := Lib.hid (idsEq_self s.ids a b c d W1 (hc.ext hE1) (hd.ext hE1) (by omega))
  have HE1 := Lib.hid hE1
  have hx1 : Box W1 w.heap.size (seC s (.slice a s.ids.length c)) := fun j => cell_of_row _ _ _ _ _ _ hr1
  have hx2 : Box W1 (w.heap.size + 1) (seC s (.slice b s.ids.length d)) := fun j => cell_of_row _ _ _ _ _ _ hr2
  rw [hW1] at C1 hx1 hx2
  have HW := Lib.hid hW1
  unfold Box seC at hx1 hx2
  unfold seC at C1 HW ⊢
  clear hW1 hr1 hr2 hE1 hc hd
  go_enter Tryz.func58, Tryz.ntmps58
  go_wp2_with fail
  refine C1.out.mono ?_
  rintro e W2 ⟨rfl, hE2⟩
  rw [← HW.out] at hE2
  have HE2 := Lib.hid (HE1.out.trans hE2)
  clear C1 hE2 HW hx1 hx2
  go_wp2
  go_ret
  exact ⟨rfl, HE2.out⟩
theorem meq_self (S1 S2 : Nat → Prop) (w : World) (bt1 bt2 bn1 bn2 : Nat) (M : List Se) (N1 N2 : Nat) (h1 : TblAt S1 w bt1 bn1 M N1) (h2 : TblAt S2 w bt2 bn2 M N2) :
    Calls Tryz.prog 57 #[.map (some bn1), .map (some bn2), .func (.func 58) #[] #[]] w fun e w' => e = .returned (.bool true) ∧ Ext w w' := by
  have hS1 := h1.bound
  have hS2 := h2.bound
  have hfit := h1.fit
  obtain ⟨m1, hm1, hr1⟩ := h1.ex
  have hl1 : M.length = m1.length := by have := hr1.length; simpa using this
  have hlt2 : bn2 < w.heap.size := by obtain ⟨m2, hm2, _⟩ := h2.ex; exact hm2.lt
  have hlen1 := fun ty => hm1.len (e := 62) Tryz.underlying112 ty
  have hlen2 : ∀ ty, (Builtin.len_ #[112] ty #[.map (some bn2)]).run Tryz.prog w = .ok (.int .i64 M.length) w := fun ty => by
    obtain ⟨m2, hm2, hr2⟩ := h2.ex
    rw [show M.length = m2.length from by have := hr2.length; simpa using this]
    exact hm2.len (e := 62) Tryz.underlying112 ty
  rw [← hl1] at hlen1
  have HR1 := Lib.hid hr1
  have H2 := Lib.hid h2
  have HFT := Lib.hid hfit
  have HSO := Lib.hid h1.sorted
  have HM1 := hm1
  clear h1 h2 hm1 hr1 hfit hl1
  go_enter Tryz.func57, Tryz.ntmps57
  go_wp2_with (at_range; refine wpList_range_i _ rfl _ 112 rfl 2 62 intT Tryz.underlying112 bn1 _ rfl HM1 ?_; intro w0 hrg0 hg0 hs0)
  go_frame
  have hE0 : Ext w w0 := ⟨hg0.os, hg0.tape, hg0.output, hg0.size, fun k hk => hg0.block k hk (by simp)⟩
  have hb1 := HM1.lt
  have HRG0 := Lib.hid hrg0
  have HE0 := Lib.hid hE0
  clear HM1 hlen1 hlen2 hrg0 hg0 hs0 hE0
  go_loopw [6] (fun r wr => ∃ (left : Lit → Bool) (cnt : Nat), r = .bool false ∧ wr.ranges Tryz.prog 2 Rv bn1 w.heap.size m1.length (kiD m1) left cnt ∧ Ext w wr) (fun _ wr => wr.rangeLeft bn1 w.heap.size)
  case atStart => exact ⟨_, _, rfl, HRG0.out, HE0.out⟩
  case round =>
    obtain ⟨left, cnt, rfl, hrg, hE⟩ := hrel
    have HE := Lib.hid hE
    clear hE
    go_wp2_with (at_next; refine wpList_next_i _ rfl _ rfl 2 intT bn1 w.heap.size _ m1 left cnt rfl hrg ?_ ?_)
    · intro _
      clear hrg
      go_wp2
      go_ret
      exact ⟨rfl, HE.out⟩
    · intro s v w6 cnt6 hs _ hmg hrg6 hlt6 hg6 hsz6 hen
      obtain ⟨y, hmem, rfl, hv⟩ : ∃ y ∈ M, y.id = s ∧ SeS S1 w v y := by
        have hg := iget_tget (id : Se → Se) M s
        rcases HR1.out.get s with ⟨_, h2⟩ | ⟨y, u, h1, h2, h3⟩
        · rw [h2] at hmg; cases hmg
        · rw [h2] at hmg; cases hmg
          rw [h1] at hg
          cases hq : tget M s with
          | none => rw [hq] at hg; cases hg
          | some z =>
            rw [hq] at hg
            obtain rfl : y = z := Option.some.inj hg
            exact ⟨y, List.mem_of_find?_eq_some hq, by simpa using List.find?_some hq, h3⟩
      have hEw6 : Ext w w6 := HE.out.trans' ⟨hg6.os, hg6.tape, hg6.output, hg6.size, fun i hi => hg6.block i (Nat.lt_of_lt_of_le hi HE.out.size) (fun e => by
        have := Option.some.inj e
        omega)⟩
      have hfit := HFT.out y hmem
      obtain ⟨da, dc, rfl, hdc, hD⟩ := hv
      obtain ⟨W7, hW7⟩ : ∃ W7, W7 = w6.alloc (.cells (seC y (.slice da y.ids.length dc)) 62) := ⟨_, rfl⟩
      have hE7 : Ext w6 W7 := by rw [hW7]; exact Ext.alloc _ _
      have hz7 : W7.heap.size = w6.heap.size + 1 := by rw [hW7]; simp
      have hn7 : W7.heap[w6.heap.size]? = some (.cells (seC y (.slice da y.ids.length dc)) 62 (0, 0)) := by rw [hW7]; exact heap_alloc_new _ _
      have hEw7 := hEw6.trans hE7
      have h27 : TblAt S2 W7 bt2 bn2 M N2 := H2.out.ext hEw7
      obtain ⟨m2, hm2, hr2⟩ := h27.ex
      obtain ⟨i, hi, hyi⟩ := List.getElem_of_mem hmem
      obtain ⟨v2, hg2, hv2⟩ := tbl_at hr2 h27.sorted hi
      rw [hyi] at hg2 hv2
      have hq := IMap.look_ok (e := 62) hm2 intT Tryz.underlying112 (z := .agg zeroSe) (by kernel_rfl) hfit.id
      rw [hg2] at hq
      simp only [Option.getD_some, Option.isSome_some] at hq
      obtain ⟨db, dd, rfl, hdd, hD2⟩ := hv2
      obtain ⟨W8, hW8⟩ : ∃ W8, W8 = W7.alloc (.cells (seC y (.slice db y.ids.length dd)) 62) := ⟨_, rfl⟩
      have hE8 : Ext W7 W8 := by rw [hW8]; exact Ext.alloc _ _
      have hz8 : W8.heap.size = W7.heap.size + 1 := by rw [hW8]; simp
      have hn8 : W8.heap[W7.heap.size]? = some (.cells (seC y (.slice db y.ids.length dd)) 62 (0, 0)) := by rw [hW8]; exact heap_alloc_new _ _
      have hn78 := (hE8.block w6.heap.size (by omega)).trans hn7
      have hE68 := hE7.trans hE8
      have CS := Lib.hid (seq_self y da db dc dd W8 hfit ((CellsS.cells (B := w.heap.size) hD hS1).ext (hEw7.trans hE8)) ((CellsS.cells (B := W7.heap.size) hD2 fun b hb => Nat.lt_of_lt_of_le (hS2 b hb) hEw7.size).ext hE8))
      have HRG8 := Lib.hid (hrg6.kept (grown_ext hE68 none) (by simp) (by simp))
      have HRG := Lib.hid hrg
      have HSET7 := Lib.hid ((setRow_alloc w6 zeroSe (seC y (.slice da y.ids.length dc)) 62).trans hW7.symm)
      have HNew7 := Lib.hid (heap_alloc_new w6 (.cells zeroSe 62))
      have HSET8 := Lib.hid ((setRow_alloc W7 zeroSe (seC y (.slice db y.ids.length dd)) 62).trans hW8.symm)
      have HNew8 := Lib.hid (heap_alloc_new W7 (.cells zeroSe 62))
      have HN78 := Lib.hid hn78
      have HN8 := Lib.hid hn8
      have HEW8 := Lib.hid (hEw7.trans hE8)
      have HLT := Lib.hid hlt6
      rw [hz7] at HSET8 HNew8 HN8
      unfold seC at HSET7 HSET8 HN78 HN8 CS hq
      unfold zeroSe at HSET7 HNew7 HSET8 HNew8
      clear hrg hrg6 hg6 hsz6 hW7 hW8 hE7 hE8 hE68 hEw6 hEw7 hn7 hn8 hn78 h27 hD hD2 hmg hlt6 hfit hmem hm2 hr2 hg2 hyi
      unfold seC at hen
      go_wp2_with (first | (refine wpList_store_row rfl 62 (.tmp 8) (.tmp 22) rfl w6.heap.size _ rfl rfl 62 _ HNew7.out sizeSe rfl (cells_se y da _ dc) ?_; rw [HSET7.out]) | (refine wpList_store_row rfl 62 (.tmp 9) (.tmp 27) rfl (w6.heap.size + 1) _ rfl rfl 62 _ HNew8.out sizeSe rfl (cells_se y db _ dd) ?_; rw [HSET8.out]) | (refine wpList_load_row_g rfl 62 (.tmp 8) rfl w6.heap.size rfl 62 _ (0, 0) _ HN78.out Tryz.underlying62 rfl sizeSe ?_) | (refine wpList_load_row_g rfl 62 (.tmp 9) rfl (w6.heap.size + 1) rfl 62 _ (0, 0) _ HN8.out Tryz.underlying62 rfl sizeSe ?_))
      refine CS.out.mono ?_
      rintro e w9 ⟨rfl, hE9⟩
      have hE9 : Ext W8 w9 := hE9
      have hrg9 := HRG8.out.kept (grown_ext hE9 none) (by simp) (by simp)
      have HREL := Lib.hid (show ∃ (left : Lit → Bool) (cnt : Nat), Value.bool false = .bool false ∧ w9.ranges Tryz.prog 2 Rv bn1 w.heap.size m1.length (kiD m1) left cnt ∧ Ext w w9 from ⟨_, _, rfl, hrg9, HEW8.out.trans hE9⟩)
      have HMS := Lib.hid (show w9.rangeLeft bn1 w.heap.size < wr.rangeLeft bn1 w.heap.size by rw [hrg9.left_eq, HRG.out.left_eq]; exact HLT.out)
      clear CS hE9 hrg9 HRG8 HRG HN78 HN8 HSET7 HSET8 HNew7 HNew8 hq hen
      go_wp2
      go_roundw
      case rel =>
        obtain ⟨l, c, _, h⟩ := HREL.out
        exact ⟨l, c, rfl, h⟩
      case measure => exact HMS.out

theorem tblEq_self (S1 S2 : Nat → Prop) (w : World) (b1 b2 : Nat) (x1 x2 : Nat) (M : List Se) (N1 N2 : Nat) (h1 : TblAt S1 w b1 x1 M N1) (h2 : TblAt S2 w b2 x2 M N2) :
    Calls Tryz.prog 30 #[.pointer (some ⟨b1, 0, none⟩), .pointer (some ⟨b2, 0, none⟩)] w fun e w' => e = .returned (.bool true) ∧ Ext w w' := by
  have hx1 : Box w b1 #[.map (some x1)] := fun j => cell_of_row _ _ _ _ _ _ h1.blk
  have hx2 : Box w b2 #[.map (some x2)] := fun j => cell_of_row _ _ _ _ _ _ h2.blk
  have HC := Lib.hid fun (W : World) (hE : Ext w W) => meq_self S1 S2 W b1 b2 x1 x2 M N1 N2 (h1.ext hE) (h2.ext hE)
  unfold Box at hx1 hx2
  clear h1 h2
  go_enter Tryz.func30, Tryz.ntmps30
  have hG0 : Ext w w.drew := Ext.drew _
  have HX1 := Lib.hid hx1
  have HX2 := Lib.hid hx2
  have hGx : ∀ (i : Nat) (d d' : Nat → Bool) (u v : World), Ext w u → Ext u v → (∀ k, k ≠ i → d' k = d k) → Ext w v := fun _ _ _ _ _ h k _ => h.trans k
  clear hx1 hx2
  go_wp2
  refine wp_region_P (by kernel_rfl) (region_state_vals 23 (fun _ W => Ext w W) hG0 [.pointer (some ⟨b1, 0, none⟩), .pointer (some ⟨b1, 0, none⟩), .pointer (some ⟨b1, 0, none⟩), .map (some x1), .pointer (some ⟨b2, 0, none⟩), .pointer (some ⟨b2, 0, none⟩), .pointer (some ⟨b2, 0, none⟩), .map (some x2), .bool true, .bool true] rfl (by decide) rfl ?duties ?rest)
  case duties =>
    refine ⟨?_, ?_, ?_, ?_, ?_, ?_, ?_, ?_, ?_, ?_, trivial⟩
    · refine dutyS_ext (hGx _) fun d a w' hG hF hA => ?_
      have x1 := hF.slot 0 _ (by decide) rfl
      exact wp_value (w' := w') (v := .pointer (some ⟨b1, 0, none⟩)) (by simp only [execOp, x1]; simp [go_sem]) ⟨_, rfl, rfl, Ext.refl _⟩
    · refine dutyS_ext (hGx _) fun d a w' hG hF hA => ?_
      have x1 := hA.val 0 14 rfl rfl ⟨⟨0, .data⟩, by simp, rfl, rfl⟩ rfl
      exact wp_value (ex_nilCheck rfl _ x1) ⟨_, rfl, rfl, Ext.refl _⟩
    · refine dutyS_ext (hGx _) fun d a w' hG hF hA => ?_
      have x1 := hA.val 1 15 rfl rfl ⟨⟨1, .data⟩, by simp, rfl, rfl⟩ rfl
      exact wp_value (w' := w') (v := .pointer (some ⟨b1, 0, none⟩)) (by simp only [execOp, x1]; simp [go_sem]) ⟨_, rfl, rfl, Ext.refl _⟩
    · refine dutyS_ext (hGx _) fun d a w' hG hF hA => ?_
      have x1 := hA.val 2 16 rfl rfl ⟨⟨2, .data⟩, by simp, rfl, rfl⟩ rfl
      have hc := HX1.out 0
      exact wp_value (ex_cell rfl _ _ x1 ((hG.cell (p := ⟨b1, 0, none⟩) (World.block_lt_of_cell? _ _ hc)).trans hc) rfl Tryz.underlying112) ⟨_, rfl, rfl, Ext.refl _⟩
    · refine dutyS_ext (hGx _) fun d a w' hG hF hA => ?_
      have x1 := hF.slot 1 _ (by decide) rfl
      exact wp_value (w' := w') (v := .pointer (some ⟨b2, 0, none⟩)) (by simp only [execOp, x1]; simp [go_sem]) ⟨_, rfl, rfl, Ext.refl _⟩
    · refine dutyS_ext (hGx _) fun d a w' hG hF hA => ?_
      have x1 := hA.val 4 18 rfl rfl ⟨⟨4, .data⟩, by simp, rfl, rfl⟩ rfl
      exact wp_value (ex_nilCheck rfl _ x1) ⟨_, rfl, rfl, Ext.refl _⟩
    · refine dutyS_ext (hGx _) fun d a w' hG hF hA => ?_
      have x1 := hA.val 5 19 rfl rfl ⟨⟨5, .data⟩, by simp, rfl, rfl⟩ rfl
      exact wp_value (w' := w') (v := .pointer (some ⟨b2, 0, none⟩)) (by simp only [execOp, x1]; simp [go_sem]) ⟨_, rfl, rfl, Ext.refl _⟩
    · refine dutyS_ext (hGx _) fun d a w' hG hF hA => ?_
      have x1 := hA.val 6 20 rfl rfl ⟨⟨6, .data⟩, by simp, rfl, rfl⟩ rfl
      have hc := HX2.out 0
      exact wp_value (ex_cell rfl _ _ x1 ((hG.cell (p := ⟨b2, 0, none⟩) (World.block_lt_of_cell? _ _ hc)).trans hc) rfl Tryz.underlying112) ⟨_, rfl, rfl, Ext.refl _⟩
    · refine dutyS_ext (hGx _) fun d a w' hG hF hA => ?_
      have x1 := hA.val 3 17 rfl rfl ⟨⟨3, .data⟩, by simp, rfl, rfl⟩ rfl
      have x2 := hA.val 7 21 rfl rfl ⟨⟨7, .data⟩, by simp, rfl, rfl⟩ rfl
      refine wp_enter (ex_call rfl (enters_f Tryz.func57 (by kernel_rfl) rfl)) (by simp only [List.map_toArray, List.map_cons, List.map_nil, x1, x2]; exact HC.out w' hG) ?_
      rintro e w4 ⟨rfl, h4⟩
      exact ⟨_, rfl, _, rfl, rfl, h4⟩
    · refine dutyS_ext (hGx _) fun d a w' hG hF hA => ?_
      have x1 := hA.val 8 22 rfl rfl ⟨⟨8, .data⟩, by simp, rfl, rfl⟩ rfl
      exact wp_value (w' := w') (v := .bool true) (by simp only [execOp, x1]; simp [go_sem]) ⟨_, rfl, rfl, Ext.refl _⟩
  case rest =>
    intro d W4 hdn hG4
    have HE := Lib.hid hG4
    clear hG4 hdn hG0 hGx HC
    simp only [filled, List.zip_cons_cons, List.zip_nil_left, List.foldl_cons, List.foldl_nil, Act.put, List.setIfInBounds_toArray, List.set_cons_succ, List.set_cons_zero, Exit.inBlock, Exit.then]
    rename_i hK
    refine hK _ _ ?_
    clear hK
    go_wp2
    go_ret
    exact ⟨rfl, HE.out⟩
end Go.Proofs.YtclekhjnnljjlaaGreatDoor
namespace Go.Proofs.YtclekhjnnljjlaaGreatDoor
open Go.RowKit
section
variable {P : Program} {ops : Array Oper} {Q : Exit → Act → World → Prop} {a0 : Act} {w0 : World}

/-- What the operations yielded. -/
def valsOf (ops : Array Oper) (a : Act) (k : Nat) : Value := match ops[k]? with
  | some o => valOf o a
  | none => undef
def updV (vals : Nat → Value) (i : Nat) (v : Value) (k : Nat) : Value := if k = i then v else vals k
theorem updV_same (vals : Nat → Value) (i : Nat) (v : Value) : updV vals i v i = v := by unfold updV; rw [if_pos rfl]
theorem updV_other (vals : Nat → Value) {i k : Nat} (v : Value) (h : k ≠ i) : updV vals i v k = vals k := by unfold updV; rw [if_neg h]
theorem valsOf_eval {a : Act} (j : Nat) (d : Tmp) {p : Oper} (hp : ops[j]? = some p) (hd : p.dst = some d) : a.eval (.tmp d) = valsOf ops a j := by
  unfold valsOf
  rw [hp]
  show _ = valOf p a
  unfold valOf
  rw [hd]
  simp [Act.eval]

/-- An operation's duty; d: which are done. -/
def DutyG (P : Program) (ops : Array Oper) (Q : Exit → Act → World → Prop) (G : (Nat → Bool) → (Nat → Value) → World → Prop) (a0 : Act) (i : Nat) (o : Oper) : Prop :=
  ∀ (d : Nat → Bool) a w, d i = false → (∀ f k j, reachB ops f k j = true → d k = true → d j = true) → (∀ e ∈ o.after.toList, Region.binds .any e = true → d e.on = true) → G d (valsOf ops a) w → Framed ops a0 a →
    o.wp P a w (fun a' w' => ∃ v, a' = a.put o.dst v ∧ G (fun k => d k || k == i) (updV (valsOf ops a) i (if o.dst.isSome = true then v else undef)) w') Q
def DutiesG (P : Program) (ops : Array Oper) (Q : Exit → Act → World → Prop) (G : (Nat → Bool) → (Nat → Value) → World → Prop) (a0 : Act) : Nat → List Oper → Prop
  | _, [] => True
  | i, o :: l => DutyG P ops Q G a0 i o ∧ DutiesG P ops Q G a0 (i + 1) l
theorem DutiesG.at {G : (Nat → Bool) → (Nat → Value) → World → Prop} : ∀ {l : List Oper} {k : Nat}, DutiesG P ops Q G a0 k l → ∀ i o, l[i]? = some o → DutyG P ops Q G a0 (k + i) o
  | [], _, _, i, o, h => by simp at h
  | q :: l, k, hd, 0, o, h => by simp at h; subst h; exact hd.1
  | q :: l, k, hd, i + 1, o, h => by
    have := DutiesG.at (k := k + 1) hd.2 i o (by simpa using h)
    rwa [show k + 1 + i = k + (i + 1) from by omega] at this

theorem region_gen (m : Nat) (G : (Nat → Bool) → (Nat → Value) → World → Prop) (hG0 : ∀ vals, G (fun _ => false) vals w0.drew)
    (hchk : (dstsOk ops && aheadB ops && (ops.toList.all fun o => o.guard.isNone && o.dst.all fun d => decide (d < m))) = true) (hsz : a0.tmps.size = m)
    (hd : DutiesG P ops Q G a0 0 ops.toList)
    (hend : ∀ us d w, (∀ i, i < ops.size → d i = true) → us.length = ops.toList.length → G d (fun k => us.getD k undef) w → Q .normal (filled ops.toList us a0) w) :
    RegionP P ops Q a0 w0 := by
  simp only [Bool.and_eq_true] at hchk
  obtain ⟨⟨hdst, hacy⟩, hall⟩ := hchk
  have hin : ∀ o ∈ ops.toList, ∀ d, o.dst = some d → d < a0.tmps.size := fun o ho d hd => by
    have := List.all_eq_true.1 hall o ho
    simp only [Bool.and_eq_true] at this
    have h2 := this.2
    rw [hd] at h2
    rw [hsz]; simpa using h2
  have hng : ∀ o ∈ ops.toList, o.guard = none := fun o ho => by
    have := List.all_eq_true.1 hall o ho
    simp only [Bool.and_eq_true] at this
    simpa using this.1
  have hdn : (ops.toList.filterMap (·.dst)).Nodup := by simpa [dstsOk] using hdst
  unfold RegionP
  refine wpAny_inv (fun l a w => l.size = ops.size ∧ G (fun k => l.getD k false) (valsOf ops a) w ∧ Framed ops a0 a ∧ Closed ops l) (fun _ _ _ h => h.1) ?_ ?_ _ _ _ _ ?_ ?_
  · rintro l a w i ⟨hs, hE, hF, hC⟩ hi
    obtain ⟨hlt, hu, hpre⟩ := (ready_iff hs).1 hi
    have ho : ops[i]? = some ops[i] := Array.getElem?_eq_getElem hlt
    have hol : ops.toList[i]? = some ops[i] := by simp
    have hmem : ops[i] ∈ ops.toList := by simp
    have hduty := hd.at i ops[i] hol
    rw [Nat.zero_add] at hduty
    have hgo := hduty (fun k => l.getD k false) a w hu (fun f k j h hk => hC.reach f k j h hk) (fun e he hb => hpre e he hb) hE hF
    unfold wpOpP
    rw [ho]
    simp only []
    rw [if_pos (by unfold Region.wanted; rw [hng _ hmem])]
    refine Oper.wp_mono (fun a' w' h => ?_) hgo
    obtain ⟨v, rfl, hG'⟩ := h
    have hgp : (fun k => (l.setIfInBounds i true).getD k false) = fun k => l.getD k false || k == i := by
      funext k
      by_cases e : k = i
      · subst e
        rw [getD_set_same (by omega)]; simp
      · rw [getD_set_other e]
        have : (k == i) = false := by simpa using e
        rw [this, Bool.or_false]
    have hvp : valsOf ops (a.put ops[i].dst v) = updV (valsOf ops a) i (if ops[i].dst.isSome = true then v else undef) := by
      funext k
      by_cases e : k = i
      · subst e
        rw [updV_same]
        unfold valsOf
        rw [ho]
        show valOf ops[k] _ = _
        cases hq : ops[k].dst with
        | none => unfold valOf; rw [hq]; rfl
        | some t =>
          rw [← hq, valOf_put_same (fun d hd => by rw [hF.2.1]; exact hin _ hmem d hd) (fun h => by rw [hq] at h; cases h), hq]
          rfl
      · rw [updV_other _ _ e]
        unfold valsOf
        cases hk : ops[k]? with
        | none => rfl
        | some o =>
          exact valOf_put_other fun d hd h => e (dst_inj ops.toList hdn k i o ops[i] d (by simpa using hk) hol hd h)
    refine ⟨by simpa using hs, by rw [hgp, hvp]; exact hG', framed_put hF hmem v, fun j o hj hlj e he hb => ?_⟩
    by_cases hei : e.on = i
    · rw [hei]; exact getD_set_same (by omega)
    · rw [getD_set_other hei]
      by_cases hji : j = i
      · subst hji
        rw [ho] at hj
        obtain rfl := Option.some.inj hj
        exact hpre e he hb
      · rw [getD_set_other hji] at hlj
        exact hC j o hj hlj e he hb
  · rintro l a w ⟨hs, hE, hF, _⟩ hr
    have hdone : ∀ i, i < ops.size → l.getD i false = true := fun i hi => ready_none hs hacy hr (i + 1) i (by omega) hi
    rw [framed_filled hF ops.toList (fun _ h => h) (fun _ h => .inl h) hin]
    refine hend _ _ w hdone (by simp) ?_
    have : (fun k => (ops.toList.map fun o => valOf o a).getD k undef) = valsOf ops a := by
      funext k
      unfold valsOf
      rw [List.getD_eq_getElem?_getD, List.getElem?_map, Array.getElem?_toList]
      cases ops[k]? <;> rfl
    rw [this]
    exact hE
  · have hf : ∀ i, (Array.replicate ops.size false).getD i false = false := fun i => by
      rw [Array.getD_eq_getD_getElem?, Array.getElem?_replicate]; split <;> rfl
    refine ⟨by simp, by simp only [hf]; exact hG0 _, ⟨rfl, rfl, fun _ _ => rfl⟩, ?_⟩
    intro i o _ h
    rw [hf] at h; cases h
  · unfold unlisted
    exact Nat.le_trans (List.count_le_length) (by simp)

/-- What the operations of a list with values told in advance yielded. -/
def ToldV (cs : List (Option Value)) (d : Nat → Bool) (vals : Nat → Value) : Prop := ∀ j v, cs[j]? = some (some v) → d j = true → vals j = v
theorem ToldV.none (cs : List (Option Value)) (vals : Nat → Value) : ToldV cs (fun _ => false) vals := fun _ _ _ h => by cases h
theorem ToldV.put {cs : List (Option Value)} {d : Nat → Bool} {vals : Nat → Value} (h : ToldV cs d vals) (i : Nat) (v : Value) (hv : ∀ u, cs[i]? = some (some u) → v = u) : ToldV cs (fun k => d k || k == i) (updV vals i v) := fun j u hj hd => by
  by_cases e : j = i
  · subst e; rw [updV_same]; exact hv u hj
  · have : (j == i) = false := by simpa using e
    simp only [this, Bool.or_false] at hd
    rw [updV_other _ _ e]
    exact h j u hj hd
end
end Go.Proofs.YtclekhjnnljjlaaGreatDoor
namespace Go.Proofs.YtclekhjnnljjlaaGreatDoor
open Go.RowKit
set_option maxHeartbeats 4000000
set_option maxRecDepth 100000

section
variable {P : Program} {ops : Array Oper} {Q : Exit → Act → World → Prop} {a0 : Act}
/-- An operation that only reads, whose value is told in advance. -/
theorem dutyG_val {cs : List (Option Value)} {H : (Nat → Bool) → (Nat → Value) → World → Prop} {i : Nat} {o : Oper} {v : Value} (hv : cs[i]? = some (some v)) (hds : o.dst.isSome = true)
    (hH : ∀ d vals W W', d i = false → (∀ f k j, reachB ops f k j = true → d k = true → d j = true) → H d vals W → Ext W W' → H (fun k => d k || k == i) (updV vals i v) W')
    (h : ∀ d a W, d i = false → (∀ f k j, reachB ops f k j = true → d k = true → d j = true) → H d (valsOf ops a) W → (∀ j t p u, ops[j]? = some p → p.dst = some t → (∃ e ∈ o.after.toList, e.on = j ∧ Region.binds .any e = true) → cs[j]? = some (some u) → a.eval (.tmp t) = u) → Framed ops a0 a →
      o.wp P a W (fun a' W' => a' = a.put o.dst v ∧ Ext W W') Q) : DutyG P ops Q (fun d vals w => ToldV cs d vals ∧ H d vals w) a0 i o := by
  intro d a W hdi hcl hpre hG hF
  refine Oper.wp_mono (fun a' W' hh => ?_) (h d a W hdi hcl hG.2 (fun j t p u hp hd he hu => ?_) hF)
  · obtain ⟨rfl, hE⟩ := hh
    refine ⟨v, rfl, ?_⟩
    rw [if_pos hds]
    exact ⟨hG.1.put i v fun u hu => by rw [hv] at hu; exact Option.some.inj (Option.some.inj hu), hH d _ W W' hdi hcl hG.2 hE⟩
  · obtain ⟨e, hem, rfl, heb⟩ := he
    rw [valsOf_eval e.on t hp hd]
    exact hG.1 _ _ hu (hpre e hem heb)
end

/-- What holds while Take goes on; d: which operations are done. -/
def TkH (w : World) (i r : Nat) (x1 x2 : List Value) (Fin : World → Prop) (d : Nat → Bool) (vals : Nat → Value) (W : World) : Prop :=
  if d 19 = true then Fin W else Ext w W ∧ (if d 16 = true then W.ownsRow w.heap.size 88 17 (vals 16) (i + r) (x1 ++ x2) else if d 8 = true then W.ownsRow w.heap.size 88 17 (vals 8) i x1 else if d 1 = true then W.ownsRow w.heap.size 88 17 (vals 1) 0 [] else True)
theorem TkH.read {w : World} {i r : Nat} {x1 x2 : List Value} {Fin : World → Prop} {d : Nat → Bool} {vals : Nat → Value} {W W' : World} {j : Nat} {v : Value} (h : TkH w i r x1 x2 Fin d vals W) (h19 : d 19 = false) (hE : Ext W W') (hj : (j != 19 && j != 16 && j != 8 && j != 1) = true) : TkH w i r x1 x2 Fin (fun k => d k || k == j) (updV vals j v) W' := by
  simp only [Bool.and_eq_true, bne_iff_ne, ne_eq] at hj
  obtain ⟨⟨⟨j1, j2⟩, j3⟩, j4⟩ := hj
  have e19 : (d 19 || (19 : Nat) == j) = false := by rw [h19, Bool.false_or]; simpa using fun e => j1 e.symm
  have e16 : (d 16 || (16 : Nat) == j) = d 16 := by rw [show ((16 : Nat) == j) = false by simpa using fun e => j2 e.symm, Bool.or_false]
  have e8 : (d 8 || (8 : Nat) == j) = d 8 := by rw [show ((8 : Nat) == j) = false by simpa using fun e => j3 e.symm, Bool.or_false]
  have e1 : (d 1 || (1 : Nat) == j) = d 1 := by rw [show ((1 : Nat) == j) = false by simpa using fun e => j4 e.symm, Bool.or_false]
  unfold TkH at h ⊢
  simp only [h19, Bool.false_eq_true, if_false] at h
  simp only [e19, e16, e8, e1, Bool.false_eq_true, if_false]
  rw [updV_other _ _ (fun e => j2 e.symm), updV_other _ _ (fun e => j3 e.symm), updV_other _ _ (fun e => j4 e.symm)]
  refine ⟨h.1.trans hE, ?_⟩
  have hk : ∀ (v : Value) (n : Nat) (xs : List Value), W.ownsRow w.heap.size 88 17 v n xs → W'.ownsRow w.heap.size 88 17 v n xs := fun v n xs hx => World.ownsRow.kept hx (grown_of_ext hE none) (Classical.em _)
  have h2 := h.2
  split
  · rename_i e; rw [if_pos e] at h2; exact hk _ _ _ h2
  · rename_i e; rw [if_neg e] at h2
    split
    · rename_i e; rw [if_pos e] at h2; exact hk _ _ _ h2
    · rename_i e; rw [if_neg e] at h2
      split
      · rename_i e; rw [if_pos e] at h2; exact hk _ _ _ h2
      · trivial

theorem TkH.ext {w : World} {i r : Nat} {x1 x2 : List Value} {Fin : World → Prop} {d : Nat → Bool} {vals : Nat → Value} {W : World} (h : TkH w i r x1 x2 Fin d vals W) (h19 : d 19 = false) : Ext w W := by
  unfold TkH at h
  simp only [h19, Bool.false_eq_true, if_false] at h
  exact h.1
end Go.Proofs.YtclekhjnnljjlaaGreatDoor
namespace Go.Proofs.YtclekhjnnljjlaaGreatDoor
open Go.RowKit
set_option maxHeartbeats 1000000
set_option maxRecDepth 100000

theorem rlast_any (s : ByteArray) (w : World) (hv : vpath s = true) (hs : s.size ≤ 9223372036854775800) : Calls Tryz.prog 77 #[.string s] w fun e w' => e = .returned (.int .i64 (lastS s)) ∧ w = w' := by
  obtain ⟨i, ei, hi, h47, hno⟩ := lastS_spec hv
  have HNO := Lib.hid hno
  have HI := Lib.hid ei
  have h47' := Lib.hid h47
  clear hno ei h47 hv
  go_enter Tryz.func77, Tryz.ntmps77
  go_wp2
  go_loop [3] (fun v => ∃ q : Nat, i ≤ q ∧ q < s.size ∧ v = .int .i64 q) (fun v => (intOf v).toNat)
  case atStart => exact ⟨s.size - 1, by omega, by omega, by go_num⟩
  case round =>
    obtain ⟨q, hq1, hq2, rfl⟩ := hrel
    have e2 := bat_get s q hq2
    by_cases hq : q = i
    · subst hq
      have h := h47'.out
      rw [e2] at h
      have hb : ((s[q].toNat : Int) != 47) = false := by simp; omega
      have hb2 : ¬ (s[q].toNat : Int) ≠ 47 := by omega
      clear e2 h h47' HNO
      go_wp2
      go_ret
      exact ⟨by rw [HI.out]; rfl, rfl⟩
    · have h := HNO.out q (by omega) hq2
      rw [e2] at h
      have hb : ((s[q].toNat : Int) != 47) = true := by simp; omega
      clear e2 h h47' HNO HI
      go_wp2
      go_round
      case rel => exact ⟨q - 1, by omega, by omega, by go_num⟩
      case measure => simp [intOf]; omega

theorem rparent_any (s : ByteArray) (w : World) (hs : s.size ≤ 9223372036854775800) : Calls Tryz.prog 43 #[.string s] w fun e w' => e = .returned (parV s) ∧ Below w.heap.size w w' := by
  have C1 := rvalid_any s w (by omega)
  by_cases hv : vpath s = true
  · have hroot := root_iff hv
    rw [hv] at C1
    by_cases h1 : s.size = 1
    · have e1 : (s.toList == [47]) = true := by rw [ByteArray.toList_eq]; simpa using hroot.1 h1
      have e2 : s.toList = [47] := by simpa using e1
      have R : Hid (parV s = .tuple #[.string ⟨#[]⟩, .int .i64 30]) := by unfold Hid parV; rw [if_neg (by simp [h1])]
      have C1 := Lib.hid C1
      clear h1 hroot hv
      go_enter Tryz.func43, Tryz.ntmps43
      go_wp2_with fail
      refine C1.out.mono ?_
      rintro e w1 ⟨rfl, hb1⟩
      clear C1
      go_wp2
      go_ret2
      exact ⟨by rw [R.out]; rfl, hb1⟩
    · have e1 : (s.toList == [47]) = false := by rw [ByteArray.toList_eq]; simpa using fun h => h1 (hroot.2 h)
      have e2 : ¬ s.toList = [47] := by simpa using e1
      have R : Hid (parV s = .tuple #[.string (s.extract 0 (max (lastS s) 1).toNat), .int .i64 0]) := by unfold Hid parV parentB; rw [if_pos ⟨hv, h1⟩]
      have C1 := Lib.hid C1
      have C2 := fun w => rlast_any s w hv hs
      obtain ⟨i, e, hi, _, _⟩ := lastS_spec hv
      rw [e] at C2 R
      have C2 := Lib.hid C2
      have hf := vpath_facts hv
      by_cases h0 : i = 0
      · subst h0
        have R2 : Hid (parV s = .tuple #[.string ⟨#[47]⟩, .int .i64 0]) := by
          unfold Hid
          rw [R.out]
          congr 3
          apply congrArg Value.string
          apply ba_ext
          have h3 : bat s 0 = 47 := hf.2.2.1
          have h4 := drop_at_slash (s := s) (i := 0) (by omega) h3
          rw [List.drop_zero] at h4
          rw [show (max ((0 : Nat) : Int) 1).toNat = 1 from rfl, ByteArray.data_extract, Array.toList_extract, List.extract_eq_take_drop]
          rw [List.drop_zero, h4]
          rfl
        clear hroot hf hv h1 e R
        go_enter Tryz.func43, Tryz.ntmps43
        go_wp2_with fail
        refine C1.out.mono ?_
        rintro e w1 ⟨rfl, hb1⟩
        clear C1
        go_wp2_with fail
        refine (C2.out _).mono ?_
        rintro e w2 ⟨rfl, rfl⟩
        clear C2
        go_wp2
        go_ret2
        exact ⟨by rw [R2.out]; rfl, hb1⟩
      · have hm : (max (i : Int) 1).toNat = i := by omega
        rw [hm] at R
        have hi0 : ((i : Int) == 0) = false := by simp; omega
        have hi1 : ¬ (i : Int) = 0 := by omega
        have hi2 : (i : Int) ≤ s.size := by omega
        clear hroot hf hv h1 e hm
        go_enter Tryz.func43, Tryz.ntmps43
        go_wp2_with fail
        refine C1.out.mono ?_
        rintro e w1 ⟨rfl, hb1⟩
        clear C1
        go_wp2_with fail
        refine (C2.out _).mono ?_
        rintro e w2 ⟨rfl, rfl⟩
        go_wp2_with fail
        refine (C2.out _).mono ?_
        rintro e w2 ⟨rfl, rfl⟩
        clear C2
        go_wp2
        go_ret2
        exact ⟨by rw [R.out]; rfl, hb1⟩
  · have hv' : vpath s = false := by simpa using hv
    have R : Hid (parV s = .tuple #[.string ⟨#[]⟩, .int .i64 30]) := by unfold Hid parV; rw [if_neg (by simp [hv'])]
    rw [hv'] at C1
    have C1 := Lib.hid C1
    clear hv hv'
    go_enter Tryz.func43, Tryz.ntmps43
    go_wp2_with fail
    refine C1.out.mono ?_
    rintro e w1 ⟨rfl, hb1⟩
    clear C1
    go_wp2
    go_ret2
    exact ⟨by rw [R.out]; rfl, hb1⟩
end Go.Proofs.YtclekhjnnljjlaaGreatDoor
namespace Go.Proofs.YtclekhjnnljjlaaGreatDoor
open Go.RowKit
set_option maxHeartbeats 1000000
set_option maxRecDepth 100000

theorem rright_any (n : Nd) (da aa : Option Addr) (dc ac : Nat) (w : World) (hf : Fit n) (hT : Tabs w) (hA : Cells w.heap.size w aa (acCs n.acl)) :
    Calls Tryz.prog 40 #[.agg (ndC n (.slice da n.data.length dc) (.slice aa n.acl.length ac))] w (RightOut (rightN n) w) := by
  have hfp := hf.path
  have hfd := hf.data
  have hfa := hf.acl
  have HT := Lib.hid hf.texts
  have hbox := Box.alloc w (ndC n (.slice da n.data.length dc) (.slice aa n.acl.length ac)) 88
  have hb0 : Below w.heap.size w (w.alloc (.cells (ndC n (.slice da n.data.length dc) (.slice aa n.acl.length ac)) 88)) := (Below.refl _ _).alloc (Nat.le_refl _) _
  unfold ndC at hbox hb0 ⊢
  by_cases h1 : vpath n.path = true
  · have C1 := fun w => rvalid_any n.path w (by omega)
    simp only [h1] at C1
    have C1 := Lib.hid C1
    go_enter Tryz.func40, Tryz.ntmps40
    go_wp2_with fail
    refine (C1.out _).mono ?_
    rintro e w1 ⟨rfl, hb1⟩
    have hx1 := hbox.below hb1 (by simp)
    have hb : Below w.heap.size w w1 := hb0.trans (hb1.mono (by simp))
    clear hbox hb1 hb0
    unfold Box at hx1
    by_cases h2 : 1048575 < (n.data.length : Int)
    · have R : Hid (rightN n = 3) := by unfold Hid rightN; simp [h1]; omega
      clear h1 C1
      go_wp2
      go_ret
      exact ⟨ret_int R.out.symm, hb⟩
    by_cases h3 : 16 < (n.acl.length : Int)
    · have R : Hid (rightN n = 3) := by unfold Hid rightN; simp [h1]; omega
      have h2' : decide (1048575 < (n.data.length : Int)) = false := by simpa using h2
      clear h1 C1
      go_wp2
      go_ret
      exact ⟨ret_int R.out.symm, hb⟩
    have h2' : decide (1048575 < (n.data.length : Int)) = false := by simpa using h2
    have h3' : decide (16 < (n.acl.length : Int)) = false := by simpa using h3
    have hA1 := hA.below hb
    have hr4 : rightN n = if textsN n.acl ≠ 0 then textsN n.acl else if badQ n then 1 else 0 := by
      rw [textsN_eq, if_neg (by simp [h1]), if_neg (by omega)]
    have R4 := Lib.hid hr4
    have C2 := texts_any aa ac n.acl w1 (hA1.mono hb.size) (by omega) HT.out
    clear h1 C1 hr4
    by_cases h5 : ¬ textsN n.acl = 0
    · have R : Hid (rightN n = textsN n.acl) := by unfold Hid; rw [R4.out, if_pos h5]
      have hne : (textsN n.acl != 0) = true := by simpa using h5
      have C2 := Lib.hid C2
      clear h5 R4
      go_wp2_with fail
      refine C2.out.mono ?_
      rintro e w3 ⟨rfl, rfl⟩
      clear C2
      go_wp2
      go_ret
      exact ⟨ret_int R.out.symm, hb⟩
    have h5 : textsN n.acl = 0 := by omega
    have R : Hid (rightN n = if badQ n then 1 else 0) := by unfold Hid; rw [R4.out, h5]; simp
    rw [h5] at C2
    have C2 := Lib.hid C2
    clear R4 h5
    go_wp2_with fail
    refine C2.out.mono ?_
    rintro e w3 ⟨rfl, rfl⟩
    have hsz3 : w.heap.size < w1.heap.size := by
      have := block_lt_of_cell (show w1.cell? ⟨w.heap.size, 0, none⟩ = _ from hx1 0)
      exact this
    have hfin : ∀ o, Below w.heap.size w (w1.alloc o) := fun o => hb.alloc (by omega) o
    have HFIN := Lib.hid hfin
    have hx3 := hx1
    clear C2 hfin hx1
    have HR : ∀ b : Bool, badQ n = b → rightN n = if b then 1 else 0 := fun b hbq => by rw [R.out, hbq]
    have HR := Lib.hid HR
    cases hh : n.has
    · have hq0 : badQ n = (n.count != 0 || n.bytes != 0) := by unfold badQ; rw [hh]; simp
      rw [hh] at hx3
      by_cases hc0 : n.count = 0
      · by_cases hb0 : n.bytes = 0
        · have R0 := Lib.hid (HR.out false (by rw [hq0, hc0, hb0]; rfl))
          have e1 : (n.count != 0) = false := by simp [hc0]
          have e2 : (n.bytes != 0) = false := by simp [hb0]
          clear hc0 hb0 hq0 hh
          go_wp2
          go_ret
          exact ⟨ret_int R0.out.symm, HFIN.out _⟩
        · have R0 := Lib.hid (HR.out true (by rw [hq0]; simp [hb0]))
          have e1 : (n.count != 0) = false := by simp [hc0]
          have e2 : (n.bytes != 0) = true := by simp [hb0]
          clear hc0 hb0 hq0 hh
          go_wp2
          go_ret
          exact ⟨ret_int R0.out.symm, HFIN.out _⟩
      · have R0 := Lib.hid (HR.out true (by rw [hq0]; simp [hc0]))
        have e1 : (n.count != 0) = true := by simp [hc0]
        clear hc0 hq0 hh
        go_wp2
        go_ret
        exact ⟨ret_int R0.out.symm, HFIN.out _⟩
    · have hq0 : badQ n = (decide (n.count < -1) || decide (n.bytes < -1)) := by unfold badQ; rw [hh]; simp
      rw [hh] at hx3
      by_cases hc0 : n.count < -1
      · have R0 := Lib.hid (HR.out true (by rw [hq0]; simp [hc0]))
        clear hq0 hh
        go_wp2
        go_ret
        exact ⟨ret_int R0.out.symm, HFIN.out _⟩
      · by_cases hb0 : n.bytes < -1
        · have R0 := Lib.hid (HR.out true (by rw [hq0]; simp [hb0]))
          have e1 : decide (n.count < -1) = false := by simpa using hc0
          clear hq0 hh
          go_wp2
          go_ret
          exact ⟨ret_int R0.out.symm, HFIN.out _⟩
        · have R0 := Lib.hid (HR.out false (by rw [hq0]; simp [hc0, hb0]))
          have e1 : decide (n.count < -1) = false := by simpa using hc0
          have e2 : decide (n.bytes < -1) = false := by simpa using hb0
          clear hq0 hh
          go_wp2
          go_ret
          exact ⟨ret_int R0.out.symm, HFIN.out _⟩
  · have C1 := fun w => rvalid_any n.path w (by omega)
    have h1' : vpath n.path = false := by simpa using h1
    have R : Hid (rightN n = 30) := by unfold Hid rightN; simp [h1']
    simp only [h1'] at C1
    have C1 := Lib.hid C1
    clear h1 h1'
    go_enter Tryz.func40, Tryz.ntmps40
    go_wp2_with fail
    refine (C1.out _).mono ?_
    rintro e w1 ⟨rfl, hb1⟩
    have hb : Below w.heap.size w w1 := hb0.trans (hb1.mono (by simp))
    clear hbox hb1 hb0
    go_wp2
    go_ret
    exact ⟨ret_int R.out.symm, hb⟩
end Go.Proofs.YtclekhjnnljjlaaGreatDoor
