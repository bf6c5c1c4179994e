/- The walks of the reference's book: NewBook, Note. The walks of the reference's At and Part. The ring and the list: plain laws on what the two books keep. Nil books. A region that draws its order, its operations turning memory: an invariant that knows which of them are done. A book and the reference's book side by side, while both are noted in. -/
import Derived.Test.YtfgjbcejpjcpeaaDoorJDigestBooks9
import Derived.Test.YtfgjbcejpjcpeaaDoorJDigestBooks10
import Derived.Test.YtfgjbcejpjcpeaaDoorJDigestBooks8
namespace Go.Proofs.YtfgjbcejpjcpeaaDoor
open Go.RowKit
set_option maxHeartbeats 8000000
set_option maxRecDepth 100000

theorem infoREnt : (Tryd.prog.info? 110).map (fun i => (i.zero, i.size, i.bytes)) = some (some (.agg #[.int .i64 0, .int .u64 0]), 2, 16) := by kernel_rfl
theorem sizeREnt : (Tryd.prog.info? 110).map (·.size) = some 2 := by kernel_rfl
theorem infoREnts : (Tryd.prog.info? 67).map (·.size) = some 1 := by kernel_rfl

def refC (every most last : Int) (v : Value) : Array Value := #[.int .i64 every, .int .i64 most, .int .i64 last, v]

/-- The reference's book in memory, its blocks in S. -/
structure RefAt (S : Nat → Prop) (w : World) (rb : Nat) (every most last : Int) (L : List (Int × Int)) (a : Option Addr) (c : Nat) : Prop where
  blk : w.heap[rb]? = some (.cells (refC every most last (.slice a L.length c)) 69 (0, 0))
  cap : L.length ≤ c
  ent : ∀ j u, (entC L)[j]? = some u → ∃ b off, a = some ⟨b, off, none⟩ ∧ S b ∧ b ≠ rb ∧ w.cell? ⟨b, off + j, none⟩ = some u
  mine : S rb
  bound : ∀ k, S k → k < w.heap.size

def RNewOut (every most : Int) (w : World) (e : Ending) (w' : World) : Prop :=
  if 1 ≤ every ∧ 1 ≤ most then ∃ rb, e = .returned (.tuple #[.pointer (some ⟨rb, 0, none⟩), .int .i64 0]) ∧ w.heap.size ≤ rb ∧ RefAt (fun k => w.heap.size ≤ k ∧ k < w'.heap.size) w' rb every most 0 [] none 0 ∧ Ext w w'
  else e = .returned (.tuple #[.pointer none, .int .i64 1]) ∧ w = w'

theorem rnewbook_any (every most : Int) (w : World) : Calls Tryd.prog 24 #[.int .i64 every, .int .i64 most] w (RNewOut every most w) := by
  unfold RNewOut
  by_cases h1 : every < 1
  · have h2 : ¬ (1 ≤ every ∧ 1 ≤ most) := by omega
    have hd : decide (every < 1) = true := by simpa using h1
    simp only [if_neg h2]
    clear h2
    go_enter Tryd.func24, Tryd.ntmps24
    go_wp2
    go_ret2
    exact ⟨rfl, rfl⟩
  · have hd : decide (every < 1) = false := by simpa using h1
    by_cases h3 : most < 1
    · have h2 : ¬ (1 ≤ every ∧ 1 ≤ most) := by omega
      have hd3 : decide (most < 1) = true := by simpa using h3
      simp only [if_neg h2]
      clear h2
      go_enter Tryd.func24, Tryd.ntmps24
      go_wp2
      go_ret2
      exact ⟨rfl, rfl⟩
    · have h2 : 1 ≤ every ∧ 1 ≤ most := by omega
      have hd3 : decide (most < 1) = false := by simpa using h3
      simp only [if_pos h2]
      have hfin : ∃ rb, (Ending.returned (.tuple #[.pointer (some ⟨w.heap.size, 0, none⟩), .int .i64 0])) = .returned (.tuple #[.pointer (some ⟨rb, 0, none⟩), .int .i64 0]) ∧ w.heap.size ≤ rb ∧
          RefAt (fun k => w.heap.size ≤ k ∧ k < (w.alloc (.cells (refC every most 0 (.slice none 0 0)) 69)).heap.size) (w.alloc (.cells (refC every most 0 (.slice none 0 0)) 69)) rb every most 0 [] none 0 ∧ Ext w (w.alloc (.cells (refC every most 0 (.slice none 0 0)) 69)) :=
        ⟨w.heap.size, rfl, Nat.le_refl _, ⟨heap_alloc_new w _, Nat.le_refl _, fun j u h => by simp [entC] at h, ⟨Nat.le_refl _, by simp⟩, fun k hk => hk.2⟩, Ext.alloc _ _⟩
      have HFIN := Lib.hid hfin
      unfold refC at HFIN
      clear hfin h2
      go_enter Tryd.func24, Tryd.ntmps24
      go_wp2
      go_ret2
      exact HFIN.out

/-- What a note makes of the reference's book. -/
def noteL (every most last : Int) (L : List (Int × Int)) (z v : Int) : Bool × Int × List (Int × Int) :=
  if z < 1 ∨ z ≤ last then (false, last, L)
  else if z % 4294967296 % every ≠ 0 then (true, z, L)
  else if most < ((L.length + 1 : Nat) : Int) then (true, z, (L ++ [(z, v)]).drop 1)
  else (true, z, L ++ [(z, v)])

def RNoteOut (S : Nat → Prop) (rb : Nat) (every most : Int) (r : Bool × Int × List (Int × Int)) (w : World) (e : Ending) (w' : World) : Prop :=
  e = .returned (.bool r.1) ∧ (∃ a c, RefAt (fun k => S k ∨ (w.heap.size ≤ k ∧ k < w'.heap.size)) w' rb every most r.2.1 r.2.2 a c) ∧ But rb w w'

theorem rnote_any (S : Nat → Prop) (w : World) (rb : Nat) (every most last : Int) (L : List (Int × Int)) (ra : Option Addr) (rc : Nat) (h : RefAt S w rb every most last L ra rc) (z v : Int) (he : 1 ≤ every) (hm : 1 ≤ most) (hL : (L.length + 1) * 16 ≤ 140737488355328) :
    Calls Tryd.prog 26 #[.pointer (some ⟨rb, 0, none⟩), .int .i64 z, .int .u64 v] w (RNoteOut S rb every most (noteL every most last L z v) w) := by
  have hx : Box w rb (refC every most last (.slice ra L.length rc)) := fun j => cell_of_row _ _ _ _ _ _ h.blk
  have hN0 : RNoteOut S rb every most (false, last, L) w (.returned (.bool false)) w := ⟨rfl, ⟨ra, rc, h.blk, h.cap, fun j u hj => by
    obtain ⟨b, off, h1, h2, h3⟩ := h.ent j u hj
    exact ⟨b, off, h1, .inl h2, h3⟩, .inl h.mine, fun k hk => hk.elim (h.bound k) fun hk => hk.2⟩, But.refl _ _⟩
  have HN0 := Lib.hid hN0
  have HB := Lib.hid h
  unfold Box refC at hx
  clear hN0 h
  by_cases h1 : z < 1
  · have hd : decide (z < 1) = true := by simpa using h1
    rw [show noteL every most last L z v = (false, last, L) by unfold noteL; rw [if_pos (.inl h1)]]
    go_enter Tryd.func26, Tryd.ntmps26
    go_wp2
    go_ret
    exact HN0.out
  · have hd : decide (z < 1) = false := by simpa using h1
    by_cases h2 : z ≤ last
    · have hd2 : decide (z ≤ last) = true := by simpa using h2
      rw [show noteL every most last L z v = (false, last, L) by unfold noteL; rw [if_pos (.inr h2)]]
      go_enter Tryd.func26, Tryd.ntmps26
      go_wp2
      go_ret
      exact HN0.out
    · have hd2 : decide (z ≤ last) = false := by simpa using h2
      have hne : every ≠ 0 := by omega
      obtain ⟨W1, hW1⟩ : ∃ W1, W1 = w.setRow rb (refC every most z (.slice ra L.length rc)) := ⟨_, rfl⟩
      have hb1 : W1.heap[rb]? = some (.cells (refC every most z (.slice ra L.length rc)) 69 (0, 0)) := by rw [hW1]; exact setRow_heap _ _ _ _ _ _ HB.out.blk
      have hx1 : Box W1 rb (refC every most z (.slice ra L.length rc)) := fun j => cell_of_row _ _ _ _ _ _ hb1
      have hC1 : But rb w W1 := by rw [hW1]; exact But.set _ _ _
      have hz1a : W1.heap.size ≤ w.heap.size := by rw [hW1]; simp
      have hz1b : w.heap.size ≤ W1.heap.size := by rw [hW1]; simp
      have hent1 : ∀ j u, (entC L)[j]? = some u → ∃ b off, ra = some ⟨b, off, none⟩ ∧ S b ∧ b ≠ rb ∧ W1.cell? ⟨b, off + j, none⟩ = some u := fun j u hj => by
        obtain ⟨b, off, h1, h2, h3, h4⟩ := HB.out.ent j u hj
        exact ⟨b, off, h1, h2, h3, by rw [hW1]; exact (World.cell?_of_block (setRow_other _ _ _ _ h3)).trans h4⟩
      have HBLK := Lib.hid HB.out.blk
      have HW1 := Lib.hid hW1
      have HB1 := Lib.hid hb1
      have HC1 := Lib.hid hC1
      have HENT1 := Lib.hid hent1
      unfold refC at HW1 HB1 HBLK
      unfold Box refC at hx1
      clear hW1 hb1 hC1 hent1
      by_cases hmod : z % 4294967296 % every ≠ 0
      · have hdm : (z % 4294967296 % every == 0) = false := by simpa using hmod
        have hdm2 : decide (z % 4294967296 % every = 0) = false := by simpa using hmod
        rw [show noteL every most last L z v = (true, z, L) by unfold noteL; rw [if_neg (by omega), if_pos hmod]]
        clear hmod
        go_enter Tryd.func26, Tryd.ntmps26
        go_wp2_with (refine wpList_store_in rfl 2 (.tmp 24) (.tmp 22) rfl rb 2 (.int .i64 z) rfl rfl (by simp [Value.cells, Value.oneCell']) 69 _ HBLK.out (by simp [Value.cells]) infoI64 #[.int .i64 every, .int .i64 most, .int .i64 z, .slice ra L.length rc] (by simp [Value.cells]) ?_; rw [← HW1.out])
        go_ret
        exact ⟨rfl, ⟨ra, rc, HB1.out, HB.out.cap, fun j u hj => by
          obtain ⟨b, off, h1, h2, h3⟩ := HENT1.out j u hj
          exact ⟨b, off, h1, .inl h2, h3⟩, .inl HB.out.mine, fun k hk => hk.elim (fun hk => Nat.lt_of_lt_of_le (HB.out.bound k hk) hz1b) fun hk => hk.2⟩, HC1.out⟩
      · have hdm : (z % 4294967296 % every == 0) = true := by simpa using hmod
        have hdm2 : decide (z % 4294967296 % every = 0) = true := by simpa using hmod
        obtain ⟨i0, hi, hz0, hz1', hz2⟩ := info_parts infoREnt
        have hown1 := ownsRow_empty W1 110 2
        have hcA : Cells W1.heap.size (W1.alloc (.cells #[] 110)) ra (entC L) := fun j u hj => by
          obtain ⟨b, off, h1, h2, h3, h4⟩ := HENT1.out j u hj
          have hlt := World.block_lt_of_cell? _ _ h4
          exact ⟨b, off, h1, hlt, ((Ext.alloc W1 (.cells #[] 110)).cell (p := ⟨b, off + j, none⟩) hlt).trans h4⟩
        have hsrc1 : Src Tryd.prog 2 67 (.slice ra L.length rc) L.length (entC L) (W1.alloc (.cells #[] 110)) :=
          hcA.src Tryd.underlying67 _ _ (entC_length L) (fun u hu => by
            simp only [entC, List.mem_flatMap, List.mem_cons, List.not_mem_nil, or_false] at hu
            obtain ⟨e, _, rfl | rfl⟩ := hu <;> rfl)
        have hrbl : rb < W1.heap.size := (Array.getElem?_eq_some_iff.1 HB1.out).1
        have hx3 : (W1.alloc (.cells #[] 110)).cell? ⟨rb, 3, none⟩ = some (.slice ra L.length rc) := ((Ext.alloc W1 (.cells #[] 110)).cell (p := ⟨rb, 3, none⟩) hrbl).trans (by rw [hx1 3]; rfl)
        go_enter Tryd.func26, Tryd.ntmps26
        go_wp2_with (first | (refine wpList_store_in rfl 2 (.tmp 24) (.tmp 22) rfl rb 2 (.int .i64 z) rfl rfl (by simp [Value.cells, Value.oneCell']) 69 _ HBLK.out (by simp [Value.cells]) infoI64 #[.int .i64 every, .int .i64 most, .int .i64 z, .slice ra L.length rc] (by simp [Value.cells]) ?_; rw [← HW1.out]) | (at_builtin; refine wpList_append_src _ rfl (.tmp 34) (.tmp 38) 67 67 rfl W1.heap.size 110 i0 (.agg #[.int .i64 0, .int .u64 0]) 2 16 Tryd.underlying67 hi hz0 hz1' hz2 rfl (by decide) _ 0 _ rfl hown1 _ _ _ rfl hsrc1 ?c1 ?c2 ?c3 ?_))
        case c1 => simp only [maxLen]; omega
        case c2 => omega
        intro v1 w4 ho1 hg1 _ hob1
        obtain ⟨a1, c1, rfl, _⟩ := ownsRow_from ho1
        have hga := hg1.size
        simp only [World.size_alloc] at hga
        have hE14 : Ext W1 w4 := (Ext.alloc W1 (.cells #[] 110)).trans' ⟨hg1.os, hg1.tape, hg1.output, by simpa using hg1.size, fun k hk => hg1.block k (by simp; omega) (by simp [Value.ownBlock]; omega)⟩
        have hv1 : ∀ k, (Value.slice a1 L.length c1).ownBlock = some k → W1.heap.size ≤ k := fun k hk => ownBlock_ge ho1 k hk
        have hb4 := (hE14.block rb hrbl).trans HB1.out
        obtain ⟨W5, hW5⟩ : ∃ W5, W5 = w4.alloc (.cells #[.int .i64 z, .int .u64 v] 110) := ⟨_, rfl⟩
        have hE5 : Ext w4 W5 := by rw [hW5]; exact Ext.alloc _ _
        have hn5 : W5.heap[w4.heap.size]? = some (.cells #[.int .i64 z, .int .u64 v] 110 (0, 0)) := by rw [hW5]; exact heap_alloc_new _ _
        have hown2 : W5.ownsRow W1.heap.size 110 2 (.slice a1 L.length c1) L.length (entC L) := by rw [hW5]; exact ho1.alloc _
        have hcs2 : Cells W5.heap.size W5 (some ⟨w4.heap.size, 0, none⟩) [.int .i64 z, .int .u64 v] := fun j u hj => ⟨_, 0, rfl, (Array.getElem?_eq_some_iff.1 hn5).1, by rw [Nat.zero_add, cell_of_row _ _ _ _ _ _ hn5]; simpa using hj⟩
        have hsrc2 : Src Tryd.prog 2 67 (.slice (some ⟨w4.heap.size, 0, none⟩) 1 1) 1 [.int .i64 z, .int .u64 v] W5 := hcs2.src Tryd.underlying67 1 1 rfl (by simp [Value.oneCell'])
        have hz5 := hE5.size
        have hb5 := (hE5.block rb (by omega)).trans hb4
        have HE15 := Lib.hid (hE14.trans hE5)
        have HB5 := Lib.hid hb5
        have HV1 := Lib.hid hv1
        have hz14 := hE14.size
        rw [hW5] at hown2 hsrc2
        have HW5 := Lib.hid hW5
        clear hcA hsrc1 hown1 hx3 hg1 hob1 ho1 hE14 hv1 hb4 hW5 hE5 hn5 hcs2 hb5
        go_wp2_with (at_builtin; refine wpList_append_src _ rfl (.tmp 39) (.tmp 43) 67 67 rfl W1.heap.size 110 i0 (.agg #[.int .i64 0, .int .u64 0]) 2 16 Tryd.underlying67 hi hz0 hz1' hz2 rfl (by decide) _ L.length _ rfl hown2 _ 1 _ rfl hsrc2 ?d1 ?d2 ?d3 ?_)
        case d1 => simp only [maxLen]; omega
        case d2 => omega
        case d3 => simp; omega
        intro v2 w6 ho2 hg2 _ _
        rw [← HW5.out] at hg2
        have hz6 := hg2.size
        have hE56 : Below W1.heap.size W5 w6 := ⟨hg2.os, hg2.tape, hg2.output, hg2.size, fun k hk => hg2.block k (by omega) (fun e => by have := HV1.out k e.symm; omega)⟩
        have hE16 : Ext W1 w6 := HE15.out.trans' hE56
        have hb6 := (hE16.block rb hrbl).trans HB1.out
        obtain ⟨g, cap, rfl, hgW, hcap⟩ : ∃ g cap, v2 = .slice (some ⟨g, 0, none⟩) (L.length + 1) cap ∧ W1.heap.size ≤ g ∧ L.length + 1 ≤ cap := by
          rcases ho2.2 with ⟨_, h0⟩ | ⟨g, cap, cur, e, h1, _, h2, _⟩
          · omega
          · exact ⟨g, cap, e, h1, h2⟩
        obtain ⟨W7, hW7⟩ : ∃ W7, W7 = w6.setRow rb (refC every most z (.slice (some ⟨g, 0, none⟩) (L.length + 1) cap)) := ⟨_, rfl⟩
        have hb7 : W7.heap[rb]? = some (.cells (refC every most z (.slice (some ⟨g, 0, none⟩) (L.length + 1) cap)) 69 (0, 0)) := by rw [hW7]; exact setRow_heap _ _ _ _ _ _ hb6
        have hU7 : But rb w W7 := (HC1.out.trans (But.of_ext hE16)).trans (by rw [hW7]; exact But.set _ _ _)
        have hent7 : ∀ j u, (entC (L ++ [(z, v)]))[j]? = some u → g < W7.heap.size ∧ W7.cell? ⟨g, j, none⟩ = some u := fun j u hj => by
          rw [entC_append] at hj
          obtain ⟨a', c', e, hc⟩ := ownsRow_from ho2
          simp only [Value.slice.injEq, true_and] at e
          obtain ⟨b, off, e2, _, h4, h5⟩ := hc j u hj
          rw [← e.1] at e2
          simp only [Option.some.injEq, Addr.mk.injEq, and_true] at e2
          obtain ⟨rfl, rfl⟩ := e2
          rw [Nat.zero_add] at h5
          exact ⟨by rw [hW7]; simpa using h4, by rw [hW7]; exact (World.cell?_of_block (setRow_other _ _ _ _ (show g ≠ rb by omega))).trans h5⟩
        have hz7 : w6.heap.size ≤ W7.heap.size := by rw [hW7]; simp
        have HW7 := Lib.hid hW7
        have HB6 := Lib.hid hb6
        have HB7 := Lib.hid hb7
        have HU7 := Lib.hid hU7
        have HENT7 := Lib.hid hent7
        unfold refC at HW7 HB6
        clear hown2 hsrc2 ho2 hg2 hE56 hE16 hb6 hW7 hb7 hU7 hent7 HW5
        go_wp2_with (refine wpList_store_in rfl 67 (.tmp 46) (.tmp 44) rfl rb 3 (.slice (some ⟨g, 0, none⟩) (L.length + 1) cap) rfl rfl (by simp [Value.cells, Value.oneCell']) 69 _ HB6.out (by simp [Value.cells]) infoREnts #[.int .i64 every, .int .i64 most, .int .i64 z, .slice (some ⟨g, 0, none⟩) (L.length + 1) cap] (by simp [Value.cells]) ?_; rw [← HW7.out])
        have c1 : W7.cell? ⟨rb, 1, none⟩ = some (.int .i64 most) := cell_of_row _ _ 1 _ _ _ HB7.out
        have c3 : W7.cell? ⟨rb, 3, none⟩ = some (.slice (some ⟨g, 0, none⟩) (L.length + 1) cap) := cell_of_row _ _ 3 _ _ _ HB7.out
        by_cases hgt : most < ((L.length + 1 : Nat) : Int)
        · have HNOTE := Lib.hid (show noteL every most last L z v = (true, z, (L ++ [(z, v)]).drop 1) by unfold noteL; rw [if_neg (by omega), if_neg hmod, if_pos hgt])
          have hgt' : most < (L.length : Int) + 1 := by omega
          refine wp_region_P (by kernel_rfl) (region_vals 65 [.pointer (some ⟨rb, 0, none⟩), .pointer (some ⟨rb, 0, none⟩), .pointer (some ⟨rb, 3, none⟩), .slice (some ⟨g, 0, none⟩) (L.length + 1) cap, .int .i64 ((L.length + 1 : Nat) : Int), .pointer (some ⟨rb, 0, none⟩), .pointer (some ⟨rb, 0, none⟩), .pointer (some ⟨rb, 1, none⟩), .int .i64 most, .bool true] rfl (by decide) rfl ?duties ?rest)
          case duties =>
            refine ⟨?_, ?_, ?_, ?_, ?_, ?_, ?_, ?_, ?_, ?_, trivial⟩
            · refine duty_free rfl fun a w' hE hF hA => ?_
              have x1 := hF.slot 0 _ (by decide) rfl
              exact wp_value (w' := w') (v := .pointer (some ⟨rb, 0, none⟩)) (by simp only [execOp, x1]; simp [go_sem]) ⟨_, rfl, rfl, Ext.refl _⟩
            · refine duty_free rfl fun a w' hE hF hA => ?_
              have x1 := hA.val 0 47 rfl rfl ⟨⟨0, .data⟩, by simp, rfl, rfl⟩ rfl
              exact wp_value (w' := w') (v := .pointer (some ⟨rb, 0, none⟩)) (by simp only [execOp, x1]; simp [go_sem]) ⟨_, rfl, rfl, Ext.refl _⟩
            · refine duty_free rfl fun a w' hE hF hA => ?_
              have x1 := hA.val 1 48 rfl rfl ⟨⟨1, .data⟩, by simp, rfl, rfl⟩ rfl
              exact wp_value (w' := w') (v := .pointer (some ⟨rb, 3, none⟩)) (by simp only [execOp, x1]; simp [go_sem]) ⟨_, rfl, rfl, Ext.refl _⟩
            · refine duty_free rfl fun a w' hE hF hA => ?_
              have x1 := hA.val 2 49 rfl rfl ⟨⟨2, .data⟩, by simp, rfl, rfl⟩ rfl
              exact wp_value (ex_cell rfl _ _ x1 ((hE.cell (World.block_lt_of_cell? _ _ c3)).trans c3) rfl Tryd.underlying67) ⟨_, rfl, rfl, Ext.refl _⟩
            · refine duty_free rfl fun a w' hE hF hA => ?_
              have x1 := hA.val 3 50 rfl rfl ⟨⟨3, .data⟩, by simp, rfl, rfl⟩ rfl
              exact wp_value (w' := w') (v := .int .i64 ((L.length + 1 : Nat) : Int)) (by simp only [execOp, resolve, List.map_toArray, List.map_cons, List.map_nil, x1]; simp [go_sem, invoke, builtin, Builtin.len_]) ⟨_, rfl, rfl, Ext.refl _⟩
            · refine duty_free rfl fun a w' hE hF hA => ?_
              have x1 := hF.slot 0 _ (by decide) rfl
              exact wp_value (w' := w') (v := .pointer (some ⟨rb, 0, none⟩)) (by simp only [execOp, x1]; simp [go_sem]) ⟨_, rfl, rfl, Ext.refl _⟩
            · refine duty_free rfl fun a w' hE hF hA => ?_
              have x1 := hA.val 5 52 rfl rfl ⟨⟨5, .data⟩, by simp, rfl, rfl⟩ rfl
              exact wp_value (w' := w') (v := .pointer (some ⟨rb, 0, none⟩)) (by simp only [execOp, x1]; simp [go_sem]) ⟨_, rfl, rfl, Ext.refl _⟩
            · refine duty_free rfl fun a w' hE hF hA => ?_
              have x1 := hA.val 6 53 rfl rfl ⟨⟨6, .data⟩, by simp, rfl, rfl⟩ rfl
              exact wp_value (w' := w') (v := .pointer (some ⟨rb, 1, none⟩)) (by simp only [execOp, x1]; simp [go_sem]) ⟨_, rfl, rfl, Ext.refl _⟩
            · refine duty_free rfl fun a w' hE hF hA => ?_
              have x1 := hA.val 7 54 rfl rfl ⟨⟨7, .data⟩, by simp, rfl, rfl⟩ rfl
              exact wp_value (ex_cell rfl _ _ x1 ((hE.cell (World.block_lt_of_cell? _ _ c1)).trans c1) rfl Tryd.underlying3) ⟨_, rfl, rfl, Ext.refl _⟩
            · refine duty_free rfl fun a w' hE hF hA => ?_
              have x1 := hA.val 4 51 rfl rfl ⟨⟨4, .data⟩, by simp, rfl, rfl⟩ rfl
              have x2 := hA.val 8 55 rfl rfl ⟨⟨8, .data⟩, by simp, rfl, rfl⟩ rfl
              exact wp_value (w' := w') (v := .bool true) (by simp only [execOp, x1, x2]; simp [go_sem, hgt']) ⟨_, rfl, rfl, Ext.refl _⟩
          case rest =>
            intro W8 hE8
            have hb8 := (hE8.block rb (Array.getElem?_eq_some_iff.1 HB7.out).1).trans HB7.out
            have c8 : W8.cell? ⟨rb, 3, none⟩ = some (.slice (some ⟨g, 0, none⟩) (L.length + 1) cap) := cell_of_row _ _ 3 _ _ _ hb8
            have hcap1 : ¬ cap = 1 := by omega
            have hfin : RNoteOut S rb every most (true, z, (L ++ [(z, v)]).drop 1) w (.returned (.bool true)) (W8.setRow rb (refC every most z (.slice (some ⟨g, 2, none⟩) L.length (cap - 1)))) := by
              have hUU := (HU7.out.trans (But.of_ext hE8)).trans (But.set rb W8 (refC every most z (.slice (some ⟨g, 2, none⟩) L.length (cap - 1))))
              have hlen : ((L ++ [(z, v)]).drop 1).length = L.length := by simp
              refine ⟨rfl, ⟨some ⟨g, 2, none⟩, cap - 1, by rw [hlen]; exact setRow_heap _ _ _ _ _ _ hb8, by rw [hlen]; omega, fun j u hj => ?_, .inl HB.out.mine, fun k hk => hk.elim (fun hk => Nat.lt_of_lt_of_le (HB.out.bound k hk) hUU.size) fun hk => hk.2⟩, hUU⟩
              have hj2 : (entC (L ++ [(z, v)]))[2 + j]? = some u := by
                cases hq : L ++ [(z, v)] with
                | nil => simp at hq
                | cons x r =>
                  rw [hq] at hj
                  rw [show 2 + j = j + 1 + 1 by omega]
                  exact hj
              obtain ⟨h4, h5⟩ := HENT7.out _ u hj2
              have hz8 := hE8.size
              exact ⟨g, 2, rfl, .inr ⟨by omega, by simp; omega⟩, by omega, ((World.cell?_of_block (setRow_other _ _ _ _ (show g ≠ rb by omega))).trans (hE8.cell (p := ⟨g, 2 + j, none⟩) h4)).trans h5⟩
            rw [← HNOTE.out] at hfin
            have HFIN := Lib.hid hfin
            have HB8 := Lib.hid hb8
            unfold refC at HB8
            clear hfin hb8 c1 c3
            simp only [filled, List.zip_cons_cons, List.zip_nil_left, List.foldl_cons, List.foldl_nil, Act.put, List.setIfInBounds_toArray, List.set_cons_succ, List.set_cons_zero, Exit.then]
            rename_i hK
            refine hK _ _ ?_
            go_wp2_with (refine wpList_store_in rfl 67 (.tmp 64) (.tmp 62) rfl rb 3 (.slice (some ⟨g, 2, none⟩) L.length (cap - 1)) rfl rfl (by simp [Value.cells, Value.oneCell']) 69 _ HB8.out (by simp [Value.cells]) infoREnts (refC every most z (.slice (some ⟨g, 2, none⟩) L.length (cap - 1))) (by simp [Value.cells, refC]) ?_)
            go_ret
            exact HFIN.out
        · have HNOTE := Lib.hid (show noteL every most last L z v = (true, z, L ++ [(z, v)]) by unfold noteL; rw [if_neg (by omega), if_neg hmod, if_neg hgt])
          have hgt' : ¬ most < (L.length : Int) + 1 := by omega
          refine wp_region_P (by kernel_rfl) (region_vals 65 [.pointer (some ⟨rb, 0, none⟩), .pointer (some ⟨rb, 0, none⟩), .pointer (some ⟨rb, 3, none⟩), .slice (some ⟨g, 0, none⟩) (L.length + 1) cap, .int .i64 ((L.length + 1 : Nat) : Int), .pointer (some ⟨rb, 0, none⟩), .pointer (some ⟨rb, 0, none⟩), .pointer (some ⟨rb, 1, none⟩), .int .i64 most, .bool false] rfl (by decide) rfl ?duties ?rest)
          case duties =>
            refine ⟨?_, ?_, ?_, ?_, ?_, ?_, ?_, ?_, ?_, ?_, trivial⟩
            · refine duty_free rfl fun a w' hE hF hA => ?_
              have x1 := hF.slot 0 _ (by decide) rfl
              exact wp_value (w' := w') (v := .pointer (some ⟨rb, 0, none⟩)) (by simp only [execOp, x1]; simp [go_sem]) ⟨_, rfl, rfl, Ext.refl _⟩
            · refine duty_free rfl fun a w' hE hF hA => ?_
              have x1 := hA.val 0 47 rfl rfl ⟨⟨0, .data⟩, by simp, rfl, rfl⟩ rfl
              exact wp_value (w' := w') (v := .pointer (some ⟨rb, 0, none⟩)) (by simp only [execOp, x1]; simp [go_sem]) ⟨_, rfl, rfl, Ext.refl _⟩
            · refine duty_free rfl fun a w' hE hF hA => ?_
              have x1 := hA.val 1 48 rfl rfl ⟨⟨1, .data⟩, by simp, rfl, rfl⟩ rfl
              exact wp_value (w' := w') (v := .pointer (some ⟨rb, 3, none⟩)) (by simp only [execOp, x1]; simp [go_sem]) ⟨_, rfl, rfl, Ext.refl _⟩
            · refine duty_free rfl fun a w' hE hF hA => ?_
              have x1 := hA.val 2 49 rfl rfl ⟨⟨2, .data⟩, by simp, rfl, rfl⟩ rfl
              exact wp_value (ex_cell rfl _ _ x1 ((hE.cell (World.block_lt_of_cell? _ _ c3)).trans c3) rfl Tryd.underlying67) ⟨_, rfl, rfl, Ext.refl _⟩
            · refine duty_free rfl fun a w' hE hF hA => ?_
              have x1 := hA.val 3 50 rfl rfl ⟨⟨3, .data⟩, by simp, rfl, rfl⟩ rfl
              exact wp_value (w' := w') (v := .int .i64 ((L.length + 1 : Nat) : Int)) (by simp only [execOp, resolve, List.map_toArray, List.map_cons, List.map_nil, x1]; simp [go_sem, invoke, builtin, Builtin.len_]) ⟨_, rfl, rfl, Ext.refl _⟩
            · refine duty_free rfl fun a w' hE hF hA => ?_
              have x1 := hF.slot 0 _ (by decide) rfl
              exact wp_value (w' := w') (v := .pointer (some ⟨rb, 0, none⟩)) (by simp only [execOp, x1]; simp [go_sem]) ⟨_, rfl, rfl, Ext.refl _⟩
            · refine duty_free rfl fun a w' hE hF hA => ?_
              have x1 := hA.val 5 52 rfl rfl ⟨⟨5, .data⟩, by simp, rfl, rfl⟩ rfl
              exact wp_value (w' := w') (v := .pointer (some ⟨rb, 0, none⟩)) (by simp only [execOp, x1]; simp [go_sem]) ⟨_, rfl, rfl, Ext.refl _⟩
            · refine duty_free rfl fun a w' hE hF hA => ?_
              have x1 := hA.val 6 53 rfl rfl ⟨⟨6, .data⟩, by simp, rfl, rfl⟩ rfl
              exact wp_value (w' := w') (v := .pointer (some ⟨rb, 1, none⟩)) (by simp only [execOp, x1]; simp [go_sem]) ⟨_, rfl, rfl, Ext.refl _⟩
            · refine duty_free rfl fun a w' hE hF hA => ?_
              have x1 := hA.val 7 54 rfl rfl ⟨⟨7, .data⟩, by simp, rfl, rfl⟩ rfl
              exact wp_value (ex_cell rfl _ _ x1 ((hE.cell (World.block_lt_of_cell? _ _ c1)).trans c1) rfl Tryd.underlying3) ⟨_, rfl, rfl, Ext.refl _⟩
            · refine duty_free rfl fun a w' hE hF hA => ?_
              have x1 := hA.val 4 51 rfl rfl ⟨⟨4, .data⟩, by simp, rfl, rfl⟩ rfl
              have x2 := hA.val 8 55 rfl rfl ⟨⟨8, .data⟩, by simp, rfl, rfl⟩ rfl
              exact wp_value (w' := w') (v := .bool false) (by simp only [execOp, x1, x2]; simp [go_sem, hgt']) ⟨_, rfl, rfl, Ext.refl _⟩
          case rest =>
            intro W8 hE8
            have hb8 := (hE8.block rb (Array.getElem?_eq_some_iff.1 HB7.out).1).trans HB7.out
            have hfin : RNoteOut S rb every most (true, z, L ++ [(z, v)]) w (.returned (.bool true)) W8 := by
              have hUU := HU7.out.trans (But.of_ext hE8)
              have hlen : (L ++ [(z, v)]).length = L.length + 1 := by simp
              refine ⟨rfl, ⟨some ⟨g, 0, none⟩, cap, by rw [hlen]; exact hb8, by rw [hlen]; exact hcap, fun j u hj => ?_, .inl HB.out.mine, fun k hk => hk.elim (fun hk => Nat.lt_of_lt_of_le (HB.out.bound k hk) hUU.size) fun hk => hk.2⟩, hUU⟩
              obtain ⟨h4, h5⟩ := HENT7.out j u hj
              have hz8 := hE8.size
              exact ⟨g, 0, rfl, .inr ⟨by omega, by omega⟩, by omega, by rw [Nat.zero_add]; exact (hE8.cell (p := ⟨g, j, none⟩) h4).trans h5⟩
            rw [← HNOTE.out] at hfin
            have HFIN := Lib.hid hfin
            clear hfin hb8 c1 c3
            simp only [filled, List.zip_cons_cons, List.zip_nil_left, List.foldl_cons, List.foldl_nil, Act.put, List.setIfInBounds_toArray, List.set_cons_succ, List.set_cons_zero, Exit.then]
            rename_i hK
            refine hK _ _ ?_
            go_wp2
            go_ret
            exact HFIN.out
end Go.Proofs.YtfgjbcejpjcpeaaDoor
namespace Go.Proofs.YtfgjbcejpjcpeaaDoor
open Go.RowKit
set_option maxHeartbeats 4000000
set_option maxRecDepth 100000

theorem RefAt.entAt {S : Nat → Prop} {w : World} {rb : Nat} {every most last : Int} {L : List (Int × Int)} {a : Option Addr} {c : Nat} (h : RefAt S w rb every most last L a c) : EntAt w a L := fun i e hi => by
  obtain ⟨h1, h2⟩ := entC_at L i e hi
  obtain ⟨b, off, e1, hs, _, h4⟩ := h.ent _ _ h1
  obtain ⟨b', off', e2, _, _, h6⟩ := h.ent _ _ h2
  rw [e1] at e2
  simp only [Option.some.injEq, Addr.mk.injEq, and_true] at e2
  obtain ⟨rfl, rfl⟩ := e2
  exact ⟨b, off, e1, h.bound _ hs, h4, by rw [Nat.add_assoc]; exact h6⟩

def RAtOut (R : List (Int × Int)) (z : Int) (w : World) (e : Ending) (w' : World) : Prop := e = .returned (.tuple #[.int .u64 ((atR R z).getD 0), .bool (atR R z).isSome]) ∧ w = w'

theorem rat_nil (z : Int) (w : World) : Calls Tryd.prog 28 #[.pointer none, .int .i64 z] w (RAtOut [] z w) := by
  have hfin : RAtOut [] z w (.returned (.tuple #[.int .u64 0, .bool false])) w := ⟨rfl, rfl⟩
  have HFIN := Lib.hid hfin
  clear hfin
  go_enter Tryd.func28, Tryd.ntmps28
  go_wp2
  refine wp_loop_rounds 1 ?_
  rw [rounds_succ]
  go_wp2
  go_ret2
  exact HFIN.out

theorem rat_any (w : World) (rb : Nat) (ra : Option Addr) (rc : Nat) (R : List (Int × Int)) (h3 : w.cell? ⟨rb, 3, none⟩ = some (.slice ra R.length rc)) (hR : EntAt w ra R) (hl : R.length ≤ 9223372036854775807) (z : Int) :
    Calls Tryd.prog 28 #[.pointer (some ⟨rb, 0, none⟩), .int .i64 z] w (RAtOut R z w) := by
  have HR := Lib.hid hR
  clear hR
  go_enter Tryd.func28, Tryd.ntmps28
  go_wp2
  go_loop [6] (fun i => ∃ k : Nat, k ≤ R.length ∧ i = .int .i64 k ∧ Hid (atR R z = atR (R.drop k) z)) (fun i => R.length - (intOf i).toNat)
  case atStart => exact ⟨0, Nat.zero_le _, rfl, rfl⟩
  case round =>
    obtain ⟨k, hk, rfl, HD⟩ := hrel
    by_cases hlt : k < R.length
    · obtain ⟨b, off, rfl, hb, c0, c1⟩ := HR.out k R[k] (List.getElem?_eq_getElem hlt)
      have HS := Lib.hid (HD.out.trans (atR_drop R k hlt z))
      generalize R[k] = en at *
      by_cases hz : en.1 = z
      · have hfin : RAtOut R z w (.returned (.tuple #[.int .u64 en.2, .bool true])) w := ⟨by rw [HS.out, if_pos hz]; rfl, rfl⟩
        have HFIN := Lib.hid hfin
        have e1 : (en.1 == z) = true := by simpa using hz
        have e2 : decide (en.1 = z) = true := by simpa using hz
        clear hfin hz HS
        go_wp2
        go_ret2
        exact HFIN.out
      · have HS2 := Lib.hid (HS.out.trans (if_neg hz))
        have e1 : (en.1 == z) = false := by simpa using hz
        have e2 : decide (en.1 = z) = false := by simpa using hz
        clear hz HS
        go_wp2
        go_round
        case rel => exact ⟨k + 1, by omega, by go_num, HS2.out⟩
        case measure => simp [intOf]; omega
    · obtain rfl : k = R.length := by omega
      have hfin : RAtOut R z w (.returned (.tuple #[.int .u64 0, .bool false])) w := ⟨by rw [HD.out, List.drop_length]; rfl, rfl⟩
      have HFIN := Lib.hid hfin
      clear hfin HD
      go_wp2
      go_ret2
      exact HFIN.out

/-- The first number at which two books part. -/
def firstPart : List (Int × Int) → List (Int × Int) → Int × Bool
  | [], _ => (0, false)
  | e :: L, Q => match atR Q e.1 with
    | none => firstPart L Q
    | some v => if v ≠ e.2 then (e.1, true) else firstPart L Q
theorem firstPart_drop (L Q : List (Int × Int)) (k : Nat) (h : k < L.length) : firstPart (L.drop k) Q = match atR Q L[k].1 with
    | none => firstPart (L.drop (k + 1)) Q
    | some v => if v ≠ L[k].2 then (L[k].1, true) else firstPart (L.drop (k + 1)) Q := by
  rw [List.drop_eq_getElem_cons h]; rfl

def RPartOut (r : Int × Bool) (w : World) (e : Ending) (w' : World) : Prop := e = .returned (.tuple #[.int .i64 r.1, .bool r.2]) ∧ w = w'
theorem rpart_nil (b : Option Addr) (w : World) : Calls Tryd.prog 30 #[.pointer none, .pointer b] w (RPartOut (0, false) w) := by
  have hfin : RPartOut (0, false) w (.returned (.tuple #[.int .i64 0, .bool false])) w := ⟨rfl, rfl⟩
  have HFIN := Lib.hid hfin
  clear hfin
  go_enter Tryd.func30, Tryd.ntmps30
  go_wp2
  refine wp_loop_rounds 1 ?_
  rw [rounds_succ]
  go_wp2
  go_ret2
  exact HFIN.out

theorem rpart_any (w : World) (ba bb : Nat) (ra rb : Option Addr) (ca cb : Nat) (L Q : List (Int × Int)) (h3a : w.cell? ⟨ba, 3, none⟩ = some (.slice ra L.length ca)) (h3b : w.cell? ⟨bb, 3, none⟩ = some (.slice rb Q.length cb)) (hR : EntAt w ra L) (hQ : EntAt w rb Q)
    (hl : L.length ≤ 9223372036854775807) (hl2 : Q.length ≤ 9223372036854775807) :
    Calls Tryd.prog 30 #[.pointer (some ⟨ba, 0, none⟩), .pointer (some ⟨bb, 0, none⟩)] w (RPartOut (firstPart L Q) w) := by
  have HR := Lib.hid hR
  have CA := Lib.hid (fun z => rat_any w bb rb cb Q h3b hQ hl2 z)
  clear hR hQ h3b
  go_enter Tryd.func30, Tryd.ntmps30
  go_wp2
  go_loop [6] (fun i => ∃ k : Nat, k ≤ L.length ∧ i = .int .i64 k ∧ Hid (firstPart L Q = firstPart (L.drop k) Q)) (fun i => L.length - (intOf i).toNat)
  case atStart => exact ⟨0, Nat.zero_le _, rfl, rfl⟩
  case round =>
    obtain ⟨k, hk, rfl, HD⟩ := hrel
    by_cases hlt : k < L.length
    · obtain ⟨b, off, rfl, hb, c0, c1⟩ := HR.out k L[k] (List.getElem?_eq_getElem hlt)
      have HS := Lib.hid (HD.out.trans (firstPart_drop L Q k hlt))
      generalize L[k] = en at *
      go_wp2_with fail
      refine (CA.out en.1).mono ?_
      rintro e w3 ⟨rfl, rfl⟩
      cases ha : atR Q en.1 with
      | none =>
        have HS2 : Hid (firstPart L Q = firstPart (L.drop (k + 1)) Q) := by
          have h := HS.out
          rw [ha] at h
          exact h
        clear ha HS
        simp only [Option.getD_none, Option.isSome_none]
        go_wp2
        go_round
        case rel => exact ⟨k + 1, by omega, by go_num, HS2.out⟩
        case measure => simp [intOf]; omega
      | some v =>
        simp only [Option.getD_some, Option.isSome_some]
        by_cases hv : v = en.2
        · have HS2 : Hid (firstPart L Q = firstPart (L.drop (k + 1)) Q) := by
            have h := HS.out
            rw [ha] at h
            exact h.trans (if_neg (fun h => h hv))
          have e1 : (v != en.2) = false := by simpa using hv
          have e2 : decide (v = en.2) = true := by simpa using hv
          clear ha HS hv
          go_wp2
          go_round
          case rel => exact ⟨k + 1, by omega, by go_num, HS2.out⟩
          case measure => simp [intOf]; omega
        · have HS2 : Hid (firstPart L Q = (en.1, true)) := by
            have h := HS.out
            rw [ha] at h
            exact h.trans (if_pos hv)
          have e1 : (v != en.2) = true := by simpa using hv
          have e2 : decide (v = en.2) = false := by simpa using hv
          have hfin : RPartOut (firstPart L Q) w (.returned (.tuple #[.int .i64 en.1, .bool true])) w := ⟨by rw [HS2.out], rfl⟩
          have HFIN := Lib.hid hfin
          clear ha HS hv hfin HS2
          go_wp2
          go_ret2
          exact HFIN.out
    · obtain rfl : k = L.length := by omega
      have hfin : RPartOut (firstPart L Q) w (.returned (.tuple #[.int .i64 0, .bool false])) w := ⟨by rw [HD.out, List.drop_length]; rfl, rfl⟩
      have HFIN := Lib.hid hfin
      clear hfin HD
      go_wp2
      go_ret2
      exact HFIN.out
end Go.Proofs.YtfgjbcejpjcpeaaDoor
namespace Go.Proofs.YtfgjbcejpjcpeaaDoor
open Go.RowKit
set_option maxHeartbeats 4000000
set_option maxRecDepth 100000

theorem note_nil (z v : Int) (w : World) : Calls Tryd.prog 25 #[.pointer none, .int .i64 z, .int .u64 v] w fun e w' => e = .returned (.bool false) ∧ w = w' := by
  go_enter Tryd.func25, Tryd.ntmps25
  go_wp2
  go_ret
  exact ⟨rfl, rfl⟩
theorem rnote_nil (z v : Int) (w : World) : Calls Tryd.prog 26 #[.pointer none, .int .i64 z, .int .u64 v] w fun e w' => e = .returned (.bool false) ∧ w = w' := by
  go_enter Tryd.func26, Tryd.ntmps26
  go_wp2
  go_ret
  exact ⟨rfl, rfl⟩
theorem blen_nil (w : World) : Calls Tryd.prog 31 #[.pointer none] w fun e w' => e = .returned (.int .i64 0) ∧ w = w' := by
  go_enter Tryd.func31, Tryd.ntmps31
  go_wp2
  go_ret
  exact ⟨rfl, rfl⟩

theorem and_low (z : Int) (h1 : 1 ≤ z) (h2 : z ≤ 9223372036854775807) : bits .and .i64 z 4294967295 = z % 4294967296 := by
  obtain ⟨a, rfl⟩ : ∃ a : Nat, z = (a : Int) := ⟨z.toNat, by omega⟩
  have ha : (BitVec.ofInt 64 (a : Int)).toNat = a := by
    rw [BitVec.ofInt_natCast, BitVec.toNat_ofNat]; exact Nat.mod_eq_of_lt (by omega)
  have hb : (BitVec.ofInt 64 (4294967295 : Int)).toNat = 4294967295 := by decide
  show IntKind.i64.wrap ((BitVec.ofInt 64 (a : Int) &&& BitVec.ofInt 64 (4294967295 : Int)).toNat : Int) = _
  rw [BitVec.toNat_and, ha, hb, show (4294967295 : Nat) = 2 ^ 32 - 1 from rfl, Nat.and_two_pow_sub_one_eq_mod, IntKind.wrap_i64]
  omega

/-- What the ring keeps is what the list keeps, from the oldest on; the numbers rise. -/
structure Ring (most last : Int) (R : List (Int × Int)) (first : Nat) (L : List (Int × Int)) : Prop where
  len : (R.length : Int) ≤ most
  fst : (first : Int) < most
  grow : (R.length : Int) < most → first = 0
  eq : L = R.drop first ++ R.take first
  up : L.Pairwise fun x y => x.1 < y.1
  le : ∀ x ∈ L, x.1 ≤ last

theorem Ring.start (most : Int) (h : 1 ≤ most) : Ring most 0 [] 0 [] := ⟨by simpa using by omega, by simpa using by omega, fun _ => rfl, rfl, List.Pairwise.nil, fun x hx => by simp at hx⟩
theorem Ring.length {most last : Int} {R : List (Int × Int)} {first : Nat} {L : List (Int × Int)} (h : Ring most last R first L) : L.length = R.length := by
  rw [h.eq]; simp; omega
theorem Ring.mem {most last : Int} {R : List (Int × Int)} {first : Nat} {L : List (Int × Int)} (h : Ring most last R first L) (x : Int × Int) : x ∈ L ↔ x ∈ R := by
  rw [h.eq, List.mem_append]
  constructor
  · rintro (h | h)
    · exact List.mem_of_mem_drop h
    · exact List.mem_of_mem_take h
  · intro hx
    rw [← List.take_append_drop first R, List.mem_append] at hx
    exact hx.symm

theorem Ring.note {every most last : Int} {R : List (Int × Int)} {first : Nat} {L : List (Int × Int)} (h : Ring most last R first L) (he : 1 ≤ every) (z v : Int) (hz : z ≤ 9223372036854775807) :
    (noteR every most last R first z v).1 = (noteL every most last L z v).1 ∧ (noteR every most last R first z v).2.1 = (noteL every most last L z v).2.1 ∧
      Ring most (noteR every most last R first z v).2.1 (noteR every most last R first z v).2.2.1 (noteR every most last R first z v).2.2.2 (noteL every most last L z v).2.2 := by
  unfold noteR noteL
  by_cases h1 : z < 1 ∨ z ≤ last
  · rw [if_pos h1, if_pos h1]; exact ⟨rfl, rfl, h⟩
  · rw [if_neg h1, if_neg h1]
    have hz1 : 1 ≤ z ∧ last < z := by omega
    have hm : (bits .and .i64 z 4294967295).tmod every = z % 4294967296 % every := by
      rw [and_low z hz1.1 hz, Int.tmod_eq_emod_of_nonneg (by omega)]
    have hup : (L ++ [(z, v)]).Pairwise fun x y => x.1 < y.1 := List.pairwise_append.2 ⟨h.up, by simp, fun x hx y hy => by
      have := h.le x hx
      simp at hy; rw [hy]; show x.1 < z; omega⟩
    have hle : ∀ x ∈ L ++ [(z, v)], x.1 ≤ z := fun x hx => by
      rcases List.mem_append.1 hx with hx | hx
      · have := h.le x hx; omega
      · simp at hx; rw [hx]; exact Int.le_refl _
    rw [hm]
    by_cases h2 : z % 4294967296 % every ≠ 0
    · rw [if_pos h2, if_pos h2]
      exact ⟨rfl, rfl, h.len, h.fst, h.grow, h.eq, h.up, fun x hx => by have := h.le x hx; show x.1 ≤ z; omega⟩
    · rw [if_neg h2, if_neg h2]
      have hL := h.length
      by_cases h3 : (R.length : Int) < most
      · rw [if_pos h3, if_neg (by rw [hL]; omega)]
        have h0 := h.grow h3
        have hLR : L = R := by rw [h.eq, h0]; simp
        refine ⟨rfl, rfl, by simp; omega, h.fst, fun _ => h0, ?_, hup, hle⟩
        show L ++ [(z, v)] = (R ++ [(z, v)]).drop first ++ (R ++ [(z, v)]).take first
        rw [h0, hLR]; simp
      · rw [if_neg h3, if_pos (by rw [hL]; omega)]
        have hlen := h.len
        have hfst := h.fst
        have hfR : first < R.length := by omega
        have hup' : ((L ++ [(z, v)]).drop 1).Pairwise fun x y => x.1 < y.1 := hup.sublist (List.drop_sublist _ _)
        have hle' : ∀ x ∈ (L ++ [(z, v)]).drop 1, x.1 ≤ z := fun x hx => hle x (List.mem_of_mem_drop hx)
        have hmp : 0 < most := by omega
        have hme : most = (R.length : Int) := by omega
        have hf' : (((first + 1 : Nat) : Int).tmod most).toNat = if first + 1 < R.length then first + 1 else 0 := by
          rw [Int.tmod_eq_emod_of_nonneg (by omega), hme]
          split
          · rename_i hlt
            rw [Int.emod_eq_of_lt (by omega) (by omega)]; omega
          · rename_i hlt
            rw [show first + 1 = R.length by omega, Int.emod_self]; rfl
        have hL1 : (L ++ [(z, v)]).drop 1 = R.drop (first + 1) ++ R.take first ++ [(z, v)] := by
          rw [h.eq, List.append_assoc, List.drop_append_of_le_length (by simp; omega), List.drop_drop, List.append_assoc]
        refine ⟨rfl, rfl, by simpa using hlen, ?_, fun h => absurd h (by simp; omega), ?_, hup', hle'⟩
        · show (((((first + 1 : Nat) : Int).tmod most).toNat : Nat) : Int) < most
          rw [hf']; split <;> omega
        · show (L ++ [(z, v)]).drop 1 = (R.set first (z, v)).drop ((((first + 1 : Nat) : Int).tmod most).toNat) ++ (R.set first (z, v)).take ((((first + 1 : Nat) : Int).tmod most).toNat)
          have hset : R.set first (z, v) = (R.take first ++ [(z, v)]) ++ R.drop (first + 1) := by
            rw [List.append_assoc]
            exact List.set_eq_take_append_cons_drop.trans (if_pos hfR)
          have htl : (R.take first ++ [(z, v)]).length = first + 1 := by simp; omega
          rw [hf', hL1, hset]
          split
          · rw [List.drop_left' htl, List.take_left' htl, List.append_assoc]
          · rename_i hlt
            rw [List.drop_eq_nil_of_le (show R.length ≤ first + 1 by omega)]
            simp

theorem nodup_up {L : List (Int × Int)} (h : L.Pairwise fun x y => x.1 < y.1) {x y : Int × Int} (hx : x ∈ L) (hy : y ∈ L) (e : x.1 = y.1) : x = y := by
  obtain ⟨i, hi, rfl⟩ := List.getElem_of_mem hx
  obtain ⟨j, hj, rfl⟩ := List.getElem_of_mem hy
  have hp := List.pairwise_iff_getElem.1 h
  rcases Nat.lt_trichotomy i j with h1 | h1 | h1
  · have := hp i j hi hj h1; omega
  · subst h1; rfl
  · have := hp j i hj hi h1; omega

theorem atR_iff {L R : List (Int × Int)} (h : L.Pairwise fun x y => x.1 < y.1) (hm : ∀ x, x ∈ L ↔ x ∈ R) (z v : Int) : atR R z = some v ↔ (z, v) ∈ L := by
  unfold atR
  constructor
  · intro he
    obtain ⟨x, hx, rfl⟩ := Option.map_eq_some_iff.1 he
    have h1 : x.1 = z := by simpa using List.find?_some hx
    have h2 := (hm x).2 (List.mem_of_find?_eq_some hx)
    rw [← h1]; exact h2
  · intro hz
    have hzR := (hm _).1 hz
    cases hf : R.find? fun e => e.1 == z with
    | none =>
      have := List.find?_eq_none.1 hf _ hzR
      simp at this
    | some x =>
      have h1 : x.1 = z := by simpa using List.find?_some hf
      have h2 := (hm x).2 (List.mem_of_find?_eq_some hf)
      have := nodup_up h h2 hz h1
      rw [this]; rfl
theorem atR_same {L R : List (Int × Int)} (h : L.Pairwise fun x y => x.1 < y.1) (hm : ∀ x, x ∈ L ↔ x ∈ R) (z : Int) : atR R z = atR L z := by
  apply Option.ext
  intro v
  rw [atR_iff h hm, atR_iff h (fun _ => Iff.rfl)]

/-- Does a book part from another one at an entry? -/
def partB (Q : List (Int × Int)) (e : Int × Int) : Bool := match atR Q e.1 with | none => false | some v => v != e.2
theorem partStep_eq (Q : List (Int × Int)) (s : Int × Bool) (e : Int × Int) : partStep Q s e = if partB Q e = true ∧ (s.2 = false ∨ e.1 < s.1) then (e.1, true) else s := by
  unfold partStep partB
  cases atR Q e.1 with
  | none => simp
  | some v => simp only [bne_iff_ne]
theorem partR_spec (Q : List (Int × Int)) : ∀ (R : List (Int × Int)) (s : Int × Bool), (s.2 = false → s.1 = 0) →
    ((R.foldl (partStep Q) s).2 = false → (R.foldl (partStep Q) s).1 = 0 ∧ s.2 = false ∧ ∀ e ∈ R, partB Q e = false) ∧
    ((R.foldl (partStep Q) s).2 = true → ((s.2 = true ∧ (R.foldl (partStep Q) s).1 = s.1) ∨ ∃ e ∈ R, partB Q e = true ∧ e.1 = (R.foldl (partStep Q) s).1) ∧ (s.2 = true → (R.foldl (partStep Q) s).1 ≤ s.1) ∧ ∀ e ∈ R, partB Q e = true → (R.foldl (partStep Q) s).1 ≤ e.1)
  | [], s, h0 => ⟨fun h => ⟨h0 h, h, fun e he => by simp at he⟩, fun h => ⟨.inl ⟨h, rfl⟩, fun _ => Int.le_refl _, fun e he => by simp at he⟩⟩
  | x :: R, s, h0 => by
    rw [List.foldl_cons, partStep_eq]
    by_cases hc : partB Q x = true ∧ (s.2 = false ∨ x.1 < s.1)
    · rw [if_pos hc]
      obtain ⟨h1, h2⟩ := partR_spec Q R (x.1, true) (fun h => by cases h)
      refine ⟨fun h => absurd (h1 h).2.1 (by simp), fun h => ?_⟩
      obtain ⟨a1, a2, a3⟩ := h2 h
      have a2 := a2 rfl
      refine ⟨.inr ?_, fun hs => ?_, fun e he hp => ?_⟩
      · rcases a1 with ⟨_, a1⟩ | ⟨e, he, h1, h2⟩
        · exact ⟨x, List.mem_cons_self, hc.1, a1.symm⟩
        · exact ⟨e, List.mem_cons_of_mem _ he, h1, h2⟩
      · rcases hc.2 with h | h
        · rw [hs] at h; cases h
        · have : (x.1, true).1 = x.1 := rfl
          omega
      · rcases List.mem_cons.1 he with rfl | he
        · exact a2
        · exact a3 e he hp
    · rw [if_neg hc]
      obtain ⟨h1, h2⟩ := partR_spec Q R s h0
      refine ⟨fun h => ?_, fun h => ?_⟩
      · obtain ⟨b1, b2, b3⟩ := h1 h
        refine ⟨b1, b2, fun e he => ?_⟩
        rcases List.mem_cons.1 he with rfl | he
        · cases hp : partB Q e with
          | false => rfl
          | true => exact absurd ⟨hp, .inl b2⟩ hc
        · exact b3 e he
      · obtain ⟨a1, a2, a3⟩ := h2 h
        refine ⟨?_, a2, fun e he hp => ?_⟩
        · rcases a1 with a1 | ⟨e, he, h1⟩
          · exact .inl a1
          · exact .inr ⟨e, List.mem_cons_of_mem _ he, h1⟩
        · rcases List.mem_cons.1 he with rfl | he
          · have hs : s.2 = true := by
              cases hs : s.2 with
              | true => rfl
              | false => exact absurd ⟨hp, .inl hs⟩ hc
            have := a2 hs
            by_cases hl : e.1 < s.1
            · exact absurd ⟨hp, .inr hl⟩ hc
            · omega
          · exact a3 e he hp

theorem firstPart_spec (Q : List (Int × Int)) : ∀ L : List (Int × Int), L.Pairwise (fun x y => x.1 < y.1) →
    ((firstPart L Q = (0, false) ∧ ∀ e ∈ L, partB Q e = false) ∨ ∃ e ∈ L, firstPart L Q = (e.1, true) ∧ partB Q e = true ∧ ∀ x ∈ L, partB Q x = true → e.1 ≤ x.1)
  | [], _ => .inl ⟨rfl, fun e he => by simp at he⟩
  | x :: L, h => by
    obtain ⟨h1, h2⟩ := List.pairwise_cons.1 h
    have hstep : firstPart (x :: L) Q = if partB Q x = true then (x.1, true) else firstPart L Q := by
      unfold partB
      show (match atR Q x.1 with | none => firstPart L Q | some v => if v ≠ x.2 then (x.1, true) else firstPart L Q) = _
      cases atR Q x.1 with
      | none => simp
      | some v => simp only [bne_iff_ne]
    rw [hstep]
    by_cases hp : partB Q x = true
    · rw [if_pos hp]
      refine .inr ⟨x, List.mem_cons_self, rfl, hp, fun y hy _ => ?_⟩
      rcases List.mem_cons.1 hy with rfl | hy
      · exact Int.le_refl _
      · exact Int.le_of_lt (h1 y hy)
    · rw [if_neg hp]
      rcases firstPart_spec Q L h2 with ⟨a, b⟩ | ⟨e, he, a, b, c⟩
      · exact .inl ⟨a, fun y hy => by
          rcases List.mem_cons.1 hy with rfl | hy
          · simpa using hp
          · exact b y hy⟩
      · exact .inr ⟨e, List.mem_cons_of_mem _ he, a, b, fun y hy hpy => by
          rcases List.mem_cons.1 hy with rfl | hy
          · exact absurd hpy hp
          · exact c y hy hpy⟩

/-- The least number at which two rings part is the first at which their lists do. -/
theorem part_same {L R L2 R2 : List (Int × Int)} (h : L.Pairwise fun x y => x.1 < y.1) (hm : ∀ x, x ∈ L ↔ x ∈ R) (h2 : L2.Pairwise fun x y => x.1 < y.1) (hm2 : ∀ x, x ∈ L2 ↔ x ∈ R2) : partR R R2 = firstPart L L2 := by
  have hq : ∀ e, partB R2 e = partB L2 e := fun e => by unfold partB; rw [atR_same h2 hm2]
  obtain ⟨p1, p2⟩ := partR_spec R2 R (0, false) (fun _ => rfl)
  change ((partR R R2).2 = false → (partR R R2).1 = 0 ∧ _ ∧ _) at p1
  change ((partR R R2).2 = true → _) at p2
  rcases firstPart_spec L2 L h with ⟨a, b⟩ | ⟨e, he, a, b, c⟩
  · rw [a]
    cases hs : (partR R R2).2 with
    | false => exact Prod.ext (p1 hs).1 hs
    | true =>
      exfalso
      rcases (p2 hs).1 with ⟨h, _⟩ | ⟨e, he, h, _⟩
      · cases h
      · have := b e ((hm e).2 he)
        rw [← hq, h] at this; cases this
  · rw [a]
    have hpe : partB R2 e = true := by rw [hq]; exact b
    cases hs : (partR R R2).2 with
    | false =>
      have := (p1 hs).2.2 e ((hm e).1 he)
      rw [hpe] at this; cases this
    | true =>
      have h3 := (p2 hs).2.2 e ((hm e).1 he) hpe
      change (partR R R2).1 ≤ e.1 at h3
      rcases (p2 hs).1 with ⟨h, _⟩ | ⟨x, hx, h4, h5⟩
      · cases h
      · change x.1 = (partR R R2).1 at h5
        have := c x ((hm x).2 hx) (by rw [← hq]; exact h4)
        exact Prod.ext (show (partR R R2).1 = e.1 by omega) hs
end Go.Proofs.YtfgjbcejpjcpeaaDoor
namespace Go.Proofs.YtfgjbcejpjcpeaaDoor
open Go.RowKit
section
variable {P : Program} {ops : Array Oper} {Q : Exit → Act → World → Prop} {a0 : Act} {w0 : World}

/-- An operation's duty; l: which are done. Φ speaks of values alone. -/
def DutyS (P : Program) (ops : Array Oper) (Q : Exit → Act → World → Prop) (G : (Nat → Bool) → World → Prop) (Φ : Nat → Value → Prop) (a0 : Act) (i : Nat) (o : Oper) : Prop :=
  ∀ (d : Nat → Bool) a w, d i = false → (∀ f k j, reachB ops f k j = true → d k = true → d j = true) → (∀ e ∈ o.after.toList, Region.binds .any e = true → d e.on = true) → G d w → Framed ops a0 a → Ahead ops (fun i v _ => Φ i v) o a w →
    o.wp P a w (fun a' w' => ∃ v, a' = a.put o.dst v ∧ Φ i v ∧ G (fun k => d k || k == i) w') Q
def DutiesS (P : Program) (ops : Array Oper) (Q : Exit → Act → World → Prop) (G : (Nat → Bool) → World → Prop) (Φ : Nat → Value → Prop) (a0 : Act) : Nat → List Oper → Prop
  | _, [] => True
  | i, o :: l => DutyS P ops Q G Φ a0 i o ∧ DutiesS P ops Q G Φ a0 (i + 1) l
theorem DutiesS.at {G : (Nat → Bool) → World → Prop} {Φ : Nat → Value → Prop} : ∀ {l : List Oper} {k : Nat}, DutiesS P ops Q G Φ a0 k l → ∀ i o, l[i]? = some o → DutyS P ops Q G Φ a0 (k + i) o
  | [], _, _, i, o, h => by simp at h
  | q :: l, k, hd, 0, o, h => by simp at h; subst h; exact hd.1
  | q :: l, k, hd, i + 1, o, h => by
    have := DutiesS.at (k := k + 1) hd.2 i o (by simpa using h)
    rwa [show k + 1 + i = k + (i + 1) from by omega] at this

theorem region_state (m : Nat) (G : (Nat → Bool) → World → Prop) (hG0 : G (fun _ => false) w0.drew) (Φ : Nat → Value → Prop)
    (hchk : (dstsOk ops && aheadB ops && (ops.toList.all fun o => o.guard.isNone && o.dst.any fun d => decide (d < m))) = true) (hsz : a0.tmps.size = m)
    (hd : DutiesS P ops Q G Φ a0 0 ops.toList)
    (hend : ∀ us d w, (∀ i, i < ops.size → d i = true) → G d w → us.length = ops.toList.length → (∀ i u, us[i]? = some u → Φ i u) → Q .normal (filled ops.toList us a0) w) :
    RegionP P ops Q a0 w0 := by
  simp only [Bool.and_eq_true] at hchk
  obtain ⟨⟨hdst, hacy⟩, hall⟩ := hchk
  have hdd : ∀ o ∈ ops.toList, ∃ d, o.dst = some d ∧ d < a0.tmps.size := fun o ho => by
    have := List.all_eq_true.1 hall o ho
    simp only [Bool.and_eq_true] at this
    have h2 := this.2
    cases hq : o.dst with
    | none => rw [hq] at h2; cases h2
    | some d => rw [hq] at h2; exact ⟨d, rfl, by rw [hsz]; simpa using h2⟩
  have hin : ∀ o ∈ ops.toList, ∀ d, o.dst = some d → d < a0.tmps.size := fun o ho d hd => by
    obtain ⟨d', h1, h2⟩ := hdd o ho
    rw [hd] at h1
    rw [Option.some.inj h1]; exact h2
  have hng : ∀ o ∈ ops.toList, o.guard = none := fun o ho => by
    have := List.all_eq_true.1 hall o ho
    simp only [Bool.and_eq_true] at this
    simpa using this.1
  have hdn : (ops.toList.filterMap (·.dst)).Nodup := by simpa [dstsOk] using hdst
  unfold RegionP
  refine wpAny_inv (fun l a w => l.size = ops.size ∧ G (fun k => l.getD k false) w ∧ Framed ops a0 a ∧ (∀ i o, ops[i]? = some o → l.getD i false = true → Φ i (valOf o a)) ∧ Closed ops l) (fun _ _ _ h => h.1) ?_ ?_ _ _ _ _ ?_ ?_
  · rintro l a w i ⟨hs, hE, hF, hP, hC⟩ hi
    obtain ⟨hlt, hu, hpre⟩ := (ready_iff hs).1 hi
    have ho : ops[i]? = some ops[i] := Array.getElem?_eq_getElem hlt
    have hol : ops.toList[i]? = some ops[i] := by simp
    have hmem : ops[i] ∈ ops.toList := by simp
    have hduty := hd.at i ops[i] hol
    rw [Nat.zero_add] at hduty
    have hgo := hduty (fun k => l.getD k false) a w hu (fun f k j h hk => hC.reach f k j h hk) (fun e he hb => hpre e he hb) hE hF (fun e he hb q hq => hP e.on q hq (hpre e he hb))
    unfold wpOpP
    rw [ho]
    simp only []
    rw [if_pos (by unfold Region.wanted; rw [hng _ hmem])]
    refine Oper.wp_mono (fun a' w' h => ?_) hgo
    obtain ⟨v, rfl, hv, hG'⟩ := h
    have hgp : (fun k => (l.setIfInBounds i true).getD k false) = fun k => l.getD k false || k == i := by
      funext k
      by_cases e : k = i
      · subst e
        rw [getD_set_same (by omega)]; simp
      · rw [getD_set_other e]
        have : (k == i) = false := by simpa using e
        rw [this, Bool.or_false]
    refine ⟨by simpa using hs, by rw [hgp]; exact hG', framed_put hF hmem v, fun j o hj hlj => ?_, fun j o hj hlj e he hb => ?_⟩
    · by_cases e : j = i
      · subst e
        rw [ho] at hj
        obtain rfl := Option.some.inj hj
        obtain ⟨d, hd1, _⟩ := hdd _ hmem
        rw [valOf_put_same (fun d hd => by rw [hF.2.1]; exact hin _ hmem d hd) (fun h => by rw [hd1] at h; cases h)]
        exact hv
      · rw [getD_set_other e] at hlj
        rw [valOf_put_other (fun d hd h => e (dst_inj ops.toList hdn j i o ops[i] d (by simpa using hj) hol hd h))]
        exact hP j o hj hlj
    · by_cases hei : e.on = i
      · rw [hei]; exact getD_set_same (by omega)
      · rw [getD_set_other hei]
        by_cases hji : j = i
        · subst hji
          rw [ho] at hj
          obtain rfl := Option.some.inj hj
          exact hpre e he hb
        · rw [getD_set_other hji] at hlj
          exact hC j o hj hlj e he hb
  · rintro l a w ⟨hs, hE, hF, hP, _⟩ hr
    have hdone : ∀ i, i < ops.size → l.getD i false = true := fun i hi => ready_none hs hacy hr (i + 1) i (by omega) hi
    rw [framed_filled hF ops.toList (fun _ h => h) (fun _ h => .inl h) hin]
    refine hend _ _ w hdone hE (by simp) fun i u hu => ?_
    rw [List.getElem?_map, Option.map_eq_some_iff] at hu
    obtain ⟨o, ho, rfl⟩ := hu
    exact hP i o (by simpa using ho) (hdone i (Array.getElem?_eq_some_iff.1 (show ops[i]? = some o by simpa using ho)).1)
  · have hf : ∀ i, (Array.replicate ops.size false).getD i false = false := fun i => by
      rw [Array.getD_eq_getD_getElem?, Array.getElem?_replicate]; split <;> rfl
    refine ⟨by simp, by simp only [hf]; exact hG0, ⟨rfl, rfl, fun _ _ => rfl⟩, ?_, ?_⟩
    · intro i o _ h
      rw [hf] at h; cases h
    · intro i o _ h
      rw [hf] at h; cases h
  · unfold unlisted
    exact Nat.le_trans (List.count_le_length) (by simp)

theorem region_state_vals (m : Nat) (G : (Nat → Bool) → World → Prop) (hG0 : G (fun _ => false) w0.drew) (vals : List Value) (hlen : vals.length = ops.toList.length)
    (hchk : (dstsOk ops && aheadB ops && (ops.toList.all fun o => o.guard.isNone && o.dst.any fun d => decide (d < m))) = true) (hsz : a0.tmps.size = m)
    (hd : DutiesS P ops Q G (fun i v => vals[i]? = some v) a0 0 ops.toList)
    (hend : ∀ d w, (∀ i, i < ops.size → d i = true) → G d w → Q .normal (filled ops.toList vals a0) w) : RegionP P ops Q a0 w0 := by
  refine region_state m G hG0 (fun i v => vals[i]? = some v) hchk hsz hd fun us d w hdn hG hl hP => ?_
  have : us = vals := List.ext_getElem? fun i => by
    by_cases hi : i < us.length
    · rw [hP i us[i] (List.getElem?_eq_getElem hi), List.getElem?_eq_getElem hi]
    · rw [List.getElem?_eq_none (by omega), List.getElem?_eq_none (by omega)]
  rw [this]
  exact hend d w hdn hG

/-- An operation that only reads. -/
theorem dutyS_ext {i : Nat} {o : Oper} {G : (Nat → Bool) → World → Prop} {Φ : Nat → Value → Prop} (hG : ∀ d d' w w', G d w → Ext w w' → (∀ k, k ≠ i → d' k = d k) → G d' w')
    (h : ∀ d a w, G d w → Framed ops a0 a → Ahead ops (fun i v _ => Φ i v) o a w → o.wp P a w (fun a' w' => ∃ v, a' = a.put o.dst v ∧ Φ i v ∧ Ext w w') Q) : DutyS P ops Q G Φ a0 i o := by
  intro d a w _ _ _ hGw hF hA
  refine Oper.wp_mono (fun a' w' hh => ?_) (h d a w hGw hF hA)
  obtain ⟨v, rfl, hv, hE⟩ := hh
  exact ⟨v, rfl, hv, hG d _ _ _ hGw hE fun k hk => by
    have : (k == i) = false := by simpa using hk
    rw [this, Bool.or_false]⟩
end
end Go.Proofs.YtfgjbcejpjcpeaaDoor
namespace Go.Proofs.YtfgjbcejpjcpeaaDoor
open Go.RowKit
set_option maxHeartbeats 4000000

theorem BookAt.keep {S : Nat → Prop} {w w' : World} {bb : Nat} {every most last : Int} {R : List (Int × Int)} {first : Nat} {v : Value} (h : BookAt S w bb every most last R first v) (hk : ∀ k, S k → w'.heap[k]? = w.heap[k]?) (hs : w.heap.size ≤ w'.heap.size) : BookAt S w' bb every most last R first v :=
  ⟨(hk _ h.mine).trans h.blk, row_at h.ring fun g _ hg hc => (hk g (h.own g hg).1).trans hc, h.own, h.mine, fun k hk' => Nat.lt_of_lt_of_le (h.bound k hk') hs⟩
theorem RefAt.keep {S : Nat → Prop} {w w' : World} {rb : Nat} {every most last : Int} {L : List (Int × Int)} {a : Option Addr} {c : Nat} (h : RefAt S w rb every most last L a c) (hk : ∀ k, S k → w'.heap[k]? = w.heap[k]?) (hs : w.heap.size ≤ w'.heap.size) : RefAt S w' rb every most last L a c :=
  ⟨(hk _ h.mine).trans h.blk, h.cap, fun j u hj => by
    obtain ⟨b, off, h1, h2, h3, h4⟩ := h.ent j u hj
    exact ⟨b, off, h1, h2, h3, (World.cell?_of_block (hk b h2)).trans h4⟩, h.mine, fun k hk' => Nat.lt_of_lt_of_le (h.bound k hk') hs⟩
theorem BookAt.ext {S : Nat → Prop} {w w' : World} {bb : Nat} {every most last : Int} {R : List (Int × Int)} {first : Nat} {v : Value} (h : BookAt S w bb every most last R first v) (hE : Ext w w') : BookAt S w' bb every most last R first v :=
  h.keep (fun k hk => hE.block k (h.bound k hk)) hE.size
theorem RefAt.ext {S : Nat → Prop} {w w' : World} {rb : Nat} {every most last : Int} {L : List (Int × Int)} {a : Option Addr} {c : Nat} (h : RefAt S w rb every most last L a c) (hE : Ext w w') : RefAt S w' rb every most last L a c :=
  h.keep (fun k hk => hE.block k (h.bound k hk)) hE.size

/-- The two books, their blocks apart, of what was there at W6 or new since. -/
structure Two (Sa0 Sr0 : Nat → Prop) (W6 : World) (ba rb : Nat) (every most la lr : Int) (R : List (Int × Int)) (first : Nat) (L : List (Int × Int)) (w : World) : Prop where
  ex : ∃ Sa Sr v a c, (∀ x, Sa x → Sa0 x ∨ W6.heap.size ≤ x) ∧ (∀ x, Sr x → Sr0 x ∨ W6.heap.size ≤ x) ∧ (∀ x, Sa x → ¬ Sr x) ∧ BookAt Sa w ba every most la R first v ∧ RefAt Sr w rb every most lr L a c
  chg : Chg (fun x => Sa0 x ∨ Sr0 x) W6 w

theorem Two.ext {Sa0 Sr0 : Nat → Prop} {W6 : World} {ba rb : Nat} {every most la lr : Int} {R : List (Int × Int)} {first : Nat} {L : List (Int × Int)} {w w' : World} (h : Two Sa0 Sr0 W6 ba rb every most la lr R first L w) (hE : Ext w w') : Two Sa0 Sr0 W6 ba rb every most la lr R first L w' := by
  obtain ⟨⟨Sa, Sr, v, a, c, h1, h2, h3, h4, h5⟩, h6⟩ := h
  exact ⟨⟨Sa, Sr, v, a, c, h1, h2, h3, h4.ext hE, h5.ext hE⟩, h6.trans (Chg.of_ext (S := fun x => Sa0 x ∨ Sr0 x) hE) fun _ _ h => h⟩

/-- A note in the first. -/
theorem Two.noteA {Sa0 Sr0 : Nat → Prop} {W6 : World} {ba rb : Nat} {every most la lr : Int} {R : List (Int × Int)} {first : Nat} {L : List (Int × Int)} {w : World} (h : Two Sa0 Sr0 W6 ba rb every most la lr R first L w) (z v : Int)
    (he : 1 ≤ every) (hm : 1 ≤ most) (hfm : (first : Int) < most) (hRm : (R.length : Int) ≤ most) (hmx : most ≤ 9223372036854775807) (hR : (R.length + 1) * 16 ≤ 140737488355328) :
    Calls Tryd.prog 25 #[.pointer (some ⟨ba, 0, none⟩), .int .i64 z, .int .u64 v] w fun e w' => e = .returned (.bool (noteR every most la R first z v).1) ∧
      Two Sa0 Sr0 W6 ba rb every most (noteR every most la R first z v).2.1 lr (noteR every most la R first z v).2.2.1 (noteR every most la R first z v).2.2.2 L w' := by
  obtain ⟨⟨Sa, Sr, v0, a, c, h1, h2, h3, h4, h5⟩, h6⟩ := h
  refine (note_any Sa w ba every most la R first v0 h4 z v he hm hfm hRm hmx hR).mono ?_
  rintro e w' ⟨rfl, ⟨v', hb⟩, hc⟩
  have hz := h6.size
  refine ⟨rfl, ⟨_, Sr, v', a, c, fun x hx => ?_, h2, fun x hx hr => ?_, hb, h5.keep (fun k hk => hc.same k (h5.bound k hk) fun hs => h3 k hs hk) hc.size⟩, h6.trans hc fun i hi hs => ?_⟩
  · rcases hx with hx | hx
    · exact h1 x hx
    · right; omega
  · rcases hx with hx | hx
    · exact h3 x hx hr
    · have := h5.bound x hr; omega
  · rcases h1 i hs with h | h
    · exact .inl h
    · omega
/-- A note in the second. -/
theorem Two.noteR {Sa0 Sr0 : Nat → Prop} {W6 : World} {ba rb : Nat} {every most la lr : Int} {R : List (Int × Int)} {first : Nat} {L : List (Int × Int)} {w : World} (h : Two Sa0 Sr0 W6 ba rb every most la lr R first L w) (z v : Int)
    (he : 1 ≤ every) (hm : 1 ≤ most) (hL : (L.length + 1) * 16 ≤ 140737488355328) :
    Calls Tryd.prog 26 #[.pointer (some ⟨rb, 0, none⟩), .int .i64 z, .int .u64 v] w fun e w' => e = .returned (.bool (noteL every most lr L z v).1) ∧
      Two Sa0 Sr0 W6 ba rb every most la (noteL every most lr L z v).2.1 R first (noteL every most lr L z v).2.2 w' := by
  obtain ⟨⟨Sa, Sr, v0, a, c, h1, h2, h3, h4, h5⟩, h6⟩ := h
  refine (rnote_any Sr w rb every most lr L a c h5 z v he hm hL).mono ?_
  rintro e w' ⟨rfl, ⟨a', c', hb⟩, hu⟩
  have hz := h6.size
  have hmr := h5.mine
  refine ⟨rfl, ⟨Sa, _, v0, a', c', h1, fun x hx => ?_, fun x hx hr => ?_, h4.keep (fun k hk => hu.same k (h4.bound k hk) fun e => h3 k hk (e ▸ hmr)) hu.size, hb⟩, h6.trans (S' := fun x => x = rb) ⟨hu.os, hu.tape, hu.output, hu.size, fun k hk hn => hu.same k hk hn⟩ fun i hi hs => ?_⟩
  · rcases hx with hx | hx
    · exact h2 x hx
    · right; omega
  · rcases hr with hr | hr
    · exact h3 x hx hr
    · have := h4.bound x hx; omega
  · subst hs
    rcases h2 i hmr with h | h
    · exact .inr h
    · omega

/-- What the two books show, a while after. -/
theorem Two.facts {Sa0 Sr0 S' : Nat → Prop} {W6 : World} {ba rb : Nat} {every most la lr : Int} {R : List (Int × Int)} {first : Nat} {L : List (Int × Int)} {w w2 : World} (h : Two Sa0 Sr0 W6 ba rb every most la lr R first L w) (hc : Chg S' w w2) (hd : ∀ x, S' x → ¬ Sa0 x ∧ ¬ Sr0 x ∧ x < W6.heap.size) :
    ∃ ra rc lb lc, w2.cell? ⟨ba, 3, none⟩ = some (.slice ra R.length rc) ∧ EntAt w2 ra R ∧ w2.cell? ⟨rb, 3, none⟩ = some (.slice lb L.length lc) ∧ EntAt w2 lb L := by
  obtain ⟨⟨Sa, Sr, v, a, c, h1, h2, h3, h4, h5⟩, h6⟩ := h
  have k4 := h4.keep (w' := w2) (fun k hk => hc.same k (h4.bound k hk) fun hs => by
    obtain ⟨d1, d2, d3⟩ := hd k hs
    rcases h1 k hk with h | h
    · exact d1 h
    · omega) hc.size
  have k5 := h5.keep (w' := w2) (fun k hk => hc.same k (h5.bound k hk) fun hs => by
    obtain ⟨d1, d2, d3⟩ := hd k hs
    rcases h2 k hk with h | h
    · exact d2 h
    · omega) hc.size
  obtain ⟨ra, rc, rfl, _⟩ := ownsRow_from k4.ring
  exact ⟨ra, rc, a, c, cell_of_row _ _ 3 _ _ _ k4.blk, EntAt.of_row k4.ring, cell_of_row _ _ 3 _ _ _ k5.blk, k5.entAt⟩
end Go.Proofs.YtfgjbcejpjcpeaaDoor
