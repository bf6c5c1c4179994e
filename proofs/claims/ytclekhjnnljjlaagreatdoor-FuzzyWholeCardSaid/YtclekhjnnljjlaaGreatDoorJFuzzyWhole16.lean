/- The walk of arborref08's Open. The walk of arborref15's Clone of a state. States of package apply in memory: the walks of New, From, Tree, Sessions, Last; the document's From. -/
import Derived.Test.YtclekhjnnljjlaaGreatDoorJFuzzyWhole15
import Derived.Test.YtclekhjnnljjlaaGreatDoorJFuzzyWhole11
import Derived.Test.YtclekhjnnljjlaaGreatDoorJFuzzyWhole14
namespace Go.Proofs.YtclekhjnnljjlaaGreatDoor
open Go.RowKit
set_option maxHeartbeats 4000000
set_option maxRecDepth 100000

theorem infoSls : (Tryz.prog.info? 23).map (·.size) = some 1 := by kernel_rfl
def ROpenOut (S : Nat → Prop) (w : World) (b : Nat) (T : List Se) (s : Se) (e : Ending) (w' : World) : Prop :=
  e = .returned (.int .i64 (topenE T s)) ∧ RTbl (fun k => S k ∨ (w.heap.size ≤ k ∧ k < w'.heap.size)) w' b (topenL T s) ∧ Chg (· = b) w w'
theorem ropen_same {S : Nat → Prop} {w w' : World} {b : Nat} {T : List Se} {s : Se} {x : Int} (hT : RTbl S w b T) (hE : Ext w w') (hx : topenE T s = x) (h0 : x ≠ 0) : ROpenOut S w b T s (.returned (.int .i64 x)) w' := by
  refine ⟨by rw [hx], ?_, Chg.of_ext hE⟩
  unfold topenL
  rw [if_neg (by rw [hx]; exact h0)]
  have hz := hE.size
  have hbl := hT.lt
  exact hT.keep (fun _ h => .inl h) (hE.block b hT.lt) (fun k hk => hE.block k (hT.bound k hk).1) (fun k hk => by
    rcases hk with hk | hk
    · have := hT.bound k hk; exact ⟨by omega, this.2⟩
    · exact ⟨hk.2, by omega⟩)
theorem ropen8_any (S : Nat → Prop) (w : World) (b : Nat) (T : List Se) (hR : RTbl S w b T) (hs : TSorted T) (s : Se) (a : Option Addr) (c : Nat) (hf : FitS s) (hc : Cells w.heap.size w a (idCs s.ids)) (hl : (T.length + 1) * 40 ≤ 140737488355328) :
    Calls Tryz.prog 21 #[.pointer (some ⟨b, 0, none⟩), .agg (seC s (.slice a s.ids.length c))] w (ROpenOut S w b T s) := by
  obtain ⟨W1, hW1⟩ : ∃ W1, W1 = w.alloc (.cells (seC s (.slice a s.ids.length c)) 62) := ⟨_, rfl⟩
  have hE1 : Ext w W1 := by rw [hW1]; exact Ext.alloc _ _
  have hz1 : W1.heap.size = w.heap.size + 1 := by rw [hW1]; simp
  have hn1 : W1.heap[w.heap.size]? = some (.cells (seC s (.slice a s.ids.length c)) 62 (0, 0)) := by rw [hW1]; exact heap_alloc_new w _
  have C1 := Lib.hid (rright8_any s a c W1 hf (hc.ext hE1))
  have hS0 := hR.bound
  have hbl := hR.lt
  have HW1 := Lib.hid hW1
  have HR := Lib.hid hR
  have HC := Lib.hid hc
  have HF := Lib.hid hf
  have HN1 := Lib.hid hn1
  have HE1 := Lib.hid hE1
  have HSO := Lib.hid hs
  unfold seC at HW1 HN1 C1 ⊢
  clear hW1 hR hc hf hn1 hE1 hs
  go_enter Tryz.func21, Tryz.ntmps21
  go_wp2_with (first | (rw [← HW1.out]; refine wpList_load_row rfl 62 (.tmp 3) rfl w.heap.size rfl 62 _ (0, 0) _ HN1.out Tryz.underlying62 rfl sizeSe ?_))
  refine C1.out.mono ?_
  rintro e W2 ⟨rfl, hE2⟩
  have hE2 : Ext W1 W2 := hE2
  have hE02 := HE1.out.trans hE2
  by_cases hr : rightS s = true
  rotate_left
  · have hr : rightS s = false := by simpa using hr
    have HFIN := Lib.hid (ropen_same HR.out hE02 (show topenE T s = 1 by unfold topenE; rw [if_pos hr]) (by decide))
    rw [hr]
    clear C1 hE2 hr hE02
    go_wp2
    go_ret
    exact HFIN.out
  have HRS := Lib.hid hr
  rw [hr]
  have hz2 := hE2.size
  have hn2 := (hE2.block w.heap.size (by omega)).trans HN1.out
  have g0 : W2.cell? ⟨w.heap.size, 0, none⟩ = some (.int .i64 s.id) := cell_of_row _ _ _ _ _ _ hn2
  have C2 := Lib.hid (rat8_any S W2 b T (HR.out.ext hE02) s.id)
  have hgt := tis_get HSO.out s.id
  have HIS := Lib.hid hgt
  have hik := tat_le T s.id
  have HATI := Lib.hid (fun h => tins_at (s := s) HSO.out h)
  generalize tat T s.id = i at *
  generalize tis T s.id = th at *
  have HE02 := Lib.hid hE02
  have HN2 := Lib.hid hn2
  clear C1 hE2 hr hE02 hgt hn2
  go_wp2_with fail
  refine C2.out.mono ?_
  rintro e W3 ⟨rfl, hE3⟩
  have hE3 : Ext W2 W3 := hE3
  have hE03 := HE02.out.trans hE3
  have hz3 := hE3.size
  cases th with
  | true =>
    have HFIN := Lib.hid (ropen_same HR.out hE03 (show topenE T s = 80 by unfold topenE; rw [if_neg (by rw [HRS.out]; simp), if_pos HIS.out.symm]) (by decide))
    clear C2 hE3 hE03 g0
    go_wp2
    go_ret
    exact HFIN.out
  | false =>
    have hn3 := (hE3.block w.heap.size (by omega)).trans HN2.out
    -- the identities, copied
    obtain ⟨i1, hi1, iz0, iz1, iz2⟩ := info_parts infoId
    obtain ⟨W4, hW4⟩ : ∃ W4, W4 = W3.alloc (.cells #[] 139) := ⟨_, rfl⟩
    have hE4 : Ext W3 W4 := by rw [hW4]; exact Ext.alloc _ _
    have hz4 : W4.heap.size = W3.heap.size + 1 := by rw [hW4]; simp
    have hidl := HF.out.ids
    have g2 : W4.cell? ⟨w.heap.size, 2, none⟩ = some (.slice a s.ids.length c) := cell_of_row _ _ _ _ _ _ ((hE4.block w.heap.size (by omega)).trans hn3)
    have hown0 : W4.ownsRow W3.heap.size 139 2 (.slice (some ⟨W3.heap.size, 0, none⟩) 0 0) 0 [] := by rw [hW4]; exact ownsRow_empty W3 139 2
    have hsrc0 : Src Tryz.prog 2 60 (.slice a s.ids.length c) s.ids.length (idCs s.ids) W4 := (HC.out.ext (hE03.trans hE4)).src Tryz.underlying60 _ _ (by simp [idCs_length]) (one_id s.ids)
    have HE03 := Lib.hid hE03
    have HE4 := Lib.hid hE4
    have HW4 := Lib.hid hW4
    have HN3 := Lib.hid hn3
    rw [hW4] at hown0 hsrc0 g2
    clear C2 hE3 hE03 g0 hn3 hE4 hW4
    go_wp2_with (at_builtin; refine wpList_append_src _ rfl (.tmp 19) (.tmp 21) 60 60 rfl W3.heap.size 139 i1 (.agg #[.string ⟨#[]⟩, .string ⟨#[]⟩]) 2 32 Tryz.underlying60 hi1 iz0 iz1 iz2 rfl (by decide) _ 0 _ rfl hown0 _ s.ids.length _ rfl hsrc0 ?b1 ?b2 ?b3 ?_)
    case b1 => simp only [maxLen]; omega
    case b2 => omega
    case b3 => simp
    intro v5 W5 hown5 hg5 _ _
    rw [← HW4.out] at hg5
    (try simp only [List.nil_append, Nat.zero_add] at hown5)
    have hz5 := hg5.size
    have hE35 : Ext W3 W5 := ⟨hg5.os.trans HE4.out.os, hg5.tape.trans HE4.out.tape, hg5.output.trans HE4.out.output, by omega, fun k hk => (hg5.block k (by omega) (fun e => by have h : k = W3.heap.size := Option.some.inj e; omega)).trans (HE4.out.block k hk)⟩
    have hcap5 := own_cap hown5
    obtain ⟨va, vc, rfl, hD5⟩ := ownsRow_from hown5
    have hvc := hcap5 va vc rfl
    have hn5 := (hE35.block w.heap.size (by omega)).trans HN3.out
    have hcell5 : W5.cell? ⟨w.heap.size, 2, none⟩ = some (.slice a s.ids.length c) := by rw [cell_of_row W5 w.heap.size 2 _ _ _ hn5]; rfl
    have hfr5 : W5.frozen? ⟨w.heap.size, 2, none⟩ = false := frozen_of_row W5 w.heap.size 2 _ _ hn5
    obtain ⟨W6, hW6⟩ : ∃ W6, W6 = W5.setCell ⟨w.heap.size, 2, none⟩ (.slice va s.ids.length vc) := ⟨_, rfl⟩
    have hn6 : W6.heap[w.heap.size]? = some (.cells (seC s (.slice va s.ids.length vc)) 62 (0, 0)) := by
      rw [hW6, heap_setCell_same W5 w.heap.size 2 _ _ _ hn5]; rfl
    have hz6 : W6.heap.size = W5.heap.size := by rw [hW6]; simp [World.setCell]
    have ho6 : ∀ k, k ≠ w.heap.size → W6.heap[k]? = W5.heap[k]? := fun k hk => by rw [hW6]; exact Below.heap_setCell _ _ _ _ (by simpa using hk)
    have hE06 : Ext w W6 := (HE03.out.trans hE35).trans' ⟨by rw [hW6]; rfl, by rw [hW6]; rfl, by rw [hW6]; rfl, by omega, fun k hk => ho6 k (by omega)⟩
    have hR6 : RTbl S W6 b T := HR.out.ext hE06
    obtain ⟨ta, cap, vs, hb6, hlc, hcm, _, hrows, hpl⟩ := hR6
    have hS6 : SeS (fun k => W3.heap.size ≤ k ∧ k < W6.heap.size) W6 (.agg (seC s (.slice va s.ids.length vc))) s := ⟨va, vc, rfl, hvc, fun j u hj => by
      obtain ⟨k, o, e, h1, h2, h3⟩ := hD5 j u hj
      exact ⟨k, o, e, ⟨h1, by omega⟩, (World.cell?_of_block (ho6 k (by omega))).trans h3⟩⟩
    -- the list's first part
    have hsl1 := fun W => run_slice_toS ta T.length cap i (fun p hp => by
      rcases hpl with ⟨h, _⟩ | ⟨bl, off, h⟩
      · rw [h] at hp; cases hp
      · exact ⟨bl, off, by rw [h] at hp; exact (Option.some.inj hp).symm⟩) (by omega) W
    obtain ⟨v3, hsl2, hsrcf⟩ : ∃ v3, (∀ W, (Instr.slice 23 (.slice ta T.length cap) (some (.int .i64 i)) none none).run Tryz.prog W = .ok v3 W) ∧ ∀ W S, RowsSe S W ta vs T → (∀ k, S k → k < W.heap.size) → Src Tryz.prog 3 23 v3 (T.length - i) ((vs.drop i).flatMap Array.toList) W := by
      rcases hpl with ⟨h, h0⟩ | ⟨bl, off, h⟩
      · subst h h0
        have hL0 : T.length = 0 := by omega
        have hi0 : i = 0 := by omega
        subst hi0
        rw [hL0]
        refine ⟨.slice none 0 0, run_slice_nilS, fun W S hr hS => ?_⟩
        have hv0 : vs = [] := List.eq_nil_of_length_eq_zero (by rw [hr.len]; exact hL0)
        subst hv0
        exact (Cells.nil W.heap.size W none).src Tryz.underlying23 0 0 rfl (fun u hu => by simp at hu)
      · subst h
        exact ⟨_, run_slice_fromS bl off T.length cap i hik hlc, fun W S hr hS => hr.src_from hik hlc hS⟩
    obtain ⟨i0, hi, hz0, hz1', hz2'⟩ := info_parts infoSe
    obtain ⟨W7, hW7⟩ : ∃ W7, W7 = W6.alloc (.cells #[] 62) := ⟨_, rfl⟩
    have hE7 : Ext W6 W7 := by rw [hW7]; exact Ext.alloc _ _
    have hz7 : W7.heap.size = W6.heap.size + 1 := by rw [hW7]; simp
    have hown7 : W7.ownsRow W6.heap.size 62 3 (.slice (some ⟨W6.heap.size, 0, none⟩) 0 0) 0 [] := by rw [hW7]; exact ownsRow_empty W6 62 3
    have hrows7 : RowsSe S W7 ta vs T := hrows.imp (fun _ h => h) (fun k hk => hE7.block k (by have := (hS0 k hk).1; omega))
    have hsrc1 := hrows7.src_to (cap := cap) hik (fun k hk => by have := (hS0 k hk).1; omega)
    have hc6 : W7.cell? ⟨b, 0, none⟩ = some (.slice ta T.length cap) := cell_of_row _ _ _ _ _ _ ((hE7.block b (by omega)).trans hb6)
    have HE06 := Lib.hid hE06
    have HN6 := Lib.hid hn6
    have HB6 := Lib.hid hb6
    have HS6 := Lib.hid hS6
    have HSF := Lib.hid hsrcf
    have HRW7 := Lib.hid hrows7
    have HE7 := Lib.hid hE7
    have HW6 := Lib.hid hW6
    have HW7 := Lib.hid hW7
    have HPL := Lib.hid hpl
    rw [hW7, hz6, hW6] at hown7 
    rw [hW7, hW6] at hsrc1
    rw [hW7, hW6] at hc6
    unfold seC at HN6
    clear hg5 hown5 hE35 hD5 hcap5 hn5 hE06 hn6 hb6 hS6 hsrcf hrows hrows7 hE7 hW6 hW7 hpl g2 hown0 hsrc0 ho6
    go_wp2_with (at_builtin; refine wpList_append_src _ rfl (.tmp 24) (.tmp 30) 23 23 rfl W5.heap.size 62 i0 (.agg #[.int .i64 0, .int .i32 0, .slice none 0 0]) 3 40 Tryz.underlying23 hi hz0 hz1' hz2' rfl (by decide) _ 0 _ rfl hown7 _ i _ rfl hsrc1 ?c1 ?c2 ?c3 ?_)
    case c1 => unfold maxLen at *; omega
    case c2 => omega
    case c3 => simp [World.setCell]
    intro v1 w8 hown8 hg8 _ _
    rw [← HW6.out, ← HW7.out] at hg8
    (try simp only [List.nil_append, Nat.zero_add] at hown8)
    have hz8 := hg8.size
    have hE68 : Ext W6 w8 := ⟨hg8.os.trans HE7.out.os, hg8.tape.trans HE7.out.tape, hg8.output.trans HE7.out.output, by omega, fun k hk => (hg8.block k (by omega) (fun e => by have h : k = W5.heap.size := Option.some.inj e; omega)).trans (HE7.out.block k hk)⟩
    have hn8 := (hE68.block w.heap.size (by omega)).trans HN6.out
    obtain ⟨cs, hcs⟩ : ∃ cs, cs = seC s (.slice va s.ids.length vc) := ⟨_, rfl⟩
    have hv1 : ∀ k, v1.ownBlock = some k → W5.heap.size ≤ k ∧ k < w8.heap.size := fun k hk => hown8.lt k hk
    have hown8a := hown8.alloc (.cells cs 62)
    have hs3 : Cells (w8.alloc (.cells cs 62)).heap.size (w8.alloc (.cells cs 62)) (some ⟨w8.heap.size, 0, none⟩) cs.toList := fun j u hj => by
      refine ⟨_, 0, rfl, by simp, ?_⟩
      rw [Nat.zero_add, cell_of_row _ _ _ _ _ _ (heap_alloc_new w8 _)]
      simpa using hj
    have hsrc2 : Src Tryz.prog 3 23 (.slice (some ⟨w8.heap.size, 0, none⟩) 1 1) 1 cs.toList (w8.alloc (.cells cs 62)) :=
      hs3.src Tryz.underlying23 1 1 (by rw [hcs]; rfl) (fun u hu => by
        have := cells_se s va s.ids.length vc
        rw [← hcs, ← Array.all_toList] at this
        exact List.all_eq_true.1 this u hu)
    have HE68 := Lib.hid hE68
    have HCS := Lib.hid hcs
    have HN8 := Lib.hid hn8
    rw [hcs] at hown8a hsrc2
    unfold seC at hown8a hsrc2
    clear hown7 hsrc1 hc6 hg8 hE68 hn8 hcs hs3 HW6 HW7 hcell5 hfr5
    go_wp2_with (first | (refine wpList_load_row rfl 62 (.tmp 3) rfl w.heap.size rfl 62 _ (0, 0) _ HN8.out Tryz.underlying62 rfl sizeSe ?_) | (at_builtin; refine wpList_append_src _ rfl (.tmp 32) (.tmp 34) 23 23 rfl W5.heap.size 62 i0 (.agg #[.int .i64 0, .int .i32 0, .slice none 0 0]) 3 40 Tryz.underlying23 hi hz0 hz1' hz2' rfl (by decide) _ i _ rfl hown8a _ 1 _ rfl hsrc2 ?d1 ?d2 ?d3 ?_))
    case d1 => unfold maxLen at *; omega
    case d2 => omega
    case d3 => first | omega | (simp; omega)
    intro v2 w9 hown9 hg9 _ ho9
    have hz9 := hg9.size
    simp only [World.size_alloc] at hz9
    have hW9 : ∀ k, k < w8.heap.size → v1.ownBlock ≠ some k → w9.heap[k]? = w8.heap[k]? := fun k hk hn => (hg9.block k (by simp; omega) (fun e => hn e.symm)).trans (heap_alloc_old w8 _ hk)
    have hE69 : Ext W6 w9 := ⟨hg9.os.trans HE68.out.os, hg9.tape.trans HE68.out.tape, hg9.output.trans HE68.out.output, by omega, fun k hk =>
      (hW9 k (by omega) (fun e => by have := hv1 k e; omega)).trans (HE68.out.block k hk)⟩
    have hv2 : ∀ k, v2.ownBlock = some k → W5.heap.size ≤ k := fun k hk => by
      rcases ho9 with h | h
      · rw [h] at hk; exact (hv1 k hk).1
      · rw [h] at hk; have h9 : (w8.heap.size + 1) = k := by have := Option.some.inj hk; simpa using this
        omega
    have hrows9 : RowsSe S w9 ta vs T := HRW7.out.imp (fun _ h => h) (fun k hk => by
      have := (hS0 k hk).1
      rw [hE69.block k (by omega), HE7.out.block k (by omega)])
    have hsrc3 := HSF.out w9 _ hrows9 (fun k hk => by have := (hS0 k hk).1; omega)
    have hc9 : w9.cell? ⟨b, 0, none⟩ = some (.slice ta T.length cap) := cell_of_row _ _ _ _ _ _ ((hE69.block b (by omega)).trans HB6.out)
    rw [show [Value.int .i64 s.id, .int .i32 s.tm, .slice va s.ids.length vc] = cs.toList from by rw [HCS.out]; rfl] at hown9
    have hS9 : SeS (fun k => W3.heap.size ≤ k ∧ k < W6.heap.size) w9 (.agg cs) s := by
      rw [HCS.out]
      exact HS6.out.imp (fun _ h => h) fun bl o u hb hu => (hE69.cell (p := ⟨bl, o, none⟩) hb.2).trans hu
    have HO9 := Lib.hid hown9
    have HE69 := Lib.hid hE69
    have HS9 := Lib.hid hS9
    have HV2 := Lib.hid hv2
    have HR9 := Lib.hid hrows9
    clear hown8a hsrc2 hg9 ho9 hW9 hE69 hS9 hv2 hrows9 hown9 hv1 hown8
    have hown9 := HO9.out
    go_wp2_with (at_builtin; refine wpList_append_src _ rfl (.tmp 37) (.tmp 43) 23 23 rfl W5.heap.size 62 i0 (.agg #[.int .i64 0, .int .i32 0, .slice none 0 0]) 3 40 Tryz.underlying23 hi hz0 hz1' hz2' rfl (by decide) _ (i + 1) _ rfl hown9 _ (T.length - i) _ rfl hsrc3 ?e1 ?e2 ?e3 ?_)
    case e1 => unfold maxLen at *; omega
    case e2 => omega
    case e3 => omega
    intro v4 w10 hown10 hg10 _ _
    have hz10 := hg10.size
    have hb10 : w10.heap[b]? = some (.cells #[.slice ta T.length cap] 59 (0, 0)) := (hg10.block b (by omega) (fun e => by have := HV2.out b e.symm; omega)).trans ((HE69.out.block b (by omega)).trans HB6.out)
    have hk10 : ∀ k, k < W6.heap.size → w10.heap[k]? = W6.heap[k]? := fun k hk => (hg10.block k (by omega) (fun e => by have := HV2.out k e.symm; omega)).trans (HE69.out.block k hk)
    have hS10 : SeS (fun k => S k ∨ (w.heap.size ≤ k ∧ k < w10.heap.size)) w10 (.agg cs) s := HS9.out.imp (fun k hk => .inr ⟨by omega, by omega⟩) fun bl o u hb hu => (World.cell?_of_block (hg10.block bl (by omega) (fun e => by have := HV2.out bl e.symm; omega))).trans hu
    have hold10 : RowsSe (fun k => S k ∨ (w.heap.size ≤ k ∧ k < w10.heap.size)) w10 ta vs T := HR9.out.imp (fun k hk => .inl hk) fun k hk => by
      have := (hS0 k hk).1
      rw [hk10 k (by omega), HE69.out.block k (by omega)]
    have heach : EachS (fun k => S k ∨ (w.heap.size ≤ k ∧ k < w10.heap.size)) w10 (vs.take i ++ ([cs] ++ vs.drop i)) (T.take i ++ ([s] ++ T.drop i)) :=
      EachS.append (EachS.take ⟨hold10.len, hold10.each⟩ i) ((EachS.one hS10).append (EachS.drop ⟨hold10.len, hold10.each⟩ i))
    have hfl : (vs.take i).flatMap Array.toList ++ (cs.toList ++ (vs.drop i).flatMap Array.toList) = (vs.take i ++ ([cs] ++ vs.drop i)).flatMap Array.toList := by
      simp [List.flatMap_append]
    rw [hfl] at hown10
    have hln : i + 1 + (T.length - i) = (T.take i ++ ([s] ++ T.drop i)).length := by simp; omega
    obtain ⟨a9, c9, rfl, hc9', hm9, hr9, hp9⟩ := RowsSe.of_own hown10 hln heach.1 (fun k h1 h2 => .inr ⟨by omega, h2⟩) heach.2
    have htop : topenL T s = T.take i ++ s :: T.drop i := by
      have h0 : topenE T s = 0 := by unfold topenE; rw [if_neg (by rw [HRS.out]; simp), if_neg (by rw [← HIS.out]; simp)]
      unfold topenL
      rw [if_pos h0]
      exact HATI.out (tget_none.1 HIS.out.symm)
    have HK := Lib.hid hk10
    have HB10 := Lib.hid hb10
    have HR10 := Lib.hid hr9
    have HP10 := Lib.hid hp9
    have HG10 := Lib.hid hg10
    have HTOP := Lib.hid htop
    clear hk10 hb10 hr9 hp9 hown10 hown9 heach hfl hS10 hold10 hsrc3 hg10 hsl1 hsl2 htop hc9
    have hfin : ROpenOut S w b T s (.returned (.int .i64 0)) (w10.setRow b #[.slice a9 (i + 1 + (T.length - i)) c9]) := by
      have hb9 := setRow_heap w10 b _ #[.slice a9 (i + 1 + (T.length - i)) c9] _ _ HB10.out
      have hs9 : (w10.setRow b #[Value.slice a9 (i + 1 + (T.length - i)) c9]).heap.size = w10.heap.size := by simp [World.setRow]
      rw [hln] at hb9 hc9'
      have hb' : ∀ k, (S k ∨ (w.heap.size ≤ k ∧ k < w10.heap.size)) → k < w10.heap.size ∧ k ≠ b := fun k hk => by
        rcases hk with hk | hk
        · have := hS0 k hk; exact ⟨by omega, this.2⟩
        · exact ⟨hk.2, by omega⟩
      refine ⟨by rw [show topenE T s = 0 by unfold topenE; rw [if_neg (by rw [HRS.out]; simp), if_neg (by rw [← HIS.out]; simp)]], ?_, ?_⟩
      · rw [HTOP.out]
        exact ⟨a9, c9, _, by rw [hln]; exact hb9, hc9', hm9, fun k hk => by rw [hs9] at hk ⊢; exact hb' k hk, HR10.out.imp (fun k hk => by rw [hs9]; exact hk) (fun k hk => setRow_other _ _ _ _ (hb' k hk).2), HP10.out⟩
      · have hc8 : Chg (· = b) w w10 := ⟨HG10.out.os.trans (HE69.out.os.trans HE06.out.os), HG10.out.tape.trans (HE69.out.tape.trans HE06.out.tape), HG10.out.output.trans (HE69.out.output.trans HE06.out.output), by omega, fun k hk _ =>
          (HK.out k (by omega)).trans (HE06.out.block k hk)⟩
        exact hc8.trans (Chg.set (S := (· = b)) b w10 _ rfl) fun _ _ h => h
    have HFIN := Lib.hid hfin
    clear hfin
    go_wp2_with (refine wpList_store_one rfl 23 (.tmp 46) (.tmp 44) rfl b _ rfl rfl rfl 59 _ HB10.out infoSls ?_)
    go_wp2
    go_ret
    rw [show i + (T.length - i + 1) = i + 1 + (T.length - i) by omega]
    exact HFIN.out
end Go.Proofs.YtclekhjnnljjlaaGreatDoor
namespace Go.Proofs.YtclekhjnnljjlaaGreatDoor
open Go.RowKit
set_option maxHeartbeats 4000000
set_option maxRecDepth 100000

/-- The document's state: its tree, its sessions, its last zxid. -/
def RState (w : World) (b : Nat) (M : List (Key × Nd)) (T : List Se) (z : Int) : Prop :=
  ∃ bt bx S, w.heap[b]? = some (.cells #[.pointer (some ⟨bt, 0, none⟩), .pointer (some ⟨bx, 0, none⟩), .int .i64 z] 120 (0, 0)) ∧ RT w bt (nds M) ∧ RTbl S w bx T
theorem RState.ext {w w' : World} {b : Nat} {M : List (Key × Nd)} {T : List Se} {z : Int} (h : RState w b M T z) (hE : Ext w w') : RState w' b M T z := by
  obtain ⟨bt, bx, S, h1, h2, h3⟩ := h
  exact ⟨bt, bx, S, (hE.block b (Array.getElem?_eq_some_iff.1 h1).1).trans h1, h2.ext hE, h3.ext hE⟩
def RCl15Out (M : List (Key × Nd)) (T : List Se) (z : Int) (w : World) (e : Ending) (w' : World) : Prop := ∃ b, e = .returned (.pointer (some ⟨b, 0, none⟩)) ∧ RState w' b M T z ∧ Ext w w'
theorem rtbl_own {base b : Nat} {W : World} {v : Value} {T : List Se} (h : OwnSe base T v W) (hb : W.heap[b]? = some (.cells #[v] 59 (0, 0))) (hlt : b < base) : RTbl (fun k => base ≤ k ∧ k < W.heap.size) W b T := by
  obtain ⟨a, c, vs, rfl, h1, h2, h3, h4⟩ := h.rows
  exact ⟨a, c, vs, hb, h1, h2, fun k hk => ⟨hk.2, by omega⟩, h3, h4⟩

theorem rcl15_any (w : World) (b : Nat) (M : List (Key × Nd)) (T : List Se) (z : Int) (hR : RState w b M T z) (hM : MOk M) (hf : ∀ s ∈ T, FitS s) (hl : M.length * 168 ≤ 140737488355328) (hlT : T.length * 40 ≤ 140737488355328) :
    Calls Tryz.prog 50 #[.pointer (some ⟨b, 0, none⟩)] w (RCl15Out M T z w) := by
  obtain ⟨bt, bx, S, hbk, hRT, hX⟩ := hR
  obtain ⟨a, cap, ws, hxb, hlc, hcm, hSb, hrows, hpl⟩ := hX
  have hbl := (Array.getElem?_eq_some_iff.1 hbk).1
  have hxl := (Array.getElem?_eq_some_iff.1 hxb).1
  have hb0 : w.cell? ⟨b, 0, none⟩ = some (.pointer (some ⟨bt, 0, none⟩)) := cell_of_row _ _ _ _ _ _ hbk
  have hb1 : w.cell? ⟨b, 1, none⟩ = some (.pointer (some ⟨bx, 0, none⟩)) := cell_of_row _ _ _ _ _ _ hbk
  have hb2 : w.cell? ⟨b, 2, none⟩ = some (.int .i64 z) := cell_of_row _ _ _ _ _ _ hbk
  have hx0 : w.cell? ⟨bx, 0, none⟩ = some (.slice a T.length cap) := cell_of_row _ _ _ _ _ _ hxb
  obtain ⟨W1, hW1⟩ : ∃ W1, W1 = w.alloc (.cells #[.slice none 0 0] 59) := ⟨_, rfl⟩
  have hE1 : Ext w W1 := by rw [hW1]; exact Ext.alloc _ _
  have hz1 : W1.heap.size = w.heap.size + 1 := by rw [hW1]; simp
  have hu1 : W1.heap[w.heap.size]? = some (.cells #[.slice none 0 0] 59 (0, 0)) := by rw [hW1]; exact heap_alloc_new w _
  have hl64 : T.length ≤ 9223372036854775807 := by omega
  have HROWS := Lib.hid hrows
  have HSB := Lib.hid hSb
  have HRT := Lib.hid hRT
  have HM := Lib.hid hM
  have HF := Lib.hid hf
  have HE1 := Lib.hid hE1
  have HU1 := Lib.hid hu1
  have HW1 := Lib.hid hW1
  clear hrows hSb hRT hM hf hE1 hu1 hW1 hpl hxb hbk
  go_enter Tryz.func50, Tryz.ntmps50
  go_wp2
  rw [← HW1.out]
  go_loopw [4] (fun i wr => ∃ (k : Nat) (ov : Value), k ≤ T.length ∧ i = .int .i64 k ∧ wr.heap[w.heap.size]? = some (.cells #[ov] 59 (0, 0)) ∧ Hid (OwnSe (w.heap.size + 1) (T.take k) ov wr) ∧ Ext w wr) (fun i _ => T.length - (intOf i).toNat)
  case atStart => exact ⟨0, _, Nat.zero_le _, rfl, HU1.out, OwnSe.nil _ _, HE1.out⟩
  case round =>
    obtain ⟨k, ov, hk, rfl, hur, HO, hE⟩ := hrel
    have hr1 : wr.cell? ⟨b, 1, none⟩ = some (.pointer (some ⟨bx, 0, none⟩)) := (hE.cell (p := ⟨b, 1, none⟩) hbl).trans hb1
    have hrx : wr.cell? ⟨bx, 0, none⟩ = some (.slice a T.length cap) := (hE.cell (p := ⟨bx, 0, none⟩) hxl).trans hx0
    by_cases hlt : k < T.length
    · obtain ⟨bl, off, ia, ic, rfl, hSl, hc, hic, hI, _⟩ := HROWS.out.row (List.getElem?_eq_getElem hlt)
      have hfit := HF.out T[k] (List.getElem_mem hlt)
      have htk : T.take (k + 1) = T.take k ++ [T[k]] := List.take_succ_eq_append_getElem hlt
      have htl : (T.take k).length = k := by rw [List.length_take]; omega
      generalize T[k] = s at *
      have hidl := hfit.ids
      have hcw : ∀ j u, (seC s (.slice ia s.ids.length ic))[j]? = some u → wr.cell? ((⟨bl, off + k * 3, none⟩ : Addr).add j) = some u := fun j u hj => by
        rw [addr_add, hE.cell (p := ⟨bl, off + k * 3 + j, none⟩) (HSB.out bl hSl).1]
        exact hc j u hj
      have hbz := hE.size
      have hbz2 := (Array.getElem?_eq_some_iff.1 hur).1
      -- the session in a box of its own
      obtain ⟨W2, hW2⟩ : ∃ W2, W2 = wr.alloc (.cells (seC s (.slice ia s.ids.length ic)) 62) := ⟨_, rfl⟩
      have hE2 : Ext wr W2 := by rw [hW2]; exact Ext.alloc _ _
      have hz2 : W2.heap.size = wr.heap.size + 1 := by rw [hW2]; simp
      have hn2 : W2.heap[wr.heap.size]? = some (.cells (seC s (.slice ia s.ids.length ic)) 62 (0, 0)) := by rw [hW2]; exact heap_alloc_new _ _
      -- its identities, copied
      obtain ⟨i1, hi1, iz0, iz1, iz2⟩ := info_parts infoId
      obtain ⟨W4, hW4⟩ : ∃ W4, W4 = W2.alloc (.cells #[] 139) := ⟨_, rfl⟩
      have hE4 : Ext W2 W4 := by rw [hW4]; exact Ext.alloc _ _
      have hz4 : W4.heap.size = W2.heap.size + 1 := by rw [hW4]; simp
      have g2 : W4.cell? ⟨wr.heap.size, 2, none⟩ = some (.slice ia s.ids.length ic) := cell_of_row _ _ _ _ _ _ ((hE4.block wr.heap.size (by omega)).trans hn2)
      have hown0 : W4.ownsRow W2.heap.size 139 2 (.slice (some ⟨W2.heap.size, 0, none⟩) 0 0) 0 [] := by rw [hW4]; exact ownsRow_empty W2 139 2
      have hEr4 := hE2.trans hE4
      have hsrc0 : Src Tryz.prog 2 60 (.slice ia s.ids.length ic) s.ids.length (idCs s.ids) W4 := (((CellsS.cells (B := w.heap.size) hI fun k hk => (HSB.out k hk).1).ext hE).ext hEr4).src Tryz.underlying60 _ _ (by simp [idCs_length]) (one_id s.ids)
      have HC := Lib.hid hcw
      have HTK := Lib.hid htk
      have HE := Lib.hid hE
      have HUR := Lib.hid hur
      have HE2 := Lib.hid hE2
      have HE4 := Lib.hid hE4
      have HW4 := Lib.hid hW4
      have HSET := Lib.hid ((setRow_alloc wr zeroSe (seC s (.slice ia s.ids.length ic)) 62).trans hW2.symm)
      have HNEW := Lib.hid (heap_alloc_new wr (.cells zeroSe 62))
      have HN2 := Lib.hid hn2
      rw [hz2] at hown0
      rw [hW4] at hown0 hsrc0 g2
      unfold seC at HC HSET
      unfold zeroSe at HSET HNEW
      clear hcw hc htk hE hur hE2 hE4 hW4 hW2 hn2 hI hEr4
      go_wp2_with (first | (refine wpList_load_at rfl 62 (.tmp 30) rfl _ rfl _ _ HC.out Tryz.underlying62 rfl sizeSe ?_) | (refine wpList_store_row rfl 62 (.tmp 5) (.tmp 31) rfl wr.heap.size _ rfl rfl 62 _ HNEW.out sizeSe rfl (cells_se s ia _ ic) ?_; rw [HSET.out]) | (at_builtin; refine wpList_append_src _ rfl (.tmp 32) (.tmp 34) 60 60 rfl (wr.heap.size + 1) 139 i1 (.agg #[.string ⟨#[]⟩, .string ⟨#[]⟩]) 2 32 Tryz.underlying60 hi1 iz0 iz1 iz2 rfl (by decide) _ 0 _ rfl hown0 _ s.ids.length _ rfl hsrc0 ?b1 ?b2 ?b3 ?_))
      case b1 => simp only [maxLen]; omega
      case b2 => omega
      case b3 => first | omega | (simp; omega)
      rintro v5 W5 hown5 hg5 - -
      rw [← HW4.out] at hg5
      (try simp only [List.nil_append, Nat.zero_add] at hown5)
      have hz5 := hg5.size
      have hE25 : Ext W2 W5 := ⟨hg5.os.trans HE4.out.os, hg5.tape.trans HE4.out.tape, hg5.output.trans HE4.out.output, by omega, fun j hj => (hg5.block j (by omega) (fun e => by have h : j = wr.heap.size + 1 := Option.some.inj e; omega)).trans (HE4.out.block j hj)⟩
      have hcap5 := own_cap hown5
      obtain ⟨va, vc, rfl, hD5⟩ := ownsRow_from hown5
      have hvc := hcap5 va vc rfl
      have hn5 := (hE25.block wr.heap.size (by omega)).trans HN2.out
      have hcell5 : W5.cell? ⟨wr.heap.size, 2, none⟩ = some (.slice ia s.ids.length ic) := by rw [cell_of_row W5 wr.heap.size 2 _ _ _ hn5]; rfl
      have hfr5 : W5.frozen? ⟨wr.heap.size, 2, none⟩ = false := frozen_of_row W5 wr.heap.size 2 _ _ hn5
      obtain ⟨W6, hW6⟩ : ∃ W6, W6 = W5.setCell ⟨wr.heap.size, 2, none⟩ (.slice va s.ids.length vc) := ⟨_, rfl⟩
      have hn6 : W6.heap[wr.heap.size]? = some (.cells (seC s (.slice va s.ids.length vc)) 62 (0, 0)) := by
        rw [hW6, heap_setCell_same W5 wr.heap.size 2 _ _ _ hn5]; rfl
      have hz6 : W6.heap.size = W5.heap.size := by rw [hW6]; simp [World.setCell]
      have ho6 : ∀ j, j ≠ wr.heap.size → W6.heap[j]? = W5.heap[j]? := fun j hj => by rw [hW6]; exact Below.heap_setCell _ _ _ _ (by simpa using hj)
      have hEr6 : Ext wr W6 := (HE2.out.trans hE25).trans' ⟨by rw [hW6]; rfl, by rw [hW6]; rfl, by rw [hW6]; rfl, by omega, fun j hj => ho6 j (by omega)⟩
      have hS6 : SeS (fun j => wr.heap.size < j ∧ j < W6.heap.size) W6 (.agg (seC s (.slice va s.ids.length vc))) s := ⟨va, vc, rfl, hvc, fun j u hj => by
        obtain ⟨q, o, e, h1, h2, h3⟩ := hD5 j u hj
        exact ⟨q, o, e, ⟨by omega, by omega⟩, (World.cell?_of_block (ho6 q (by omega))).trans h3⟩⟩
      obtain ⟨vs, hownr, heach⟩ := HO.out
      rw [htl] at hownr
      have hlr : ∀ j, ov.ownBlock = some j → w.heap.size + 1 ≤ j ∧ j < wr.heap.size := fun j hj => hownr.lt j hj
      have hown6 : W6.ownsRow (w.heap.size + 1) 62 3 ov k (vs.flatMap Array.toList) := hownr.kept (grown_of_ext hEr6 none) (Classical.em _)
      have hlt6 : ∀ j, ov.ownBlock = some j → j < W6.heap.size := fun j hj => by have := hlr j hj; omega
      have hu6 : W6.heap[w.heap.size]? = some (.cells #[ov] 59 (0, 0)) := (hEr6.block w.heap.size (by omega)).trans HUR.out
      have hcv6 : W6.cell? ⟨w.heap.size, 0, none⟩ = some ov := cell_of_row _ _ _ _ _ _ hu6
      have hob : ov.ownBlock ≠ some w.heap.size := fun e => by have := hlr _ e; omega
      have hog : ov.ownBlock ≠ some wr.heap.size := fun e => by have := hlr _ e; omega
      obtain ⟨i0, hi, hz0, hz1', hz2'⟩ := info_parts infoSe
      have HEr6 := Lib.hid hEr6
      have HN6 := Lib.hid hn6
      have HS6 := Lib.hid hS6
      have HO6 := Lib.hid hown6
      have HL6 := Lib.hid hlt6
      have HU6 := Lib.hid hu6
      have HCV6 := Lib.hid hcv6
      have HOB := Lib.hid hob
      have HOG := Lib.hid hog
      have HEA := Lib.hid heach
      have HLR := Lib.hid hlr
      have HW6 := Lib.hid hW6
      clear hg5 hown5 hE25 hD5 hcap5 hn5 hEr6 hn6 hS6 hW6 hown0 hsrc0 ho6 hownr heach hown6 hlt6 hu6 hcv6 hob hog hlr g2 HO hr1 hrx
      go_wp2
      rw [← HW6.out]
      have hown6 := HO6.out
      have hlt6 := HL6.out
      have hcv6 := HCV6.out
      have hob := HOB.out
      have hog := HOG.out
      have hn6 := HN6.out
      have HLAST : Hid (∀ (W7 : World) (u7 : Value), (RowA (w.heap.size + 1) 62 3 k 1 ov (vs.flatMap Array.toList) (fun l _ => l = (seC s (.slice va s.ids.length vc)).toList)) W6 W7 → (fun u W => (∃ l, (fun l _ => l = (seC s (.slice va s.ids.length vc)).toList) l W ∧ W.ownsRow (w.heap.size + 1) 62 3 u (k + 1) ((vs.flatMap Array.toList) ++ l)) ∧ (u.ownBlock = Value.ownBlock ov ∨ ∃ b', u.ownBlock = some b' ∧ W6.heap.size ≤ b')) u7 W7 → ∃ ua uc, u7 = .slice ua (k + 1) uc ∧ (W7.cell? ⟨w.heap.size, 0, none⟩ = some ov ∧ W7.frozen? ⟨w.heap.size, 0, none⟩ = false) ∧ OwnSe (w.heap.size + 1) (T.take (k + 1)) (.slice ua (k + 1) uc) (W7.setCell ⟨w.heap.size, 0, none⟩ (.slice ua (k + 1) uc)) ∧ Ext w (W7.setCell ⟨w.heap.size, 0, none⟩ (.slice ua (k + 1) uc)) ∧ (W7.setCell ⟨w.heap.size, 0, none⟩ (.slice ua (k + 1) uc)).heap[w.heap.size]? = some (.cells #[.slice ua (k + 1) uc] 59 (0, 0))) := by
        intro W7 u7 hR h7
        obtain ⟨⟨l, rfl, hown7⟩, hb7⟩ := h7
        have hz7 := hR.row.size
        have hu7 : W7.heap[w.heap.size]? = some (.cells #[ov] 59 (0, 0)) := (hR.row.block _ (by omega) hob).trans HU6.out
        have hkeep7 : ∀ j, j < W6.heap.size → ov.ownBlock ≠ some j → W7.heap[j]? = W6.heap[j]? := fun j hj hn => hR.row.block j hj hn
        have hE7 : Ext w W7 := (HE.out.trans HEr6.out).trans' ⟨hR.row.os, hR.row.tape, hR.row.output, hz7, fun j hj => hkeep7 j (by omega) (fun e => by have := HLR.out j e; omega)⟩
        have hO7 : OwnSe (w.heap.size + 1) (T.take (k + 1)) u7 W7 := by
          rw [HTK.out]
          refine ⟨vs ++ [seC s (.slice va s.ids.length vc)], by rw [List.length_append, htl]; simpa using hown7, EachS.append (HEA.out.imp (fun j hj => ⟨hj.1, by have := hj.2.1; omega, fun e => ?_⟩) fun q o u hq hu => ?_) (EachS.one (HS6.out.imp (fun j hj => ⟨by omega, by omega, fun e => ?_⟩) fun q o u hq hu => ?_))⟩
          · rcases hb7 with h | ⟨b', h, hb'⟩
            · exact hj.2.2 (by rw [← h]; exact e)
            · rw [h] at e; cases e; have := hj.2.1; omega
          · exact (World.cell?_of_block ((hkeep7 q (by have := hq.2.1; omega) hq.2.2).trans (HEr6.out.block q hq.2.1))).trans hu
          · rcases hb7 with h | ⟨b', h, hb'⟩
            · rw [h] at e; have := HLR.out j e; omega
            · rw [h] at e; cases e; omega
          · exact (World.cell?_of_block (hkeep7 q hq.2 (fun e => by have := HLR.out q e; omega))).trans hu
        obtain ⟨ua, uc, rfl, _⟩ := ownsRow_from hown7
        have hnb : ∀ j, Value.ownBlock (.slice ua (k + 1) uc) = some j → j ≠ w.heap.size := fun j hj => by
          rcases hb7 with h | ⟨b', h, hb'⟩
          · rw [h] at hj; have := HLR.out j hj; omega
          · rw [h] at hj; cases hj; omega
        have hW8 : ∀ j, j ≠ w.heap.size → (W7.setCell ⟨w.heap.size, 0, none⟩ (.slice ua (k + 1) uc)).heap[j]? = W7.heap[j]? := fun j hj => Below.heap_setCell _ _ _ _ (by simpa using hj)
        have hO8 : OwnSe (w.heap.size + 1) (T.take (k + 1)) (.slice ua (k + 1) uc) (W7.setCell ⟨w.heap.size, 0, none⟩ (.slice ua (k + 1) uc)) := by
          obtain ⟨vs, h1, h2⟩ := hO7
          exact ⟨vs, row_at h1 fun q c hq hc => (hW8 q (hnb q hq)).trans hc, h2.imp (fun q hq => ⟨hq.1, by simpa [World.setCell] using hq.2.1, hq.2.2⟩) fun q o u hq hu => (World.cell?_of_block (hW8 q (by have := hq.1; omega))).trans hu⟩
        exact ⟨ua, uc, rfl, ⟨cell_of_row _ _ _ _ _ _ hu7, frozen_of_row W7 w.heap.size 0 _ _ hu7⟩, hO8, hE7.trans' ⟨rfl, rfl, rfl, by simp [World.setCell], fun j hj => hW8 j (by omega)⟩, by rw [heap_setCell_same W7 w.heap.size 0 _ _ _ hu7]; rfl⟩
      refine wp_region_P (by kernel_rfl) (region_sp_lastR 59 (RowA (w.heap.size + 1) 62 3 k 1 ov (vs.flatMap Array.toList) (fun l _ => l = (seC s (.slice va s.ids.length vc)).toList)) (RowA.refl _ _ _ _ _ _ _ _) (fun _ _ _ => RowA.trans) (RowA.drew (fun _ _ _ _ h => h)) [.val (.pointer (some ⟨w.heap.size, 0, none⟩)), .val (.pointer (some ⟨w.heap.size, 0, none⟩)), .val (.pointer (some ⟨w.heap.size, 0, none⟩)), .val (.pointer (some ⟨w.heap.size, 0, none⟩)), .val (ov), .val (.agg (seC s (.slice va s.ids.length vc))), .prop (fun u W => ∃ g' : Nat, u = .slice (some ⟨g', 0, none⟩) 1 1 ∧ W6.heap.size ≤ g' ∧ W.heap[g']? = some (.cells (seC s (.slice va s.ids.length vc)) 62 (0, 0))), .prop (fun u W => (∃ l, (fun l _ => l = (seC s (.slice va s.ids.length vc)).toList) l W ∧ W.ownsRow (w.heap.size + 1) 62 3 u (k + 1) ((vs.flatMap Array.toList) ++ l)) ∧ (u.ownBlock = Value.ownBlock ov ∨ ∃ b', u.ownBlock = some b' ∧ W6.heap.size ≤ b')), .val (.pointer (some ⟨w.heap.size, 0, none⟩)), .val (.pointer (some ⟨w.heap.size, 0, none⟩))] ?stay 10 _ rfl rfl rfl rfl rfl (by decide) rfl ?duties ?last)
      case stay =>
        refine ⟨fun v w w' ⟨g', h1, h2, h3⟩ h => ⟨g', h1, h2, (h.row.block g' (Array.getElem?_eq_some_iff.1 h3).1 (fun e => by have := hlt6 g' e; omega)).trans h3⟩, fun v w w' ⟨h1, h2⟩ h => ⟨h.keep v h1, h2⟩, trivial⟩
      case duties =>
        refine ⟨?_, ?_, ?_, ?_, ?_, ?_, ?_, ?_, ?_, ?_, trivial⟩
        · exact dutyR_free rfl fun a w' hE hF hA => wp_value (w' := w') (ex_move rfl) ⟨_, rfl, hF.slot 3 _ (by decide) rfl, RowA.refl _ _ _ _ _ _ _ _ _⟩
        · exact dutyR_free rfl fun a w' hE hF hA => wp_value (w' := w') (ex_move rfl) ⟨_, rfl, hF.slot 3 _ (by decide) rfl, RowA.refl _ _ _ _ _ _ _ _ _⟩
        · refine dutyR_free rfl fun a w' hE hF hA => ?_
          have x1 := hA.pick 1 38 (.pointer (some ⟨w.heap.size, 0, none⟩)) rfl rfl ⟨⟨1, .data⟩, by simp, rfl, rfl⟩ (fun u h => h)
          exact wp_value (ex_nilCheck rfl _ x1) ⟨_, rfl, rfl, RowA.refl _ _ _ _ _ _ _ _ _⟩
        · refine dutyR_free rfl fun a w' hE hF hA => ?_
          have x1 := hA.pick 2 39 (.pointer (some ⟨w.heap.size, 0, none⟩)) rfl rfl ⟨⟨2, .data⟩, by simp, rfl, rfl⟩ (fun u h => h)
          exact wp_value (w' := w') (v := .pointer (some ⟨w.heap.size, 0, none⟩)) (by simp only [execOp, x1]; simp [go_sem]) ⟨_, rfl, rfl, RowA.refl _ _ _ _ _ _ _ _ _⟩
        · refine dutyR_free rfl fun a w' hE hF hA => ?_
          have x1 := hA.pick 3 40 (.pointer (some ⟨w.heap.size, 0, none⟩)) rfl rfl ⟨⟨3, .data⟩, by simp, rfl, rfl⟩ (fun u h => h)
          exact wp_value (ex_cell rfl _ _ x1 (hE.row.cell hcv6 hob) rfl Tryz.underlying23) ⟨_, rfl, rfl, RowA.refl _ _ _ _ _ _ _ _ _⟩
        · refine dutyR_free rfl fun a w' hE hF hA => ?_
          have x1 := hF.slot 5 _ (by decide) rfl
          exact wp_value (ex_load_row rfl _ x1 62 _ (0, 0) _ ((hE.row.block _ (Array.getElem?_eq_some_iff.1 hn6).1 hog).trans hn6) Tryz.underlying62 rfl sizeSe) ⟨_, rfl, rfl, RowA.refl _ _ _ _ _ _ _ _ _⟩
        · refine dutyR_free rfl fun a w' hE hF hA => ?_
          have x1 := hA.pick 5 42 (.agg (seC s (.slice va s.ids.length vc))) rfl rfl ⟨⟨5, .data⟩, by simp, rfl, rfl⟩ (fun u h => h)
          refine wp_buildSlice 23 62 1 _ rfl (seC s (.slice va s.ids.length vc)) i0 (.agg #[.int .i64 0, .int .i32 0, .slice none 0 0]) Tryz.underlying23 hi hz0 (by rw [hz1']; decide) (by rw [hz1']; decide) (by simp only [List.map_toArray, List.map_cons, List.map_nil, x1, hz1']; kernel_rfl) ⟨_, rfl, ⟨w'.heap.size, rfl, hE.row.size, heap_alloc_new _ _⟩, RowA.of_ext (fun _ _ _ _ h => h) (Ext.alloc _ _)⟩
        · refine dutyR_free rfl fun a w' hE hF hA => ?_
          have x1 := hA.pick 4 41 (ov) rfl rfl ⟨⟨4, .data⟩, by simp, rfl, rfl⟩ (fun u h => h)
          obtain ⟨g', x2, hgB, hg⟩ : ∃ g' : Nat, a.eval (.tmp 43) = .slice (some ⟨g', 0, none⟩) 1 1 ∧ W6.heap.size ≤ g' ∧ w'.heap[g']? = some (.cells (seC s (.slice va s.ids.length vc)) 62 (0, 0)) := hA.slot 6 43 rfl rfl ⟨⟨6, .data⟩, by simp, rfl, rfl⟩
          have hcs : Cells w'.heap.size w' (some ⟨g', 0, none⟩) (seC s (.slice va s.ids.length vc)).toList := fun j u hj => ⟨g', 0, rfl, (Array.getElem?_eq_some_iff.1 hg).1, by rw [Nat.zero_add, cell_of_row _ _ _ _ _ _ hg]; simpa using hj⟩
          have hsrc : Src Tryz.prog 3 23 (.slice (some ⟨g', 0, none⟩) 1 1) 1 (seC s (.slice va s.ids.length vc)).toList w' := hcs.src Tryz.underlying23 1 1 rfl (fun u hu => by
            have := cells_se s va s.ids.length vc
            rw [← Array.all_toList] at this
            exact List.all_eq_true.1 this u hu)
          obtain ⟨v', w2, hr, hown2, hRA, h5⟩ := run_append_row (P := Tryz.prog) w' (w.heap.size + 1) 23 23 23 62 i0 (.agg #[.int .i64 0, .int .i32 0, .slice none 0 0]) 3 40 Tryz.underlying23 hi hz0 hz1' hz2' rfl (by decide) _ k _ (hE.row.own rfl hown6) _ 1 _ hsrc (fun l _ => l = (seC s (.slice va s.ids.length vc)).toList) (fun _ _ _ _ h => h) rfl (by unfold maxLen; omega) (by omega) (by have := hE.row.size; omega)
          exact wp_value (ex_append rfl (by rw [x1, x2]; exact hr)) ⟨_, rfl, ⟨⟨_, rfl, hown2⟩, h5.imp id fun e => ⟨_, e, hE.row.size⟩⟩, hRA⟩
        · refine dutyR_free rfl fun a w' hE hF hA => ?_
          have x1 := hA.pick 0 37 (.pointer (some ⟨w.heap.size, 0, none⟩)) rfl rfl ⟨⟨0, .data⟩, by simp, rfl, rfl⟩ (fun u h => h)
          exact wp_value (ex_nilCheck rfl _ x1) ⟨_, rfl, rfl, RowA.refl _ _ _ _ _ _ _ _ _⟩
        · refine dutyR_free rfl fun a w' hE hF hA => ?_
          have x1 := hA.pick 8 45 (.pointer (some ⟨w.heap.size, 0, none⟩)) rfl rfl ⟨⟨8, .data⟩, by simp, rfl, rfl⟩ (fun u h => h)
          exact wp_value (w' := w') (v := .pointer (some ⟨w.heap.size, 0, none⟩)) (by simp only [execOp, x1]; simp [go_sem]) ⟨_, rfl, rfl, RowA.refl _ _ _ _ _ _ _ _ _⟩
      case last =>
        intro W7 hR
        simp only [forS]
        intro u6 h6 u7 h7
        have h := HLAST.out W7 u7 hR h7
        have h1 := h.choose_spec
        generalize h.choose = ua at h1
        have h2 := h1.choose_spec
        generalize h1.choose = uc at h2
        have e7 := h2.1
        subst e7
        have hcu7 := h2.2.1.1
        have hfu7 := h2.2.1.2
        have HO8 := Lib.hid h2.2.2.1
        have HE8 := Lib.hid h2.2.2.2.1
        have HU8 := Lib.hid h2.2.2.2.2
        clear h h1 h2 h6 h7 hown6 hlt6 hcv6 hob hog hn6 hR HLAST
        simp only [filled, List.take_succ_cons, List.take_zero, List.zip_cons_cons, List.zip_nil_right, List.foldl_cons, List.foldl_nil, Act.put]
        go_simp
        (try simp only [Act.put, Exit.inBlock, Exit.then])
        rename_i hK
        refine hK _ _ ?_
        clear hK hcu7 hfu7
        go_wp2
        go_roundw
        case rel => exact ⟨k + 1, _, by omega, by go_num, HU8.out, HO8.out, HE8.out⟩
        case measure => simp [intOf]; omega
    · obtain rfl : k = T.length := by omega
      rw [List.take_length] at HO
      have hr0 : wr.cell? ⟨b, 0, none⟩ = some (.pointer (some ⟨bt, 0, none⟩)) := (hE.cell (p := ⟨b, 0, none⟩) hbl).trans hb0
      have hr2 : wr.cell? ⟨b, 2, none⟩ = some (.int .i64 z) := (hE.cell (p := ⟨b, 2, none⟩) hbl).trans hb2
      have hul := (Array.getElem?_eq_some_iff.1 hur).1
      have HX := Lib.hid (rtbl_own HO.out hur (by omega))
      have HRR := Lib.hid (HRT.out.ext hE)
      have HE := Lib.hid hE
      clear hur HO hE
      go_wp2
      refine wp_region_P (by kernel_rfl) (region_sp 59 [.val (.pointer (some ⟨b, 0, none⟩)), .val (.pointer (some ⟨b, 0, none⟩)), .val (.pointer (some ⟨b, 0, none⟩)), .val (.pointer (some ⟨bt, 0, none⟩)), .prop (fun u W => ∃ c, u = .pointer (some ⟨c, 0, none⟩) ∧ RT W c (nds M)), .val (.pointer (some ⟨w.heap.size, 0, none⟩)), .val (.pointer (some ⟨b, 0, none⟩)), .val (.pointer (some ⟨b, 0, none⟩)), .val (.pointer (some ⟨b, 2, none⟩)), .val (.int .i64 z), .prop (fun u W => ∃ c, u = .agg #[.pointer (some ⟨c, 0, none⟩), .pointer (some ⟨w.heap.size, 0, none⟩), .int .i64 z] ∧ RT W c (nds M)), .prop (fun u W => ∃ g c, u = .pointer (some ⟨g, 0, none⟩) ∧ W.heap[g]? = some (.cells #[.pointer (some ⟨c, 0, none⟩), .pointer (some ⟨w.heap.size, 0, none⟩), .int .i64 z] 120 (0, 0)) ∧ RT W c (nds M)), .prop (fun u W => ∃ g c, u = .pointer (some ⟨g, 0, none⟩) ∧ W.heap[g]? = some (.cells #[.pointer (some ⟨c, 0, none⟩), .pointer (some ⟨w.heap.size, 0, none⟩), .int .i64 z] 120 (0, 0)) ∧ RT W c (nds M))] ?stay rfl (by decide) rfl ?duties ?rest)
      case stay =>
        exact ⟨fun v w w' ⟨c, h1, h2⟩ h => ⟨c, h1, h2.ext h⟩, fun v w w' ⟨c, h1, h2⟩ h => ⟨c, h1, h2.ext h⟩, fun v w w' ⟨g, c, h1, h2, h3⟩ h => ⟨g, c, h1, (h.block g (Array.getElem?_eq_some_iff.1 h2).1).trans h2, h3.ext h⟩, fun v w w' ⟨g, c, h1, h2, h3⟩ h => ⟨g, c, h1, (h.block g (Array.getElem?_eq_some_iff.1 h2).1).trans h2, h3.ext h⟩, trivial⟩
      case duties =>
        refine ⟨?_, ?_, ?_, ?_, ?_, ?_, ?_, ?_, ?_, ?_, ?_, ?_, ?_, trivial⟩
        · exact duty_free rfl fun a w' hE hF hA => wp_value (w' := w') (ex_move rfl) ⟨_, rfl, hF.slot 0 _ (by decide) rfl, Ext.refl _⟩
        · refine duty_free rfl fun a w' hE hF hA => ?_
          have x1 := hA.pick 0 47 (.pointer (some ⟨b, 0, none⟩)) rfl rfl ⟨⟨0, .data⟩, by simp, rfl, rfl⟩ (fun u h => h)
          exact wp_value (ex_nilCheck rfl _ x1) ⟨_, rfl, rfl, Ext.refl _⟩
        · refine duty_free rfl fun a w' hE hF hA => ?_
          have x1 := hA.pick 1 48 (.pointer (some ⟨b, 0, none⟩)) rfl rfl ⟨⟨1, .data⟩, by simp, rfl, rfl⟩ (fun u h => h)
          exact wp_value (w' := w') (v := .pointer (some ⟨b, 0, none⟩)) (by simp only [execOp, x1]; simp [go_sem]) ⟨_, rfl, rfl, Ext.refl _⟩
        · refine duty_free rfl fun a w' hE hF hA => ?_
          have x1 := hA.pick 2 49 (.pointer (some ⟨b, 0, none⟩)) rfl rfl ⟨⟨2, .data⟩, by simp, rfl, rfl⟩ (fun u h => h)
          exact wp_value (ex_cell rfl _ _ x1 ((hE.cell (World.block_lt_of_cell? _ _ hr0)).trans hr0) rfl Tryz.underlying52) ⟨_, rfl, rfl, Ext.refl _⟩
        · refine duty_free rfl fun a w' hE hF hA => ?_
          have x1 := hA.pick 3 50 (.pointer (some ⟨bt, 0, none⟩)) rfl rfl ⟨⟨3, .data⟩, by simp, rfl, rfl⟩ (fun u h => h)
          refine wp_enter (ex_call rfl (enters_f Tryz.func83 (by kernel_rfl) rfl)) (by simp only [List.map_toArray, List.map_cons, List.map_nil, x1]; exact rclone7_any w' bt M (HRR.out.ext hE) HM.out hl) ?_
          rintro e w4 ⟨c, rfl, _, hT4, hb⟩
          exact ⟨_, rfl, _, rfl, ⟨c, rfl, hT4.rt⟩, hb⟩
        · exact duty_free rfl fun a w' hE hF hA => wp_value (w' := w') (ex_move rfl) ⟨_, rfl, hF.slot 3 _ (by decide) rfl, Ext.refl _⟩
        · exact duty_free rfl fun a w' hE hF hA => wp_value (w' := w') (ex_move rfl) ⟨_, rfl, hF.slot 0 _ (by decide) rfl, Ext.refl _⟩
        · refine duty_free rfl fun a w' hE hF hA => ?_
          have x1 := hA.pick 6 53 (.pointer (some ⟨b, 0, none⟩)) rfl rfl ⟨⟨6, .data⟩, by simp, rfl, rfl⟩ (fun u h => h)
          exact wp_value (ex_nilCheck rfl _ x1) ⟨_, rfl, rfl, Ext.refl _⟩
        · refine duty_free rfl fun a w' hE hF hA => ?_
          have x1 := hA.pick 7 54 (.pointer (some ⟨b, 0, none⟩)) rfl rfl ⟨⟨7, .data⟩, by simp, rfl, rfl⟩ (fun u h => h)
          exact wp_value (w' := w') (v := .pointer (some ⟨b, 2, none⟩)) (by simp only [execOp, x1]; simp [go_sem]) ⟨_, rfl, rfl, Ext.refl _⟩
        · refine duty_free rfl fun a w' hE hF hA => ?_
          have x1 := hA.pick 8 55 (.pointer (some ⟨b, 2, none⟩)) rfl rfl ⟨⟨8, .data⟩, by simp, rfl, rfl⟩ (fun u h => h)
          exact wp_value (ex_cell rfl _ _ x1 ((hE.cell (World.block_lt_of_cell? _ _ hr2)).trans hr2) rfl Tryz.underlying2) ⟨_, rfl, rfl, Ext.refl _⟩
        · refine duty_free rfl fun a w' hE hF hA => ?_
          obtain ⟨c, x1, hc⟩ : ∃ c, a.eval (.tmp 51) = .pointer (some ⟨c, 0, none⟩) ∧ RT w' c (nds M) := hA.slot 4 51 rfl rfl ⟨⟨4, .data⟩, by simp, rfl, rfl⟩
          have x2 := hA.pick 5 52 (.pointer (some ⟨w.heap.size, 0, none⟩)) rfl rfl ⟨⟨5, .data⟩, by simp, rfl, rfl⟩ (fun u h => h)
          have x3 := hA.pick 9 56 (.int .i64 z) rfl rfl ⟨⟨9, .data⟩, by simp, rfl, rfl⟩ (fun u h => h)
          exact wp_value (w' := w') (v := .agg #[.pointer (some ⟨c, 0, none⟩), .pointer (some ⟨w.heap.size, 0, none⟩), .int .i64 z]) (by simp only [execOp, List.map_toArray, List.map_cons, List.map_nil, x1, x2, x3]; simp [go_sem]) ⟨_, rfl, ⟨c, rfl, hc⟩, Ext.refl _⟩
        · refine duty_free rfl fun a w' hE hF hA => ?_
          obtain ⟨c, x1, hc⟩ : ∃ c, a.eval (.tmp 57) = .agg #[.pointer (some ⟨c, 0, none⟩), .pointer (some ⟨w.heap.size, 0, none⟩), .int .i64 z] ∧ RT w' c (nds M) := hA.slot 10 57 rfl rfl ⟨⟨10, .data⟩, by simp, rfl, rfl⟩
          exact wp_value (w' := w'.alloc (.cells #[.pointer (some ⟨c, 0, none⟩), .pointer (some ⟨w.heap.size, 0, none⟩), .int .i64 z] 120)) (v := .pointer (some ⟨w'.heap.size, 0, none⟩)) (by simp only [execOp, x1]; simp [go_sem]) ⟨_, rfl, ⟨_, c, rfl, heap_alloc_new _ _, hc.ext (Ext.alloc _ _)⟩, Ext.alloc _ _⟩
        · refine duty_free rfl fun a w' hE hF hA => ?_
          exact wp_value (w' := w') (ex_assign rfl) ⟨_, rfl, hA.slot 11 58 rfl rfl ⟨⟨11, .data⟩, by simp, rfl, rfl⟩, Ext.refl _⟩
      case rest =>
        intro W8 hE8
        have HE8 := Lib.hid (HE.out.trans hE8)
        have HX8 := Lib.hid (HX.out.ext hE8)
        simp only [forS]
        intro u51 h51 u57 h57 u58 h58 u2 h2
        have h := h2.choose_spec
        generalize h2.choose = g at h
        have h3 := h.choose_spec
        generalize h.choose = c at h3
        have e2 := h3.1
        subst e2
        have HFIN := Lib.hid (show RCl15Out M T z w (.returned (.pointer (some ⟨g, 0, none⟩))) W8 from ⟨g, rfl, ⟨c, w.heap.size, _, h3.2.1, h3.2.2, HX8.out⟩, HE8.out⟩)
        clear h51 h57 h58 h2 h h3 hr0 hr2 hr1 hrx
        simp only [filled, List.zip_cons_cons, List.zip_nil_right, List.zip_nil_left, List.foldl_cons, List.foldl_nil, Act.put]
        go_simp
        rename_i hK
        refine hK _ _ ?_
        clear hK
        go_wp2
        go_ret
        exact HFIN.out
end Go.Proofs.YtclekhjnnljjlaaGreatDoor
namespace Go.Proofs.YtclekhjnnljjlaaGreatDoor
open Go.RowKit
set_option maxHeartbeats 4000000
set_option maxRecDepth 100000

/-- The program's state: its tree, its sessions, its last zxid. -/
def PState (w : World) (b : Nat) (M : List (Key × Nd)) (T : List Se) (z : Int) : Prop :=
  ∃ bt bx bm S1 S2 N1 N2, w.heap[b]? = some (.cells #[.pointer (some ⟨bt, 0, none⟩), .pointer (some ⟨bx, 0, none⟩), .int .i64 z] 79 (0, 0)) ∧ TreeAt S1 w bt M N1 ∧ TblAt S2 w bx bm T N2
theorem PState.ext {w w' : World} {b : Nat} {M : List (Key × Nd)} {T : List Se} {z : Int} (h : PState w b M T z) (hE : Ext w w') : PState w' b M T z := by
  obtain ⟨bt, bx, bm, S1, S2, N1, N2, h1, h2, h3⟩ := h
  exact ⟨bt, bx, bm, S1, S2, N1, N2, (hE.block b (Array.getElem?_eq_some_iff.1 h1).1).trans h1, h2.ext hE, h3.ext hE⟩
def ANewOut (w : World) (e : Ending) (w' : World) : Prop := ∃ b, e = .returned (.pointer (some ⟨b, 0, none⟩)) ∧ PState w' b [(keyN rootN, rootN)] [] 0 ∧ Ext w w'
theorem anew_any (w : World) : Calls Tryz.prog 14 #[] w (ANewOut w) := by
  have C1 := Lib.hid (new_any w)
  go_enter Tryz.func14, Tryz.ntmps14
  go_wp2_with fail
  refine C1.out.mono ?_
  rintro e W1 ⟨bt, rfl, hT, hE1⟩
  have hE1 : Ext w W1 := hE1
  have C2 := Lib.hid (snew_any W1)
  have HT := Lib.hid hT
  have HE1 := Lib.hid hE1
  clear C1 hT hE1
  go_wp2_with fail
  refine C2.out.mono ?_
  rintro e W2 ⟨bx, bm, rfl, hX, hE2⟩
  have hE2 : Ext W1 W2 := hE2
  have hE3 : Ext W2 (W2.alloc (.cells #[.pointer (some ⟨bt, 0, none⟩), .pointer (some ⟨bx, 0, none⟩), .int .i64 0] 79)) := Ext.alloc _ _
  have HFIN := Lib.hid (show ANewOut w (.returned (.pointer (some ⟨W2.heap.size, 0, none⟩))) (W2.alloc (.cells #[.pointer (some ⟨bt, 0, none⟩), .pointer (some ⟨bx, 0, none⟩), .int .i64 0] 79)) from
    ⟨_, rfl, ⟨bt, bx, bm, _, _, _, _, heap_alloc_new _ _, (HT.out.ext hE2).ext hE3, hX.ext hE3⟩, (HE1.out.trans hE2).trans hE3⟩)
  clear C2 hX hE2 hE3
  go_wp2
  go_ret
  exact HFIN.out

theorem ptree_any (w : World) (b bt bx : Nat) (z : Int) (h : w.heap[b]? = some (.cells #[.pointer (some ⟨bt, 0, none⟩), .pointer (some ⟨bx, 0, none⟩), .int .i64 z] 79 (0, 0))) : Calls Tryz.prog 8 #[.pointer (some ⟨b, 0, none⟩)] w fun e w' => e = .returned (.pointer (some ⟨bt, 0, none⟩)) ∧ w = w' := by
  have hc : w.cell? ⟨b, 0, none⟩ = some (.pointer (some ⟨bt, 0, none⟩)) := cell_of_row _ _ _ _ _ _ h
  clear h
  go_enter Tryz.func8, Tryz.ntmps8
  go_wp2
  go_ret
  exact ⟨rfl, rfl⟩
theorem psess_any (w : World) (b bt bx : Nat) (z : Int) (h : w.heap[b]? = some (.cells #[.pointer (some ⟨bt, 0, none⟩), .pointer (some ⟨bx, 0, none⟩), .int .i64 z] 79 (0, 0))) : Calls Tryz.prog 34 #[.pointer (some ⟨b, 0, none⟩)] w fun e w' => e = .returned (.pointer (some ⟨bx, 0, none⟩)) ∧ w = w' := by
  have hc : w.cell? ⟨b, 1, none⟩ = some (.pointer (some ⟨bx, 0, none⟩)) := cell_of_row _ _ _ _ _ _ h
  clear h
  go_enter Tryz.func34, Tryz.ntmps34
  go_wp2
  go_ret
  exact ⟨rfl, rfl⟩
theorem plast_any (w : World) (b bt bx : Nat) (z : Int) (h : w.heap[b]? = some (.cells #[.pointer (some ⟨bt, 0, none⟩), .pointer (some ⟨bx, 0, none⟩), .int .i64 z] 79 (0, 0))) : Calls Tryz.prog 10 #[.pointer (some ⟨b, 0, none⟩)] w fun e w' => e = .returned (.int .i64 z) ∧ w = w' := by
  have hc : w.cell? ⟨b, 2, none⟩ = some (.int .i64 z) := cell_of_row _ _ _ _ _ _ h
  clear h
  go_enter Tryz.func10, Tryz.ntmps10
  go_wp2
  go_ret
  exact ⟨rfl, rfl⟩

/-- From at a tree and a table. -/
def AFromOut (M : List (Key × Nd)) (T : List Se) (z : Int) (w : World) (e : Ending) (w' : World) : Prop :=
  if z < 0 then e = .returned (.tuple #[.pointer none, .int .i64 1]) ∧ Ext w w'
  else ∃ b, e = .returned (.tuple #[.pointer (some ⟨b, 0, none⟩), .int .i64 0]) ∧ PState w' b M T z ∧ Ext w w'
theorem afrom_nil (w : World) (bx : Nat) (z : Int) : Calls Tryz.prog 22 #[.pointer none, .pointer (some ⟨bx, 0, none⟩), .int .i64 z] w fun e w' => e = .returned (.tuple #[.pointer none, .int .i64 2]) ∧ w = w' := by
  go_enter Tryz.func22, Tryz.ntmps22
  go_wp2
  go_ret2
  exact ⟨rfl, rfl⟩
theorem afrom_any (S1 S2 : Nat → Prop) (w : World) (bt bx bm N1 N2 : Nat) (M : List (Key × Nd)) (T : List Se) (z : Int) (hT : TreeAt S1 w bt M N1) (hX : TblAt S2 w bx bm T N2) (hl : M.length < 4611686018427387904) (hlT : T.length < 4611686018427387904) :
    Calls Tryz.prog 22 #[.pointer (some ⟨bt, 0, none⟩), .pointer (some ⟨bx, 0, none⟩), .int .i64 z] w (AFromOut M T z w) := by
  by_cases hz : z < 0
  · have HFIN := Lib.hid (show AFromOut M T z w (.returned (.tuple #[.pointer none, .int .i64 1])) w by unfold AFromOut; rw [if_pos hz]; exact ⟨rfl, Ext.refl _⟩)
    have d1 : decide (z < 0) = true := decide_eq_true hz
    clear hT hX hz
    go_enter Tryz.func22, Tryz.ntmps22
    go_wp2
    go_ret2
    exact HFIN.out
  · have HZ := Lib.hid hz
    have d1 : decide (z < 0) = false := decide_eq_false hz
    have C1 := Lib.hid (tclone_any S1 w bt M N1 hT hl)
    have HX := Lib.hid hX
    clear hT hX hz
    go_enter Tryz.func22, Tryz.ntmps22
    go_wp2_with fail
    refine C1.out.mono ?_
    rintro e W1 ⟨ct, rfl, hT1, hE1⟩
    have hE1 : Ext w W1 := hE1
    have C2 := Lib.hid (stclone_any S2 W1 bx bm T N2 (HX.out.ext hE1) hlT)
    have HT1 := Lib.hid hT1
    have HE1 := Lib.hid hE1
    clear C1 hT1 hE1
    go_wp2_with fail
    refine C2.out.mono ?_
    rintro e W2 ⟨cx, cm, rfl, hX2, hE2⟩
    have hE2 : Ext W1 W2 := hE2
    have hE3 : Ext W2 (W2.alloc (.cells #[.pointer (some ⟨ct, 0, none⟩), .pointer (some ⟨cx, 0, none⟩), .int .i64 z] 79)) := Ext.alloc _ _
    have HFIN := Lib.hid (show AFromOut M T z w (.returned (.tuple #[.pointer (some ⟨W2.heap.size, 0, none⟩), .int .i64 0])) (W2.alloc (.cells #[.pointer (some ⟨ct, 0, none⟩), .pointer (some ⟨cx, 0, none⟩), .int .i64 z] 79)) by
      unfold AFromOut
      rw [if_neg (by have := HZ.out; omega)]
      exact ⟨_, rfl, ⟨ct, cx, cm, _, _, _, _, heap_alloc_new _ _, (HT1.out.ext hE2).ext hE3, hX2.ext hE3⟩, (HE1.out.trans hE2).trans hE3⟩)
    clear C2 hX2 hE2 hE3
    go_wp2
    go_ret2
    exact HFIN.out

/-- The document's From. -/
def RF15Out (M : List (Key × Nd)) (T : List Se) (z : Int) (w : World) (e : Ending) (w' : World) : Prop :=
  if z < 0 then e = .returned (.tuple #[.pointer none, .int .i64 1]) ∧ Ext w w'
  else ∃ b, e = .returned (.tuple #[.pointer (some ⟨b, 0, none⟩), .int .i64 0]) ∧ RState w' b M T z ∧ Ext w w'
theorem rf15_nil (w : World) (bx : Nat) (z : Int) : Calls Tryz.prog 23 #[.pointer none, .pointer (some ⟨bx, 0, none⟩), .int .i64 z] w fun e w' => e = .returned (.tuple #[.pointer none, .int .i64 2]) ∧ w = w' := by
  go_enter Tryz.func23, Tryz.ntmps23
  go_wp2
  go_ret2
  exact ⟨rfl, rfl⟩
theorem rf15_any (S2 : Nat → Prop) (w : World) (bt bx : Nat) (M : List (Key × Nd)) (T : List Se) (z : Int) (hT : RT w bt (nds M)) (hX : RTbl S2 w bx T) (hM : MOk M) (hf : ∀ s ∈ T, FitS s) (hl : M.length * 168 ≤ 140737488355328) (hlT : T.length * 40 ≤ 140737488355328) :
    Calls Tryz.prog 23 #[.pointer (some ⟨bt, 0, none⟩), .pointer (some ⟨bx, 0, none⟩), .int .i64 z] w (RF15Out M T z w) := by
  by_cases hz : z < 0
  · have HFIN := Lib.hid (show RF15Out M T z w (.returned (.tuple #[.pointer none, .int .i64 1])) w by unfold RF15Out; rw [if_pos hz]; exact ⟨rfl, Ext.refl _⟩)
    have d1 : decide (z < 0) = true := decide_eq_true hz
    clear hT hX hz hM hf
    go_enter Tryz.func23, Tryz.ntmps23
    go_wp2
    go_ret2
    exact HFIN.out
  · have HZ := Lib.hid hz
    have d1 : decide (z < 0) = false := decide_eq_false hz
    obtain ⟨W1, hW1⟩ : ∃ W1, W1 = w.alloc (.cells #[.pointer (some ⟨bt, 0, none⟩), .pointer (some ⟨bx, 0, none⟩), .int .i64 z] 120) := ⟨_, rfl⟩
    have hE1 : Ext w W1 := by rw [hW1]; exact Ext.alloc _ _
    have C1 := Lib.hid (rcl15_any W1 w.heap.size M T z ⟨bt, bx, S2, by rw [hW1]; exact heap_alloc_new _ _, hT.ext hE1, hX.ext hE1⟩ hM hf hl hlT)
    have HE1 := Lib.hid hE1
    have HW1 := Lib.hid hW1
    clear hT hX hz hM hf hE1 hW1
    go_enter Tryz.func23, Tryz.ntmps23
    rw [HW1.out] at C1
    go_wp2_with fail
    refine C1.out.mono ?_
    rw [← HW1.out]
    rintro e W2 ⟨b, rfl, hS, hE2⟩
    have HFIN := Lib.hid (show RF15Out M T z w (.returned (.tuple #[.pointer (some ⟨b, 0, none⟩), .int .i64 0])) W2 by
      unfold RF15Out
      rw [if_neg (by have := HZ.out; omega)]
      exact ⟨b, rfl, hS, HE1.out.trans hE2⟩)
    clear C1 hS hE2
    go_wp2
    go_ret2
    exact HFIN.out
end Go.Proofs.YtclekhjnnljjlaaGreatDoor
