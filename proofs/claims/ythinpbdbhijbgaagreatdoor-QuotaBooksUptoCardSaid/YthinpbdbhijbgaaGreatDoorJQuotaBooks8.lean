/- The document's tree in memory; where a path stands in it (arborref07's Find). The walk of a node's copy, as the reference has it. The walk of arborref07's Insert. The walks of arborref03's last and Parent. The walks of the reference of stat.Right, and of its look at UTF-8. The walk of the reference of stat.Right. The walk of arborref07.From. -/
import Derived.Test.YthinpbdbhijbgaaGreatDoorJQuotaBooks6
import Derived.Test.YthinpbdbhijbgaaGreatDoorJQuotaBooks7
import Derived.Test.YthinpbdbhijbgaaGreatDoorJQuotaBooks2
import Derived.Test.YthinpbdbhijbgaaGreatDoorJQuotaBooks3
import Derived.Test.YthinpbdbhijbgaaGreatDoorJQuotaBooks4
namespace Go.Proofs.YthinpbdbhijbgaaGreatDoor
open Go.RowKit
set_option maxHeartbeats 2000000
set_option maxRecDepth 100000

/-- The document's tree: a list of nodes. -/
def RTree (S : Nat → Prop) (w : World) (b : Nat) (L : List Nd) : Prop :=
  ∃ (a : Option Addr) (cap : Nat) (vs : List (Array Value)), w.heap[b]? = some (.cells #[.slice a L.length cap] 53 (0, 0)) ∧ L.length ≤ cap ∧ cap ≤ maxLen ∧ (∀ k, S k → k < w.heap.size ∧ k ≠ b) ∧ RowsOf S w a vs L ∧ PlainA a cap

theorem RTree.keep {S S' : Nat → Prop} {w w' : World} {b : Nat} {L : List Nd} (h : RTree S w b L) (hS : ∀ k, S k → S' k) (hb : w'.heap[b]? = w.heap[b]?) (hw : ∀ k, S k → w'.heap[k]? = w.heap[k]?) (hS' : ∀ k, S' k → k < w'.heap.size ∧ k ≠ b) : RTree S' w' b L := by
  obtain ⟨a, cap, vs, h1, h2, h3, h4, h5, h6⟩ := h
  exact ⟨a, cap, vs, hb.trans h1, h2, h3, hS', h5.imp hS hw, h6⟩
theorem RTree.lt {S : Nat → Prop} {w : World} {b : Nat} {L : List Nd} (h : RTree S w b L) : b < w.heap.size := by
  obtain ⟨a, cap, vs, h1, _⟩ := h
  exact (Array.getElem?_eq_some_iff.1 h1).1
theorem RTree.bound {S : Nat → Prop} {w : World} {b : Nat} {L : List Nd} (h : RTree S w b L) : ∀ k, S k → k < w.heap.size ∧ k ≠ b := by
  obtain ⟨a, cap, vs, _, _, _, h4, _, _⟩ := h
  exact h4
theorem RTree.ext {S : Nat → Prop} {w w' : World} {b : Nat} {L : List Nd} (h : RTree S w b L) (he : Ext w w') : RTree S w' b L :=
  h.keep (fun _ h => h) (he.block b h.lt) (fun k hk => he.block k (h.bound k hk).1) fun k hk => ⟨Nat.lt_of_lt_of_le (h.bound k hk).1 he.size, (h.bound k hk).2⟩

theorem find_step (L : List Nd) (s : ByteArray) : ∀ (k : Nat) (n : Nd), L[k]? = some n → (∀ (j : Nat) (m : Nd), j < k → L[j]? = some m → ordL m.path.data.toList s.data.toList < 0) →
    (ordL n.path.data.toList s.data.toList = 0 → rfind L s = (k, true)) ∧ (0 < ordL n.path.data.toList s.data.toList → rfind L s = (k, false)) := by
  induction L with
  | nil => intro k n h; simp at h
  | cons x r ih =>
    intro k n hk hlt
    cases k with
    | zero =>
      simp at hk
      subst hk
      refine ⟨fun h0 => by unfold rfind; rw [if_pos h0], fun h0 => by unfold rfind; rw [if_neg (by omega), if_pos h0]⟩
    | succ k =>
      have hx := hlt 0 x (by omega) rfl
      obtain ⟨h1, h2⟩ := ih k n (by simpa using hk) (fun j m hj hm => hlt (j + 1) m (by omega) (by simpa using hm))
      refine ⟨fun h0 => ?_, fun h0 => ?_⟩
      · unfold rfind
        rw [if_neg (by omega), if_neg (by omega), h1 h0]
      · unfold rfind
        rw [if_neg (by omega), if_neg (by omega), h2 h0]
theorem find_end (L : List Nd) (s : ByteArray) (h : ∀ (j : Nat) (m : Nd), L[j]? = some m → ordL m.path.data.toList s.data.toList < 0) : rfind L s = (L.length, false) := by
  induction L with
  | nil => rfl
  | cons x r ih =>
    have hx := h 0 x rfl
    unfold rfind
    rw [if_neg (by omega), if_neg (by omega), ih fun j m hm => h (j + 1) m (by simpa using hm)]
    rfl

theorem rfind_any (S : Nat → Prop) (w : World) (b : Nat) (L : List Nd) (hR : RTree S w b L) (hf : ∀ n ∈ L, Fit n) (s : ByteArray) (hs : s.size ≤ 9223372036854775800) :
    Calls Tryz.prog 143 #[.pointer (some ⟨b, 0, none⟩), .string s] w fun e w' => e = .returned (.tuple #[.int .i64 (rfind L s).1, .bool (rfind L s).2]) ∧ Ext w w' := by
  obtain ⟨a, cap, vs, hb, hl, hcm, hS, hrows, _⟩ := hR
  have hcb : w.cell? ⟨b, 0, none⟩ = some (.slice a L.length cap) := cell_of_row _ _ _ _ _ _ hb
  have hbl := (Array.getElem?_eq_some_iff.1 hb).1
  have hl64 : L.length ≤ 9223372036854775807 := by unfold maxLen at hcm; omega
  have HROWS := Lib.hid hrows
  have HS := Lib.hid hS
  have HF := Lib.hid hf
  clear hb hrows hS hf
  go_enter Tryz.func143, Tryz.ntmps143
  go_wp2
  go_loopw [6] (fun i wr => ∃ k : Nat, k ≤ L.length ∧ i = .int .i64 k ∧ Ext w wr ∧ Hid (∀ (j : Nat) (m : Nd), j < k → L[j]? = some m → ordL m.path.data.toList s.data.toList < 0)) (fun i _ => L.length - (intOf i).toNat)
  case atStart => exact ⟨0, Nat.zero_le _, rfl, Ext.refl _, fun j m hj => by omega⟩
  case round =>
    obtain ⟨k, hk, rfl, hE, HLT⟩ := hrel
    have hcr : wr.cell? ⟨b, 0, none⟩ = some (.slice a L.length cap) := (hE.cell (p := ⟨b, 0, none⟩) hbl).trans hcb
    by_cases hlt : k < L.length
    · obtain ⟨bl, off, da, dc, aa, ac, ea, hSb, hc, _⟩ := HROWS.out.row (List.getElem?_eq_getElem hlt)
      subst ea
      have hfit := HF.out L[k] (List.getElem_mem hlt)
      obtain ⟨h1, h2⟩ := find_step L s k L[k] (List.getElem?_eq_getElem hlt) HLT.out
      have hnext : ordL (L[k]'hlt).path.data.toList s.data.toList < 0 → ∀ (j : Nat) (m : Nd), j < k + 1 → L[j]? = some m → ordL m.path.data.toList s.data.toList < 0 := fun h0 j m hj hm => by
        by_cases e : j = k
        · subst e
          rw [List.getElem?_eq_getElem hlt] at hm
          rw [← Option.some.inj hm]; exact h0
        · exact HLT.out j m (by omega) hm
      generalize L[k] = n at *
      have c0 : wr.cell? ⟨bl, off + k * 17, none⟩ = some (.string n.path) := (hE.cell (p := ⟨bl, off + k * 17, none⟩) (HS.out bl hSb).1).trans (hc 0 _ rfl)
      have CO := Lib.hid (order_any n.path s wr hfit.path hs)
      have hbS : bl ≠ b := (HS.out bl hSb).2
      have HE := Lib.hid hE
      have HN := Lib.hid hnext
      clear hc hE hnext
      generalize hO : ordL n.path.data.toList s.data.toList = o at *
      rcases Int.lt_trichotomy o 0 with ho | ho | ho
      · have HN2 := Lib.hid (HN.out ho)
        have o1 : (o == 0) = false := by simp; omega
        have o2 : ¬ o = 0 := by omega
        have o3 : ¬ 0 < o := by omega
        clear h1 h2 hO HN
        go_wp2_with fail
        refine CO.out.mono ?_
        rintro e w2 ⟨rfl, hE2⟩
        have HE2 := Lib.hid (HE.out.trans hE2)
        clear CO hE2 hcr hcb c0
        go_wp2
        go_roundw
        case rel => exact ⟨k + 1, by omega, by go_num, HE2.out, HN2.out⟩
        case measure => simp [intOf]; omega
      · subst ho
        have HR := Lib.hid (h1 rfl)
        clear h1 h2 hO HN
        go_wp2_with fail
        refine CO.out.mono ?_
        rintro e w2 ⟨rfl, hE2⟩
        have HE2 := Lib.hid (HE.out.trans hE2)
        clear CO hE2 hcr hcb c0
        go_wp2
        go_ret2
        exact ⟨by rw [HR.out]; rfl, HE2.out⟩
      · have HR := Lib.hid (h2 ho)
        have o1 : (o == 0) = false := by simp; omega
        have o2 : ¬ o = 0 := by omega
        clear h1 h2 hO HN
        go_wp2_with fail
        refine CO.out.mono ?_
        rintro e w2 ⟨rfl, hE2⟩
        have HE2 := Lib.hid (HE.out.trans hE2)
        clear CO hE2 hcr hcb c0
        go_wp2
        go_ret2
        exact ⟨by rw [HR.out]; rfl, HE2.out⟩
    · obtain rfl : k = L.length := by omega
      have HR := Lib.hid (find_end L s fun j m hm => HLT.out j m (List.getElem?_eq_some_iff.1 hm).1 hm)
      have HE := Lib.hid hE
      clear hE hcb
      go_wp2
      go_ret2
      exact ⟨by rw [HR.out]; rfl, HE.out⟩
end Go.Proofs.YthinpbdbhijbgaaGreatDoor
namespace Go.Proofs.YthinpbdbhijbgaaGreatDoor
open Go.RowKit
set_option maxHeartbeats 2000000
set_option maxRecDepth 100000

/-- The copy's cells are new. -/
def CloneNew (n : Nd) (w : World) (e : Ending) (w' : World) : Prop := ∃ v, e = .returned v ∧ NdS (fun k => w.heap.size ≤ k ∧ k < w'.heap.size) w' v n ∧ Below w.heap.size w w'

/-- The same, with the rows that the clone's data and list lie in. -/
def CloneOwn (n : Nd) (w : World) (e : Ending) (w' : World) : Prop := ∃ va vc vb vd, e = .returned (.agg (ndC n (.slice va n.data.length vc) (.slice vb n.acl.length vd))) ∧ NdS (fun k => w.heap.size ≤ k ∧ k < w'.heap.size) w' (.agg (ndC n (.slice va n.data.length vc) (.slice vb n.acl.length vd))) n ∧
  w'.ownsRow w.heap.size 5 1 (.slice va n.data.length vc) n.data.length (n.data.map u8v) ∧ w'.ownsRow w.heap.size 129 3 (.slice vb n.acl.length vd) n.acl.length (acCs n.acl) ∧ (∀ g, (Value.slice va n.data.length vc).ownBlock = some g → (Value.slice vb n.acl.length vd).ownBlock ≠ some g) ∧ Below w.heap.size w w'
theorem own_move {w w' : World} {base base' size n : Nat} {e : TypeId} {v : Value} {xs : List Value} (h : w.ownsRow base e size v n xs) (hb : ∀ g, base ≤ g → g < w.heap.size → w'.heap[g]? = w.heap[g]?) (hbb : base' ≤ base) : w'.ownsRow base' e size v n xs := by
  refine ⟨h.1, ?_⟩
  rcases h.2 with h | ⟨g, cap, cur, h1, h2, h3, h4⟩
  · exact .inl h
  · exact .inr ⟨g, cap, cur, h1, Nat.le_trans hbb h2, (hb g h2 (Array.getElem?_eq_some_iff.1 h3).1).trans h3, h4⟩

theorem rclone_own (n : Nd) (da aa : Option Addr) (dc ac : Nat) (w : World) (hf : Fit n) (hD : Cells w.heap.size w da (n.data.map u8v)) (hA : Cells w.heap.size w aa (acCs n.acl)) :
    Calls Tryz.prog 74 #[.agg (ndC n (.slice da n.data.length dc) (.slice aa n.acl.length ac))] w (CloneOwn n w) := by
  obtain ⟨i0, hi, hz0, hz1, hz2⟩ := info_parts infoU8
  obtain ⟨i1, hi', hz0', hz1', hz2'⟩ := info_parts infoAc
  have hfd := hf.data
  have hfa := hf.acl
  obtain ⟨W2, hW2⟩ : ∃ W2, W2 = (w.alloc (.cells (ndC n (.slice da n.data.length dc) (.slice aa n.acl.length ac)) 44)).alloc (.cells #[.string ⟨#[]⟩, .slice none 0 0, .slice none 0 0, .int .i64 0, .int .i64 0, .int .i64 0, .int .i64 0, .int .i64 0, .int .i64 0, .int .i64 0, .int .i64 0, .int .i32 0, .int .i32 0, .int .i32 0, .bool false, .int .i64 0, .int .i64 0] 44) := ⟨_, rfl⟩
  have hs2 : W2.heap.size = w.heap.size + 1 + 1 := by rw [hW2]; simp
  have hb2 : Below w.heap.size w W2 := by rw [hW2]; exact ((Below.refl _ _).alloc (Nat.le_refl _) _).alloc (by simp) _
  have hA2 : W2.heap[w.heap.size]? = some (.cells (ndC n (.slice da n.data.length dc) (.slice aa n.acl.length ac)) 44 (0, 0)) := by rw [hW2]; exact heap_alloc2_old w _ _
  have hR2 : W2.heap[w.heap.size + 1]? = some (.cells #[.string ⟨#[]⟩, .slice none 0 0, .slice none 0 0, .int .i64 0, .int .i64 0, .int .i64 0, .int .i64 0, .int .i64 0, .int .i64 0, .int .i64 0, .int .i64 0, .int .i32 0, .int .i32 0, .int .i32 0, .bool false, .int .i64 0, .int .i64 0] 44 (0, 0)) := by rw [hW2]; exact heap_alloc2_new w _ _
  have hown1 := ownsRow_empty W2 5 1
  rw [hs2] at hown1
  have hsrc1 : Src Tryz.prog 1 41 (.slice da n.data.length dc) n.data.length (n.data.map u8v) (W2.alloc (.cells #[] 5)) := ((hD.below hb2).below ((Below.refl w.heap.size W2).alloc (by omega) _)).src Tryz.underlying41 _ _ (by simp) (one_u8 _)
  have hz3 : (W2.alloc (.cells #[] 5)).heap.size = w.heap.size + 1 + 1 + 1 := by simp [hs2]
  have hZ3 := Lib.hid hz3
  have HW2 := Lib.hid hW2
  rw [hW2] at hown1 hsrc1
  unfold ndC at hown1 hsrc1 hA2 HW2 ⊢
  clear hW2 hz3 hs2
  go_enter Tryz.func74, Tryz.ntmps74
  go_wp2_with (at_builtin; refine wpList_append_src _ rfl (.tmp 3) (.tmp 5) 41 41 rfl (w.heap.size + 1 + 1) 5 i0 (.int .u8 0) 1 1 Tryz.underlying41 hi hz0 hz1 hz2 rfl (by decide) _ 0 _ rfl hown1 _ _ _ rfl hsrc1 ?c1 ?c2 ?c3 ?_)
  case c1 => simp only [maxLen]; omega
  case c2 => omega
  case c3 => simp
  intro v1 w4 ho1 hg1 _ hob1
  have ho1' := ho1
  try simp only [List.nil_append, Nat.zero_add] at ho1'
  have HO1 := Lib.hid ho1'
  clear ho1'
  rw [← HW2.out] at hg1
  have hZ := hZ3.out
  have nb3 : w.heap.size < (W2.alloc (.cells #[] 5)).heap.size := by omega
  have hA4 : w4.heap[w.heap.size]? = some (.cells (ndC n (.slice da n.data.length dc) (.slice aa n.acl.length ac)) 44 (0, 0)) := by
    rw [hg1.block w.heap.size nb3 (by simp only [Value.ownBlock, ne_eq, Option.some.injEq]; omega), Below.heap_alloc W2 _ w.heap.size (by have := (Array.getElem?_eq_some_iff.1 hA2).1; exact this)]; exact hA2
  have hR4 : ∃ old, w4.heap[w.heap.size + 1]? = some (.cells old 44 (0, 0)) ∧ old.size = 17 := by
    have h := (hg1.block (w.heap.size + 1) (by omega) (by simp only [Value.ownBlock, ne_eq, Option.some.injEq]; omega)).trans ((Below.heap_alloc W2 (.cells #[] 5) (w.heap.size + 1) (by have := (Array.getElem?_eq_some_iff.1 hR2).1; exact this)).trans hR2)
    exact ⟨_, h, rfl⟩
  obtain ⟨old, hR4, hold⟩ := hR4
  have hb4 : Below w.heap.size w w4 := (hb2.alloc (by have := hb2.size; omega) _).grown hg1 (by omega) (fun k hk => by simp only [Value.ownBlock, Option.some.injEq] at hk; omega)
  obtain ⟨va, vc, rfl, hD4⟩ := ownsRow_cells ho1
  have hvb : ∀ b off, va = some ⟨b, off, none⟩ → w.heap.size + 1 + 1 ≤ b := by
    intro b off h
    subst h
    rcases ho1.2 with ⟨h, _⟩ | ⟨g, cap, cur, h, k1, _⟩
    · cases h
    · simp only [Value.slice.injEq, Option.some.injEq, Addr.mk.injEq] at h; omega
  have hz4 := hg1.size
  clear ho1 hg1 hob1 hR2 hb2 hD hZ3
  have hcell : w4.cell? ⟨w.heap.size, 1, none⟩ = some (.slice da n.data.length dc) := by rw [cell_of_row w4 w.heap.size 1 _ _ _ hA4]; rfl
  have hfr : w4.frozen? ⟨w.heap.size, 1, none⟩ = false := frozen_of_row w4 w.heap.size 1 _ _ hA4
  obtain ⟨W5, hW5⟩ : ∃ W5, W5 = w4.setCell ⟨w.heap.size, 1, none⟩ (.slice va n.data.length vc) := ⟨_, rfl⟩
  have hs5 : W5.heap.size = w4.heap.size := by rw [hW5]; simp [World.setCell]
  have hA5 : W5.heap[w.heap.size]? = some (.cells (ndC n (.slice va n.data.length vc) (.slice aa n.acl.length ac)) 44 (0, 0)) := by
    rw [hW5, heap_setCell_same w4 w.heap.size 1 _ _ _ hA4]; rfl
  have hR5 : W5.heap[w.heap.size + 1]? = some (.cells old 44 (0, 0)) := by rw [hW5, Below.heap_setCell _ _ _ _ (by simp)]; exact hR4
  have hb5 : Below w.heap.size w W5 := by rw [hW5]; exact hb4.setCell (p := ⟨w.heap.size, 1, none⟩) (Nat.le_refl _) _
  have hD5 : Cells W5.heap.size W5 va (n.data.map u8v) := fun j u hj => by
    obtain ⟨b, off, h1, h2, h3⟩ := hD4 j u hj
    have := hvb b off h1
    refine ⟨b, off, h1, by omega, ?_⟩
    rw [hW5, World.cell?_of_block (w := w4) (Below.heap_setCell _ _ _ _ (by simp; omega))]
    exact h3
  have hown2 := ownsRow_empty W5 129 3
  rw [hs5] at hown2
  have hsrc2 : Src Tryz.prog 3 42 (.slice aa n.acl.length ac) n.acl.length (acCs n.acl) (W5.alloc (.cells #[] 129)) := ((hA.below hb5).below ((Below.refl w.heap.size W5).alloc (by omega) _)).src Tryz.underlying42 _ _ (acCs_length _) (one_ac _)
  have HW5 := Lib.hid hW5
  have hcell2 : (w4.setCell ⟨w.heap.size, 1, none⟩ (.slice va n.data.length vc)).cell? ⟨w.heap.size, 2, none⟩ = some (.slice aa n.acl.length ac) := by rw [← hW5, cell_of_row W5 w.heap.size 2 _ _ _ hA5]; rfl
  rw [hW5] at hown2 hsrc2
  have HS5 := Lib.hid hs5
  have hnb4 : w.heap.size < w4.heap.size := by omega
  have hnb5 : w.heap.size + 1 < w4.heap.size := by omega
  clear hW5 hs5 hA4 hR4 hb4 hD4 hA2 HW2 hA
  go_wp2_with (at_builtin; refine wpList_append_src _ rfl (.tmp 8) (.tmp 10) 42 42 rfl w4.heap.size 129 i1 (.agg #[.int .i32 0, .string ⟨#[]⟩, .string ⟨#[]⟩]) 3 40 Tryz.underlying42 hi' hz0' hz1' hz2' rfl (by decide) _ 0 _ rfl hown2 _ _ _ rfl hsrc2 ?d1 ?d2 ?d3 ?_)
  case d1 => simp only [maxLen]; omega
  case d2 => omega
  case d3 => simp
  intro v2 w6 ho2 hg2 _ hob2
  have ho2' := ho2
  try simp only [List.nil_append, Nat.zero_add] at ho2'
  have HO2 := Lib.hid ho2'
  clear ho2'
  rw [← HW5.out] at hg2
  have hk6 : ∀ b, b < w4.heap.size → w6.heap[b]? = W5.heap[b]? := fun b hb => (hg2.block b (by simp; have := HS5.out; omega) (by simp only [Value.ownBlock, ne_eq, Option.some.injEq]; omega)).trans (Below.heap_alloc W5 _ b (by have := HS5.out; omega))
  have h54 : ∀ b, w.heap.size + 1 + 1 ≤ b → W5.heap[b]? = w4.heap[b]? := fun b hb => by rw [HW5.out]; exact Below.heap_setCell _ _ _ _ (by simp; omega)
  have HK6 := Lib.hid hk6
  have H54 := Lib.hid h54
  clear hk6 h54
  have hs5 := HS5.out
  have hA6 : w6.heap[w.heap.size]? = some (.cells (ndC n (.slice va n.data.length vc) (.slice aa n.acl.length ac)) 44 (0, 0)) :=
    (hg2.block w.heap.size (by simp; omega) (by simp only [Value.ownBlock, ne_eq, Option.some.injEq]; omega)).trans ((Below.heap_alloc W5 _ w.heap.size (by omega)).trans hA5)
  have hR6 : w6.heap[w.heap.size + 1]? = some (.cells old 44 (0, 0)) :=
    (hg2.block (w.heap.size + 1) (by simp; omega) (by simp only [Value.ownBlock, ne_eq, Option.some.injEq]; omega)).trans ((Below.heap_alloc W5 _ (w.heap.size + 1) (by omega)).trans hR5)
  have hb6 : Below w.heap.size w w6 := (hb5.alloc (by omega) _).grown hg2 (by simp; omega) (fun k hk => by simp only [Value.ownBlock, Option.some.injEq] at hk; omega)
  have hz6 := hg2.size
  have hD6 : Cells W5.heap.size w6 va (n.data.map u8v) := fun j u hj => by
    obtain ⟨b, off, h1, h2, h3⟩ := hD5 j u hj
    refine ⟨b, off, h1, h2, (World.cell?_of_block (hg2.block b (by simp; omega) (by simp only [Value.ownBlock, ne_eq, Option.some.injEq]; omega))).trans ?_⟩
    exact (World.cell?_of_block (w := W5) (Below.heap_alloc W5 _ b h2)).trans h3
  obtain ⟨vb, vd, rfl, hE6⟩ := ownsRow_cells ho2
  have hvb2 : ∀ b off, vb = some ⟨b, off, none⟩ → w.heap.size + 1 + 1 ≤ b := by
    intro b off h
    subst h
    rcases ho2.2 with ⟨h, _⟩ | ⟨g, cap, cur, h, k1, _⟩
    · cases h
    · simp only [Value.slice.injEq, Option.some.injEq, Addr.mk.injEq] at h; omega
  clear ho2 hg2 hob2 hA5 hR5 hb5 hD5 hown2 hsrc2 hcell hfr hcell2
  have hcell : w6.cell? ⟨w.heap.size, 2, none⟩ = some (.slice aa n.acl.length ac) := by rw [cell_of_row w6 w.heap.size 2 _ _ _ hA6]; rfl
  have hfr : w6.frozen? ⟨w.heap.size, 2, none⟩ = false := frozen_of_row w6 w.heap.size 2 _ _ hA6
  have hA7 : (w6.setCell ⟨w.heap.size, 2, none⟩ (.slice vb n.acl.length vd)).heap[w.heap.size]? = some (.cells (ndC n (.slice va n.data.length vc) (.slice vb n.acl.length vd)) 44 (0, 0)) := by
    rw [heap_setCell_same w6 w.heap.size 2 _ _ _ hA6]; rfl
  have hR7 : (w6.setCell ⟨w.heap.size, 2, none⟩ (.slice vb n.acl.length vd)).heap[w.heap.size + 1]? = some (.cells old 44 (0, 0)) := by rw [Below.heap_setCell _ _ _ _ (by simp)]; exact hR6
  have HA7 := Lib.hid hA7
  have HR7 := Lib.hid hR7
  clear hA7 hR7 hA6 hR6
  go_wp2_with (first | (refine wpList_load_row rfl 44 (.tmp 1) rfl w.heap.size rfl 44 _ (0, 0) _ HA7.out Tryz.underlying44 rfl sizeNd ?_) | (refine wpList_store_row rfl 44 (.tmp 2) (.tmp 13) rfl (w.heap.size + 1) _ rfl rfl 44 old HR7.out sizeNd hold (cells_node n va vb _ _ vc vd) ?_))
  obtain ⟨W7, hW7⟩ : ∃ W7, W7 = w6.setCell ⟨w.heap.size, 2, none⟩ (.slice vb n.acl.length vd) := ⟨_, rfl⟩
  have hA7 := HA7.out
  have hR7 := HR7.out
  rw [← hW7] at hA7 hR7 ⊢
  have hs7 : W7.heap.size = w6.heap.size := by rw [hW7]; simp [World.setCell]
  have hb7 : Below w.heap.size w W7 := by rw [hW7]; exact hb6.setCell (p := ⟨w.heap.size, 2, none⟩) (Nat.le_refl _) _
  have ho7 : ∀ b, w.heap.size + 1 + 1 ≤ b → W7.heap[b]? = w6.heap[b]? := fun b hb => by rw [hW7]; exact Below.heap_setCell _ _ _ _ (by simp; omega)
  obtain ⟨cs, hcs⟩ : ∃ cs, cs = ndC n (.slice va n.data.length vc) (.slice vb n.acl.length vd) := ⟨_, rfl⟩
  rw [← hcs] at hA7 ⊢
  have hR8 := setRow_heap W7 (w.heap.size + 1) old cs 44 (0, 0) hR7
  have hs8 : (W7.setRow (w.heap.size + 1) cs).heap.size = W7.heap.size := by simp [World.setRow]
  have hb8 : Below w.heap.size w (W7.setRow (w.heap.size + 1) cs) :=
    hb7.trans ⟨rfl, rfl, rfl, by rw [hs8]; exact Nat.le_refl _, fun k hk => setRow_other _ _ _ _ (by omega)⟩
  have ho8 : ∀ b, w.heap.size + 1 + 1 ≤ b → (W7.setRow (w.heap.size + 1) cs).heap[b]? = w6.heap[b]? := fun b hb => (setRow_other _ _ _ _ (by omega)).trans (ho7 b hb)
  have hz := HS5.out
  have hzz : W5.heap.size ≤ w6.heap.size := by have := hz6; simp at this; omega
  have cD : CellsS (fun k => w.heap.size ≤ k ∧ k < (W7.setRow (w.heap.size + 1) cs).heap.size) (W7.setRow (w.heap.size + 1) cs) va (n.data.map u8v) := fun j u hj => by
    obtain ⟨b, off, h1, h2, h3⟩ := hD6 j u hj
    have h4 := hvb b off h1
    exact ⟨b, off, h1, ⟨by omega, by omega⟩, (World.cell?_of_block (ho8 b h4)).trans h3⟩
  have cA : CellsS (fun k => w.heap.size ≤ k ∧ k < (W7.setRow (w.heap.size + 1) cs).heap.size) (W7.setRow (w.heap.size + 1) cs) vb (acCs n.acl) := fun j u hj => by
    obtain ⟨b, off, h1, h2, h3⟩ := hE6 j u hj
    have h4 := hvb2 b off h1
    exact ⟨b, off, h1, ⟨by omega, by omega⟩, (World.cell?_of_block (ho8 b h4)).trans h3⟩
  have hsz17 : (Tryz.prog.info? 44).map (·.size) = some cs.size := by rw [hcs]; exact sizeNd
  have own1 := own_move (base' := w.heap.size) HO1.out (w' := W7.setRow (w.heap.size + 1) cs) (fun g h1 h2 => (ho8 g h1).trans ((HK6.out g h2).trans (H54.out g h1))) (by omega)
  have own2 := own_move (base' := w.heap.size) HO2.out (w' := W7.setRow (w.heap.size + 1) cs) (fun g h1 h2 => ho8 g (by omega)) (by omega)
  have hap : ∀ g, (Value.slice va n.data.length vc).ownBlock = some g → (Value.slice vb n.acl.length vd).ownBlock ≠ some g := fun g h1 h2 => by
    have h3 := (World.ownsRow.lt HO1.out g h1).2
    have h4 := (World.ownsRow.lt HO2.out g h2).1
    omega
  refine bodyPost_ret (v := .agg cs) ?_ rfl ⟨va, vc, vb, vd, by rw [hcs], ⟨va, vc, vb, vd, rfl, cD, cA⟩, own1, own2, hap, hb8⟩
  exact results_cell_row (p := 2) (ty := 44) rfl _ _ (w.heap.size + 1) 44 cs (0, 0) _ rfl hR8 Tryz.underlying44 rfl hsz17

theorem rclone_new (n : Nd) (da aa : Option Addr) (dc ac : Nat) (w : World) (hf : Fit n) (hD : Cells w.heap.size w da (n.data.map u8v)) (hA : Cells w.heap.size w aa (acCs n.acl)) :
    Calls Tryz.prog 74 #[.agg (ndC n (.slice da n.data.length dc) (.slice aa n.acl.length ac))] w (CloneNew n w) :=
  (rclone_own n da aa dc ac w hf hD hA).mono fun _ _ ⟨va, vc, vb, vd, h1, h2, _, _, _, h3⟩ => ⟨_, h1, h2, h3⟩
end Go.Proofs.YthinpbdbhijbgaaGreatDoor
namespace Go.Proofs.YthinpbdbhijbgaaGreatDoor
open Go.RowKit
set_option maxHeartbeats 2000000
set_option maxRecDepth 100000

/-- The document's tree, its rows in whatever blocks but its own. -/
def RT (w : World) (b : Nat) (L : List Nd) : Prop := RTree (fun k => k < w.heap.size ∧ k ≠ b) w b L
theorem RTree.rt {S : Nat → Prop} {w : World} {b : Nat} {L : List Nd} (h : RTree S w b L) : RT w b L := h.keep h.bound rfl (fun _ _ => rfl) fun _ h => h
theorem RT.ext {w w' : World} {b : Nat} {L : List Nd} (h : RT w b L) (he : Ext w w') : RT w' b L := (RTree.ext h he).rt
theorem RT.lt {w : World} {b : Nat} {L : List Nd} (h : RT w b L) : b < w.heap.size := RTree.lt h

set_option maxHeartbeats 4000000 in
theorem rinsert_s (S : Nat → Prop) (w : World) (b : Nat) (L : List Nd) (n : Nd) (da aa : Option Addr) (dc ac : Nat) (hR : RTree S w b L) (hfL : ∀ m ∈ L, Fit m) (hf : Fit n) (hD : Cells w.heap.size w da (n.data.map u8v)) (hA : Cells w.heap.size w aa (acCs n.acl)) (hl : (L.length + 1) * 168 ≤ 140737488355328) :
    Calls Tryz.prog 145 #[.pointer (some ⟨b, 0, none⟩), .agg (ndC n (.slice da n.data.length dc) (.slice aa n.acl.length ac))] w fun e w' => e = .returned (.tuple #[]) ∧ RTree (fun k => S k ∨ (w.heap.size ≤ k ∧ k < w'.heap.size)) w' b (L.take (rfind L n.path).1 ++ n :: L.drop (rfind L n.path).1) ∧ Chg (· = b) w w' := by
  have hS0 := hR.bound
  obtain ⟨W1, hW1⟩ : ∃ W1, W1 = w.alloc (.cells (ndC n (.slice da n.data.length dc) (.slice aa n.acl.length ac)) 44) := ⟨_, rfl⟩
  have hE1 : Ext w W1 := by rw [hW1]; exact Ext.alloc _ _
  have hz1 : W1.heap.size = w.heap.size + 1 := by rw [hW1]; simp
  have hn1 : W1.heap[w.heap.size]? = some (.cells (ndC n (.slice da n.data.length dc) (.slice aa n.acl.length ac)) 44 (0, 0)) := by rw [hW1]; exact heap_alloc_new w _
  have hx : Box W1 w.heap.size (ndC n (.slice da n.data.length dc) (.slice aa n.acl.length ac)) := fun j => cell_of_row _ _ _ _ _ _ hn1
  have hR1 : RTree S W1 b L := hR.ext hE1
  have hbl := hR.lt
  have C1 := Lib.hid (rfind_any S W1 b L hR1 hfL n.path hf.path)
  have hik := rfind_le L n.path
  generalize (rfind L n.path).1 = i at *
  generalize (rfind L n.path).2 = th at *
  have HW1 := Lib.hid hW1
  have HD := Lib.hid hD
  have HA := Lib.hid hA
  have HN1 := Lib.hid hn1
  have HR1 := Lib.hid hR1
  have HE1 := Lib.hid hE1
  rw [hW1] at hx
  unfold Box at hx
  unfold ndC at hx HW1
  clear hW1 hD hA hn1 hR1 hR hE1
  unfold ndC
  go_enter Tryz.func145, Tryz.ntmps145
  go_wp2_with fail
  rw [← HW1.out]
  refine C1.out.mono ?_
  rintro e W2 ⟨rfl, hE2⟩
  clear hx C1
  obtain ⟨a, cap, vs, hb2, hlc, hcm, hS2, hrows, hpl⟩ := RTree.ext HR1.out hE2
  have hz2 := hE2.size
  have hc2 : W2.cell? ⟨b, 0, none⟩ = some (.slice a L.length cap) := cell_of_row _ _ _ _ _ _ hb2
  have hsl1 := fun W => run_slice_to a L.length cap i (fun p hp => by
    rcases hpl with ⟨h, _⟩ | ⟨bl, off, h⟩
    · rw [h] at hp; cases hp
    · exact ⟨bl, off, by rw [h] at hp; exact (Option.some.inj hp).symm⟩) (by omega) W
  obtain ⟨v3, hsl2, hsrcf⟩ : ∃ v3, (∀ W, (Instr.slice 50 (.slice a L.length cap) (some (.int .i64 i)) none none).run Tryz.prog W = .ok v3 W) ∧ ∀ W S, RowsOf S W a vs L → (∀ k, S k → k < W.heap.size) → Src Tryz.prog 17 50 v3 (L.length - i) ((vs.drop i).flatMap Array.toList) W := by
    rcases hpl with ⟨h, h0⟩ | ⟨bl, off, h⟩
    · subst h h0
      have hL0 : L.length = 0 := by omega
      have hi0 : i = 0 := by omega
      subst hi0
      rw [hL0]
      refine ⟨.slice none 0 0, run_slice_nil, fun W S hr hS => ?_⟩
      have hv0 : vs = [] := List.eq_nil_of_length_eq_zero (by rw [hr.len]; exact hL0)
      subst hv0
      exact (Cells.nil W.heap.size W none).src Tryz.underlying50 0 0 rfl (fun u hu => by simp at hu)
    · subst h
      exact ⟨_, run_slice_from bl off L.length cap i hik hlc, fun W S hr hS => hr.src_from hik hlc hS⟩
  -- the first part
  obtain ⟨i0, hi, hz0, hz1', hz2'⟩ := info_parts infoNd
  obtain ⟨W3, hW3⟩ : ∃ W3, W3 = W2.alloc (.cells #[] 44) := ⟨_, rfl⟩
  have hE3 : Ext W2 W3 := by rw [hW3]; exact Ext.alloc _ _
  have hz3 : W3.heap.size = W2.heap.size + 1 := by rw [hW3]; simp
  have hown0 : W3.ownsRow W2.heap.size 44 17 (.slice (some ⟨W2.heap.size, 0, none⟩) 0 0) 0 [] := by rw [hW3]; exact World.ownsRow_made W2 #[] 0 (Nat.le_refl _) (Nat.zero_le _) rfl
  have hrows3 : RowsOf S W3 a vs L := hrows.imp (fun _ h => h) (fun k hk => hE3.block k (hS2 k hk).1)
  have hsrc1 := hrows3.src_to (cap := cap) hik (fun k hk => by have := (hS0 k hk).1; omega)
  have hc3 : W3.cell? ⟨b, 0, none⟩ = some (.slice a L.length cap) := (hE3.cell (p := ⟨b, 0, none⟩) (show b < W2.heap.size by omega)).trans hc2
  have HW3 := Lib.hid hW3
  have HE2 := Lib.hid hE2
  have HE3 := Lib.hid hE3
  have HB2 := Lib.hid hb2
  have HSF := Lib.hid hsrcf
  have HRW3 := Lib.hid hrows3
  rw [hW3] at hown0 hsrc1 hc3
  clear hW3 hE2 hE3 hb2 hsrcf hrows3 hrows hS2 hpl
  go_wp2_with (at_builtin; refine wpList_append_src _ rfl (.tmp 14) (.tmp 20) 50 50 rfl W2.heap.size 44 i0 (.agg zeroNd) 17 168 Tryz.underlying50 hi hz0 hz1' hz2' rfl (by decide) _ 0 _ rfl hown0 _ i _ rfl hsrc1 ?c1 ?c2 ?c3 ?_)
  case c1 => unfold maxLen at *; omega
  case c2 => omega
  case c3 => simp
  intro v1 w4 hown1 hg1 _ _
  rw [← HW3.out] at hg1
  try simp only [List.nil_append, Nat.zero_add] at hown1
  have hz4 := hg1.size
  have hE24 : Ext W2 w4 := ⟨hg1.os.trans HE3.out.os, hg1.tape.trans HE3.out.tape, hg1.output.trans HE3.out.output, by omega, fun k hk => (hg1.block k (by omega) (fun e => by have h : k = W2.heap.size := Option.some.inj e; omega)).trans (HE3.out.block k hk)⟩
  have hEw4 : Ext w w4 := (HE1.out.trans HE2.out).trans hE24
  have hn4 : w4.heap[w.heap.size]? = some (.cells (ndC n (.slice da n.data.length dc) (.slice aa n.acl.length ac)) 44 (0, 0)) := (hE24.block _ (by omega)).trans ((HE2.out.block _ (by omega)).trans HN1.out)
  have C2 := Lib.hid (rclone_new n da aa dc ac w4 hf (HD.out.ext hEw4) (HA.out.ext hEw4))
  have hv1 : ∀ k, v1.ownBlock = some k → W2.heap.size ≤ k ∧ k < w4.heap.size := fun k hk => hown1.lt k hk
  have HN4 := Lib.hid hn4
  have HE24 := Lib.hid hE24
  have HO1 := Lib.hid hown1
  have HV1 := Lib.hid hv1
  unfold ndC at HN4
  clear hE24 hEw4 hn4 hown1 hv1 hg1 hown0 hsrc1 hc2 hc3 HW3
  go_wp2_with (refine wpList_load_row rfl 44 (.tmp 3) rfl w.heap.size rfl 44 _ (0, 0) _ HN4.out Tryz.underlying44 rfl sizeNd ?_)
  refine C2.out.mono ?_
  rintro e w5 ⟨v, rfl, ⟨ea, ec, fa, fc, rfl, hD5, hA5⟩, hE5⟩
  have hE5 : Ext w4 w5 := hE5
  have hz5 := hE5.size
  obtain ⟨cs, hcs⟩ : ∃ cs, cs = ndC n (.slice ea n.data.length ec) (.slice fa n.acl.length fc) := ⟨_, rfl⟩
  have hown5 := (HO1.out.kept (grown_of_ext hE5 none) (by cases h : v1.ownBlock <;> simp)).alloc (.cells cs 44)
  have hs17 : Cells (w5.alloc (.cells cs 44)).heap.size (w5.alloc (.cells cs 44)) (some ⟨w5.heap.size, 0, none⟩) cs.toList := fun j u hj => by
    refine ⟨_, 0, rfl, by simp, ?_⟩
    rw [Nat.zero_add, cell_of_row _ _ _ _ _ _ (heap_alloc_new w5 _)]
    simpa using hj
  have hsrc2 : Src Tryz.prog 17 50 (.slice (some ⟨w5.heap.size, 0, none⟩) 1 1) 1 cs.toList (w5.alloc (.cells cs 44)) :=
    hs17.src Tryz.underlying50 1 1 (by rw [hcs]; rfl) (fun u hu => by
      have := cells_node n ea fa n.data.length n.acl.length ec fc
      rw [← hcs, ← Array.all_toList] at this
      exact List.all_eq_true.1 this u hu)
  have hnew5 : NdS (fun k => w4.heap.size ≤ k ∧ k < w5.heap.size) w5 (.agg cs) n := ⟨ea, ec, fa, fc, by rw [hcs], hD5, hA5⟩
  have HNEW5 := Lib.hid hnew5
  have HE5 := Lib.hid hE5
  have HCS := Lib.hid hcs
  rw [hcs] at hown5 hsrc2
  unfold ndC at hown5 hsrc2 ⊢
  clear C2 hnew5 hE5 hcs hs17 hD5 hA5
  go_wp2_with (at_builtin; refine wpList_append_src _ rfl (.tmp 22) (.tmp 25) 50 50 rfl W2.heap.size 44 i0 (.agg zeroNd) 17 168 Tryz.underlying50 hi hz0 hz1' hz2' rfl (by decide) _ i _ rfl hown5 _ 1 _ rfl hsrc2 ?d1 ?d2 ?d3 ?_)
  case d1 => unfold maxLen at *; omega
  case d2 => omega
  case d3 => simp; omega
  intro v2 w7 hown7 hg2 _ ho2
  have hz7 := hg2.size
  simp only [World.size_alloc] at hz7
  have hW6b : ∀ k, k < w5.heap.size → v1.ownBlock ≠ some k → w7.heap[k]? = w5.heap[k]? := fun k hk hn => (hg2.block k (by simp; omega) (fun e => hn e.symm)).trans (heap_alloc_old w5 _ hk)
  have hE27 : Ext W2 w7 := ⟨hg2.os.trans (HE5.out.os.trans HE24.out.os), hg2.tape.trans (HE5.out.tape.trans HE24.out.tape), hg2.output.trans (HE5.out.output.trans HE24.out.output), by omega, fun k hk =>
    (hW6b k (by omega) (fun e => by have := HV1.out k e; omega)).trans ((HE5.out.block k (by omega)).trans (HE24.out.block k hk))⟩
  have hnew7 : NdS (fun k => w4.heap.size ≤ k ∧ k < w5.heap.size) w7 (.agg cs) n := NdS.imp HNEW5.out (fun _ h => h) fun bl o u hb hu => (World.cell?_of_block (hW6b bl hb.2 (fun e => by have := HV1.out bl e; omega))).trans hu
  have hv2 : ∀ k, v2.ownBlock = some k → W2.heap.size ≤ k ∧ (k < w4.heap.size ∨ w5.heap.size ≤ k) := fun k hk => by
    rcases ho2 with h | h
    · rw [h] at hk; have := HV1.out k hk; exact ⟨this.1, .inl this.2⟩
    · rw [h] at hk; have h9 : (w5.heap.size + 1) = k := by have := Option.some.inj hk; simpa using this
      omega
  have hrows7 : RowsOf S w7 a vs L := HRW3.out.imp (fun _ h => h) (fun k hk => by
    have := (hS0 k hk).1
    rw [hE27.block k (by omega), HE3.out.block k (by omega)])
  have hsrc3 := HSF.out w7 _ hrows7 (fun k hk => by have := (hS0 k hk).1; omega)
  have hc7 : w7.cell? ⟨b, 0, none⟩ = some (.slice a L.length cap) := cell_of_row _ _ _ _ _ _ ((hE27.block b (by omega)).trans HB2.out)
  rw [show [Value.string n.path, .slice ea n.data.length ec, .slice fa n.acl.length fc, .int .i64 n.owner, .int .i64 n.czxid, .int .i64 n.mzxid, .int .i64 n.pzxid, .int .i64 n.azxid, .int .i64 n.qzxid, .int .i64 n.ctime, .int .i64 n.mtime, .int .i32 n.version, .int .i32 n.creates, .int .i32 n.aversion, .bool n.has, .int .i64 n.count, .int .i64 n.bytes] = cs.toList from by rw [HCS.out]; rfl] at hown7
  have HO7 := Lib.hid hown7
  have HE27 := Lib.hid hE27
  have HNEW7 := Lib.hid hnew7
  have HV2 := Lib.hid hv2
  have HR7 := Lib.hid hrows7
  clear hown5 hsrc2 hg2 ho2 hW6b hE27 hnew7 hv2 hrows7 HNEW5 hown7
  have hown8 := HO7.out
  go_wp2_with (at_builtin; refine wpList_append_src _ rfl (.tmp 28) (.tmp 34) 50 50 rfl W2.heap.size 44 i0 (.agg zeroNd) 17 168 Tryz.underlying50 hi hz0 hz1' hz2' rfl (by decide) _ (i + 1) _ rfl hown8 _ (L.length - i) _ rfl hsrc3 ?e1 ?e2 ?e3 ?_)
  case e1 => unfold maxLen at *; omega
  case e2 => omega
  case e3 => omega
  intro v4 w8 hown9 hg3 _ _
  have hz8 := hg3.size
  have hb8 : w8.heap[b]? = some (.cells #[.slice a L.length cap] 53 (0, 0)) := (hg3.block b (by omega) (fun e => by have := HV2.out b e.symm; omega)).trans ((HE27.out.block b (by omega)).trans HB2.out)
  have hk8 : ∀ k, k < W2.heap.size → w8.heap[k]? = W2.heap[k]? := fun k hk => (hg3.block k (by omega) (fun e => by have := HV2.out k e.symm; omega)).trans (HE27.out.block k hk)
  have hnew8 : NdS (fun k => S k ∨ (w.heap.size ≤ k ∧ k < w8.heap.size)) w8 (.agg cs) n := NdS.imp HNEW7.out (fun k hk => .inr ⟨by omega, by omega⟩) fun bl o u hb hu => (World.cell?_of_block (hg3.block bl (by omega) (fun e => by have := HV2.out bl e.symm; omega))).trans hu
  have hold8 : RowsOf (fun k => S k ∨ (w.heap.size ≤ k ∧ k < w8.heap.size)) w8 a vs L := HR7.out.imp (fun k hk => .inl hk) fun k hk => by
    have := (hS0 k hk).1
    rw [hk8 k (by omega), HE27.out.block k (by omega)]
  have heach : EachN (fun k => S k ∨ (w.heap.size ≤ k ∧ k < w8.heap.size)) w8 (vs.take i ++ ([cs] ++ vs.drop i)) (L.take i ++ ([n] ++ L.drop i)) :=
    EachN.append (EachN.take ⟨hold8.len, hold8.each⟩ i) ((EachN.one hnew8).append (EachN.drop ⟨hold8.len, hold8.each⟩ i))
  have hfl : (vs.take i).flatMap Array.toList ++ (cs.toList ++ (vs.drop i).flatMap Array.toList) = (vs.take i ++ ([cs] ++ vs.drop i)).flatMap Array.toList := by
    simp [List.flatMap_append]
  rw [hfl] at hown9
  have hln : i + 1 + (L.length - i) = (L.take i ++ ([n] ++ L.drop i)).length := by simp; omega
  obtain ⟨a9, c9, rfl, hc9, hm9, hr9, hp9⟩ := RowsOf.of_own hown9 hln heach.1 (fun k h1 h2 => .inr ⟨by omega, h2⟩) heach.2
  have HK8 := Lib.hid hk8
  have HB8 := Lib.hid hb8
  have HR9 := Lib.hid hr9
  have HP9 := Lib.hid hp9
  have HG3 := Lib.hid hg3
  clear hk8 hb8 hr9 hp9 hown9 hown8 heach hfl hnew8 hold8 hsrc3 hg3 hsl1 hsl2
  have hfin : RTree (fun k => S k ∨ (w.heap.size ≤ k ∧ k < (w8.setRow b #[.slice a9 (i + 1 + (L.length - i)) c9]).heap.size)) (w8.setRow b #[.slice a9 (i + 1 + (L.length - i)) c9]) b (L.take i ++ n :: L.drop i) ∧ Chg (· = b) w (w8.setRow b #[.slice a9 (i + 1 + (L.length - i)) c9]) := by
    have hb9 := setRow_heap w8 b _ #[.slice a9 (i + 1 + (L.length - i)) c9] _ _ HB8.out
    have hs9 : (w8.setRow b #[Value.slice a9 (i + 1 + (L.length - i)) c9]).heap.size = w8.heap.size := by simp [World.setRow]
    rw [hln] at hb9 hc9
    have hb' : ∀ k, (S k ∨ (w.heap.size ≤ k ∧ k < w8.heap.size)) → k < w8.heap.size ∧ k ≠ b := fun k hk => by
      rcases hk with hk | hk
      · have := hS0 k hk; exact ⟨by omega, this.2⟩
      · exact ⟨hk.2, by omega⟩
    refine ⟨⟨a9, c9, _, by rw [hln]; exact hb9, hc9, hm9, fun k hk => by rw [hs9] at hk ⊢; exact hb' k hk, HR9.out.imp (fun k hk => by rw [hs9]; exact hk) (fun k hk => setRow_other _ _ _ _ (hb' k hk).2), HP9.out⟩, ?_⟩
    have hc8 : Chg (· = b) w w8 := ⟨HG3.out.os.trans (HE27.out.os.trans (HE2.out.os.trans HE1.out.os)), HG3.out.tape.trans (HE27.out.tape.trans (HE2.out.tape.trans HE1.out.tape)), HG3.out.output.trans (HE27.out.output.trans (HE2.out.output.trans HE1.out.output)), by omega, fun k hk _ =>
      (HK8.out k (by omega)).trans ((HE2.out.block k (by omega)).trans (HE1.out.block k hk))⟩
    exact hc8.trans (Chg.set (S := (· = b)) b w8 _ rfl) fun _ _ h => h
  have HFIN := Lib.hid hfin
  clear hfin
  go_wp2_with (refine wpList_store_one rfl 50 (.tmp 37) (.tmp 35) rfl b _ rfl rfl rfl 53 _ HB8.out infoSl ?_)
  exact bodyPost_end (results_none rfl _ _ _) rfl ⟨rfl, by rw [show i + (L.length - i + 1) = i + 1 + (L.length - i) by omega]; exact HFIN.out⟩
end Go.Proofs.YthinpbdbhijbgaaGreatDoor
namespace Go.Proofs.YthinpbdbhijbgaaGreatDoor
open Go.RowKit
set_option maxHeartbeats 1000000
set_option maxRecDepth 100000

theorem rlast_any (s : ByteArray) (w : World) (hv : vpath s = true) (hs : s.size ≤ 9223372036854775800) : Calls Tryz.prog 157 #[.string s] w fun e w' => e = .returned (.int .i64 (lastS s)) ∧ w = w' := by
  obtain ⟨i, ei, hi, h47, hno⟩ := lastS_spec hv
  have HNO := Lib.hid hno
  have HI := Lib.hid ei
  have h47' := Lib.hid h47
  clear hno ei h47 hv
  go_enter Tryz.func157, Tryz.ntmps157
  go_wp2
  go_loop [3] (fun v => ∃ q : Nat, i ≤ q ∧ q < s.size ∧ v = .int .i64 q) (fun v => (intOf v).toNat)
  case atStart => exact ⟨s.size - 1, by omega, by omega, by go_num⟩
  case round =>
    obtain ⟨q, hq1, hq2, rfl⟩ := hrel
    have e2 := bat_get s q hq2
    by_cases hq : q = i
    · subst hq
      have h := h47'.out
      rw [e2] at h
      have hb : ((s[q].toNat : Int) != 47) = false := by simp; omega
      have hb2 : ¬ (s[q].toNat : Int) ≠ 47 := by omega
      clear e2 h h47' HNO
      go_wp2
      go_ret
      exact ⟨by rw [HI.out]; rfl, rfl⟩
    · have h := HNO.out q (by omega) hq2
      rw [e2] at h
      have hb : ((s[q].toNat : Int) != 47) = true := by simp; omega
      clear e2 h h47' HNO HI
      go_wp2
      go_round
      case rel => exact ⟨q - 1, by omega, by omega, by go_num⟩
      case measure => simp [intOf]; omega

theorem rparent_any (s : ByteArray) (w : World) (hs : s.size ≤ 9223372036854775800) : Calls Tryz.prog 101 #[.string s] w fun e w' => e = .returned (parV s) ∧ Below w.heap.size w w' := by
  have C1 := rvalid_any s w (by omega)
  by_cases hv : vpath s = true
  · have hroot := root_iff hv
    rw [hv] at C1
    by_cases h1 : s.size = 1
    · have e1 : (s.toList == [47]) = true := by rw [ByteArray.toList_eq]; simpa using hroot.1 h1
      have e2 : s.toList = [47] := by simpa using e1
      have R : Hid (parV s = .tuple #[.string ⟨#[]⟩, .int .i64 30]) := by unfold Hid parV; rw [if_neg (by simp [h1])]
      have C1 := Lib.hid C1
      clear h1 hroot hv
      go_enter Tryz.func101, Tryz.ntmps101
      go_wp2_with fail
      refine C1.out.mono ?_
      rintro e w1 ⟨rfl, hb1⟩
      clear C1
      go_wp2
      go_ret2
      exact ⟨by rw [R.out]; rfl, hb1⟩
    · have e1 : (s.toList == [47]) = false := by rw [ByteArray.toList_eq]; simpa using fun h => h1 (hroot.2 h)
      have e2 : ¬ s.toList = [47] := by simpa using e1
      have R : Hid (parV s = .tuple #[.string (s.extract 0 (max (lastS s) 1).toNat), .int .i64 0]) := by unfold Hid parV parentB; rw [if_pos ⟨hv, h1⟩]
      have C1 := Lib.hid C1
      have C2 := fun w => rlast_any s w hv hs
      obtain ⟨i, e, hi, _, _⟩ := lastS_spec hv
      rw [e] at C2 R
      have C2 := Lib.hid C2
      have hf := vpath_facts hv
      by_cases h0 : i = 0
      · subst h0
        have R2 : Hid (parV s = .tuple #[.string ⟨#[47]⟩, .int .i64 0]) := by
          unfold Hid
          rw [R.out]
          congr 3
          apply congrArg Value.string
          apply ba_ext
          have h3 : bat s 0 = 47 := hf.2.2.1
          have h4 := drop_at_slash (s := s) (i := 0) (by omega) h3
          rw [List.drop_zero] at h4
          rw [show (max ((0 : Nat) : Int) 1).toNat = 1 from rfl, ByteArray.data_extract, Array.toList_extract, List.extract_eq_take_drop]
          rw [List.drop_zero, h4]
          rfl
        clear hroot hf hv h1 e R
        go_enter Tryz.func101, Tryz.ntmps101
        go_wp2_with fail
        refine C1.out.mono ?_
        rintro e w1 ⟨rfl, hb1⟩
        clear C1
        go_wp2_with fail
        refine (C2.out _).mono ?_
        rintro e w2 ⟨rfl, rfl⟩
        clear C2
        go_wp2
        go_ret2
        exact ⟨by rw [R2.out]; rfl, hb1⟩
      · have hm : (max (i : Int) 1).toNat = i := by omega
        rw [hm] at R
        have hi0 : ((i : Int) == 0) = false := by simp; omega
        have hi1 : ¬ (i : Int) = 0 := by omega
        have hi2 : (i : Int) ≤ s.size := by omega
        clear hroot hf hv h1 e hm
        go_enter Tryz.func101, Tryz.ntmps101
        go_wp2_with fail
        refine C1.out.mono ?_
        rintro e w1 ⟨rfl, hb1⟩
        clear C1
        go_wp2_with fail
        refine (C2.out _).mono ?_
        rintro e w2 ⟨rfl, rfl⟩
        go_wp2_with fail
        refine (C2.out _).mono ?_
        rintro e w2 ⟨rfl, rfl⟩
        clear C2
        go_wp2
        go_ret2
        exact ⟨by rw [R.out]; rfl, hb1⟩
  · have hv' : vpath s = false := by simpa using hv
    have R : Hid (parV s = .tuple #[.string ⟨#[]⟩, .int .i64 30]) := by unfold Hid parV; rw [if_neg (by simp [hv'])]
    rw [hv'] at C1
    have C1 := Lib.hid C1
    clear hv hv'
    go_enter Tryz.func101, Tryz.ntmps101
    go_wp2_with fail
    refine C1.out.mono ?_
    rintro e w1 ⟨rfl, hb1⟩
    clear C1
    go_wp2
    go_ret2
    exact ⟨by rw [R.out]; rfl, hb1⟩
end Go.Proofs.YthinpbdbhijbgaaGreatDoor
namespace Go.Proofs.YthinpbdbhijbgaaGreatDoor
open Go.RowKit
set_option maxHeartbeats 1000000
set_option maxRecDepth 100000

theorem more_any (b : Nat) (w : World) : Calls Tryz.prog 270 #[.int .u8 b] w fun e w' => e = .returned (.tuple #[.int .i64 (moreF b).1, .int .u8 (moreF b).2.1, .int .u8 (moreF b).2.2]) ∧ w = w' := by
  go_enter Tryz.func270, Tryz.ntmps270
  go_wp2
  all_goals (try go_ret3)
  all_goals (refine ⟨?_, rfl⟩; go_light; (try simp only [beq_iff_eq, beq_eq_false_iff_ne, ne_eq] at *))
  all_goals (have key : ∀ n lo h, moreF b = (n, lo, h) → Ending.returned (.tuple #[.int .i64 n, .int .u8 lo, .int .u8 h]) = Ending.returned (.tuple #[.int .i64 (moreF b).1, .int .u8 (moreF b).2.1, .int .u8 (moreF b).2.2]) := fun n lo h e => by rw [e])
  all_goals (refine key _ _ _ ?_; unfold moreF; repeat' split)
  all_goals (first | rfl | (exfalso; omega))

theorem utf8_any (s : ByteArray) (w : World) (hs : s.size ≤ 9223372036854775800) : Calls Tryz.prog 238 #[.string s] w fun e w' => e = .returned (.bool (Lib.validD s.data.toList)) ∧ w = w' := by
  have hz := Lib.hid (validAt_zero s)
  go_enter Tryz.func238, Tryz.ntmps238
  go_wp2
  go_loop [3] (fun i => ∃ q : Nat, i = .int .i64 q ∧ q ≤ s.size ∧ Hid (validAt s 0 = validAt s q)) (fun i => s.size - (intOf i).toNat)
  case atStart => exact ⟨0, rfl, Nat.zero_le _, rfl⟩
  case round =>
    obtain ⟨q, rfl, hq, Hv⟩ := hrel
    by_cases hlt : q < s.size
    · have hbg := bat_get s q hlt
      have hb := bat_lt s q
      have hC := more_any (bat s q)
      obtain ⟨n0, lo0, hi0, hm⟩ : Exists fun n => Exists fun lo => Exists fun h => moreF (bat s q) = (n, lo, h) := ⟨_, _, _, rfl⟩
      have hcs := moreF_cases (bat s q) hb
      rw [hm] at hC hcs
      simp only [Prod.mk.injEq] at hcs
      by_cases hneg : n0 = -1
      · subst hneg
        have H1 : Hid (Lib.validD s.data.toList = false) := by
          unfold Hid; rw [← hz.out, Hv.out]; exact validAt_bad s q hlt (ut_none s q _ _ hm)
        rw [hbg] at hC
        have HC := Lib.hid hC
        clear hm hcs hC Hv hbg hb
        go_wp2_with fail
        refine (HC.out _).mono ?_
        rintro e w' ⟨rfl, rfl⟩
        go_wp2
        go_ret
        exact ⟨by rw [H1.out]; rfl, rfl⟩
      · obtain ⟨n, rfl⟩ : Exists fun n : Nat => n0 = (n : Int) := ⟨n0.toNat, by omega⟩
        have hn3 : n ≤ 3 := by omega
        have hlo : 0 ≤ lo0 ∧ lo0 ≤ 255 ∧ 0 ≤ hi0 ∧ hi0 ≤ 255 := by omega
        have hd := ut_dec s q hlt n lo0 hi0 hm
        have D1 := Lib.hid hd.1
        have D2 := Lib.hid hd.2.1
        have D3 := Lib.hid hd.2.2
        have hok1 : ∀ j, okAt s q lo0 hi0 j ↔ if j = 1 then lo0 ≤ bat s (q + 1) ∧ (bat s (q + 1) : Int) ≤ hi0 else 128 ≤ bat s (q + j) ∧ bat s (q + j) ≤ 191 := fun j => Iff.rfl
        have OK := Lib.hid hok1
        rw [hbg] at hC
        have HC := Lib.hid hC
        clear hd hm hcs hC hbg hb hok1
        by_cases hout : 0 < n ∧ s.size ≤ q + n
        · have H1 : Hid (Lib.validD s.data.toList = false) := by
            unfold Hid; rw [← hz.out, Hv.out]; exact validAt_bad s q hlt (D2.out hout.1 hout.2)
          obtain ⟨h0, h1⟩ := hout
          have h1' : (s.size : Int) ≤ (q : Int) + n := by omega
          go_wp2_with fail
          refine (HC.out _).mono ?_
          rintro e w' ⟨rfl, rfl⟩
          go_wp2
          go_ret
          exact ⟨by rw [H1.out]; rfl, rfl⟩
        · have hin : q + n < s.size := by omega
          have hin' : (q : Int) + n < s.size := by omega
          have hnn : (0 : Int) ≤ n := by omega
          clear hout
          go_wp2_with fail
          refine (HC.out _).mono ?_
          rintro e w' ⟨rfl, rfl⟩
          clear HC
          go_wp2
          go_loop [5, 6, 7] (fun lo h k => ∃ (m : Nat) (lk hk : Int), k = .int .i64 m ∧ 1 ≤ m ∧ m ≤ n + 1 ∧ lo = .int .u8 lk ∧ h = .int .u8 hk ∧ 0 ≤ lk ∧ lk ≤ 255 ∧ 0 ≤ hk ∧ hk ≤ 255 ∧ Hid (okAt s q lo0 hi0 m ↔ (lk ≤ bat s (q + m) ∧ (bat s (q + m) : Int) ≤ hk)) ∧ Hid (∀ j, 1 ≤ j → j < m → okAt s q lo0 hi0 j)) (fun _ _ k => n + 1 - (intOf k).toNat)
          case atStart => exact ⟨1, lo0, hi0, rfl, by omega, by omega, rfl, rfl, hlo.1, hlo.2.1, hlo.2.2.1, hlo.2.2.2, by unfold Hid; rw [OK.out 1, if_pos rfl], fun j h1 h2 => by omega⟩
          case round =>
            obtain ⟨m, lk, hk, rfl, hm1, hm2, rfl, rfl, hl0, hl1, hk0, hk1, HO, HA⟩ := hrel
            by_cases hmn : m ≤ n
            · have hpos : q + m < s.size := by omega
              have hbg := bat_get s (q + m) hpos
              by_cases hok : okAt s q lo0 hi0 m
              · have h2 := HO.out.1 hok
                rw [hbg] at h2
                obtain ⟨h3, h4⟩ := h2
                have HN : Hid (∀ j, 1 ≤ j → j < m + 1 → okAt s q lo0 hi0 j) := fun j h1 h2 => by
                  by_cases e : j = m
                  · rw [e]; exact hok
                  · exact HA.out j h1 (by omega)
                clear hbg hok HO HA
                go_wp2
                go_round
                case rel => exact ⟨m + 1, 128, 191, by go_num, by omega, by omega, rfl, rfl, by omega, by omega, by omega, by omega, by unfold Hid; rw [OK.out (m + 1), if_neg (by omega)]; omega, HN⟩
                case measure => simp [intOf]; omega
              · have H1 : Hid (Lib.validD s.data.toList = false) := by
                  unfold Hid; rw [← hz.out, Hv.out]; exact validAt_bad s q hlt (D3.out m hm1 hmn hin hok)
                have h2 : (s[q + m].toNat : Int) < lk ∨ (lk ≤ (s[q + m].toNat : Int) ∧ hk < (s[q + m].toNat : Int)) := by
                  have : ¬ (lk ≤ (bat s (q + m) : Int) ∧ (bat s (q + m) : Int) ≤ hk) := fun h => hok (HO.out.2 h)
                  rw [hbg] at this
                  omega
                clear hbg hok HO HA
                rcases h2 with h2 | ⟨h2, h3⟩
                all_goals
                  go_wp2
                  go_ret
                  exact ⟨by rw [H1.out]; rfl, rfl⟩
            · have hd := D1.out (.inr hin) (fun j h1 h2 => HA.out j h1 (by omega))
              have H1 : Hid (validAt s 0 = validAt s (q + 1 + n)) := by
                unfold Hid; rw [Hv.out, validAt_good s q hlt hd.1, hd.2]; congr 1; omega
              clear HO HA hd Hv
              go_wp2
              go_round
              case rel => exact ⟨q + 1 + n, by go_num, by omega, H1⟩
              case measure => simp [intOf]; omega
    · have H1 : Hid (Lib.validD s.data.toList = true) := by
        unfold Hid; rw [← hz.out, Hv.out]; exact validAt_end s q (by omega)
      clear Hv
      go_wp2
      go_ret
      exact ⟨by rw [H1.out]; rfl, rfl⟩

/-- What the reference says of a list's texts. -/
def textsN (l : List Ac) : Int := if l.any bigAc then 3 else if l.any badAc then 1 else 0

theorem textsN_eq (n : Nd) : rightN n = if !vpath n.path then 30 else if 1048575 < n.data.length ∨ 16 < n.acl.length then 3 else if textsN n.acl ≠ 0 then textsN n.acl else if badQ n then 1 else 0 := by
  unfold rightN textsN
  generalize n.acl.any bigAc = B
  generalize n.acl.any badAc = A
  generalize vpath n.path = v
  by_cases h : 1048575 < n.data.length ∨ 16 < n.acl.length
  · have h' : 1048575 < n.data.length ∨ 16 < n.acl.length ∨ B = true := h.elim .inl (fun k => .inr (.inl k))
    rw [if_pos h, if_pos h']
  · have h' : (1048575 < n.data.length ∨ 16 < n.acl.length ∨ B = true) ↔ B = true := ⟨fun k => k.elim (fun k => absurd (.inl k) h) (fun k => k.elim (fun k => absurd (.inr k) h) id), fun k => .inr (.inr k)⟩
    rw [if_neg h]
    simp only [h']
    cases B <;> cases A <;> simp

theorem texts_any (a : Option Addr) (c : Nat) (l : List Ac) (w : World) (hc : Cells w.heap.size w a (acCs l)) (hm : l.length ≤ 9223372036854775807) (ht : ∀ x ∈ l, x.scheme.size ≤ 9223372036854775800 ∧ x.id.size ≤ 9223372036854775800) :
    Calls Tryz.prog 191 #[.slice a l.length c] w fun e w' => e = .returned (.int .i64 (textsN l)) ∧ w = w' := by
  have HT := Lib.hid ht
  clear ht
  go_enter Tryz.func191, Tryz.ntmps191
  go_wp2
  go_loop [3, 4] (fun e i => ∃ (k : Nat) (ev : Int), k ≤ l.length ∧ i = .int .i64 k ∧ e = .int .i64 ev ∧ Hid (ev = if (l.take k).any badAc then 1 else 0) ∧ Hid ((l.take k).any bigAc = false)) (fun _ i => l.length - (intOf i).toNat)
  case atStart => exact ⟨0, 0, Nat.zero_le _, rfl, rfl, by simp [Hid], by simp [Hid]⟩
  case round =>
    obtain ⟨k, ev, hk, rfl, rfl, HE, HB⟩ := hrel
    by_cases hlt : k < l.length
    · obtain ⟨b, off, rfl, hb, c0, c1, c2⟩ := acCells hc k hlt
      have htk := HT.out l[k] (List.getElem_mem hlt)
      have ht1 := htk.1
      have ht2 := htk.2
      clear htk
      have hts : ∀ p : Ac → Bool, (l.take (k + 1)).any p = ((l.take k).any p || p l[k]) := fun p => by
        rw [List.take_succ_eq_append_getElem hlt, List.any_append]; simp
      have HTS := Lib.hid hts
      have hbig : l[k] ∈ l := List.getElem_mem hlt
      clear hts
      by_cases hbg : bigAc l[k] = true
      · have H1 : Hid (textsN l = 3) := by
          unfold Hid textsN
          rw [if_pos (List.any_eq_true.2 ⟨l[k], hbig, hbg⟩)]
        have h2 : 256 < (l[k].scheme.size : Int) ∨ ((l[k].scheme.size : Int) ≤ 256 ∧ 256 < (l[k].id.size : Int)) := by
          simp [bigAc] at hbg; omega
        clear hbg
        rcases h2 with h2 | ⟨h2, h3⟩
        all_goals
          go_wp2
          go_ret
          exact ⟨ret_int H1.out.symm, rfl⟩
      · have h2 : (l[k].scheme.size : Int) ≤ 256 ∧ (l[k].id.size : Int) ≤ 256 := by simp [bigAc] at hbg; omega
        obtain ⟨h2, h3⟩ := h2
        have hbf : bigAc l[k] = false := by simpa using hbg
        have HB2 : Hid ((l.take (k + 1)).any bigAc = false) := by unfold Hid; rw [HTS.out, HB.out, hbf]; rfl
        clear hbg hbf
        have U1 := utf8_any l[k].scheme
        have U2 := utf8_any l[k].id
        cases hv1 : Lib.validD l[k].scheme.data.toList
        · have HE2 : Hid ((1 : Int) = if (l.take (k + 1)).any badAc then 1 else 0) := by
            unfold Hid; rw [HTS.out, show badAc l[k] = true from by simp [badAc, hv1]]; simp
          rw [hv1] at U1
          have U1 := Lib.hid U1
          clear hv1 U2
          go_wp2_with fail
          refine (U1.out _ (by omega)).mono ?_
          rintro e w' ⟨rfl, rfl⟩
          go_wp2
          go_round
          case rel => exact ⟨k + 1, 1, by omega, by go_num, rfl, HE2, HB2⟩
          case measure => simp [intOf]; omega
        · rw [hv1] at U1
          have U1 := Lib.hid U1
          cases hv2 : Lib.validD l[k].id.data.toList
          · have HE2 : Hid ((1 : Int) = if (l.take (k + 1)).any badAc then 1 else 0) := by
              unfold Hid; rw [HTS.out, show badAc l[k] = true from by simp [badAc, hv2]]; simp
            rw [hv2] at U2
            have U2 := Lib.hid U2
            clear hv1 hv2
            go_wp2_with fail
            refine (U1.out _ (by omega)).mono ?_
            rintro e w' ⟨rfl, rfl⟩
            go_wp2_with fail
            refine (U2.out _ (by omega)).mono ?_
            rintro e w' ⟨rfl, rfl⟩
            go_wp2
            go_round
            case rel => exact ⟨k + 1, 1, by omega, by go_num, rfl, HE2, HB2⟩
            case measure => simp [intOf]; omega
          · have HE2 : Hid (ev = if (l.take (k + 1)).any badAc then 1 else 0) := by
              unfold Hid; rw [HTS.out, show badAc l[k] = false from by simp [badAc, hv1, hv2], Bool.or_false]; exact HE.out
            rw [hv2] at U2
            have U2 := Lib.hid U2
            clear hv1 hv2
            go_wp2_with fail
            refine (U1.out _ (by omega)).mono ?_
            rintro e w' ⟨rfl, rfl⟩
            go_wp2_with fail
            refine (U2.out _ (by omega)).mono ?_
            rintro e w' ⟨rfl, rfl⟩
            go_wp2
            go_round
            case rel => exact ⟨k + 1, ev, by omega, by go_num, rfl, HE2, HB2⟩
            case measure => simp [intOf]; omega
    · obtain rfl : k = l.length := by omega
      have H1 : Hid (textsN l = ev) := by
        unfold Hid textsN
        have e1 := HE.out
        have e2 := HB.out
        rw [List.take_length] at e1 e2
        rw [e2, e1]; simp
      clear HE HB
      go_wp2
      go_ret
      exact ⟨ret_int H1.out.symm, rfl⟩
end Go.Proofs.YthinpbdbhijbgaaGreatDoor
namespace Go.Proofs.YthinpbdbhijbgaaGreatDoor
open Go.RowKit
set_option maxHeartbeats 1000000
set_option maxRecDepth 100000

theorem rright_any (n : Nd) (da aa : Option Addr) (dc ac : Nat) (w : World) (hf : Fit n) (hT : Tabs w) (hA : Cells w.heap.size w aa (acCs n.acl)) :
    Calls Tryz.prog 142 #[.agg (ndC n (.slice da n.data.length dc) (.slice aa n.acl.length ac))] w (RightOut (rightN n) w) := by
  have hfp := hf.path
  have hfd := hf.data
  have hfa := hf.acl
  have HT := Lib.hid hf.texts
  have hbox := Box.alloc w (ndC n (.slice da n.data.length dc) (.slice aa n.acl.length ac)) 44
  have hb0 : Below w.heap.size w (w.alloc (.cells (ndC n (.slice da n.data.length dc) (.slice aa n.acl.length ac)) 44)) := (Below.refl _ _).alloc (Nat.le_refl _) _
  unfold ndC at hbox hb0 ⊢
  by_cases h1 : vpath n.path = true
  · have C1 := fun w => rvalid_any n.path w (by omega)
    simp only [h1] at C1
    have C1 := Lib.hid C1
    go_enter Tryz.func142, Tryz.ntmps142
    go_wp2_with fail
    refine (C1.out _).mono ?_
    rintro e w1 ⟨rfl, hb1⟩
    have hx1 := hbox.below hb1 (by simp)
    have hb : Below w.heap.size w w1 := hb0.trans (hb1.mono (by simp))
    clear hbox hb1 hb0
    unfold Box at hx1
    by_cases h2 : 1048575 < (n.data.length : Int)
    · have R : Hid (rightN n = 3) := by unfold Hid rightN; simp [h1]; omega
      clear h1 C1
      go_wp2
      go_ret
      exact ⟨ret_int R.out.symm, hb⟩
    by_cases h3 : 16 < (n.acl.length : Int)
    · have R : Hid (rightN n = 3) := by unfold Hid rightN; simp [h1]; omega
      have h2' : decide (1048575 < (n.data.length : Int)) = false := by simpa using h2
      clear h1 C1
      go_wp2
      go_ret
      exact ⟨ret_int R.out.symm, hb⟩
    have h2' : decide (1048575 < (n.data.length : Int)) = false := by simpa using h2
    have h3' : decide (16 < (n.acl.length : Int)) = false := by simpa using h3
    have hA1 := hA.below hb
    have hr4 : rightN n = if textsN n.acl ≠ 0 then textsN n.acl else if badQ n then 1 else 0 := by
      rw [textsN_eq, if_neg (by simp [h1]), if_neg (by omega)]
    have R4 := Lib.hid hr4
    have C2 := texts_any aa ac n.acl w1 (hA1.mono hb.size) (by omega) HT.out
    clear h1 C1 hr4
    by_cases h5 : ¬ textsN n.acl = 0
    · have R : Hid (rightN n = textsN n.acl) := by unfold Hid; rw [R4.out, if_pos h5]
      have hne : (textsN n.acl != 0) = true := by simpa using h5
      have C2 := Lib.hid C2
      clear h5 R4
      go_wp2_with fail
      refine C2.out.mono ?_
      rintro e w3 ⟨rfl, rfl⟩
      clear C2
      go_wp2
      go_ret
      exact ⟨ret_int R.out.symm, hb⟩
    have h5 : textsN n.acl = 0 := by omega
    have R : Hid (rightN n = if badQ n then 1 else 0) := by unfold Hid; rw [R4.out, h5]; simp
    rw [h5] at C2
    have C2 := Lib.hid C2
    clear R4 h5
    go_wp2_with fail
    refine C2.out.mono ?_
    rintro e w3 ⟨rfl, rfl⟩
    have hsz3 : w.heap.size < w1.heap.size := by
      have := block_lt_of_cell (show w1.cell? ⟨w.heap.size, 0, none⟩ = _ from hx1 0)
      exact this
    have hfin : ∀ o, Below w.heap.size w (w1.alloc o) := fun o => hb.alloc (by omega) o
    have HFIN := Lib.hid hfin
    have hx3 := hx1
    clear C2 hfin hx1
    have HR : ∀ b : Bool, badQ n = b → rightN n = if b then 1 else 0 := fun b hbq => by rw [R.out, hbq]
    have HR := Lib.hid HR
    cases hh : n.has
    · have hq0 : badQ n = (n.count != 0 || n.bytes != 0) := by unfold badQ; rw [hh]; simp
      rw [hh] at hx3
      by_cases hc0 : n.count = 0
      · by_cases hb0 : n.bytes = 0
        · have R0 := Lib.hid (HR.out false (by rw [hq0, hc0, hb0]; rfl))
          have e1 : (n.count != 0) = false := by simp [hc0]
          have e2 : (n.bytes != 0) = false := by simp [hb0]
          clear hc0 hb0 hq0 hh
          go_wp2
          go_ret
          exact ⟨ret_int R0.out.symm, HFIN.out _⟩
        · have R0 := Lib.hid (HR.out true (by rw [hq0]; simp [hb0]))
          have e1 : (n.count != 0) = false := by simp [hc0]
          have e2 : (n.bytes != 0) = true := by simp [hb0]
          clear hc0 hb0 hq0 hh
          go_wp2
          go_ret
          exact ⟨ret_int R0.out.symm, HFIN.out _⟩
      · have R0 := Lib.hid (HR.out true (by rw [hq0]; simp [hc0]))
        have e1 : (n.count != 0) = true := by simp [hc0]
        clear hc0 hq0 hh
        go_wp2
        go_ret
        exact ⟨ret_int R0.out.symm, HFIN.out _⟩
    · have hq0 : badQ n = (decide (n.count < -1) || decide (n.bytes < -1)) := by unfold badQ; rw [hh]; simp
      rw [hh] at hx3
      by_cases hc0 : n.count < -1
      · have R0 := Lib.hid (HR.out true (by rw [hq0]; simp [hc0]))
        clear hq0 hh
        go_wp2
        go_ret
        exact ⟨ret_int R0.out.symm, HFIN.out _⟩
      · by_cases hb0 : n.bytes < -1
        · have R0 := Lib.hid (HR.out true (by rw [hq0]; simp [hb0]))
          have e1 : decide (n.count < -1) = false := by simpa using hc0
          clear hq0 hh
          go_wp2
          go_ret
          exact ⟨ret_int R0.out.symm, HFIN.out _⟩
        · have R0 := Lib.hid (HR.out false (by rw [hq0]; simp [hc0, hb0]))
          have e1 : decide (n.count < -1) = false := by simpa using hc0
          have e2 : decide (n.bytes < -1) = false := by simpa using hb0
          clear hq0 hh
          go_wp2
          go_ret
          exact ⟨ret_int R0.out.symm, HFIN.out _⟩
  · have C1 := fun w => rvalid_any n.path w (by omega)
    have h1' : vpath n.path = false := by simpa using h1
    have R : Hid (rightN n = 30) := by unfold Hid rightN; simp [h1']
    simp only [h1'] at C1
    have C1 := Lib.hid C1
    clear h1 h1'
    go_enter Tryz.func142, Tryz.ntmps142
    go_wp2_with fail
    refine (C1.out _).mono ?_
    rintro e w1 ⟨rfl, hb1⟩
    have hb : Below w.heap.size w w1 := hb0.trans (hb1.mono (by simp))
    clear hbox hb1 hb0
    go_wp2
    go_ret
    exact ⟨ret_int R.out.symm, hb⟩
end Go.Proofs.YthinpbdbhijbgaaGreatDoor
namespace Go.Proofs.YthinpbdbhijbgaaGreatDoor
open Go.RowKit
set_option maxHeartbeats 2000000
set_option maxRecDepth 100000

theorem nds_fit {M : List (Key × Nd)} (hM : MOk M) : ∀ m ∈ nds M, Fit m := fun m hm => by
  obtain ⟨x, hx, rfl⟩ := List.mem_map.1 hm
  exact (right_fit (hM.right x hx)).1
theorem rfind_isSome {M : List (Key × Nd)} (hM : MOk M) (s : ByteArray) : (rfind (nds M) s).2 = (mget M s.data.toList).isSome := rfind_there hM.sorted hM.key s
end Go.Proofs.YthinpbdbhijbgaaGreatDoor
