/- The walk of a capture's Image: what was taken, copied. The walk of fuzzy's Take: a state as an image. The walk of apply's Loosen where nothing is wrong: nodes and sessions, laid. -/
import Derived.Test.YtclekhjnnljjlaaGreatDoorJFuzzyWhole17
import Derived.Test.YtclekhjnnljjlaaGreatDoorJFuzzyWhole18
import Derived.Test.YtclekhjnnljjlaaGreatDoorJFuzzyWhole10
import Derived.Test.YtclekhjnnljjlaaGreatDoorJFuzzyWhole5
import Derived.Test.YtclekhjnnljjlaaGreatDoorJFuzzyWhole13
namespace Go.Proofs.YtclekhjnnljjlaaGreatDoor
open Go.RowKit
set_option maxHeartbeats 8000000
set_option maxRecDepth 100000

def imgC (z : Int) (sv nv : Value) : Array Value := #[.int .i64 z, sv, nv]
theorem sizeImg : (Tryz.prog.info? 30).map (·.size) = some 3 := by kernel_rfl
theorem cells_img (z : Int) (a a' : Option Addr) (n n' c c' : Nat) : (imgC z (.slice a n c) (.slice a' n' c')).all (·.oneCell') = true := by simp [imgC, Value.oneCell']
theorem OwnSe.same {base : Nat} {L : List Se} {v : Value} {w w' : World} (h : OwnSe base L v w) (hz : w.heap.size ≤ w'.heap.size) (hs : ∀ k, base ≤ k → k < w.heap.size → w'.heap[k]? = w.heap[k]?) : OwnSe base L v w' := by
  obtain ⟨vs, h1, h2⟩ := h
  exact ⟨vs, row_at h1 fun g c hg hc => (hs g (h1.lt g hg).1 (h1.lt g hg).2).trans hc, h2.imp (fun k hk => ⟨hk.1, Nat.lt_of_lt_of_le hk.2.1 hz, hk.2.2⟩) fun b o u hb hu => (World.cell?_of_block (hs b hb.1 hb.2.1)).trans hu⟩
theorem nds_own {L : List Nd} {base : Nat} {v : Value} {w : World} (h : OwnN base L v w) : ∃ a c, v = .slice a L.length c ∧ NdsAt w.heap.size w a L := by
  obtain ⟨a, c, vs, e, _, _, hR, _⟩ := h.rows
  exact ⟨a, c, e, hR.nds fun k hk => hk.2⟩

/-- The stages of laying a node's copy into the image. -/
def imgF3 (W5 : World) (n : Nd) (u : Value) (W : World) : Prop := Ext W5 W ∧ NdS (fun j => W5.heap.size ≤ j ∧ j < W.heap.size) W u n
def imgF4 (W5 : World) (n : Nd) (u : Value) (W : World) : Prop := Ext W5 W ∧ ∃ (g' : Nat) (cs' : Array Value), u = .slice (some ⟨g', 0, none⟩) 1 1 ∧ W.heap[g']? = some (.cells cs' 88 (0, 0)) ∧ NdS (fun j => W5.heap.size ≤ j ∧ j < g') W (.agg cs') n
def imgF5 (W3 W5 : World) (ov : Value) (L : List Nd) (u : Value) (W : World) : Prop := OwnN W3.heap.size L u W ∧ Chg (fun j => ov.ownBlock = some j) W5 W
def imgF7 (W3 : World) (b0 : Nat) (z : Int) (sv : Value) (L : List Nd) (_ : Value) (W : World) : Prop := ∃ v', W.heap[b0 + 1]? = some (.cells (imgC z sv v') 30 (0, 0)) ∧ OwnN W3.heap.size L v' W ∧ Chg (· = b0 + 1) W3 W
theorem imgStay {W3 W5 : World} {b0 : Nat} {z : Int} {sv ov : Value} {L L' : List Nd} {n : Nd} : stayG [(7, imgF7 W3 b0 z sv L'), (5, imgF5 W3 W5 ov L), (4, imgF4 W5 n), (3, imgF3 W5 n)] := by
  refine ⟨fun v W W' ⟨v', h1, h2, h3⟩ hE => ⟨v', (hE.block _ (Array.getElem?_eq_some_iff.1 h1).1).trans h1, h2.ext hE, h3.trans (Chg.of_ext (S := (· = b0 + 1)) hE) fun _ _ h => h⟩, fun v W W' ⟨h1, h2⟩ hE => ⟨h1.ext hE, h2.trans (Chg.of_ext (S := fun j => ov.ownBlock = some j) hE) fun _ _ h => h⟩, fun v W W' ⟨h0, g', cs', h1, h2, h3⟩ hE => ⟨h0.trans hE, g', cs', h1, (hE.block _ (Array.getElem?_eq_some_iff.1 h2).1).trans h2, ?_⟩, fun v W W' ⟨h0, h1⟩ hE => ⟨h0.trans hE, ?_⟩, trivial⟩
  · exact NdS.imp h3 (fun _ h => h) fun b o u hb hu => (hE.cell (p := ⟨b, o, none⟩) (World.block_lt_of_cell? _ _ hu)).trans hu
  · exact NdS.imp h1 (fun j hj => ⟨hj.1, Nat.lt_of_lt_of_le hj.2 hE.size⟩) fun b o u hb hu => (hE.cell (p := ⟨b, o, none⟩) hb.2).trans hu
theorem imgExt {W5 : World} {n : Nd} {P7 P5 : Value → World → Prop} {d : Nat → Bool} {vals : Nat → Value} {W : World} (h : Stg (Ext W5) [(7, P7), (5, P5), (4, imgF4 W5 n), (3, imgF3 W5 n)] d vals W) (h7 : d 7 = false) (h5 : d 5 = false) : Ext W5 W := by
  unfold Stg at h
  rw [if_neg (by rw [h7]; simp)] at h
  unfold Stg at h
  rw [if_neg (by rw [h5]; simp)] at h
  unfold Stg at h
  split at h
  · exact h.1
  · unfold Stg at h
    split at h
    · exact h.1
    · exact h
section
variable {W5 W : World} {n : Nd} {P7 P5 : Value → World → Prop} {d : Nat → Bool} {vals : Nat → Value} {u : Value}
theorem stg_at3 (d7 : d 7 = false) (d5 : d 5 = false) (d4 : d 4 = false) (h : imgF3 W5 n u W) : Stg (Ext W5) [(7, P7), (5, P5), (4, imgF4 W5 n), (3, imgF3 W5 n)] (fun k => d k || k == 3) (updV vals 3 u) W := by
  unfold Stg; rw [if_neg (by simp [d7])]
  unfold Stg; rw [if_neg (by simp [d5])]
  unfold Stg; rw [if_neg (by simp [d4])]
  unfold Stg; rw [if_pos (by simp), updV_same]; exact h
theorem stg_at4 (d7 : d 7 = false) (d5 : d 5 = false) (h : imgF4 W5 n u W) : Stg (Ext W5) [(7, P7), (5, P5), (4, imgF4 W5 n), (3, imgF3 W5 n)] (fun k => d k || k == 4) (updV vals 4 u) W := by
  unfold Stg; rw [if_neg (by simp [d7])]
  unfold Stg; rw [if_neg (by simp [d5])]
  unfold Stg; rw [if_pos (by simp), updV_same]; exact h
theorem stg_at5 (d7 : d 7 = false) (h : P5 u W) : Stg (Ext W5) [(7, P7), (5, P5), (4, imgF4 W5 n), (3, imgF3 W5 n)] (fun k => d k || k == 5) (updV vals 5 u) W := by
  unfold Stg; rw [if_neg (by simp [d7])]
  unfold Stg; rw [if_pos (by simp), updV_same]; exact h
theorem stg_at7 (h : P7 u W) : Stg (Ext W5) [(7, P7), (5, P5), (4, imgF4 W5 n), (3, imgF3 W5 n)] (fun k => d k || k == 7) (updV vals 7 u) W := by
  unfold Stg; rw [if_pos (by simp), updV_same]; exact h
theorem stg_get3 (h : Stg (Ext W5) [(7, P7), (5, P5), (4, imgF4 W5 n), (3, imgF3 W5 n)] d vals W) (d7 : d 7 = false) (d5 : d 5 = false) (d4 : d 4 = false) (d3 : d 3 = true) : imgF3 W5 n (vals 3) W := by
  unfold Stg at h; rw [if_neg (by rw [d7]; simp)] at h
  unfold Stg at h; rw [if_neg (by rw [d5]; simp)] at h
  unfold Stg at h; rw [if_neg (by rw [d4]; simp)] at h
  unfold Stg at h; rw [if_pos d3] at h; exact h
theorem stg_get4 (h : Stg (Ext W5) [(7, P7), (5, P5), (4, imgF4 W5 n), (3, imgF3 W5 n)] d vals W) (d7 : d 7 = false) (d5 : d 5 = false) (d4 : d 4 = true) : imgF4 W5 n (vals 4) W := by
  unfold Stg at h; rw [if_neg (by rw [d7]; simp)] at h
  unfold Stg at h; rw [if_neg (by rw [d5]; simp)] at h
  unfold Stg at h; rw [if_pos d4] at h; exact h
theorem stg_get5 (h : Stg (Ext W5) [(7, P7), (5, P5), (4, imgF4 W5 n), (3, imgF3 W5 n)] d vals W) (d7 : d 7 = false) (d5 : d 5 = true) : P5 (vals 5) W := by
  unfold Stg at h; rw [if_neg (by rw [d7]; simp)] at h
  unfold Stg at h; rw [if_pos d5] at h; exact h
theorem stg_get7 (h : Stg (Ext W5) [(7, P7), (5, P5), (4, imgF4 W5 n), (3, imgF3 W5 n)] d vals W) (d7 : d 7 = true) : P7 (vals 7) W := by
  unfold Stg at h; rw [if_pos d7] at h; exact h
end
/-- The row is laid into the image. -/
theorem img_fin {W3 W5 : World} {b0 : Nat} {z : Int} {sv ov : Value} {L' : List Nd} (hi : W5.heap[b0 + 1]? = some (.cells (imgC z sv ov) 30 (0, 0))) (hC : Chg (· = b0 + 1) W3 W5) (hb : b0 + 1 < W3.heap.size) : ∀ (u : Value) (W : World), (∀ j, ov.ownBlock = some j → W3.heap.size ≤ j) → imgF5 W3 W5 ov L' u W →
    W.cell? ⟨b0 + 1, 2, none⟩ = some ov ∧ W.heap[b0 + 1]? = some (.cells (imgC z sv ov) 30 (0, 0)) ∧ imgF7 W3 b0 z sv L' undef (W.setRow (b0 + 1) (imgC z sv u)) := by
  intro u W hov ⟨h1, h2⟩
  have hiW : W.heap[b0 + 1]? = some (.cells (imgC z sv ov) 30 (0, 0)) := (h2.same _ (Array.getElem?_eq_some_iff.1 hi).1 (fun e => by have := hov _ e; omega)).trans hi
  have hs : ∀ j, j ≠ b0 + 1 → (W.setRow (b0 + 1) (imgC z sv u)).heap[j]? = W.heap[j]? := fun j hj => setRow_other _ _ _ _ hj
  refine ⟨cell_of_row _ _ _ _ _ _ hiW, hiW, u, setRow_heap W (b0 + 1) _ (imgC z sv u) _ _ hiW, OwnN.same h1 (by simp) fun j hj _ => hs j (by omega), ?_⟩
  have hz := hC.size
  refine ⟨h2.os.trans hC.os, h2.tape.trans hC.tape, h2.output.trans hC.output, by have := h2.size; simp; omega, fun j hj hn => (hs j hn).trans ((h2.same j (by omega) (fun e => by have := hov j e; omega)).trans (hC.same j hj hn))⟩

def FImageOut (z : Int) (T : List Se) (L : List Nd) (w : World) (e : Ending) (w' : World) : Prop :=
  ∃ a c a' c' vs vs', e = .returned (.tuple #[.agg (imgC z (.slice a T.length c) (.slice a' L.length c')), .int .i64 0]) ∧ RowsSe (fun k => w.heap.size ≤ k ∧ k < w'.heap.size) w' a vs T ∧ RowsOf (fun k => w.heap.size ≤ k ∧ k < w'.heap.size) w' a' vs' L ∧ Ext w w'

theorem fimage_any (w : World) (bc : Nat) (z : Int) (sa na : Option Addr) (sc nc : Nat) (T : List Se) (L : List Nd) (p : ByteArray) (hcb : w.heap[bc]? = some (.cells (capC z (.slice sa T.length sc) (.slice na L.length nc) p true) 98 (0, 0)))
    (hS : SesAt w.heap.size w sa T) (hN : NdsAt w.heap.size w na L) (hfT : ∀ s ∈ T, FitS s) (hfL : ∀ n ∈ L, Fit n) (hlT : T.length * 40 ≤ 140737488355328) (hlL : L.length * 168 ≤ 140737488355328) :
    Calls Tryz.prog 26 #[.pointer (some ⟨bc, 0, none⟩)] w (FImageOut z T L w) := by
  have hbl := (Array.getElem?_eq_some_iff.1 hcb).1
  obtain ⟨W1, hW1⟩ : ∃ W1, W1 = w.alloc (.cells #[.int .i64 0, .slice none 0 0, .slice none 0 0] 30) := ⟨_, rfl⟩
  have hE1 : Ext w W1 := by rw [hW1]; exact Ext.alloc _ _
  have hz1 : W1.heap.size = w.heap.size + 1 := by rw [hW1]; simp
  have hg1 : W1.heap[w.heap.size]? = some (.cells #[.int .i64 0, .slice none 0 0, .slice none 0 0] 30 (0, 0)) := by rw [hW1]; exact heap_alloc_new w _
  obtain ⟨W2, hW2⟩ : ∃ W2, W2 = W1.alloc (.cells (imgC z (.slice none 0 0) (.slice none 0 0)) 30) := ⟨_, rfl⟩
  have hE2 : Ext W1 W2 := by rw [hW2]; exact Ext.alloc _ _
  have hi2 : W2.heap[w.heap.size + 1]? = some (.cells (imgC z (.slice none 0 0) (.slice none 0 0)) 30 (0, 0)) := by rw [hW2, ← hz1]; exact heap_alloc_new W1 _
  have c0 : W1.cell? ⟨bc, 0, none⟩ = some (.int .i64 z) := cell_of_row _ _ _ _ _ _ ((hE1.block bc hbl).trans hcb)
  have c4 : W1.cell? ⟨bc, 4, none⟩ = some (.bool true) := cell_of_row _ _ _ _ _ _ ((hE1.block bc hbl).trans hcb)
  have k1 : W2.cell? ⟨bc, 1, none⟩ = some (.slice sa T.length sc) := cell_of_row _ _ _ _ _ _ (((hE1.trans hE2).block bc hbl).trans hcb)
  have HSET2 := Lib.hid ((setRow_alloc W1 #[.int .i64 0, .slice none 0 0, .slice none 0 0] (imgC z (.slice none 0 0) (.slice none 0 0)) 30).trans hW2.symm)
  have HNEW2 := Lib.hid (heap_alloc_new W1 (.cells #[.int .i64 0, .slice none 0 0, .slice none 0 0] 30))
  rw [hz1] at HSET2 HNEW2
  have hl64 : T.length ≤ 9223372036854775807 := by omega
  have hl64' : L.length ≤ 9223372036854775807 := by omega
  have HCB := Lib.hid hcb
  have HS := Lib.hid hS
  have HN := Lib.hid hN
  have HFT := Lib.hid hfT
  have HFL := Lib.hid hfL
  have HE1 := Lib.hid hE1
  have HE2 := Lib.hid hE2
  have HG1 := Lib.hid hg1
  have HI2 := Lib.hid hi2
  have HW1 := Lib.hid hW1
  rw [hW1] at c0 c4 HSET2 HNEW2
  unfold imgC at HSET2
  clear hcb hS hN hfT hfL hE1 hE2 hg1 hi2 hW1 hW2
  go_enter Tryz.func26, Tryz.ntmps26
  go_wp2_with (refine wpList_store_row rfl 30 (.tmp 4) (.tmp 25) rfl (w.heap.size + 1) _ rfl rfl 30 _ HNEW2.out sizeImg rfl (cells_img z none none 0 0 0 0) ?_; rw [HSET2.out])
  go_loopw [32] (fun i wr => ∃ (k : Nat) (ov : Value), k ≤ T.length ∧ i = .int .i64 k ∧ wr.heap[w.heap.size + 1]? = some (.cells (imgC z ov (.slice none 0 0)) 30 (0, 0)) ∧ Hid (OwnSe (w.heap.size + 2) (T.take k) ov wr) ∧ Ext W1 wr) (fun i _ => T.length - (intOf i).toNat)
  case atStart => exact ⟨0, _, Nat.zero_le _, rfl, HI2.out, OwnSe.nil _ _, HE2.out⟩
  case round =>
    obtain ⟨k, ov, hk, rfl, hir, HO, hE⟩ := hrel
    by_cases hlt : k < T.length
    · have hE0 := HE1.out.trans hE
      have hil := (Array.getElem?_eq_some_iff.1 hir).1
      obtain ⟨bl, off, v, rfl, hbl2, hv, hc⟩ := HS.out k T[k] (List.getElem?_eq_getElem hlt)
      have hfit := HFT.out T[k] (List.getElem_mem hlt)
      have htk : T.take (k + 1) = T.take k ++ [T[k]] := List.take_succ_eq_append_getElem hlt
      have htl : (T.take k).length = k := by rw [List.length_take]; omega
      generalize T[k] = s at *
      have hidl := hfit.ids
      obtain ⟨ia, ic, rfl, hic, hI⟩ := hv
      have hcw : ∀ j u, (seC s (.slice ia s.ids.length ic))[j]? = some u → wr.cell? ((⟨bl, off + k * 3, none⟩ : Addr).add j) = some u := fun j u hj => by
        rw [addr_add, hE0.cell (p := ⟨bl, off + k * 3 + j, none⟩) hbl2]
        exact hc j u hj
      obtain ⟨W5, hW5⟩ : ∃ W5, W5 = wr.alloc (.cells (seC s (.slice ia s.ids.length ic)) 62) := ⟨_, rfl⟩
      have hE5 : Ext wr W5 := by rw [hW5]; exact Ext.alloc _ _
      have hz5 : W5.heap.size = wr.heap.size + 1 := by rw [hW5]; simp
      have hn5 : W5.heap[wr.heap.size]? = some (.cells (seC s (.slice ia s.ids.length ic)) 62 (0, 0)) := by rw [hW5]; exact heap_alloc_new _ _
      obtain ⟨i1', hi1, iz0, iz1, iz2⟩ := info_parts infoId
      have g2 : W5.cell? ⟨wr.heap.size, 2, none⟩ = some (.slice ia s.ids.length ic) := cell_of_row _ _ _ _ _ _ hn5
      have hown0 : W5.ownsRow W5.heap.size 139 2 (.slice none 0 0) 0 [] := World.ownsRow_nil _ _ _ _
      have hIw : Cells w.heap.size w ia (idCs s.ids) := CellsS.cells (B := w.heap.size) hI fun _ h => h
      have hsrc0 : Src Tryz.prog 2 60 (.slice ia s.ids.length ic) s.ids.length (idCs s.ids) W5 := ((hIw.ext hE0).ext hE5).src Tryz.underlying60 _ _ (by simp [idCs_length]) (one_id s.ids)
      have HC := Lib.hid hcw
      have HTK := Lib.hid htk
      have HE := Lib.hid hE
      have HIR := Lib.hid hir
      have HE5 := Lib.hid hE5
      have HSET := Lib.hid ((setRow_alloc wr zeroSe (seC s (.slice ia s.ids.length ic)) 62).trans hW5.symm)
      have HNEW := Lib.hid (heap_alloc_new wr (.cells zeroSe 62))
      have HN5 := Lib.hid hn5
      unfold seC at HC HSET
      unfold zeroSe at HSET HNEW
      clear hcw hc htk hE hir hE5 hW5 hn5 hI hIw hE0 hfit k1
      go_wp2_with (first | (refine wpList_load_at rfl 62 (.tmp 34) rfl _ rfl _ _ HC.out Tryz.underlying62 rfl sizeSe ?_) | (refine wpList_store_row rfl 62 (.tmp 6) (.tmp 35) rfl wr.heap.size _ rfl rfl 62 _ HNEW.out sizeSe rfl (cells_se s ia _ ic) ?_; rw [HSET.out]) | (at_builtin; refine wpList_append_src _ rfl (.const (.slice none 0 0)) (.tmp 37) 60 60 rfl W5.heap.size 139 i1' (.agg #[.string ⟨#[]⟩, .string ⟨#[]⟩]) 2 32 Tryz.underlying60 hi1 iz0 iz1 iz2 rfl (by decide) _ 0 _ rfl hown0 _ s.ids.length _ rfl hsrc0 ?b1 ?b2 ?b3 ?_))
      case b1 => simp only [maxLen]; omega
      case b2 => omega
      case b3 => first | omega | simp
      rintro v7 W7 hown7 hg7 - -
      (try simp only [List.nil_append, Nat.zero_add] at hown7)
      have hz7 := hg7.size
      have hE57 : Ext W5 W7 := ⟨hg7.os, hg7.tape, hg7.output, hz7, fun j hj => hg7.block j hj (by simp [Value.ownBlock])⟩
      have hcap7 := own_cap hown7
      obtain ⟨va, vc, rfl, hD7⟩ := ownsRow_from hown7
      have hvc := hcap7 va vc rfl
      have hn7 := (hE57.block wr.heap.size (by omega)).trans HN5.out
      have hcell7 : W7.cell? ⟨wr.heap.size, 2, none⟩ = some (.slice ia s.ids.length ic) := by rw [cell_of_row W7 wr.heap.size 2 _ _ _ hn7]; rfl
      have hfr7 : W7.frozen? ⟨wr.heap.size, 2, none⟩ = false := frozen_of_row W7 wr.heap.size 2 _ _ hn7
      obtain ⟨W8, hW8⟩ : ∃ W8, W8 = W7.setCell ⟨wr.heap.size, 2, none⟩ (.slice va s.ids.length vc) := ⟨_, rfl⟩
      have hn8 : W8.heap[wr.heap.size]? = some (.cells (seC s (.slice va s.ids.length vc)) 62 (0, 0)) := by
        rw [hW8, heap_setCell_same W7 wr.heap.size 2 _ _ _ hn7]; rfl
      have hz8 : W8.heap.size = W7.heap.size := by rw [hW8]; simp [World.setCell]
      have ho8 : ∀ j, j ≠ wr.heap.size → W8.heap[j]? = W7.heap[j]? := fun j hj => by rw [hW8]; exact Below.heap_setCell _ _ _ _ (by simpa using hj)
      have hEr8 : Ext wr W8 := (HE5.out.trans hE57).trans' ⟨by rw [hW8]; rfl, by rw [hW8]; rfl, by rw [hW8]; rfl, by omega, fun j hj => ho8 j (by omega)⟩
      have hS8 : SeS (fun j => wr.heap.size < j ∧ j < W8.heap.size) W8 (.agg (seC s (.slice va s.ids.length vc))) s := ⟨va, vc, rfl, hvc, fun j u hj => by
        obtain ⟨q, o, e, h1, h2, h3⟩ := hD7 j u hj
        exact ⟨q, o, e, ⟨by omega, by omega⟩, (World.cell?_of_block (ho8 q (by omega))).trans h3⟩⟩
      obtain ⟨vs, hownr, heach⟩ := HO.out
      rw [htl] at hownr
      have hlr : ∀ j, ov.ownBlock = some j → w.heap.size + 2 ≤ j ∧ j < wr.heap.size := fun j hj => hownr.lt j hj
      have hown8 : W8.ownsRow (w.heap.size + 2) 62 3 ov k (vs.flatMap Array.toList) := hownr.kept (grown_of_ext hEr8 none) (Classical.em _)
      have hi8 : W8.heap[w.heap.size + 1]? = some (.cells (imgC z ov (.slice none 0 0)) 30 (0, 0)) := (hEr8.block (w.heap.size + 1) (by omega)).trans HIR.out
      have hown8a := hown8.alloc (.cells (seC s (.slice va s.ids.length vc)) 62)
      have hs3 : Cells (W8.alloc (.cells (seC s (.slice va s.ids.length vc)) 62)).heap.size (W8.alloc (.cells (seC s (.slice va s.ids.length vc)) 62)) (some ⟨W8.heap.size, 0, none⟩) (seC s (.slice va s.ids.length vc)).toList := fun j u hj => by
        refine ⟨_, 0, rfl, by simp, ?_⟩
        rw [Nat.zero_add, cell_of_row _ _ _ _ _ _ (heap_alloc_new W8 _)]
        simpa using hj
      have hsrc2 : Src Tryz.prog 3 23 (.slice (some ⟨W8.heap.size, 0, none⟩) 1 1) 1 (seC s (.slice va s.ids.length vc)).toList (W8.alloc (.cells (seC s (.slice va s.ids.length vc)) 62)) :=
        hs3.src Tryz.underlying23 1 1 (by rfl) (fun u hu => by
          have := cells_se s va s.ids.length vc
          rw [← Array.all_toList] at this
          exact List.all_eq_true.1 this u hu)
      have k8 : W8.cell? ⟨w.heap.size + 1, 1, none⟩ = some ov := cell_of_row _ _ _ _ _ _ hi8
      obtain ⟨i0, hi, hz0, hz1', hz2'⟩ := info_parts infoSe
      have HW8 := Lib.hid hW8
      have HEr8 := Lib.hid hEr8
      have HN8 := Lib.hid hn8
      have HS8 := Lib.hid hS8
      have HI8 := Lib.hid hi8
      have HEA := Lib.hid heach
      have HLR := Lib.hid hlr
      have HOW8 := Lib.hid hown8
      have HZ8 := Lib.hid hz8
      rw [hW8] at k8
      unfold seC at HN8 hown8a hsrc2
      clear hz8 hg7 hown7 hE57 hD7 hcap7 hn7 hEr8 hn8 hS8 hW8 hown0 hsrc0 ho8 g2 HO HC hs3 hi8 heach hlr hownr hown8
      go_wp2_with (first | (rw [← HW8.out]; refine wpList_load_row rfl 62 (.tmp 6) rfl wr.heap.size rfl 62 _ (0, 0) _ HN8.out Tryz.underlying62 rfl sizeSe ?_) | (at_builtin; refine wpList_append_src _ rfl (.tmp 41) (.tmp 43) 23 23 rfl (w.heap.size + 2) 62 i0 (.agg #[.int .i64 0, .int .i32 0, .slice none 0 0]) 3 40 Tryz.underlying23 hi hz0 hz1' hz2' rfl (by decide) _ k _ rfl hown8a _ 1 _ rfl hsrc2 ?d1 ?d2 ?d3 ?_))
      case d1 => unfold maxLen at *; omega
      case d2 => omega
      case d3 => have := HZ8.out; simp; omega
      rintro v9 W9 hown9 hg9 - ho9
      have hz8 := HZ8.out
      have hz9 := hg9.size
      simp only [World.size_alloc] at hz9
      rw [show [Value.int .i64 s.id, .int .i32 s.tm, .slice va s.ids.length vc] = (seC s (.slice va s.ids.length vc)).toList from rfl] at hown9
      have hW9 : ∀ j, j < W8.heap.size → ov.ownBlock ≠ some j → W9.heap[j]? = W8.heap[j]? := fun j hj hn => (hg9.block j (by simp; omega) (fun e => hn e.symm)).trans (heap_alloc_old W8 _ hj)
      have hi9 : W9.heap[w.heap.size + 1]? = some (.cells (imgC z ov (.slice none 0 0)) 30 (0, 0)) := (hW9 _ (by omega) (fun e => by have := HLR.out _ e; omega)).trans HI8.out
      have hO9 : OwnSe (w.heap.size + 2) (T.take (k + 1)) v9 W9 := by
        rw [HTK.out]
        refine OwnSe.step (w := W8) (vs := vs) (HEA.out.imp (fun j hj => ⟨hj.1, by have := hj.2.1; omega, hj.2.2⟩) fun q o u hq hu => (World.cell?_of_block (HEr8.out.block q hq.2.1)).trans hu) (HS8.out.imp (fun j hj => ⟨by omega, hj.2, fun e => by have := (HLR.out j e).2; omega⟩) fun _ _ _ _ h => h) (by rw [htl]; exact hown9) hg9 (by simpa using ho9)
      have hE9 : Ext W1 W9 := (HE.out.trans HEr8.out).trans' ⟨hg9.os, hg9.tape, hg9.output, by omega, fun j hj => hW9 j (by omega) (fun e => by have := HLR.out j e; omega)⟩
      have k9 : W9.cell? ⟨w.heap.size + 1, 1, none⟩ = some ov := cell_of_row _ _ _ _ _ _ hi9
      have f9 : W9.frozen? ⟨w.heap.size + 1, 1, none⟩ = false := frozen_of_row W9 (w.heap.size + 1) 1 _ _ hi9
      have hi10 : (W9.setCell ⟨w.heap.size + 1, 1, none⟩ v9).heap[w.heap.size + 1]? = some (.cells (imgC z v9 (.slice none 0 0)) 30 (0, 0)) := by
        rw [heap_setCell_same W9 (w.heap.size + 1) 1 _ _ _ hi9]; rfl
      have ho10 : ∀ j, j ≠ w.heap.size + 1 → (W9.setCell ⟨w.heap.size + 1, 1, none⟩ v9).heap[j]? = W9.heap[j]? := fun j hj => Below.heap_setCell _ _ _ _ (by simpa using hj)
      have HI10 := Lib.hid hi10
      have HO10 := Lib.hid (OwnSe.same hO9 (by simp [World.setCell]) fun j hj _ => ho10 j (by omega))
      have HE10 := Lib.hid (hE9.trans' (⟨rfl, rfl, rfl, by simp [World.setCell], fun j hj => ho10 j (by omega)⟩ : Below W1.heap.size W9 (W9.setCell ⟨w.heap.size + 1, 1, none⟩ v9)))
      obtain ⟨ua, uc, rfl, _⟩ := ownsRow_from hown9
      clear hown9 hg9 ho9 hW9 hi9 hO9 hE9 hi10 ho10 hown8a hsrc2 k8 hz8
      go_wp2
      go_roundw
      case rel => exact ⟨k + 1, _, by omega, by go_num, HI10.out, HO10.out, HE10.out⟩
      case measure => simp [intOf]; omega
    · obtain rfl : k = T.length := by omega
      rw [List.take_length] at HO
      have hil := (Array.getElem?_eq_some_iff.1 hir).1
      have hE0 := HE1.out.trans hE
      obtain ⟨a, c, vs, rfl, _, _, hRS, _⟩ := HO.out.rows
      have kb2 : wr.cell? ⟨bc, 2, none⟩ = some (.slice na L.length nc) := cell_of_row _ _ _ _ _ _ ((hE0.block bc hbl).trans HCB.out)
      obtain ⟨W3, hW3⟩ : ∃ W3, W3 = wr := ⟨_, rfl⟩
      subst hW3
      have HRS := Lib.hid hRS
      have HIR := Lib.hid hir
      have HE0 := Lib.hid hE0
      have HE13 := Lib.hid hE
      clear hRS hir hE0 hE HO k1
      go_wp2
      go_loopw [53] (fun i wr => ∃ (k : Nat) (ov : Value), k ≤ L.length ∧ i = .int .i64 k ∧ wr.heap[w.heap.size + 1]? = some (.cells (imgC z (.slice a T.length c) ov) 30 (0, 0)) ∧ Hid (OwnN W3.heap.size (L.take k) ov wr) ∧ Chg (· = w.heap.size + 1) W3 wr) (fun i _ => L.length - (intOf i).toNat)
      case atStart => exact ⟨0, _, Nat.zero_le _, rfl, HIR.out, OwnN.nil _ _, Chg.refl _ _⟩
      case round =>
        obtain ⟨k, ov, hk, rfl, hir, HO, hC⟩ := hrel
        have hzc := hC.size
        have hEw : Ext w wr := HE0.out.trans' (hC.below (fun j hj => by have : j = w.heap.size + 1 := hj; omega) (by omega))
        by_cases hlt : k < L.length
        · obtain ⟨bl, off, v, rfl, hbl2, hv, hc⟩ := HN.out k L[k] (List.getElem?_eq_getElem hlt)
          have hfit := HFL.out L[k] (List.getElem_mem hlt)
          have htk : L.take (k + 1) = L.take k ++ [L[k]] := List.take_succ_eq_append_getElem hlt
          have htl : (L.take k).length = k := by rw [List.length_take]; omega
          generalize L[k] = n at *
          obtain ⟨da, dc, aa, ac, rfl, hD, hA⟩ := hv
          have hcw : ∀ j u, (ndC n (.slice da n.data.length dc) (.slice aa n.acl.length ac))[j]? = some u → wr.cell? ((⟨bl, off + k * 17, none⟩ : Addr).add j) = some u := fun j u hj => by
            rw [addr_add, hEw.cell (p := ⟨bl, off + k * 17 + j, none⟩) hbl2]
            exact hc j u hj
          obtain ⟨W5, hW5⟩ : ∃ W5, W5 = wr.alloc (.cells (ndC n (.slice da n.data.length dc) (.slice aa n.acl.length ac)) 88) := ⟨_, rfl⟩
          have hE5 : Ext wr W5 := by rw [hW5]; exact Ext.alloc _ _
          have hz5 : W5.heap.size = wr.heap.size + 1 := by rw [hW5]; simp
          have hn5 : W5.heap[wr.heap.size]? = some (.cells (ndC n (.slice da n.data.length dc) (.slice aa n.acl.length ac)) 88 (0, 0)) := by rw [hW5]; exact heap_alloc_new _ _
          have hi5 : W5.heap[w.heap.size + 1]? = some (.cells (imgC z (.slice a T.length c) ov) 30 (0, 0)) := (hE5.block _ (Array.getElem?_eq_some_iff.1 hir).1).trans hir
          have k5 : W5.cell? ⟨w.heap.size + 1, 2, none⟩ = some ov := cell_of_row _ _ _ _ _ _ hi5
          have hO5 := HO.out.ext hE5
          have hC5 : Chg (· = w.heap.size + 1) W3 W5 := hC.trans (Chg.of_ext (S := (· = w.heap.size + 1)) hE5) fun _ _ h => h
          have HC := Lib.hid hcw
          have HTK := Lib.hid htk
          have HSET := Lib.hid ((setRow_alloc wr zeroNd (ndC n (.slice da n.data.length dc) (.slice aa n.acl.length ac)) 88).trans hW5.symm)
          have HNEW := Lib.hid (heap_alloc_new wr (.cells zeroNd 88))
          have HN5 := Lib.hid hn5
          have HD5 := Lib.hid ((hD.ext hEw).ext hE5)
          have HA5 := Lib.hid ((hA.ext hEw).ext hE5)
          have HFIT := Lib.hid hfit
          have HFI := Lib.hid (img_fin (z := z) (sv := .slice a T.length c) (L' := L.take (k + 1)) hi5 hC5 (by omega))
          obtain ⟨ws, hown5, heach5⟩ := hO5
          rw [htl] at hown5
          have hov : ∀ j, ov.ownBlock = some j → W3.heap.size ≤ j ∧ j < W5.heap.size := fun j hj => hown5.lt j hj
          have HEA5 := Lib.hid heach5
          have HOV := Lib.hid hov
          have HOW5 := Lib.hid hown5
          unfold ndC at HC HSET
          unfold zeroNd at HSET HNEW
          clear hcw hc htk hE5 hW5 hn5 hD hA hfit hEw hC hir HO hC5 hi5 hown5 heach5 hov
          go_wp2_with (first | (refine wpList_load_at rfl 88 (.tmp 55) rfl _ rfl _ _ HC.out Tryz.underlying88 rfl sizeNd ?_) | (refine wpList_store_row rfl 88 (.tmp 8) (.tmp 56) rfl wr.heap.size _ rfl rfl 88 _ HNEW.out sizeNd rfl (cells_node n da aa _ _ dc ac) ?_; rw [HSET.out]))
          obtain ⟨i0, hi, hz0, hz1', hz2'⟩ := info_parts infoNd
          refine wp_region_P (by kernel_rfl) (region_gen 66 (fun d vals W => ToldV [some (.pointer (some ⟨w.heap.size + 1, 2, none⟩)), some ov, some (.agg (ndC n (.slice da n.data.length dc) (.slice aa n.acl.length ac))), none, none, none, some (.pointer (some ⟨w.heap.size + 1, 2, none⟩)), none] d vals ∧ Stg (Ext W5) [(7, imgF7 W3 w.heap.size z (.slice a T.length c) (L.take (k + 1))), (5, imgF5 W3 W5 ov (L.take k ++ [n])), (4, imgF4 W5 n), (3, imgF3 W5 n)] d vals W) ?g0 (by decide) rfl ?duties ?rest)
          case g0 => exact fun vals => ⟨ToldV.none _ _, by unfold Stg; exact Ext.drew _⟩
          case duties =>
            have hst : stayG [(7, imgF7 W3 w.heap.size z (.slice a T.length c) (L.take (k + 1))), (5, imgF5 W3 W5 ov (L.take k ++ [n])), (4, imgF4 W5 n), (3, imgF3 W5 n)] := imgStay
            have h0 : ∀ W W', Ext W5 W → Ext W W' → Ext W5 W' := fun _ _ h k => h.trans k
            refine ⟨?_, ?_, ?_, ?_, ?_, ?_, ?_, ?_, trivial⟩
            · refine dutyG_val rfl rfl (fun d vals W W' hdi hcl h hE => h.read h0 hst hE (by rfl)) fun d a W hdi hcl hH hx hF => ?_
              have x1 := hF.slot 4 (.pointer (some ⟨w.heap.size + 1, 0, none⟩)) (by decide) rfl
              exact wp_value (w' := W) (v := .pointer (some ⟨w.heap.size + 1, 2, none⟩)) (by simp only [execOp, x1]; simp [go_sem]) ⟨rfl, Ext.refl _⟩
            · refine dutyG_val rfl rfl (fun d vals W W' hdi hcl h hE => h.read h0 hst hE (by rfl)) fun d a W hdi hcl hH hx hF => ?_
              have x1 := hx 0 57 _ _ rfl rfl ⟨⟨0, .data⟩, by simp, rfl, rfl⟩ rfl
              have hE := imgExt hH (nd_off d 1 7 3 hdi hcl (by kernel_rfl)) (nd_off d 1 5 3 hdi hcl (by kernel_rfl))
              exact wp_value (ex_cell rfl _ _ x1 ((hE.cell (World.block_lt_of_cell? _ _ k5)).trans k5) rfl Tryz.underlying22) ⟨rfl, Ext.refl _⟩
            · refine dutyG_val rfl rfl (fun d vals W W' hdi hcl h hE => h.read h0 hst hE (by rfl)) fun d a W hdi hcl hH hx hF => ?_
              have x1 := hF.slot 8 (.pointer (some ⟨wr.heap.size, 0, none⟩)) (by decide) rfl
              have hE := imgExt hH (nd_off d 2 7 5 hdi hcl (by kernel_rfl)) (nd_off d 2 5 5 hdi hcl (by kernel_rfl))
              exact wp_value (ex_load_row rfl _ x1 88 _ (0, 0) _ ((hE.block _ (Array.getElem?_eq_some_iff.1 HN5.out).1).trans HN5.out) Tryz.underlying88 rfl sizeNd) ⟨rfl, Ext.refl _⟩
            · intro d av W hdi hcl hpre hG hF
              have d7 := nd_off d 3 7 5 hdi hcl (by kernel_rfl)
              have d5 := nd_off d 3 5 5 hdi hcl (by kernel_rfl)
              have d4 := nd_off d 3 4 5 hdi hcl (by kernel_rfl)
              have hE := imgExt hG.2 d7 d5
              have x1 : av.eval (.tmp 59) = .agg (ndC n (.slice da n.data.length dc) (.slice aa n.acl.length ac)) := (valsOf_eval 2 59 rfl rfl).trans (hG.1 2 _ rfl (hpre ⟨2, .data⟩ (by simp) rfl))
              refine wp_enter (ex_call rfl (enters_f Tryz.func52 (by kernel_rfl) rfl)) (by simp only [List.map_toArray, List.map_cons, List.map_nil, x1]; exact sclone_nd n da aa dc ac W HFIT.out (HD5.out.ext hE) (HA5.out.ext hE)) ?_
              rintro e w4 ⟨v, rfl, hv, hE4⟩
              have hE4 : Ext W w4 := hE4
              refine ⟨_, rfl, _, rfl, hG.1.put 3 _ (fun u hu => by cases hu), ?_⟩
              exact stg_at3 d7 d5 d4 ⟨hE.trans hE4, NdS.imp hv (fun j hj => ⟨Nat.le_trans hE.size hj.1, hj.2⟩) fun _ _ _ _ h => h⟩
            · intro d av W hdi hcl hpre hG hF
              have d7 := nd_off d 4 7 5 hdi hcl (by kernel_rfl)
              have d5 := nd_off d 4 5 5 hdi hcl (by kernel_rfl)
              have d3 : d 3 = true := hpre ⟨3, .data⟩ (by simp) rfl
              have h3 := stg_get3 hG.2 d7 d5 hdi d3
              obtain ⟨hE, qa, qc, ra, rc, e3, hD3, hA3⟩ := h3
              have x1 : av.eval (.tmp 60) = .agg (ndC n (.slice qa n.data.length qc) (.slice ra n.acl.length rc)) := (valsOf_eval 3 60 rfl rfl).trans e3
              refine wp_buildSlice 22 88 1 _ rfl (ndC n (.slice qa n.data.length qc) (.slice ra n.acl.length rc)) i0 (.agg zeroNd) Tryz.underlying22 hi hz0 (by rw [hz1']; decide) (by rw [hz1']; decide) (by simp only [List.map_toArray, List.map_cons, List.map_nil, x1, hz1']; kernel_rfl) ⟨_, rfl, hG.1.put 4 _ (fun u hu => by cases hu), ?_⟩
              have hEa : Ext W (W.alloc (.cells (ndC n (.slice qa n.data.length qc) (.slice ra n.acl.length rc)) 88)) := Ext.alloc _ _
              exact stg_at4 d7 d5 ⟨hE.trans hEa, W.heap.size, _, rfl, heap_alloc_new _ _, NdS.imp ⟨qa, qc, ra, rc, rfl, hD3, hA3⟩ (fun _ h => h) fun b o u hb hu => (hEa.cell (p := ⟨b, o, none⟩) hb.2).trans hu⟩
            · intro d av W hdi hcl hpre hG hF
              have d7 := nd_off d 5 7 5 hdi hcl (by kernel_rfl)
              have d4 : d 4 = true := hpre ⟨4, .data⟩ (by simp) rfl
              have d1 : d 1 = true := hpre ⟨1, .data⟩ (by simp) rfl
              obtain ⟨hE, g', cs', e4, hg, hN4⟩ := stg_get4 hG.2 d7 hdi d4
              have x1 : av.eval (.tmp 58) = ov := (valsOf_eval 1 58 rfl rfl).trans (hG.1 1 _ rfl d1)
              have x2 : av.eval (.tmp 61) = .slice (some ⟨g', 0, none⟩) 1 1 := (valsOf_eval 4 61 rfl rfl).trans e4
              obtain ⟨qa, qc, ra, rc, e3, hD3, hA3⟩ := hN4
              have ecs : cs' = ndC n (.slice qa n.data.length qc) (.slice ra n.acl.length rc) := by cases e3; rfl
              subst ecs
              have hcs : Cells W.heap.size W (some ⟨g', 0, none⟩) (ndC n (.slice qa n.data.length qc) (.slice ra n.acl.length rc)).toList := fun j u hj => ⟨g', 0, rfl, (Array.getElem?_eq_some_iff.1 hg).1, by rw [Nat.zero_add, cell_of_row _ _ _ _ _ _ hg]; simpa using hj⟩
              have hsrc : Src Tryz.prog 17 22 (.slice (some ⟨g', 0, none⟩) 1 1) 1 (ndC n (.slice qa n.data.length qc) (.slice ra n.acl.length rc)).toList W := hcs.src Tryz.underlying22 1 1 rfl (fun u hu => by
                have := cells_node n qa ra n.data.length n.acl.length qc rc
                rw [← Array.all_toList] at this
                exact List.all_eq_true.1 this u hu)
              have hown := HOW5.out.kept (grown_of_ext hE none) (Classical.em _)
              have hzE := hE.size
              have hgl := (Array.getElem?_eq_some_iff.1 hg).1
              obtain ⟨v', w2, hr, hown2, hgr, _, h5⟩ := run_append_own_src (P := Tryz.prog) W W3.heap.size 22 22 22 88 i0 (.agg zeroNd) 17 168 Tryz.underlying22 hi hz0 hz1' hz2' rfl (by decide) ov k _ hown _ 1 _ hsrc (by unfold maxLen; omega) (by omega) (by omega)
              refine wp_value (ex_append rfl (by rw [x1, x2]; exact hr)) ⟨_, rfl, hG.1.put 5 _ (fun u hu => by cases hu), ?_⟩
              have hgb : ∀ j, j < W.heap.size → ov.ownBlock ≠ some j → w2.heap[j]? = W.heap[j]? := fun j hj hn => hgr.block j hj (fun e => hn e.symm)
              have hF5 : imgF5 W3 W5 ov (L.take k ++ [n]) v' w2 := by
               refine ⟨⟨ws ++ [ndC n (.slice qa n.data.length qc) (.slice ra n.acl.length rc)], by rw [List.length_append, htl]; simpa using hown2, EachN.append (HEA5.out.imp (fun j hj => ⟨hj.1, by have := hj.2.1; have := hgr.size; omega, fun e => ?_⟩) fun q o u hq hu => ?_) (EachN.one (NdS.imp ⟨qa, qc, ra, rc, rfl, hD3, hA3⟩ (fun j hj => ⟨by have := (HOV.out); omega, by have := hgr.size; omega, fun e => ?_⟩) fun q o u hq hu => ?_))⟩, (Chg.of_ext (S := fun j => ov.ownBlock = some j) hE).trans (Chg.grown (S := fun j => ov.ownBlock = some j) hgr fun j hj _ => hj) fun _ _ h => h⟩
               · rcases h5 with h | h
                 · exact hj.2.2 (by rw [← h]; exact e)
                 · rw [h] at e; cases e; have := hj.2.1; omega
               · exact (World.cell?_of_block ((hgb q (by have := hq.2.1; omega) hq.2.2).trans (hE.block q hq.2.1))).trans hu
               · rcases h5 with h | h
                 · rw [h] at e; have := (HOV.out j e).2; omega
                 · rw [h] at e; cases e; omega
               · exact (World.cell?_of_block (hgb q (by omega) (fun e => by have := (HOV.out q e).2; omega))).trans hu
              exact stg_at5 d7 hF5
            · refine dutyG_val rfl rfl (fun d vals W W' hdi hcl h hE => h.read h0 hst hE (by rfl)) fun d a W hdi hcl hH hx hF => ?_
              have x1 := hF.slot 4 (.pointer (some ⟨w.heap.size + 1, 0, none⟩)) (by decide) rfl
              exact wp_value (w' := W) (v := .pointer (some ⟨w.heap.size + 1, 2, none⟩)) (by simp only [execOp, x1]; simp [go_sem]) ⟨rfl, Ext.refl _⟩
            · intro d av W hdi hcl hpre hG hF
              have d5 : d 5 = true := hpre ⟨5, .data⟩ (by simp) rfl
              have d6 : d 6 = true := hpre ⟨6, .data⟩ (by simp) rfl
              have h5 := stg_get5 hG.2 hdi d5
              have x1 : av.eval (.tmp 63) = .pointer (some ⟨w.heap.size + 1, 2, none⟩) := (valsOf_eval 6 63 rfl rfl).trans (hG.1 6 _ rfl d6)
              obtain ⟨_, hiW, hF7⟩ := HFI.out _ W (fun j hj => (HOV.out j hj).1) (by rw [HTK.out]; exact h5)
              obtain ⟨a', c', e5, _⟩ := nds_own h5.1
              have x2 : av.eval (.tmp 62) = .slice a' (L.take k ++ [n]).length c' := (valsOf_eval 5 62 rfl rfl).trans e5
              rw [e5] at hF7
              refine wp_store_in 22 (.tmp 63) (.tmp 62) (w.heap.size + 1) 2 (.slice a' (L.take k ++ [n]).length c') 30 _ (imgC z (.slice a T.length c) (.slice a' (L.take k ++ [n]).length c')) hiW (by simp [Value.cells, imgC]) infoSl (by simp [Value.cells, imgC]) (by simp [Value.cells, Value.oneCell']) ⟨_, rfl, hG.1.put 7 _ (fun u hu => by cases hu), stg_at7 hF7⟩ rfl x1 x2
          case rest =>
            intro us d W hdn hl' hG
            have h7 := Lib.hid (stg_get7 hG.2 (hdn 7 (by decide)))
            have hl8 : us.length = 8 := by simpa using hl'
            clear hdn hl' hG HFI HEA5 HOV HOW5
            obtain ⟨u0, u1, u2, u3, u4, u5, u6, u7, rfl⟩ := us8 us hl8
            clear hl8
            simp only [filled, List.zip_cons_cons, List.zip_nil_right, List.zip_nil_left, List.foldl_cons, List.foldl_nil, Act.put]
            go_simp
            rename_i hK
            refine hK _ _ ?_
            clear hK k5
            go_wp2
            go_roundw
            case rel =>
              obtain ⟨v', q1, q2, q3⟩ := h7.out
              exact ⟨k + 1, v', by omega, by go_num, q1, q2, q3⟩
            case measure => simp [intOf]; omega
        · obtain rfl : k = L.length := by omega
          rw [List.take_length] at HO
          obtain ⟨a2, c2, vs2, rfl, _, _, hR2, _⟩ := HO.out.rows
          have hg0 : wr.heap[w.heap.size]? = some (.cells #[.int .i64 0, .slice none 0 0, .slice none 0 0] 30 (0, 0)) := (hC.same _ (by omega) (fun e => by omega)).trans ((HE13.out.block _ (by omega)).trans HG1.out)
          obtain ⟨cs, hcs⟩ : ∃ cs, cs = imgC z (.slice a T.length c) (.slice a2 L.length c2) := ⟨_, rfl⟩
          obtain ⟨Wf, hWf⟩ : ∃ Wf, Wf = wr.setRow w.heap.size cs := ⟨_, rfl⟩
          have hsf : Wf.heap.size = wr.heap.size := by rw [hWf]; simp [World.setRow]
          have hof : ∀ j, j ≠ w.heap.size → Wf.heap[j]? = wr.heap[j]? := fun j hj => by rw [hWf]; exact setRow_other _ _ _ _ hj
          have hgf : Wf.heap[w.heap.size]? = some (.cells cs 30 (0, 0)) := by rw [hWf]; exact setRow_heap _ _ _ _ _ _ hg0
          have hfin : FImageOut z T L w (.returned (.tuple #[.agg cs, .int .i64 0])) Wf := by
            refine ⟨a, c, a2, c2, vs, vs2, by rw [hcs], ?_, ?_, hEw.trans' ⟨by rw [hWf]; rfl, by rw [hWf]; rfl, by rw [hWf]; rfl, by omega, fun j hj => hof j (by omega)⟩⟩
            · have h : RowsSe (fun j => w.heap.size + 2 ≤ j ∧ j < W3.heap.size) Wf a vs T := HRS.out.imp (fun _ h => h) fun j hj => (hof j (by omega)).trans (hC.same j hj.2 (fun e => by have : j = w.heap.size + 1 := e; omega))
              exact h.imp (fun j hj => ⟨by omega, by have := hj.2; omega⟩) fun _ _ => rfl
            · have h : RowsOf (fun j => W3.heap.size ≤ j ∧ j < wr.heap.size) Wf a2 vs2 L := hR2.imp (fun _ h => h) fun j hj => hof j (by omega)
              exact h.imp (fun j hj => ⟨by omega, by have := hj.2; omega⟩) fun _ _ => rfl
          have HFIN := Lib.hid hfin
          have HGF := Lib.hid hgf
          have HG0 := Lib.hid hg0
          have HIR2 := Lib.hid hir
          have HCS := Lib.hid hcs
          have HWF := Lib.hid hWf
          clear hfin hgf hof hg0 hir hC hEw hR2 HO hcs hWf hsf
          rw [← HCS.out] at HIR2
          go_wp2_with (first | (refine wpList_load_row rfl 30 (.tmp 4) rfl (w.heap.size + 1) rfl 30 _ (0, 0) _ HIR2.out Tryz.underlying30 rfl (by rw [HCS.out]; exact sizeImg) ?_) | (refine wpList_store_row rfl 30 (.tmp 2) (.tmp 65) rfl w.heap.size _ rfl rfl 30 _ HG0.out (by rw [HCS.out]; exact sizeImg) (by rw [HCS.out]; rfl) (by rw [HCS.out]; exact cells_img _ _ _ _ _ _ _) ?_; rw [← HWF.out]))
          go_wp2
          refine bodyPost_ret (v := .tuple #[.agg cs, .int .i64 0]) ?_ rfl HFIN.out
          exact results_cell_row2 (p := 2) (q := 3) (ty := 30) rfl _ _ w.heap.size 30 cs (0, 0) _ _ rfl rfl HGF.out Tryz.underlying30 rfl (by rw [HCS.out]; exact sizeImg)
end Go.Proofs.YtclekhjnnljjlaaGreatDoor
namespace Go.Proofs.YtclekhjnnljjlaaGreatDoor
open Go.RowKit
set_option maxHeartbeats 8000000
set_option maxRecDepth 100000

def FTakeOut (M : List (Key × Nd)) (T : List Se) (z : Int) (w : World) (e : Ending) (w' : World) : Prop :=
  ∃ a c a' c', e = .returned (.tuple #[.agg (imgC z (.slice a T.length c) (.slice a' M.length c')), .int .i64 0]) ∧ SesAt w'.heap.size w' a T ∧ NdsAt w'.heap.size w' a' (nds M) ∧ Ext w w'
theorem ftake_any (w : World) (b : Nat) (M : List (Key × Nd)) (T : List Se) (z : Int) (h : PState w b M T z) (hl : M.length * 168 ≤ 140737488355328) (hlT : T.length * 40 ≤ 140737488355328) :
    Calls Tryz.prog 6 #[.pointer (some ⟨b, 0, none⟩)] w (FTakeOut M T z w) := by
  obtain ⟨W1, hW1⟩ : ∃ W1, W1 = w.alloc (.cells #[.int .i64 0, .slice none 0 0, .slice none 0 0] 30) := ⟨_, rfl⟩
  have hE1 : Ext w W1 := by rw [hW1]; exact Ext.alloc _ _
  have hz1 : W1.heap.size = w.heap.size + 1 := by rw [hW1]; simp
  have hg1 : W1.heap[w.heap.size]? = some (.cells #[.int .i64 0, .slice none 0 0, .slice none 0 0] 30 (0, 0)) := by rw [hW1]; exact heap_alloc_new w _
  obtain ⟨bt, bx, bm, S1, S2, N1, N2, hb, hT, hX⟩ := h.ext hE1
  have hfT := hX.fit
  have hok := hT.ok
  have hbl := (Array.getElem?_eq_some_iff.1 hb).1
  have C1 := Lib.hid (fbegin_any W1 b bt bx bm N2 S2 T z hb hX hlT)
  have HB := Lib.hid hb
  have HT := Lib.hid hT
  have HE1 := Lib.hid hE1
  have HG1 := Lib.hid hg1
  have HFT := Lib.hid hfT
  have HOK := Lib.hid hok
  have HW1 := Lib.hid hW1
  rw [hW1] at C1
  clear hb hT hX hE1 hg1 hfT hok hW1 h
  go_enter Tryz.func6, Tryz.ntmps6
  go_wp2_with fail
  refine C1.out.mono ?_
  rw [← HW1.out]
  rintro e W2 ⟨bc, sv, rfl, hC2, hO2, hbc, _, hS2, hE2⟩
  have hE2 : Ext W1 W2 := hE2
  obtain ⟨sa, sc, vs, rfl, _, _, _, _⟩ := hO2.rows
  have hS2 : SesAt bc W2 sa T := hS2
  have C2 := Lib.hid (frun_any W2 b bt bx z S1 M N1 ((hE2.block b hbl).trans HB.out) (HT.out.ext hE2) bc z _ hC2 (by omega) (fun k hk => by have := HT.out.bound k hk; omega) hl)
  have HS2 := Lib.hid hS2
  have HE2 := Lib.hid hE2
  have HC2 := Lib.hid hC2.lt
  clear C1 hO2 hS2 hE2 hC2
  go_wp2_with fail
  refine C2.out.mono ?_
  rintro e W3 ⟨⟨nn, rfl⟩, hC3, hE3⟩
  obtain ⟨nv, hcb3, hO3⟩ := hC3
  obtain ⟨na, nc, rfl, hN3⟩ := nds_own hO3
  have hz3 := hE3.size
  have hbc3 := (Array.getElem?_eq_some_iff.1 hcb3).1
  have hS3 : SesAt W3.heap.size W3 sa T := fun i s hi => by
    obtain ⟨k, off, v, e, hk, hv, hc⟩ := HS2.out.below hE3 i s hi
    exact ⟨k, off, v, e, by omega, hv.imp (fun j hj => by omega) fun _ _ _ _ h => h, hc⟩
  have hfL := nds_fit HOK.out
  have C3 := Lib.hid (fimage_any W3 bc z sa na sc nc T (nds M) _ hcb3 hS3 hN3 HFT.out hfL hlT (by rw [nds_length]; exact hl))
  have HE3 := Lib.hid (HE2.out.trans' (hE3.mono (by omega)) : Ext W1 W3)
  clear C2 hcb3 hO3 hN3 hE3 hS3 hfL
  go_wp2_with fail
  refine C3.out.mono ?_
  rintro e W4 ⟨a, c, a', c', ws, ws', rfl, hR4, hR4', hE4⟩
  have hE4 : Ext W3 W4 := hE4
  have hg4 : W4.heap[w.heap.size]? = some (.cells #[.int .i64 0, .slice none 0 0, .slice none 0 0] 30 (0, 0)) := ((HE3.out.trans hE4).block _ (by omega)).trans HG1.out
  rw [nds_length]
  obtain ⟨cs, hcs⟩ : ∃ cs, cs = imgC z (.slice a T.length c) (.slice a' M.length c') := ⟨_, rfl⟩
  rw [← hcs]
  obtain ⟨Wf, hWf⟩ : ∃ Wf, Wf = W4.setRow w.heap.size cs := ⟨_, rfl⟩
  have hsf : Wf.heap.size = W4.heap.size := by rw [hWf]; simp [World.setRow]
  have hof : ∀ j, j ≠ w.heap.size → Wf.heap[j]? = W4.heap[j]? := fun j hj => by rw [hWf]; exact setRow_other _ _ _ _ hj
  have hgf : Wf.heap[w.heap.size]? = some (.cells cs 30 (0, 0)) := by rw [hWf]; exact setRow_heap _ _ _ _ _ _ hg4
  have hz14 := (HE3.out).size
  have hfin : FTakeOut M T z w (.returned (.tuple #[.agg cs, .int .i64 0])) Wf := by
    refine ⟨a, c, a', c', by rw [hcs], ?_, ?_, ((HE1.out.trans HE3.out).trans hE4).trans' ⟨by rw [hWf]; rfl, by rw [hWf]; rfl, by rw [hWf]; rfl, by omega, fun j hj => hof j (by omega)⟩⟩
    · have h : RowsSe (fun j => W3.heap.size ≤ j ∧ j < W4.heap.size) Wf a ws T := hR4.imp (fun _ h => h) fun j hj => hof j (by omega)
      exact h.ses fun j hj => by have := hj.2; omega
    · have h : RowsOf (fun j => W3.heap.size ≤ j ∧ j < W4.heap.size) Wf a' ws' (nds M) := hR4'.imp (fun _ h => h) fun j hj => hof j (by omega)
      exact h.nds fun j hj => by have := hj.2; omega
  have HFIN := Lib.hid hfin
  have HGF := Lib.hid hgf
  have HG4 := Lib.hid hg4
  have HCS := Lib.hid hcs
  have HWF := Lib.hid hWf
  clear C3 hfin hgf hof hg4 hE4 hR4 hR4' hcs hWf hsf
  go_wp2_with (refine wpList_store_row rfl 30 (.tmp 2) (.tmp 20) rfl w.heap.size _ rfl rfl 30 _ HG4.out (by rw [HCS.out]; exact sizeImg) (by rw [HCS.out]; rfl) (by rw [HCS.out]; exact cells_img _ _ _ _ _ _ _) ?_; rw [← HWF.out])
  (try go_wp2)
  refine bodyPost_ret (v := .tuple #[.agg cs, .int .i64 0]) ?_ rfl HFIN.out
  exact results_cell_row2 (p := 2) (q := 3) (ty := 30) rfl _ _ w.heap.size 30 cs (0, 0) _ _ rfl rfl HGF.out Tryz.underlying30 rfl (by rw [HCS.out]; exact sizeImg)
end Go.Proofs.YtclekhjnnljjlaaGreatDoor
namespace Go.Proofs.YtclekhjnnljjlaaGreatDoor
open Go.RowKit
set_option maxHeartbeats 8000000
set_option maxRecDepth 100000

theorem nodes_put {S S' : Nat → Prop} {w w2 w3 : World} {bn : Nat} {M : List (Key × Nd)} {N : Nat} {n : Nd} {v : Value} {m : List (Key × Value)} (hb : ∀ k, S k → k < w.heap.size) (hbn : bn < w.heap.size) (hNd : NodesAt S w bn M N) (hm : SMap Tryz.prog 9 w bn m) (hr : Rel2 (fun n v => NdS S w v n) M m)
    (he : Ext w w2) (hn : rightN n = 0) (h7 : NdS (fun b => w.heap.size ≤ b ∧ b < w2.heap.size) w2 v n) (hs3 : SMap Tryz.prog 9 w3 bn (mput m n.path.data.toList v)) (ht3 : w2.mapTurned w3 bn) (hS : ∀ k, S k → S' k) (hS2 : ∀ k, w.heap.size ≤ k → k < w3.heap.size → S' k) : NodesAt S' w3 bn (mput M (keyN n) n) (N + 1) := by
  have hz := turned_size ht3
  have hc : ∀ (b o : Nat) u, S b → w.cell? ⟨b, o, none⟩ = some u → w2.cell? ⟨b, o, none⟩ = some u := fun b o u hk hu => (he.cell (p := ⟨b, o, none⟩) (hb b hk)).trans hu
  have h2 := hNd.keep (S' := S') (he.block bn hbn) hS hc (Nat.le_refl N)
  exact h2.put hn (h7.imp (fun b hb => hS2 b hb.1 (by omega)) (fun _ _ _ _ h => h)) (hm.keep (he.block bn hbn)) (hr.imp fun _ _ _ hv => hv.imp hS hc) hs3 ht3

def lzC (bn bx : Nat) (z : Int) : Array Value := #[.map (some bn), .pointer (some ⟨bx, 0, none⟩), .int .i64 z]
/-- Nodes and sessions, loose, made behind a memory. -/
structure LzAt (w0 w : World) (bl bn bx bm : Nat) (z : Int) (S2 : Nat → Prop) (M : List (Key × Nd)) (N : Nat) (T : List Se) : Prop where
  blk : w.heap[bl]? = some (.cells (lzC bn bx z) 125 (0, 0))
  nodes : NodesAt (fun j => w0.heap.size ≤ j ∧ j < w.heap.size ∧ ¬ S2 j) w bn M N
  nb : w0.heap.size ≤ bn ∧ ¬ S2 bn
  tbl : TblAt S2 w bx bm T T.length
  sb : ∀ j, S2 j → w0.heap.size ≤ j
  ext : Ext w0 w
theorem LzAt.lt {w0 w : World} {bl bn bx bm : Nat} {z : Int} {S2 : Nat → Prop} {M : List (Key × Nd)} {N : Nat} {T : List Se} (h : LzAt w0 w bl bn bx bm z S2 M N T) : bn < w.heap.size := by
  obtain ⟨m, hm, _⟩ := h.nodes.ex
  exact hm.lt
theorem LzAt.grow {w0 w w' : World} {bl bn bx bm : Nat} {z : Int} {S2 : Nat → Prop} {M : List (Key × Nd)} {N : Nat} {T : List Se} (h : LzAt w0 w bl bn bx bm z S2 M N T) (hE : Ext w w') : LzAt w0 w' bl bn bx bm z S2 M N T :=
  ⟨(hE.block bl (Array.getElem?_eq_some_iff.1 h.blk).1).trans h.blk, h.nodes.keep (hE.block bn h.lt) (fun j hj => ⟨hj.1, Nat.lt_of_lt_of_le hj.2.1 hE.size, hj.2.2⟩) (fun b o u hb hu => (hE.cell (p := ⟨b, o, none⟩) hb.2.1).trans hu) (Nat.le_refl _), h.nb, h.tbl.ext hE, h.sb, h.ext.trans hE⟩
theorem LzAt.put {w0 w w2 w3 : World} {bl bn bx bm : Nat} {z : Int} {S2 : Nat → Prop} {M : List (Key × Nd)} {N : Nat} {T : List Se} (h : LzAt w0 w bl bn bx bm z S2 M N T) {n : Nd} {v : Value} {m : List (Key × Value)} (hm : SMap Tryz.prog 9 w bn m) (hr : Rel2 (fun n v => NdS (fun j => w0.heap.size ≤ j ∧ j < w.heap.size ∧ ¬ S2 j) w v n) M m)
    (he : Ext w w2) (hn : rightN n = 0) (h7 : NdS (fun b => w.heap.size ≤ b ∧ b < w2.heap.size) w2 v n) (hs3 : SMap Tryz.prog 9 w3 bn (mput m n.path.data.toList v)) (ht3 : w2.mapTurned w3 bn) : LzAt w0 w3 bl bn bx bm z S2 (mput M (keyN n) n) (N + 1) T := by
  have hz := turned_size ht3
  have hz2 := he.size
  have hM : Mod (fun j => j = bn) w w3 := (Mod.of_ext he).trans (Mod.turned ht3 rfl)
  have hzw := h.ext.size
  refine ⟨hM.cells h.blk, nodes_put (fun k hk => hk.2.1) h.lt h.nodes hm hr he hn h7 hs3 ht3 (fun k hk => ⟨hk.1, by omega, hk.2.2⟩) (fun k h1 h2 => ⟨by omega, h2, fun hs => by have := h.tbl.bound k hs; omega⟩), h.nb, h.tbl.keep (fun k hk => ?_) (fun _ h => h) (fun k hk => by have := h.tbl.bound k hk; omega) (Nat.le_refl _), h.sb, h.ext.trans' (hM.below (fun k hk => by have : k = bn := hk; have := h.nb.1; omega) hzw)⟩
  have hkl := h.tbl.bound k hk
  rw [hM.same k _ (Array.getElem?_eq_getElem hkl) (.inl (fun e => by have : k = bn := e; exact h.nb.2 (this ▸ hk))), Array.getElem?_eq_getElem hkl]
theorem LzAt.opened {w0 w w' : World} {bl bn bx bm : Nat} {z : Int} {S2 : Nat → Prop} {M : List (Key × Nd)} {N : Nat} {T : List Se} {s : Se} (h : LzAt w0 w bl bn bx bm z S2 M N T) (hT : TblAt (fun k => S2 k ∨ (w.heap.size ≤ k ∧ k < w'.heap.size)) w' bx bm (topenL T s) (T.length + 1)) (hM : Mod S2 w w') : LzAt w0 w' bl bn bx bm z (fun k => S2 k ∨ (w.heap.size ≤ k ∧ k < w'.heap.size)) M N (topenL T s) := by
  have hzw := h.ext.size
  have hnl := h.lt
  refine ⟨hM.cells h.blk, h.nodes.keep ?_ (fun j hj => ⟨hj.1, Nat.lt_of_lt_of_le hj.2.1 hM.size, fun hs => ?_⟩) (fun b o u _ hu => hM.cell hu) (Nat.le_refl _), ⟨h.nb.1, fun hs => ?_⟩, hT.self, fun j hj => ?_, h.ext.trans' (hM.below h.sb hzw)⟩
  · rw [hM.same bn _ (Array.getElem?_eq_getElem hnl) (.inl h.nb.2), Array.getElem?_eq_getElem hnl]
  · rcases hs with hs | hs
    · exact hj.2.2 hs
    · have := hj.2.1; omega
  · rcases hs with hs | hs
    · exact h.nb.2 hs
    · omega
  · rcases hj with hj | hj
    · exact h.sb j hj
    · omega
/-- Nodes and sessions, loose. -/
def LooseAt (w : World) (bl : Nat) (M : List (Key × Nd)) (T : List Se) (z : Int) : Prop := ∃ w0 bn bx bm S2 N, LzAt w0 w bl bn bx bm z S2 M N T
def LoosenOut (M : List (Key × Nd)) (T : List Se) (z : Int) (w : World) (e : Ending) (w' : World) : Prop :=
  ∃ bl, e = .returned (.tuple #[.pointer (some ⟨bl, 0, none⟩), .int .i64 0, .int .i64 0]) ∧ LooseAt w' bl M T z ∧ Ext w w'

theorem openIx_step (T : List Se) (A : List Se) (k i : Nat) (h : k < A.length) : openIx T (A.drop k) i = if topenE T A[k] ≠ 0 then .error (i, topenE T A[k]) else openIx (tins A[k] T) (A.drop (k + 1)) (i + 1) := by
  rw [List.drop_eq_getElem_cons h]
  rfl
/-- What holds while a session is opened. -/
def GL (w0 : World) (bl bn bx bm g : Nat) (z : Int) (M : List (Key × Nd)) (N : Nat) (T : List Se) (s : Se) (cs : Array Value) (d : Nat → Bool) (W : World) : Prop :=
  (∃ S2, LzAt w0 W bl bn bx bm z S2 M N (if d 5 = true then topenL T s else T)) ∧ W.heap[g]? = some (.cells cs 62 (0, 0))
theorem GL.ext {w0 : World} {bl bn bx bm g : Nat} {z : Int} {M : List (Key × Nd)} {N : Nat} {T : List Se} {s : Se} {cs : Array Value} {i : Nat} (h5 : i ≠ 5) : ∀ d d' W W', GL w0 bl bn bx bm g z M N T s cs d W → Ext W W' → (∀ k, k ≠ i → d' k = d k) → GL w0 bl bn bx bm g z M N T s cs d' W' := fun d d' W W' ⟨⟨S2, h1⟩, h2⟩ hE hd => by
  unfold GL
  rw [hd 5 (fun e => h5 e.symm)]
  exact ⟨⟨S2, h1.grow hE⟩, (hE.block g (Array.getElem?_eq_some_iff.1 h2).1).trans h2⟩

def PhiZ (B g bl bn : Nat) (n : Nd) (cs : Array Value) : Nat → Value → World → Prop
  | 0, v, _ => v = .pointer (some ⟨bl, 0, none⟩)
  | 1, v, _ => v = .pointer (some ⟨bl, 0, none⟩)
  | 2, v, _ => v = .pointer (some ⟨bl, 0, none⟩)
  | 3, v, _ => v = .map (some bn)
  | 4, v, _ => v = .pointer (some ⟨g, 0, none⟩)
  | 5, v, _ => v = .string n.path
  | 6, v, _ => v = .agg cs
  | 7, v, w => NdS (fun b => B ≤ b ∧ b < w.heap.size) w v n
  | _, _, _ => True
theorem PhiZ.stab (B g bl bn : Nat) (n : Nd) (cs : Array Value) (i : Nat) (v : Value) (w w' : World) (h : PhiZ B g bl bn n cs i v w) (he : Ext w w') : PhiZ B g bl bn n cs i v w' := by
  unfold PhiZ at h ⊢
  split at h <;> first | exact h | exact h.imp (fun b hb => ⟨hb.1, Nat.lt_of_lt_of_le hb.2 he.size⟩) (fun b o u hb hu => (he.cell (p := ⟨b, o, none⟩) hb.2).trans hu)
theorem loosen_any (L : List Nd) (a : Option Addr) (c : Nat) (A : List Se) (sa : Option Addr) (sc : Nat) (z : Int) (w : World) (M : List (Key × Nd)) (T : List Se) (hz : 0 ≤ z) (hfL : fromL L 0 [] = .ok M) (hop : openIx [] A 0 = .ok T) (hT : Tabs w) (hX : Txt6 w) (hL : NdsAt w.heap.size w a L) (hf : ∀ n ∈ L, Fit n) (hl : L.length * 168 ≤ 140737488355328) (hA : SesAt w.heap.size w sa A) (hfA : ∀ s ∈ A, FitS s) (hlA : A.length * 40 ≤ 140737488355328) :
    Calls Tryz.prog 27 #[.slice a L.length c, .slice sa A.length sc, .int .i64 z] w (LoosenOut M T z w) := by
  have d1 : decide (z < 0) = false := decide_eq_false (by omega)
  have hl64 : L.length ≤ 9223372036854775807 := by omega
  have hl64' : A.length ≤ 9223372036854775807 := by omega
  obtain ⟨W1, hW1⟩ : ∃ W1, W1 = w.alloc (.map #[] 0) := ⟨_, rfl⟩
  have hE1 : Ext w W1 := by rw [hW1]; exact Ext.alloc _ _
  have hz1 : W1.heap.size = w.heap.size + 1 := by rw [hW1]; simp
  have hm1 : SMap Tryz.prog 9 W1 w.heap.size [] := by rw [hW1]; exact SMap.made Tryz.prog 9 w
  have C1 := Lib.hid (snew_any W1)
  have hmm := @run_makeMap Tryz.prog
  have HL := Lib.hid hL
  have HF := Lib.hid hf
  have HA := Lib.hid hA
  have HFA := Lib.hid hfA
  have HT := Lib.hid hT
  have HX := Lib.hid hX
  have HE1 := Lib.hid hE1
  have HM1 := Lib.hid hm1
  have HFL := Lib.hid hfL
  have HOP := Lib.hid hop
  have HW1 := Lib.hid hW1
  rw [hW1] at C1
  clear hL hf hA hfA hT hX hE1 hm1 hfL hop hW1 hz
  go_enter Tryz.func27, Tryz.ntmps27
  go_wp2_with fail
  refine C1.out.mono ?_
  rw [← HW1.out]
  rintro e W2 ⟨bx, bm, rfl, hU, hE2⟩
  have hE2 : Ext W1 W2 := hE2
  obtain ⟨W3, hW3⟩ : ∃ W3, W3 = W2.alloc (.cells (lzC w.heap.size bx z) 125) := ⟨_, rfl⟩
  have hE3 : Ext W2 W3 := by rw [hW3]; exact Ext.alloc _ _
  have hz3 : W3.heap.size = W2.heap.size + 1 := by rw [hW3]; simp
  have hz2 := hE2.size
  have hLz : LzAt w W3 W2.heap.size w.heap.size bx bm z (fun k => W1.heap.size ≤ k ∧ k < W2.heap.size) [] 0 [] :=
    ⟨by rw [hW3]; exact heap_alloc_new _ _, ⟨⟨[], HM1.out.keep ((hE2.trans hE3).block _ (by omega)), .nil⟩, MOk.nil, Nat.le_refl _⟩, ⟨Nat.le_refl _, fun h => by have := h.1; omega⟩, hU.ext hE3, fun j hj => by have := hj.1; omega, (HE1.out.trans hE2).trans hE3⟩
  have HLz := Lib.hid hLz
  have HW3 := Lib.hid hW3
  obtain ⟨bl, hbl⟩ : ∃ bl, bl = W2.heap.size := ⟨_, rfl⟩
  rw [← hbl] at HLz
  unfold lzC at HW3
  clear C1 hU hE2 hE3 hLz hW3 hmm
  go_wp2
  rw [← HW3.out, ← hbl]
  clear hbl
  go_loopw [27] (fun i wr => ∃ (k : Nat) (M' : List (Key × Nd)), k ≤ L.length ∧ i = .int .i64 k ∧ Hid (fromL L 0 [] = fromL (L.drop k) k M') ∧ Hid (∃ S2, LzAt w wr bl w.heap.size bx bm z S2 M' k [])) (fun i _ => L.length - (intOf i).toNat)
  case atStart => exact ⟨0, [], Nat.zero_le _, rfl, rfl, ⟨_, HLz.out⟩⟩
  case round =>
    obtain ⟨k, M', hk, rfl, HF1, HLr⟩ := hrel
    obtain ⟨S2, hLr⟩ := HLr.out
    have hB := hLr.ext
    by_cases hlt : k < L.length
    · have hLk : L[k]? = some L[k] := List.getElem?_eq_getElem hlt
      have hfk := HF.out L[k] (List.getElem_mem hlt)
      have hS := HF1.out.trans (fromL_step L k L[k] M' hLk)
      rw [HFL.out] at hS
      obtain ⟨b, off, v, rfl, hb, hv, hc⟩ := HL.out k L[k] hLk
      generalize L[k] = n at *
      have hr : rightN n = 0 := by
        by_cases hr : rightN n = 0
        · exact hr
        · rw [if_pos hr] at hS; cases hS
      have hgn : mget M' n.path.data.toList = none := by
        rw [if_neg (by rw [hr]; simp)] at hS
        cases hg : mget M' n.path.data.toList with
        | none => rfl
        | some y => rw [if_pos (by unfold keyN; rw [hg]; rfl)] at hS; cases hS
      have hS3 : fromL L 0 [] = fromL (L.drop (k + 1)) (k + 1) (mput M' (keyN n) n) := by
        rw [HFL.out, hS, if_neg (by rw [hr]; simp), if_neg (by unfold keyN; rw [hgn]; simp)]
      obtain ⟨da, dc, aa, ac, rfl, hD, hA⟩ := hv
      have hcw : ∀ j u, (ndC n (.slice da n.data.length dc) (.slice aa n.acl.length ac))[j]? = some u → wr.cell? ((⟨b, off + k * 17, none⟩ : Addr).add j) = some u := fun j u hj => by
        rw [addr_add, hB.cell (p := ⟨b, off + k * 17 + j, none⟩) hb]
        exact hc j u hj
      obtain ⟨W5, hW5⟩ : ∃ W5, W5 = wr.alloc (.cells (ndC n (.slice da n.data.length dc) (.slice aa n.acl.length ac)) 88) := ⟨_, rfl⟩
      have hE5 : Ext wr W5 := by rw [hW5]; exact Ext.alloc _ _
      have hn5 : W5.heap[wr.heap.size]? = some (.cells (ndC n (.slice da n.data.length dc) (.slice aa n.acl.length ac)) 88 (0, 0)) := by rw [hW5]; exact heap_alloc_new wr _
      have hz5 : W5.heap.size = wr.heap.size + 1 := by rw [hW5]; simp
      have hD5 := (hD.ext hB).ext hE5
      have hA5 := (hA.ext hB).ext hE5
      have CR := Lib.hid (right_any n da aa dc ac W5 hfk (HT.out.ext6 (hB.trans hE5)) hA5)
      have HC := Lib.hid hcw
      have HN5 := Lib.hid hn5
      have HSET := Lib.hid ((setRow_alloc wr zeroNd (ndC n (.slice da n.data.length dc) (.slice aa n.acl.length ac)) 88).trans hW5.symm)
      have HNew := Lib.hid (heap_alloc_new wr (.cells zeroNd 88))
      have HL5 := Lib.hid (hLr.grow hE5)
      have HS3 := Lib.hid hS3
      have HD5 := Lib.hid hD5
      have HA5 := Lib.hid hA5
      have HR := Lib.hid hr
      have HGN := Lib.hid hgn
      have hfit := (right_fit hr).1
      have hvp := right_vpath hr
      have hps : n.path.size ≤ maxLen := by
        have := (vpath_facts hvp).2.1
        unfold maxLen; omega
      unfold ndC at HC HSET CR
      unfold zeroNd at HSET HNew
      rw [hr] at CR
      clear hcw hn5 hW5 hE5 hc hD hA hD5 hA5 hS hS3 hr hgn hB hLr HLr HF1
      go_wp2_with (first | (refine wpList_load_at rfl 88 (.tmp 30) rfl _ rfl _ _ HC.out Tryz.underlying88 rfl sizeNd ?_) | (refine wpList_store_row rfl 88 (.tmp 11) (.tmp 31) rfl wr.heap.size _ rfl rfl 88 _ HNew.out sizeNd rfl (cells_node n da aa _ _ dc ac) ?_; rw [HSET.out]) | (refine wpList_load_row rfl 88 (.tmp 11) rfl wr.heap.size rfl 88 _ (0, 0) _ HN5.out Tryz.underlying88 rfl sizeNd ?_))
      refine CR.out.mono ?_
      rintro e W6 ⟨rfl, hE6⟩
      have hE6 : Ext W5 W6 := hE6
      have hn6 := (hE6.block wr.heap.size (by omega)).trans HN5.out
      have hL6 := HL5.out.grow hE6
      have hblk6 := hL6.blk
      have hnd6 := hL6.nodes
      have HL6 := Lib.hid hL6
      have HE6 := Lib.hid hE6
      clear CR hE6 hL6
      go_wp2
      refine there_regionL _ _ _ _ _ _ _ _ _ _ _ _ 9 11 _ 78 rfl (by decide) (by decide) (by decide) hblk6 rfl hnd6 wr.heap.size n.path _ hn6 rfl hps rfl rfl ?_
      intro v0 v1 v2 v3 v4 v5 v6 v7 v8 v9 v10 w7 hE7
      rw [HGN.out]
      simp only [Act.put]
      go_simp
      rename_i hK
      refine hK _ _ ?_
      clear hK
      have hL7 := HL6.out.grow hE7
      obtain ⟨m, hm7, hr7⟩ := hL7.nodes.ex
      have hn7 := (hE7.block wr.heap.size (Array.getElem?_eq_some_iff.1 hn6).1).trans hn6
      have hblk7 := hL7.blk
      have hE57 := HE6.out.trans hE7
      have HD7 := Lib.hid (HD5.out.ext hE57)
      have HA7 := Lib.hid (HA5.out.ext hE57)
      have HL7 := Lib.hid hL7
      have HR7 := Lib.hid hr7
      have HM7 := Lib.hid hm7
      have hnl7 := hm7.lt
      have hML := hL7.nodes.len
      have hz57 := hE57.size
      clear hL7 hr7 hm7 hE7 hE57 hn6 hblk6 hnd6
      go_wp2
      have hen := fun (f : FuncId) (fn : Func) (c : Code) (hf : Tryz.prog.funcs[f]? = some fn) (hname : (fn.name == "runtime.NumGoroutine") = false) (hb : fn.body = some c) => enters_f hf hname hb
      refine wp_region_last_e 78 (by kernel_rfl) (PhiZ w7.heap.size wr.heap.size bl w.heap.size n (ndC n (.slice da n.data.length dc) (.slice aa n.acl.length ac))) (PhiZ.stab _ _ _ _ _ _) (by decide) rfl 8 _ rfl rfl rfl rfl ?_ ?fin
      · refine ⟨?_, ?_, ?_, ?_, ?_, ?_, ?_, ?_, trivial⟩
        · exact duty_free rfl fun a w' hE hF hA => wp_value (w' := w') (ex_move rfl) ⟨_, rfl, hF.slot 9 _ (by decide) rfl, Ext.refl _⟩
        · refine duty_free rfl fun a w' hE hF hA => ?_
          have x1 : a.eval (.tmp 50) = _ := hA.slot 0 50 rfl rfl ⟨⟨0, .data⟩, by simp, rfl, rfl⟩
          exact wp_value (ex_nilCheck rfl _ x1) ⟨_, rfl, rfl, Ext.refl _⟩
        · refine duty_free rfl fun a w' hE hF hA => ?_
          have x1 : a.eval (.tmp 51) = _ := hA.slot 1 51 rfl rfl ⟨⟨1, .data⟩, by simp, rfl, rfl⟩
          exact wp_value (v := .pointer (some ⟨bl, 0, none⟩)) (w' := w') (by simp only [execOp, x1]; simp [go_sem]) ⟨_, rfl, rfl, Ext.refl _⟩
        · refine duty_free rfl fun a w' hE hF hA => ?_
          have x1 : a.eval (.tmp 52) = _ := hA.slot 2 52 rfl rfl ⟨⟨2, .data⟩, by simp, rfl, rfl⟩
          refine wp_value (ex_cell rfl _ (.map (some w.heap.size)) x1 ?_ rfl Tryz.underlying92) ⟨_, rfl, rfl, Ext.refl _⟩
          rw [cell_of_row w' bl 0 _ _ _ ((hE.block bl (Array.getElem?_eq_some_iff.1 hblk7).1).trans hblk7)]
          rfl
        · refine duty_free rfl fun a w' hE hF hA => ?_
          have x1 : a.eval (.tmp 11) = _ := hF.slot 11 (.pointer (some ⟨wr.heap.size, 0, none⟩)) (by decide) rfl
          exact wp_value (v := .pointer (some ⟨wr.heap.size, 0, none⟩)) (w' := w') (by simp only [execOp, x1]; simp [go_sem]) ⟨_, rfl, rfl, Ext.refl _⟩
        · refine duty_free rfl fun a w' hE hF hA => ?_
          have x1 : a.eval (.tmp 54) = _ := hA.slot 4 54 rfl rfl ⟨⟨4, .data⟩, by simp, rfl, rfl⟩
          refine wp_value (ex_cell rfl _ (.string n.path) x1 ?_ rfl Tryz.underlying9) ⟨_, rfl, rfl, Ext.refl _⟩
          exact cell_of_row w' wr.heap.size 0 _ _ _ ((hE.block wr.heap.size (Array.getElem?_eq_some_iff.1 hn7).1).trans hn7)
        · refine duty_free rfl fun a w' hE hF hA => ?_
          have x1 : a.eval (.tmp 11) = _ := hF.slot 11 (.pointer (some ⟨wr.heap.size, 0, none⟩)) (by decide) rfl
          exact wp_value (ex_load_row rfl wr.heap.size x1 88 _ (0, 0) _ ((hE.block wr.heap.size (Array.getElem?_eq_some_iff.1 hn7).1).trans hn7) Tryz.underlying88 rfl sizeNd) ⟨_, rfl, rfl, Ext.refl _⟩
        · refine duty_free rfl fun a w' hE hF hA => ?_
          have x1 : a.eval (.tmp 56) = _ := hA.slot 6 56 rfl rfl ⟨⟨6, .data⟩, by simp, rfl, rfl⟩
          refine wp_enter (ex_call rfl (hen _ _ _ Tryz.func52 (by kernel_rfl) rfl)) (by simp only [List.map_toArray, List.map_cons, List.map_nil, x1]; exact sclone_nd n da aa dc ac w' hfit (HD7.out.ext hE) (HA7.out.ext hE)) ?_
          rintro e w4 ⟨v, rfl, hv, hb⟩
          exact ⟨_, rfl, v, rfl, hv.imp (fun b hb' => ⟨by have := hE.size; omega, hb'.2⟩) (fun _ _ _ _ h => h), hb⟩
      case fin =>
        intro us w2 hE hl hP
        obtain ⟨u0, u1, u2, u3, u4, u5, u6, u7, rfl⟩ := us8 us hl
        obtain rfl : u3 = .map (some w.heap.size) := hP 3 _ rfl
        obtain rfl : u5 = .string n.path := hP 5 _ rfl
        have h7 : NdS (fun b => w7.heap.size ≤ b ∧ b < w2.heap.size) w2 u7 n := hP 7 _ rfl
        clear hP hl hen
        have hm2 : SMap Tryz.prog 9 w2 w.heap.size m := HM7.out.keep (hE.block w.heap.size hnl7)
        have q1 : m.length < maxLen := by
          have := HR7.out.length
          unfold maxLen; omega
        have hQ := SMap.store hm2 strT Tryz.underlying92 q1 hps u7
        have hQ1 := hQ.choose_spec
        generalize hQ.choose = w3 at hQ1
        have hrun := hQ1.1
        have HFIN := Lib.hid (HL7.out.put HM7.out HR7.out hE HR.out h7 hQ1.2.1 hQ1.2.2)
        clear hQ1 hQ hm2 hE h7 hn7 hblk7
        simp only [filled, List.take_succ_cons, List.take_zero, List.zip_cons_cons, List.zip_nil_right, List.foldl_cons, List.foldl_nil, Act.put]
        go_simp
        rename_i hK kk
        refine hK _ _ ?_
        clear hrun hK
        go_wp2
        go_roundw
        case rel => exact ⟨k + 1, _, by omega, by go_num, HS3.out, ⟨_, HFIN.out⟩⟩
        case measure => simp [intOf]; omega
    · obtain rfl : k = L.length := by omega
      have hMM : M' = M := by
        have := HF1.out
        rw [HFL.out, List.drop_length] at this
        unfold fromL at this
        cases this; rfl
      subst hMM
      clear HF1 HFL hlt hk
      have HLz1 := Lib.hid (show LzAt w wr bl w.heap.size bx bm z S2 M' L.length [] from hLr)
      clear hLr HLr hB
      obtain ⟨W4, hW4⟩ : ∃ W4, W4 = wr := ⟨_, rfl⟩
      subst hW4
      go_wp2
      go_loopw [61] (fun i wr => ∃ (k : Nat) (T' : List Se), k ≤ A.length ∧ i = .int .i64 k ∧ Hid (openIx [] A 0 = openIx T' (A.drop k) k) ∧ T'.length ≤ k ∧ Hid (∃ S2, LzAt w wr bl w.heap.size bx bm z S2 M' L.length T')) (fun i _ => A.length - (intOf i).toNat)
      case atStart => exact ⟨0, [], Nat.zero_le _, rfl, rfl, Nat.le_refl _, ⟨_, HLz1.out⟩⟩
      case round =>
        obtain ⟨k, T', hk, rfl, HO1, hTl, HLr⟩ := hrel
        obtain ⟨S3, hLr⟩ := HLr.out
        have hB := hLr.ext
        by_cases hlt : k < A.length
        · have hS := HO1.out.trans (openIx_step T' A k k hlt)
          rw [HOP.out] at hS
          obtain ⟨bo, off, v, rfl, hb, hv, hc⟩ := HA.out k A[k] (List.getElem?_eq_getElem hlt)
          have hfit := HFA.out A[k] (List.getElem_mem hlt)
          generalize A[k] = s at *
          have h0 : topenE T' s = 0 := by
            by_cases h : topenE T' s = 0
            · exact h
            · rw [if_pos h] at hS; cases hS
          have hS3 : openIx [] A 0 = openIx (topenL T' s) (A.drop (k + 1)) (k + 1) := by
            rw [HOP.out, hS, if_neg (by simpa using h0)]
            unfold topenL
            rw [if_pos h0]
          obtain ⟨ia, ic, rfl, hic, hI⟩ := hv
          have hcw : ∀ j u, (seC s (.slice ia s.ids.length ic))[j]? = some u → wr.cell? ((⟨bo, off + k * 3, none⟩ : Addr).add j) = some u := fun j u hj => by
            rw [addr_add, hB.cell (p := ⟨bo, off + k * 3 + j, none⟩) hb]
            exact hc j u hj
          have hIw : Cells w.heap.size w ia (idCs s.ids) := CellsS.cells (B := w.heap.size) hI fun _ h => h
          obtain ⟨W5, hW5⟩ : ∃ W5, W5 = wr.alloc (.cells (seC s (.slice ia s.ids.length ic)) 62) := ⟨_, rfl⟩
          have hE5 : Ext wr W5 := by rw [hW5]; exact Ext.alloc _ _
          have hn5 : W5.heap[wr.heap.size]? = some (.cells (seC s (.slice ia s.ids.length ic)) 62 (0, 0)) := by rw [hW5]; exact heap_alloc_new _ _
          have HG0 : Hid (GL w bl w.heap.size bx bm wr.heap.size z M' L.length T' s (seC s (.slice ia s.ids.length ic)) (fun _ => false) W5.drew) := by
            have h0 : GL w bl w.heap.size bx bm wr.heap.size z M' L.length T' s (seC s (.slice ia s.ids.length ic)) (fun _ => false) W5 := ⟨⟨S3, by simp only [Bool.false_eq_true, if_false]; exact hLr.grow hE5⟩, hn5⟩
            exact GL.ext (i := 99) (by decide) _ _ _ _ h0 (Ext.drew _) fun _ _ => rfl
          have HC := Lib.hid hcw
          have HIW := Lib.hid hIw
          have HSET := Lib.hid ((setRow_alloc wr zeroSe (seC s (.slice ia s.ids.length ic)) 62).trans hW5.symm)
          have HNEW := Lib.hid (heap_alloc_new wr (.cells zeroSe 62))
          have HFIT := Lib.hid hfit
          have HS3 := Lib.hid hS3
          have HH0 := Lib.hid h0
          unfold seC at HC HSET
          unfold zeroSe at HSET HNEW
          clear hcw hIw hE5 hW5 hn5 hI hc hfit hS hS3 h0 hB hLr HLr HO1
          go_wp2_with (first | (refine wpList_load_at rfl 62 (.tmp 64) rfl _ rfl _ _ HC.out Tryz.underlying62 rfl sizeSe ?_) | (refine wpList_store_row rfl 62 (.tmp 16) (.tmp 65) rfl wr.heap.size _ rfl rfl 62 _ HNEW.out sizeSe rfl (cells_se s ia _ ic) ?_; rw [HSET.out]))
          refine wp_region_P (by kernel_rfl) (region_state_vals 78 (GL w bl w.heap.size bx bm wr.heap.size z M' L.length T' s (seC s (.slice ia s.ids.length ic))) HG0.out [.pointer (some ⟨bl, 0, none⟩), .pointer (some ⟨bl, 0, none⟩), .pointer (some ⟨bl, 1, none⟩), .pointer (some ⟨bx, 0, none⟩), .agg (seC s (.slice ia s.ids.length ic)), .int .i64 0, .int .i64 0] rfl (by decide) rfl ?duties ?rest)
          case duties =>
            refine ⟨?_, ?_, ?_, ?_, ?_, ?_, ?_, trivial⟩
            · refine dutyS_ext (GL.ext (by decide)) fun d a w' hG hF hA => ?_
              have x1 := hF.slot 9 _ (by decide) rfl
              exact wp_value (w' := w') (v := .pointer (some ⟨bl, 0, none⟩)) (by simp only [execOp, x1]; simp [go_sem]) ⟨_, rfl, rfl, Ext.refl _⟩
            · refine dutyS_ext (GL.ext (by decide)) fun d a w' hG hF hA => ?_
              have x1 := hA.val 0 66 rfl rfl ⟨⟨0, .data⟩, by simp, rfl, rfl⟩ rfl
              exact wp_value (ex_nilCheck rfl _ x1) ⟨_, rfl, rfl, Ext.refl _⟩
            · refine dutyS_ext (GL.ext (by decide)) fun d a w' hG hF hA => ?_
              have x1 := hA.val 1 67 rfl rfl ⟨⟨1, .data⟩, by simp, rfl, rfl⟩ rfl
              exact wp_value (w' := w') (v := .pointer (some ⟨bl, 1, none⟩)) (by simp only [execOp, x1]; simp [go_sem]) ⟨_, rfl, rfl, Ext.refl _⟩
            · refine dutyS_ext (GL.ext (by decide)) fun d a w' hG hF hA => ?_
              have x1 := hA.val 2 68 rfl rfl ⟨⟨2, .data⟩, by simp, rfl, rfl⟩ rfl
              obtain ⟨⟨S2, hLz⟩, _⟩ := hG
              exact wp_value (ex_cell rfl _ (.pointer (some ⟨bx, 0, none⟩)) x1 (cell_of_row _ _ _ _ _ _ hLz.blk) rfl Tryz.underlying55) ⟨_, rfl, rfl, Ext.refl _⟩
            · refine dutyS_ext (GL.ext (by decide)) fun d a w' hG hF hA => ?_
              have x1 := hF.slot 16 _ (by decide) rfl
              exact wp_value (ex_load_row rfl _ x1 62 _ (0, 0) _ hG.2 Tryz.underlying62 rfl sizeSe) ⟨_, rfl, rfl, Ext.refl _⟩
            · intro d a w' hdi _ _ hG hF hA
              have x1 := hA.val 3 69 rfl rfl ⟨⟨3, .data⟩, by simp, rfl, rfl⟩ rfl
              have x2 := hA.val 4 70 rfl rfl ⟨⟨4, .data⟩, by simp, rfl, rfl⟩ rfl
              have hd : d 5 = false := hdi
              obtain ⟨⟨S2, hLz⟩, hbx⟩ := hG
              simp only [hd, Bool.false_eq_true, if_false] at hLz
              have hEw' := hLz.ext
              refine wp_enter (ex_call rfl (enters_f Tryz.func20 (by kernel_rfl) rfl)) (by simp only [List.map_toArray, List.map_cons, List.map_nil, x1, x2]; exact sopen_any S2 w' bx bm T' T'.length hLz.tbl s ia ic HFIT.out (HIW.out.ext hEw') (HT.out.ext6 hEw') (HX.out.ext hEw') hic (by omega)) ?_
              rintro e w4 ⟨rfl, hU4, hM4⟩
              refine ⟨_, rfl, _, rfl, by rw [HH0.out]; rfl, ?_⟩
              have e1 : (d 5 || (5 : Nat) == 5) = true := by simp
              show GL _ _ _ _ _ _ _ _ _ _ _ _ (fun k => d k || k == 5) w4
              unfold GL
              simp only [e1, if_true]
              exact ⟨⟨_, hLz.opened hU4 hM4⟩, hM4.cells hbx⟩
            · refine dutyS_ext (GL.ext (by decide)) fun d a w' hG hF hA => ?_
              have x1 := hA.val 5 71 rfl rfl ⟨⟨5, .data⟩, by simp, rfl, rfl⟩ rfl
              exact wp_value (w' := w') (v := .int .i64 0) (by simp only [execOp, x1]; simp [go_sem]) ⟨_, rfl, rfl, Ext.refl _⟩
          case rest =>
            intro d W9 hdn hG9
            have hG9' := hG9.1
            simp only [hdn 5 (by decide), if_true] at hG9'
            have HFIN := Lib.hid hG9'
            have hlen : (topenL T' s).length ≤ k + 1 := by
              have := topenL_length T' s
              omega
            clear hG9 hG9' hdn
            simp only [filled, List.zip_cons_cons, List.zip_nil_left, List.zip_nil_right, List.foldl_cons, List.foldl_nil, Act.put]
            go_simp
            rename_i hK
            refine hK _ _ ?_
            clear hK
            go_wp2
            go_roundw
            case rel => exact ⟨k + 1, _, by omega, by go_num, HS3.out, hlen, HFIN.out⟩
            case measure => simp [intOf]; omega
        · obtain rfl : k = A.length := by omega
          have hTT : T' = T := by
            have := HO1.out
            rw [HOP.out, List.drop_length] at this
            unfold openIx at this
            cases this; rfl
          subst hTT
          have HFIN := Lib.hid (show LoosenOut M' T' z w (.returned (.tuple #[.pointer (some ⟨bl, 0, none⟩), .int .i64 0, .int .i64 0])) wr from ⟨bl, rfl, ⟨w, w.heap.size, bx, bm, S3, L.length, hLr⟩, hB⟩)
          clear HO1 HOP hLr HLr hB
          go_wp2
          go_ret3
          exact HFIN.out
end Go.Proofs.YtclekhjnnljjlaaGreatDoor
