/- The walk of tree.From. -/
import Derived.Test.YtfgjbcejpjcpeaaDoorNds
import Derived.Test.YtfgjbcejpjcpeaaDoorThere
namespace Go.Proofs.YtfgjbcejpjcpeaaDoor
open Go.RowKit
set_option maxHeartbeats 2000000
set_option maxRecDepth 100000

theorem world_ext {u v : World} (h1 : u.heap = v.heap) (h2 : u.tape = v.tape) (h3 : u.drawn = v.drawn) (h4 : u.os = v.os) (h5 : u.output = v.output) : u = v := by
  cases u; cases v; simp_all
theorem setRow_alloc (w : World) (z cs : Array Value) (t : TypeId) : (w.alloc (.cells z t)).setRow w.heap.size cs = w.alloc (.cells cs t) := by
  refine world_ext ?_ rfl rfl rfl rfl
  apply Array.ext_getElem?
  intro i
  by_cases h : i = w.heap.size
  · subst h
    rw [setRow_heap _ _ _ _ _ _ (heap_alloc_new w (.cells z t)), heap_alloc_new]
  · rw [setRow_other _ _ _ _ h]
    show (w.heap.push _)[i]? = (w.heap.push _)[i]?
    rw [Array.getElem?_push, Array.getElem?_push, if_neg h, if_neg h]

def FromOut (L : List Nd) (w : World) (e : Ending) (w' : World) : Prop :=
  match fromN L with
  | .error (i, x) => e = .returned (.tuple #[.pointer none, .int .i64 i, .int .i64 x]) ∧ Ext w w'
  | .ok M => ∃ b, e = .returned (.tuple #[.pointer (some ⟨b, 0, none⟩), .int .i64 0, .int .i64 0]) ∧ TreeAt (fun k => w.heap.size ≤ k ∧ k < w'.heap.size) w' b M L.length ∧ Ext w w'

theorem fromOut_err {L : List Nd} {w w' : World} {i : Nat} {x : Int} (h : fromN L = .error (i, x)) (hb : Ext w w') : FromOut L w (.returned (.tuple #[.pointer none, .int .i64 i, .int .i64 x])) w' := by
  unfold FromOut; rw [h]; exact ⟨rfl, hb⟩

theorem from_any (L : List Nd) (a : Option Addr) (c : Nat) (w : World) (hT0 : Tabs w) (hL : NdsAt w.heap.size w a L) (hf : ∀ n ∈ L, Fit n) (hl : L.length ≤ 140737488355328) : Calls Tryd.prog 11 #[.slice a L.length c] w (FromOut L w) := by
  have hz := emptyW_size w
  have hE := emptyW_ext w
  have hTr := tree_empty w
  have hmm := @run_makeMap Tryd.prog
  obtain ⟨W1, hW1⟩ : ∃ W1, W1 = emptyW w := ⟨_, rfl⟩
  rw [← hW1] at hz hE hTr
  have HW1 := Lib.hid hW1
  unfold emptyW treeC at HW1
  have hl2 : L.length ≤ 9223372036854775807 := by omega
  clear hW1
  go_enter Tryd.func11, Tryd.ntmps11
  go_wp2
  rw [← HW1.out]
  clear hmm
  go_loopw [25] (fun i wr => ∃ (k : Nat) (M : List (Key × Nd)), k ≤ L.length ∧ i = .int .i64 k ∧ Hid (fromL L 0 [] = fromL (L.drop k) k M) ∧ TreeAt (fun b => w.heap.size ≤ b ∧ b < wr.heap.size) wr (w.heap.size + 1 + 1) M k ∧ Below w.heap.size w wr) (fun i _ => L.length - (intOf i).toNat)
  case atStart => exact ⟨0, [], Nat.zero_le _, rfl, rfl, hTr, hE⟩
  case round =>
    obtain ⟨k, M, hk, rfl, HF, hT, hB⟩ := hrel
    by_cases hlt : k < L.length
    · have hLk : L[k]? = some L[k] := List.getElem?_eq_getElem hlt
      have hfk := hf L[k] (List.getElem_mem hlt)
      have HS := Lib.hid (HF.out.trans (fromL_step L k L[k] M hLk))
      obtain ⟨b, off, v, rfl, hb, hv, hc⟩ := hL k L[k] hLk
      have hLb := hL
      generalize L[k] = n at *
      obtain ⟨da, dc, aa, ac, rfl, hD, hA⟩ := hv
      have hcw : ∀ j u, (ndC n (.slice da n.data.length dc) (.slice aa n.acl.length ac))[j]? = some u → wr.cell? ((⟨b, off + k * 17, none⟩ : Addr).add j) = some u := fun j u hj => by
        rw [addr_add, hB.cell (p := ⟨b, off + k * 17 + j, none⟩) hb]
        exact hc j u hj
      have hDr := (hD.below hB).mono hB.size
      have hAr := (hA.below hB).mono hB.size
      obtain ⟨W2, hW2⟩ : ∃ W2, W2 = wr.alloc (.cells (ndC n (.slice da n.data.length dc) (.slice aa n.acl.length ac)) 37) := ⟨_, rfl⟩
      have he2 : Ext wr W2 := by rw [hW2]; exact Ext.alloc _ _
      have hn2 : W2.heap[wr.heap.size]? = some (.cells (ndC n (.slice da n.data.length dc) (.slice aa n.acl.length ac)) 37 (0, 0)) := by rw [hW2]; exact heap_alloc_new wr _
      have hz2 : W2.heap.size = wr.heap.size + 1 := by rw [hW2]; simp
      have hT2 := hT.ext he2
      have hB2 : Below w.heap.size w W2 := hB.trans (he2.mono hB.size)
      have hu2 : Tabs W2 := hT0.below hB2 hT0.size
      have hD2 := hDr.ext he2
      have hA2 := hAr.ext he2
      have CR := right_any n da aa dc ac W2 hfk hu2 hA2
      have hset := setRow_alloc wr zeroNd (ndC n (.slice da n.data.length dc) (.slice aa n.acl.length ac)) 37
      have HC := Lib.hid hcw
      have HN := Lib.hid hn2
      have HT := Lib.hid hT2
      have HSET := Lib.hid (hset.trans hW2.symm)
      have HNew := Lib.hid (heap_alloc_new wr (.cells zeroNd 37))
      have CR := Lib.hid CR
      have HL := Lib.hid hLb
      unfold ndC at HC HN CR HSET
      unfold zeroNd at HSET HNew
      clear hcw hn2 hT2 hset hW2 hc hL hT hDr hAr hD hA hLb
      go_wp2_with (first | (refine wpList_load_at rfl 37 (.tmp 28) rfl _ rfl _ _ HC.out Tryd.underlying37 rfl sizeNd ?_) | (refine wpList_store_row rfl 37 (.tmp 7) (.tmp 29) rfl wr.heap.size _ rfl rfl 37 _ HNew.out sizeNd rfl (cells_node n da aa _ _ dc ac) ?_; rw [HSET.out]) | (refine wpList_load_row rfl 37 (.tmp 7) rfl wr.heap.size rfl 37 _ (0, 0) _ HN.out Tryd.underlying37 rfl sizeNd ?_))
      refine CR.out.mono ?_
      rintro e w3 ⟨rfl, hb3⟩
      have hE3 : Ext W2 w3 := hb3
      have hB3 : Below w.heap.size w w3 := hB2.trans (hE3.mono hB2.size)
      by_cases hr : rightN n = 0
      · rw [hr]
        have HR := Lib.hid hr
        have hT3 := HT.out.ext hE3
        have hn3 := (hE3.block wr.heap.size (by omega)).trans HN.out
        have hD3 := hD2.ext hE3
        have hA3 := hA2.ext hE3
        obtain ⟨bn, bk, K, hd, hNd, hKd⟩ := hT3
        have hps : n.path.size ≤ maxLen := by
          have := (vpath_facts (right_vpath hr)).2.1
          unfold maxLen; omega
        clear hr CR HC HN HSET HNew hb3 hz2 hD2 hA2 he2 hB2 hu2
        go_wp2
        refine there_region _ _ _ _ _ _ _ _ _ _ _ _ 5 7 _ 91 rfl (by decide) (by decide) (by decide) hd hNd wr.heap.size n.path _ hn3 rfl hps rfl rfl ?_
        intro v0 v1 v2 v3 v4 v5 v6 v7 v8 v9 v10 w4 hE4
        simp only [Act.put]
        go_simp
        rename_i hK
        refine hK _ _ ?_
        have hB4 : Below w.heap.size w w4 := hB3.trans (hE4.mono hB3.size)
        have hT4 : TreeAt (fun b => w.heap.size ≤ b ∧ b < wr.heap.size) w4 (w.heap.size + 1 + 1) M k := TreeAt.ext ⟨bn, bk, K, hd, hNd, hKd⟩ hE4
        have hD4 := hD3.ext hE4
        have hA4 := hA3.ext hE4
        have hn4 := (hE4.block wr.heap.size (Array.getElem?_eq_some_iff.1 hn3).1).trans hn3
        clear hd hNd hKd hn3 hD3 hA3 hB3
        cases hg : mget M n.path.data.toList with
        | some y =>
          have hfin : FromOut L w (.returned (.tuple #[.pointer none, .int .i64 k, .int .i64 71])) w4 := fromOut_err (by
            unfold fromN
            rw [HS.out, if_neg (by rw [HR.out]; simp), if_pos (by unfold keyN; rw [hg]; rfl)]) hB4
          have HFIN := Lib.hid hfin
          clear hfin hT4 hB4 hD4 hA4 hn4 hg HS
          go_wp2
          go_ret3
          exact HFIN.out
        | none =>
          have C3 := lay_any _ w4 _ M k hT4 n da aa dc ac HR.out hg (by omega) hD4 hA4
          have HS2 := Lib.hid (HS.out.trans (by rw [if_neg (by rw [HR.out]; simp), if_neg (by unfold keyN; rw [hg]; simp)]))
          have HN4 := Lib.hid hn4
          have C3 := Lib.hid C3
          unfold ndC at HN4 C3
          have hz4 : wr.heap.size ≤ w4.heap.size := by have := (Array.getElem?_eq_some_iff.1 hn4).1; omega
          clear hT4 hD4 hA4 hn4 hg HS
          go_wp2_with (refine wpList_load_row rfl 37 (.tmp 7) rfl wr.heap.size rfl 37 _ (0, 0) _ HN4.out Tryd.underlying37 rfl sizeNd ?_)
          refine C3.out.mono ?_
          rintro e w5 ⟨rfl, hT5, hM5⟩
          have hz5 := hM5.size
          have hB5 : Below w.heap.size w w5 := hB4.trans (hM5.below (fun b hb => hb.1) (by have := hB4.size; omega))
          have HT5 := Lib.hid hT5
          have hzw := hB.size
          clear C3 HN4 hT5 hM5 hB4
          go_wp2
          go_roundw
          case rel =>
            exact ⟨k + 1, _, by omega, by go_num, HS2.out, HT5.out.keep (fun _ _ => rfl) (fun b hb => ⟨by rcases hb with h | h <;> omega, HT5.out.bound b hb⟩) (fun b hb => hb.2) (Nat.le_refl _), hB5⟩
          case measure => simp [intOf]; omega
      · have hne : (rightN n != 0) = true := by simpa using hr
        have hfin : FromOut L w (.returned (.tuple #[.pointer none, .int .i64 k, .int .i64 (rightN n)])) w3 := fromOut_err (by
          unfold fromN
          rw [HS.out, if_pos hr]) hB3
        have HFIN := Lib.hid hfin
        clear hfin hr HS CR HC HN HSET HNew HT hb3 hE3 hB3 hB2 hD2 hA2 he2 hu2
        go_wp2
        go_ret3
        exact HFIN.out
    · obtain rfl : k = L.length := by omega
      have HF2 : Hid (fromL L 0 [] = .ok M) := by
        have := HF.out
        rw [List.drop_length] at this
        exact this
      obtain ⟨bn, bk, K, hd, hNd, hKd⟩ := hT
      have hT : TreeAt (fun b => w.heap.size ≤ b ∧ b < wr.heap.size) wr (w.heap.size + 1 + 1) M L.length := ⟨bn, bk, K, hd, hNd, hKd⟩
      have hbox : Box wr (w.heap.size + 1 + 1) (treeC bn bk) := fun j => cell_of_row _ _ _ _ _ _ hd.blk
      obtain ⟨cs, ⟨hc17, hc1⟩, hq, _, _⟩ := hNd.look ⟨#[47]⟩ (by unfold maxLen; decide)
      have hsz17 : (Tryd.prog.info? 37).map (·.size) = some cs.size := by rw [hc17]; exact sizeNd
      have hzs : zeroNd.size = cs.size := by rw [hc17]; rfl
      obtain ⟨W2, hW2⟩ : ∃ W2, W2 = wr.alloc (.cells cs 37) := ⟨_, rfl⟩
      have HSET := Lib.hid ((setRow_alloc wr zeroNd cs 37).trans hW2.symm)
      have HNew := Lib.hid (heap_alloc_new wr (.cells zeroNd 37))
      have hE2 : Ext wr W2 := by rw [hW2]; exact Ext.alloc _ _
      have hB2 : Below w.heap.size w W2 := hB.trans (hE2.mono hB.size)
      have hT2 : TreeAt (fun b => w.heap.size ≤ b ∧ b < W2.heap.size) W2 (w.heap.size + 1 + 1) M L.length := (hT.ext hE2).keep (fun _ _ => rfl) (fun b hb => ⟨hb.1, Nat.lt_of_lt_of_le hb.2 hE2.size⟩) (fun b hb => hb.2) (Nat.le_refl _)
      have hhid := Lib.hid hzs
      change Hid (zeroNd.size = cs.size) at hhid
      unfold zeroNd at HSET HNew
      unfold Box treeC at hbox
      have hkl : ((⟨#[47]⟩ : ByteArray)).data.toList = [47] := rfl
      rw [hkl] at hq
      have HC1 := Lib.hid hc1
      have H17 := Lib.hid hsz17
      clear hW2 hd hNd hKd hT hzs hc1 hc17 hsz17 hkl
      cases hg : mget M [47] with
      | none =>
        rw [hg] at hq
        have hq' : (Instr.lookup 84 (.map (some bn)) (.string ⟨#[47]⟩) true).run Tryd.prog wr = .ok (.tuple #[.agg cs, .bool false]) wr := hq
        have hfin : FromOut L w (.returned (.tuple #[.pointer none, .int .i64 0, .int .i64 70])) W2 := fromOut_err (i := 0) (by
          unfold fromN
          rw [HF2.out]
          simp only
          rw [if_pos hg]) hB2
        have HFIN := Lib.hid hfin
        clear hq hfin hg hT2 hE2 hB2
        go_wp2_with (refine wpList_store_row rfl 37 (.tmp 11) (.tmp 58) rfl wr.heap.size _ rfl rfl 37 _ HNew.out H17.out hhid.out HC1.out ?_; rw [HSET.out])
        go_ret3
        exact HFIN.out
      | some y0 =>
        rw [hg] at hq
        have hq' : (Instr.lookup 84 (.map (some bn)) (.string ⟨#[47]⟩) true).run Tryd.prog wr = .ok (.tuple #[.agg cs, .bool true]) wr := hq
        have HG := Lib.hid hg
        have HRt := Lib.hid (fromL_right L 0 [] M HF2.out)
        clear hq hg hE2
        go_wp2_with (refine wpList_store_row rfl 37 (.tmp 11) (.tmp 58) rfl wr.heap.size _ rfl rfl 37 _ HNew.out H17.out hhid.out HC1.out ?_; rw [HSET.out])
        clear hq' HNew HSET hhid H17 HC1 hbox
        generalize wr.heap.size = gx
        go_loopw [64] (fun i wt => ∃ k : Nat, k ≤ L.length ∧ i = .int .i64 k ∧ Hid (parL M L 0 = parL M (L.drop k) k) ∧ TreeAt (fun b => w.heap.size ≤ b ∧ b < wt.heap.size) wt (w.heap.size + 1 + 1) M L.length ∧ Below w.heap.size w wt) (fun i _ => L.length - (intOf i).toNat)
        case atStart => exact ⟨0, Nat.zero_le _, rfl, rfl, hT2, hB2⟩
        case round =>
          obtain ⟨k, hk, rfl, HP, hT3, hB3⟩ := hrel
          by_cases hlt : k < L.length
          · have hLk : L[k]? = some L[k] := List.getElem?_eq_getElem hlt
            have hrk := HRt.out L[k] (List.getElem_mem hlt)
            have HS := Lib.hid (HP.out.trans (parL_step M L k L[k] hLk))
            obtain ⟨b, off, v, rfl, hb, hv, hc⟩ := hL k L[k] hLk
            have HL := Lib.hid hL
            generalize L[k] = n at *
            obtain ⟨da, dc, aa, ac, rfl, hD, hA⟩ := hv
            have hcw : ∀ j u, (ndC n (.slice da n.data.length dc) (.slice aa n.acl.length ac))[j]? = some u → wr.cell? ((⟨b, off + k * 17, none⟩ : Addr).add j) = some u := fun j u hj => by
              rw [addr_add, hB3.cell (p := ⟨b, off + k * 17 + j, none⟩) hb]
              exact hc j u hj
            obtain ⟨W4, hW4⟩ : ∃ W4, W4 = wr.alloc (.cells (ndC n (.slice da n.data.length dc) (.slice aa n.acl.length ac)) 37) := ⟨_, rfl⟩
            have hE4 : Ext wr W4 := by rw [hW4]; exact Ext.alloc _ _
            have hn4 : W4.heap[wr.heap.size]? = some (.cells (ndC n (.slice da n.data.length dc) (.slice aa n.acl.length ac)) 37 (0, 0)) := by rw [hW4]; exact heap_alloc_new wr _
            have hz4 : W4.heap.size = wr.heap.size + 1 := by rw [hW4]; simp
            have hT4 := hT3.ext hE4
            have hB4 : Below w.heap.size w W4 := hB3.trans (hE4.mono hB3.size)
            have hx4 : Box W4 wr.heap.size (ndC n (.slice da n.data.length dc) (.slice aa n.acl.length ac)) := fun j => cell_of_row _ _ _ _ _ _ hn4
            have hvp := right_vpath hrk
            have hvf := vpath_facts hvp
            have CP := parent_any n.path W4 (by omega)
            have HC := Lib.hid hcw
            have HN := Lib.hid hn4
            have HSET := Lib.hid ((setRow_alloc wr zeroNd (ndC n (.slice da n.data.length dc) (.slice aa n.acl.length ac)) 37).trans hW4.symm)
            have HNew := Lib.hid (heap_alloc_new wr (.cells zeroNd 37))
            have HT4 := Lib.hid hT4
            have hwt := hB3.size
            unfold ndC at HC HN HSET
            unfold zeroNd at HSET HNew
            unfold Box ndC at hx4
            clear hcw hn4 hW4 hc hL hD hA hT3 hT4 hB3 hvf
            by_cases hroot : n.path.size = 1
            · rw [show parV n.path = .tuple #[.string ⟨#[]⟩, .int .i64 30] by unfold parV; rw [if_neg (fun h => h.2 hroot)]] at CP
              have HS2 := Lib.hid (HS.out.trans (by rw [if_neg (fun h => h.1 hroot)]))
              have CP := Lib.hid CP
              clear hroot HS hvp hrk
              go_wp2_with (first | (refine wpList_load_at rfl 37 (.tmp 67) rfl _ rfl _ _ HC.out Tryd.underlying37 rfl sizeNd ?_) | (refine wpList_store_row rfl 37 (.tmp 14) (.tmp 68) rfl wr.heap.size _ rfl rfl 37 _ HNew.out sizeNd rfl (cells_node n da aa _ _ dc ac) ?_; rw [HSET.out]))
              refine CP.out.mono ?_
              rintro e w5 ⟨rfl, hb5⟩
              have hE5 : Ext W4 w5 := hb5
              have hz5 := hE5.size
              have hB5 : Below w.heap.size w w5 := hB4.trans (hE5.mono hB4.size)
              have HT5 := Lib.hid (HT4.out.ext hE5)
              clear CP HC HN HSET HNew hx4 hb5 hB4 HT4
              go_wp2
              go_roundw
              case rel => exact ⟨k + 1, by omega, by go_num, HS2.out, HT5.out.keep (fun _ _ => rfl) (fun b hb => ⟨hb.1, HT5.out.bound b hb⟩) (fun b hb => hb.2) (Nat.le_refl _), hB5⟩
              case measure => simp [intOf]; omega
            · rw [show parV n.path = .tuple #[.string (parentB n.path), .int .i64 0] by unfold parV; rw [if_pos ⟨hvp, hroot⟩]] at CP
              have hps : (parentB n.path).size ≤ maxLen := by
                have := (path_split hvp hroot).2.2.1
                have := (vpath_facts hvp).2.1
                unfold maxLen; omega
              have CP := Lib.hid CP
              have HRoot := Lib.hid hroot
              clear hroot hvp hrk
              go_wp2_with (first | (refine wpList_load_at rfl 37 (.tmp 67) rfl _ rfl _ _ HC.out Tryd.underlying37 rfl sizeNd ?_) | (refine wpList_store_row rfl 37 (.tmp 14) (.tmp 68) rfl wr.heap.size _ rfl rfl 37 _ HNew.out sizeNd rfl (cells_node n da aa _ _ dc ac) ?_; rw [HSET.out]))
              refine CP.out.mono ?_
              rintro e w5 ⟨rfl, hb5⟩
              have hE5 : Ext W4 w5 := hb5
              have hz5 := hE5.size
              have hB5 : Below w.heap.size w w5 := hB4.trans (hE5.mono hB4.size)
              have hT5 := HT4.out.ext hE5
              obtain ⟨bn, bk, K, hd, hNd, hKd⟩ := hT5
              have hT5 : TreeAt (fun b => w.heap.size ≤ b ∧ b < wr.heap.size) w5 (w.heap.size + 1 + 1) M L.length := ⟨bn, bk, K, hd, hNd, hKd⟩
              have hbox : Box w5 (w.heap.size + 1 + 1) (treeC bn bk) := fun j => cell_of_row _ _ _ _ _ _ hd.blk
              obtain ⟨cs, ⟨hc17, hc1⟩, hq, _, _⟩ := hNd.look (parentB n.path) hps
              have hsz17 : (Tryd.prog.info? 37).map (·.size) = some cs.size := by rw [hc17]; exact sizeNd
              have hzs : zeroNd.size = cs.size := by rw [hc17]; rfl
              obtain ⟨W6, hW6⟩ : ∃ W6, W6 = w5.alloc (.cells cs 37) := ⟨_, rfl⟩
              have HSET6 := Lib.hid ((setRow_alloc w5 zeroNd cs 37).trans hW6.symm)
              have HNew6 := Lib.hid (heap_alloc_new w5 (.cells zeroNd 37))
              have hE6 : Ext w5 W6 := by rw [hW6]; exact Ext.alloc _ _
              have hz6 := hE6.size
              have hB6 : Below w.heap.size w W6 := hB5.trans (hE6.mono hB5.size)
              have HT6 := Lib.hid (hT5.ext hE6)
              have hhid := Lib.hid hzs
              change Hid (zeroNd.size = cs.size) at hhid
              unfold zeroNd at HSET6 HNew6
              unfold Box treeC at hbox
              have HC1 := Lib.hid hc1
              have H17 := Lib.hid hsz17
              clear hW6 hd hNd hKd hT5 hzs hc1 hc17 hsz17 CP HC HN HSET HNew hx4 hb5 hB4 HT4 hE6 hE5 hB5
              cases hg : mget M (parentB n.path).data.toList with
              | none =>
                rw [hg] at hq
                have hq' : (Instr.lookup 84 (.map (some bn)) (.string (parentB n.path)) true).run Tryd.prog w5 = .ok (.tuple #[.agg cs, .bool false]) w5 := hq
                have hfin : FromOut L w (.returned (.tuple #[.pointer none, .int .i64 k, .int .i64 73])) W6 := fromOut_err (by
                  unfold fromN
                  rw [HF2.out]
                  simp only
                  rw [if_neg (by rw [HG.out]; simp), HS.out, if_pos ⟨HRoot.out, hg⟩]) hB6
                have HFIN := Lib.hid hfin
                clear hq hfin hg hB6 HS HT6
                go_wp2_with (refine wpList_store_row rfl 37 (.tmp 17) (.tmp 84) rfl w5.heap.size _ rfl rfl 37 _ HNew6.out H17.out hhid.out HC1.out ?_; rw [HSET6.out])
                go_ret3
                exact HFIN.out
              | some y1 =>
                rw [hg] at hq
                have hq' : (Instr.lookup 84 (.map (some bn)) (.string (parentB n.path)) true).run Tryd.prog w5 = .ok (.tuple #[.agg cs, .bool true]) w5 := hq
                have HS2 := Lib.hid (HS.out.trans (by rw [if_neg (fun h => by rw [hg] at h; cases h.2)]))
                clear hq hg HS
                go_wp2_with (refine wpList_store_row rfl 37 (.tmp 17) (.tmp 84) rfl w5.heap.size _ rfl rfl 37 _ HNew6.out H17.out hhid.out HC1.out ?_; rw [HSET6.out])
                go_roundw
                case rel => exact ⟨k + 1, by omega, by go_num, HS2.out, HT6.out.keep (fun _ _ => rfl) (fun b hb => ⟨hb.1, HT6.out.bound b hb⟩) (fun b hb => hb.2) (Nat.le_refl _), hB6⟩
                case measure => simp [intOf]; omega
          · obtain rfl : k = L.length := by omega
            have hfin : FromOut L w (.returned (.tuple #[.pointer (some ⟨w.heap.size + 1 + 1, 0, none⟩), .int .i64 0, .int .i64 0])) wr := by
              unfold FromOut fromN
              rw [HF2.out]
              simp only
              rw [if_neg (by rw [HG.out]; simp), HP.out, List.drop_length]
              exact ⟨_, rfl, hT3, hB3⟩
            have HFIN := Lib.hid hfin
            clear hfin hT3 hB3 HP HG HF2
            go_wp2
            go_ret3
            exact HFIN.out
end Go.Proofs.YtfgjbcejpjcpeaaDoor
