/- The walk of Children. -/
import Derived.Test.YtfgjbcejpjcpeaaDoorSk
namespace Go.Proofs.YtfgjbcejpjcpeaaDoor
open Go.RowKit Go.Sort
set_option maxHeartbeats 2000000
set_option maxRecDepth 100000

def ChildOut (M : List (Key × Nd)) (s : ByteArray) (w : World) (e : Ending) (w' : World) : Prop :=
  ∃ v, e = .returned (.tuple #[v, .int .i64 (if (mget M s.data.toList).isSome = true then 0 else 70)]) ∧ Ext w w' ∧
    if (mget M s.data.toList).isSome = true then w'.ownsRow w.heap.size 9 1 v (kidsOf M s).length ((kidsOf M s).map fun x => encStr x.1) else v = .slice none 0 0

theorem children_any (S : Nat → Prop) (w : World) (bt : Nat) (M : List (Key × Nd)) (N : Nat) (hT : TreeAt S w bt M N) (s : ByteArray) (hs : s.size ≤ maxLen) (hN : M.length * 16 ≤ 140737488355328) :
    Calls Tryd.prog 32 #[.pointer (some ⟨bt, 0, none⟩), .string s] w (ChildOut M s w) := by
  have C1 := tget_any S w bt M N hT s hs
  have HT := Lib.hid hT
  clear hT
  go_enter Tryd.func32, Tryd.ntmps32
  go_wp2_with fail
  refine C1.mono ?_
  rintro e w1 ⟨v, rfl, hv, hE1⟩
  obtain ⟨da, dc, aa, ac, rfl, hD, hA⟩ := hv
  generalize (mget M s.data.toList).getD zeroN = n at *
  clear hD hA
  obtain ⟨W2, hW2⟩ : ∃ W2, W2 = w1.alloc (.cells (ndC n (.slice da n.data.length dc) (.slice aa n.acl.length ac)) 37) := ⟨_, rfl⟩
  have HSET := Lib.hid ((setRow_alloc w1 zeroNd (ndC n (.slice da n.data.length dc) (.slice aa n.acl.length ac)) 37).trans hW2.symm)
  have HNew := Lib.hid (heap_alloc_new w1 (.cells zeroNd 37))
  have hE2 : Ext w1 W2 := by rw [hW2]; exact Ext.alloc _ _
  have hEw2 := hE1.trans hE2
  have hT2 := HT.out.ext hEw2
  unfold ndC at HSET ⊢
  unfold zeroNd at HSET HNew
  clear C1 hW2
  cases hg : mget M s.data.toList with
  | none =>
    have hfin : ChildOut M s w (.returned (.tuple #[.slice none 0 0, .int .i64 70])) W2 := ⟨_, by rw [hg]; rfl, hEw2, by rw [hg]; rfl⟩
    have HFIN := Lib.hid hfin
    clear hfin hg hE1 hE2 hEw2 hT2
    go_wp2_with (refine wpList_store_row rfl 37 (.tmp 6) (.tmp 12) rfl w1.heap.size _ rfl rfl 37 _ HNew.out sizeNd rfl (cells_node n da aa _ _ dc ac) ?_; rw [HSET.out])
    go_ret2
    exact HFIN.out
  | some y =>
    have HG := Lib.hid hg
    obtain ⟨bn, bk, K, hd, hNd, hKd⟩ := hT2
    have hx := TreeAt.box hd
    have hl := SMap.look (e := 94) hKd.map strT Tryd.underlying85 (z := .map none) (by kernel_rfl) hs
    rw [kidsV_get] at hl
    have hlen : (kidsOf M s).length * 16 ≤ 140737488355328 := by have := kids_length M s; omega
    unfold Box treeC at hx
    clear hg hE1 hE2
    cases hk : mget K s.data.toList with
    | some b =>
      rw [hk] at hl
      have hl' : (Instr.lookup 85 (.map (some bk)) (.string s) false).run Tryd.prog W2 = .ok (.map (some b)) W2 := hl
      have hSM := (hKd.each _ (mget_some_mem hk)).2.2.2
      rw [key_bytes] at hSM
      have C2 := keysU_any (some b) W2
      have C3 := sortedU_any b _ W2 hSM hlen
      have C2 := Lib.hid C2
      have C3 := Lib.hid C3
      clear hl hSM hd hNd hKd hk
      go_wp2_with (refine wpList_store_row rfl 37 (.tmp 6) (.tmp 12) rfl w1.heap.size _ rfl rfl 37 _ HNew.out sizeNd rfl (cells_node n da aa _ _ dc ac) ?_; rw [HSET.out])
      refine C2.out.mono ?_
      rintro e w3 ⟨rfl, rfl⟩
      clear C2
      go_wp2_with fail
      refine C3.out.mono ?_
      rintro e w4 ⟨v, rfl, hrow, hnil, hE4⟩
      have hz := hEw2.size
      have hfin : ChildOut M s w (.returned (.tuple #[v, .int .i64 0])) w4 :=
        ⟨v, by rw [HG.out]; rfl, (hEw2.trans (Ext.alloc W2 _)).trans hE4, by
          rw [HG.out]
          simp only [Option.isSome_some, if_true]
          have := ownsRow_base_a hrow (show w.heap.size ≤ _ by simp; omega)
          rw [List.map_map, List.length_map] at this
          exact this⟩
      have HFIN := Lib.hid hfin
      clear hfin C3 hrow hnil hE4 hx hl' HSET HNew
      go_wp2
      go_ret2
      exact HFIN.out
    | none =>
      rw [hk] at hl
      have hl' : (Instr.lookup 85 (.map (some bk)) (.string s) false).run Tryd.prog W2 = .ok (.map none) W2 := hl
      have hno := hKd.rest _ hk
      have C2 := keysU_any none W2
      have C3 := sortedU_nil W2
      have C2 := Lib.hid C2
      have C3 := Lib.hid C3
      have HNO := Lib.hid hno
      clear hl hd hNd hKd hk hno
      go_wp2_with (refine wpList_store_row rfl 37 (.tmp 6) (.tmp 12) rfl w1.heap.size _ rfl rfl 37 _ HNew.out sizeNd rfl (cells_node n da aa _ _ dc ac) ?_; rw [HSET.out])
      refine C2.out.mono ?_
      rintro e w3 ⟨rfl, rfl⟩
      clear C2
      go_wp2_with fail
      refine C3.out.mono ?_
      rintro e w4 ⟨v, rfl, hrow, hnil, hE4⟩
      have hz := hEw2.size
      have hfin : ChildOut M s w (.returned (.tuple #[v, .int .i64 0])) w4 :=
        ⟨v, by rw [HG.out]; rfl, (hEw2.trans (Ext.alloc W2 _)).trans hE4, by
          rw [HG.out, HNO.out]
          simp only [Option.isSome_some, if_true]
          exact ownsRow_base_a hrow (show w.heap.size ≤ _ by simp; omega)⟩
      have HFIN := Lib.hid hfin
      clear hfin C3 hrow hnil hE4 hx hl' HSET HNew
      go_wp2
      go_ret2
      exact HFIN.out
end Go.Proofs.YtfgjbcejpjcpeaaDoor
