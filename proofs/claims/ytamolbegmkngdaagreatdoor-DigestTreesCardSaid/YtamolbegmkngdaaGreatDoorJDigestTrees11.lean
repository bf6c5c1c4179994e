/- The walks of the reference's sum of bytes and of its record of a node. The walk of a node's number, as the reference has it. The walk of arborref09's Of. The walks of arborref03's last and Parent. The walk of arborref07.From. The walks of a book's functions: NewBook, Note, Len. The walks of Turn and Value: a number that is carried along. The walk of layer 9's alive; the first note in a book. The walk of layer 9's alive. -/
import Derived.Test.YtamolbegmkngdaaGreatDoorJDigestTrees8
import Derived.Test.YtamolbegmkngdaaGreatDoorJDigestTrees10
import Derived.Test.YtamolbegmkngdaaGreatDoorJDigestTrees9
import Derived.Test.YtamolbegmkngdaaGreatDoorJDigestTrees4
namespace Go.Proofs.YtamolbegmkngdaaGreatDoor
open Go.RowKit
set_option maxHeartbeats 2000000
set_option maxRecDepth 100000

theorem rsum_any (a : Option Addr) (c : Nat) (l : List UInt8) (w : World) (hc : Cells w.heap.size w a (l.map u8v)) (hl : l.length ≤ 9223372036854775800) :
    Calls Tryz.prog 140 #[.slice a l.length c] w fun e w' => e = .returned (.int .u64 (fnv l)) ∧ w = w' := by
  go_enter Tryz.func140, Tryz.ntmps140
  go_wp2
  go_loop [3, 4] (fun h i => ∃ k : Nat, k ≤ l.length ∧ i = .int .i64 k ∧ h = .int .u64 (fnv (l.take k))) (fun _ i => l.length - (intOf i).toNat)
  case atStart => exact ⟨0, Nat.zero_le _, rfl, rfl⟩
  case round =>
    obtain ⟨k, hk, rfl, rfl⟩ := hrel
    by_cases hlt : k < l.length
    · obtain ⟨b, off, rfl, hb, c0⟩ := byteCell hc k hlt
      have H := Lib.hid (fnv_take l k hlt)
      generalize fnv (l.take k) = h0 at *
      go_wp2
      go_round
      case rel => exact ⟨k + 1, by omega, by go_num, by rw [H.out]; rfl⟩
      case measure => simp [intOf]; omega
    · obtain rfl : k = l.length := by omega
      rw [List.take_length]
      clear hc
      go_wp2
      go_ret
      exact ⟨rfl, rfl⟩

theorem rencode_any (n : Nd) (da aa : Option Addr) (dc ac : Nat) (w : World) (hf : Fit n) (hT : Tabs w) (hD : Cells w.heap.size w da (n.data.map u8v)) (hA : Cells w.heap.size w aa (acCs n.acl)) :
    Calls Tryz.prog 139 #[.agg (ndC n (.slice da n.data.length dc) (.slice aa n.acl.length ac))] w (EncOut n w) := by
  have hbox := Box.alloc w (ndC n (.slice da n.data.length dc) (.slice aa n.acl.length ac)) 47
  have hb0 : Below w.heap.size w (w.alloc (.cells (ndC n (.slice da n.data.length dc) (.slice aa n.acl.length ac)) 47)) := (Below.refl _ _).alloc (Nat.le_refl _) _
  have hD0 := hD.below hb0
  have hA0 := hA.below hb0
  have hT0 := hT.below hb0 hT.size
  have CR := rright_any n da aa dc ac (w.alloc (.cells (ndC n (.slice da n.data.length dc) (.slice aa n.acl.length ac)) 47)) hf hT0 (hA0.mono (by simp))
  have hh := heap_alloc_new w (.cells (ndC n (.slice da n.data.length dc) (.slice aa n.acl.length ac)) 47)
  have hput := fun (w1 : World) (hD : Cells w1.heap.size w1 da (n.data.map u8v)) (hA : Cells w1.heap.size w1 aa (acCs n.acl)) (hr : rightN n = 0) => rnput_any w1.heap.size (.slice none 0 0) [] n da aa dc ac w1 (World.ownsRow_nil _ _ _ _) (Nat.le_refl _) hD hA hr (by simp)
  unfold ndC at hbox hb0 CR hh hput ⊢
  have HH := Lib.hid hh
  have HP := Lib.hid hput
  clear hh hD hA hT0 hput
  by_cases hr : rightN n = 0
  · rw [hr] at CR
    have HR := Lib.hid hr
    clear hr
    go_enter Tryz.func139, Tryz.ntmps139
    go_wp2_with (refine wpList_load_row rfl 47 (.tmp 1) rfl w.heap.size rfl 47 _ (0, 0) _ HH.out Tryz.underlying47 rfl sizeNd ?_)
    refine CR.mono ?_
    rintro e w1 ⟨rfl, hb1⟩
    have hh1 := Lib.hid ((hb1.block w.heap.size (by simp)).trans HH.out)
    have hb : Below w.heap.size w w1 := hb0.trans (hb1.mono (by simp))
    have hD1 := (hD0.below (hb1.mono (by simp))).mono hb.size
    have hA1 := (hA0.below (hb1.mono (by simp))).mono hb.size
    clear CR hbox hb0 hb1 hD0 hA0 HH
    go_wp2_with (refine wpList_load_row rfl 47 (.tmp 1) rfl w.heap.size rfl 47 _ (0, 0) _ hh1.out Tryz.underlying47 rfl sizeNd ?_)
    refine (HP.out w1 hD1 hA1 HR.out).mono ?_
    rintro e w2 ⟨v2, rfl, k1, k2, k3⟩
    obtain ⟨a, c, rfl, hcs⟩ := ownsRow_cells k1
    have hbb := hb.trans (k2.mono hb.size)
    clear HP hb hD1 hA1 k1 k2 k3 hh1
    go_wp2
    go_ret2
    exact ⟨hbb, .inr ⟨HR.out, a, c, rfl, hcs⟩⟩
  · have hne : (rightN n != 0) = true := by simpa using hr
    have HR := Lib.hid hr
    clear hr
    go_enter Tryz.func139, Tryz.ntmps139
    go_wp2_with (refine wpList_load_row rfl 47 (.tmp 1) rfl w.heap.size rfl 47 _ (0, 0) _ HH.out Tryz.underlying47 rfl sizeNd ?_)
    refine CR.mono ?_
    rintro e w1 ⟨rfl, hb1⟩
    have hb : Below w.heap.size w w1 := hb0.trans (hb1.mono (by simp))
    clear CR hb0 hb1 hbox hD0 hA0 HH HP
    go_wp2
    go_ret2
    exact ⟨hb, .inl ⟨HR.out, rfl⟩⟩
end Go.Proofs.YtamolbegmkngdaaGreatDoor
namespace Go.Proofs.YtamolbegmkngdaaGreatDoor
open Go.RowKit
set_option maxHeartbeats 2000000
set_option maxRecDepth 100000

theorem rnode_any (n : Nd) (da aa : Option Addr) (dc ac : Nat) (w : World) (hf : Fit n) (hT : Tabs w) (hD : Cells w.heap.size w da (n.data.map u8v)) (hA : Cells w.heap.size w aa (acCs n.acl)) :
    Calls Tryz.prog 78 #[.agg (ndC n (.slice da n.data.length dc) (.slice aa n.acl.length ac))] w (NodeOut n w) := by
  have hb0 : Below w.heap.size w (w.alloc (.cells (ndC n (.slice da n.data.length dc) (.slice aa n.acl.length ac)) 47)) := (Below.refl _ _).alloc (Nat.le_refl _) _
  have CR := rencode_any n da aa dc ac (w.alloc (.cells (ndC n (.slice da n.data.length dc) (.slice aa n.acl.length ac)) 47)) hf (hT.below hb0 hT.size) ((hD.below hb0).mono (by simp)) ((hA.below hb0).mono (by simp))
  have hh := heap_alloc_new w (.cells (ndC n (.slice da n.data.length dc) (.slice aa n.acl.length ac)) 47)
  unfold ndC at hb0 CR hh ⊢
  have HH := Lib.hid hh
  have CR := Lib.hid CR
  clear hh hD hA hT
  by_cases hr : rightN n = 0
  · have HL := Lib.hid (encN_length n hr)
    have HN : Hid (nodeN n = fnv (encN n)) := by unfold Hid nodeN; rw [if_pos hr]
    have HR := Lib.hid hr
    clear hr
    go_enter Tryz.func78, Tryz.ntmps78
    go_wp2_with (refine wpList_load_row rfl 47 (.tmp 1) rfl w.heap.size rfl 47 _ (0, 0) _ HH.out Tryz.underlying47 rfl sizeNd ?_)
    refine CR.out.mono ?_
    rintro e w1 ⟨hb1, h⟩
    rcases h with ⟨h, _⟩ | ⟨_, a, c, rfl, hcs⟩
    · exact absurd HR.out h
    have hb : Below w.heap.size w w1 := hb0.trans (hb1.mono (by simp))
    clear CR hb0 hb1 HH
    go_wp2_with fail
    refine (rsum_any a c (encN n) w1 hcs (by have := HL.out; omega)).mono ?_
    rintro e w2 ⟨rfl, rfl⟩
    clear hcs
    go_wp2
    go_ret
    exact ⟨by rw [HN.out]; rfl, hb⟩
  · have hne : (rightN n != 0) = true := by simpa using hr
    have HN : Hid (nodeN n = 0) := by unfold Hid nodeN; rw [if_neg hr]
    have HR := Lib.hid hr
    clear hr
    go_enter Tryz.func78, Tryz.ntmps78
    go_wp2_with (refine wpList_load_row rfl 47 (.tmp 1) rfl w.heap.size rfl 47 _ (0, 0) _ HH.out Tryz.underlying47 rfl sizeNd ?_)
    refine CR.out.mono ?_
    rintro e w1 ⟨hb1, h⟩
    have h := h.resolve_right (fun h => HR.out h.1)
    obtain ⟨_, rfl⟩ := h
    have hb : Below w.heap.size w w1 := hb0.trans (hb1.mono (by simp))
    clear CR hb0 hb1 HH
    go_wp2
    go_ret
    exact ⟨by rw [HN.out]; rfl, hb⟩

end Go.Proofs.YtamolbegmkngdaaGreatDoor
namespace Go.Proofs.YtamolbegmkngdaaGreatDoor
open Go.RowKit
set_option maxHeartbeats 2000000
set_option maxRecDepth 100000

theorem r9of_nil (w : World) : Calls Tryz.prog 15 #[.pointer none] w fun e w' => e = .returned (.int .u64 0) ∧ w = w' := by
  go_enter Tryz.func15, Tryz.ntmps15
  go_wp2
  go_loopw [3, 4] (fun sm i wr => sm = .int .u64 0 ∧ i = .int .i64 0 ∧ wr = w) (fun _ _ _ => 0)
  case atStart => exact ⟨rfl, rfl, rfl⟩
  case round =>
    obtain ⟨rfl, rfl, rfl⟩ := hrel
    go_wp2
    go_ret
    exact ⟨rfl, rfl⟩

theorem addN_takeR (L : List Nd) (k : Nat) (hk : k < L.length) : addN 0 (L.take (k + 1)) = IntKind.u64.wrap (addN 0 (L.take k) + nodeN L[k]) := by
  rw [List.take_succ_eq_append_getElem hk, addN_snoc]

theorem r9of_any (w : World) (b : Nat) (L : List Nd) (hR : RT w b L) (hf : ∀ n ∈ L, Fit n) (hT : Tabs w) : Calls Tryz.prog 15 #[.pointer (some ⟨b, 0, none⟩)] w fun e w' => e = .returned (.int .u64 (addN 0 L)) ∧ Ext w w' := by
  obtain ⟨a, cap, vs, hb, hl, hcm, hS, hrows, _⟩ := hR
  have hcb : w.cell? ⟨b, 0, none⟩ = some (.slice a L.length cap) := cell_of_row _ _ _ _ _ _ hb
  have hbl := (Array.getElem?_eq_some_iff.1 hb).1
  have hl64 : L.length ≤ 9223372036854775807 := by unfold maxLen at hcm; omega
  have hsz := hT.size
  have HROWS := Lib.hid hrows
  have HS := Lib.hid hS
  have HF := Lib.hid hf
  have HT := Lib.hid hT
  clear hb hrows hS hf hT
  go_enter Tryz.func15, Tryz.ntmps15
  go_wp2
  go_loopw [3, 4] (fun sm i wr => ∃ k : Nat, k ≤ L.length ∧ i = .int .i64 k ∧ sm = .int .u64 (addN 0 (L.take k)) ∧ Ext w wr) (fun _ i _ => L.length - (intOf i).toNat)
  case atStart => exact ⟨0, Nat.zero_le _, rfl, rfl, Ext.refl _⟩
  case round =>
    obtain ⟨k, hk, rfl, rfl, hE⟩ := hrel
    have hcr : wr.cell? ⟨b, 0, none⟩ = some (.slice a L.length cap) := (hE.cell (p := ⟨b, 0, none⟩) hbl).trans hcb
    by_cases hlt : k < L.length
    · obtain ⟨bl, off, da, dc, aa, ac, ea, hSb, hc, hD, hA, _⟩ := HROWS.out.row (List.getElem?_eq_getElem hlt)
      subst ea
      have hfit := HF.out L[k] (List.getElem_mem hlt)
      have hsn := addN_takeR L k hlt
      generalize L[k] = n at *
      have hcw : ∀ j u, (ndC n (.slice da n.data.length dc) (.slice aa n.acl.length ac))[j]? = some u → wr.cell? ((⟨bl, off + k * 17, none⟩ : Addr).add j) = some u := fun j u hj => by
        rw [addr_add, hE.cell (p := ⟨bl, off + k * 17 + j, none⟩) (HS.out bl hSb).1]
        exact hc j u hj
      have CN := Lib.hid (rnode_any n da aa dc ac wr hfit (HT.out.below hE hsz) ((hD.cells fun b hb => (HS.out b hb).1).ext hE) ((hA.cells fun b hb => (HS.out b hb).1).ext hE))
      have HC := Lib.hid hcw
      have HE := Lib.hid hE
      have HSN := Lib.hid hsn
      generalize addN 0 (L.take k) = s at *
      unfold ndC at HC
      clear hcw hc hE hD hA hsn
      go_wp2_with (refine wpList_load_at rfl 47 (.tmp 24) rfl _ rfl _ _ HC.out Tryz.underlying47 rfl sizeNd ?_)
      refine CN.out.mono ?_
      rintro e w2 ⟨rfl, hE2⟩
      have HE2 := Lib.hid (HE.out.trans hE2)
      clear CN hE2 HC hcr hcb
      go_wp2
      go_roundw
      case rel => exact ⟨k + 1, by omega, by go_num, by rw [HSN.out], HE2.out⟩
      case measure => simp [intOf]; omega
    · obtain rfl : k = L.length := by omega
      rw [List.take_length]
      have HE := Lib.hid hE
      clear hE hcb
      go_wp2
      go_ret
      exact ⟨rfl, HE.out⟩
end Go.Proofs.YtamolbegmkngdaaGreatDoor
namespace Go.Proofs.YtamolbegmkngdaaGreatDoor
open Go.RowKit
set_option maxHeartbeats 1000000
set_option maxRecDepth 100000

theorem rlast_any (s : ByteArray) (w : World) (hv : vpath s = true) (hs : s.size ≤ 9223372036854775800) : Calls Tryz.prog 137 #[.string s] w fun e w' => e = .returned (.int .i64 (lastS s)) ∧ w = w' := by
  obtain ⟨i, ei, hi, h47, hno⟩ := lastS_spec hv
  have HNO := Lib.hid hno
  have HI := Lib.hid ei
  have h47' := Lib.hid h47
  clear hno ei h47 hv
  go_enter Tryz.func137, Tryz.ntmps137
  go_wp2
  go_loop [3] (fun v => ∃ q : Nat, i ≤ q ∧ q < s.size ∧ v = .int .i64 q) (fun v => (intOf v).toNat)
  case atStart => exact ⟨s.size - 1, by omega, by omega, by go_num⟩
  case round =>
    obtain ⟨q, hq1, hq2, rfl⟩ := hrel
    have e2 := bat_get s q hq2
    by_cases hq : q = i
    · subst hq
      have h := h47'.out
      rw [e2] at h
      have hb : ((s[q].toNat : Int) != 47) = false := by simp; omega
      have hb2 : ¬ (s[q].toNat : Int) ≠ 47 := by omega
      clear e2 h h47' HNO
      go_wp2
      go_ret
      exact ⟨by rw [HI.out]; rfl, rfl⟩
    · have h := HNO.out q (by omega) hq2
      rw [e2] at h
      have hb : ((s[q].toNat : Int) != 47) = true := by simp; omega
      clear e2 h h47' HNO HI
      go_wp2
      go_round
      case rel => exact ⟨q - 1, by omega, by omega, by go_num⟩
      case measure => simp [intOf]; omega

theorem rparent_any (s : ByteArray) (w : World) (hs : s.size ≤ 9223372036854775800) : Calls Tryz.prog 76 #[.string s] w fun e w' => e = .returned (parV s) ∧ Below w.heap.size w w' := by
  have C1 := rvalid_any s w (by omega)
  by_cases hv : vpath s = true
  · have hroot := root_iff hv
    rw [hv] at C1
    by_cases h1 : s.size = 1
    · have e1 : (s.toList == [47]) = true := by rw [ByteArray.toList_eq]; simpa using hroot.1 h1
      have e2 : s.toList = [47] := by simpa using e1
      have R : Hid (parV s = .tuple #[.string ⟨#[]⟩, .int .i64 30]) := by unfold Hid parV; rw [if_neg (by simp [h1])]
      have C1 := Lib.hid C1
      clear h1 hroot hv
      go_enter Tryz.func76, Tryz.ntmps76
      go_wp2_with fail
      refine C1.out.mono ?_
      rintro e w1 ⟨rfl, hb1⟩
      clear C1
      go_wp2
      go_ret2
      exact ⟨by rw [R.out]; rfl, hb1⟩
    · have e1 : (s.toList == [47]) = false := by rw [ByteArray.toList_eq]; simpa using fun h => h1 (hroot.2 h)
      have e2 : ¬ s.toList = [47] := by simpa using e1
      have R : Hid (parV s = .tuple #[.string (s.extract 0 (max (lastS s) 1).toNat), .int .i64 0]) := by unfold Hid parV parentB; rw [if_pos ⟨hv, h1⟩]
      have C1 := Lib.hid C1
      have C2 := fun w => rlast_any s w hv hs
      obtain ⟨i, e, hi, _, _⟩ := lastS_spec hv
      rw [e] at C2 R
      have C2 := Lib.hid C2
      have hf := vpath_facts hv
      by_cases h0 : i = 0
      · subst h0
        have R2 : Hid (parV s = .tuple #[.string ⟨#[47]⟩, .int .i64 0]) := by
          unfold Hid
          rw [R.out]
          congr 3
          apply congrArg Value.string
          apply ba_ext
          have h3 : bat s 0 = 47 := hf.2.2.1
          have h4 := drop_at_slash (s := s) (i := 0) (by omega) h3
          rw [List.drop_zero] at h4
          rw [show (max ((0 : Nat) : Int) 1).toNat = 1 from rfl, ByteArray.data_extract, Array.toList_extract, List.extract_eq_take_drop]
          rw [List.drop_zero, h4]
          rfl
        clear hroot hf hv h1 e R
        go_enter Tryz.func76, Tryz.ntmps76
        go_wp2_with fail
        refine C1.out.mono ?_
        rintro e w1 ⟨rfl, hb1⟩
        clear C1
        go_wp2_with fail
        refine (C2.out _).mono ?_
        rintro e w2 ⟨rfl, rfl⟩
        clear C2
        go_wp2
        go_ret2
        exact ⟨by rw [R2.out]; rfl, hb1⟩
      · have hm : (max (i : Int) 1).toNat = i := by omega
        rw [hm] at R
        have hi0 : ((i : Int) == 0) = false := by simp; omega
        have hi1 : ¬ (i : Int) = 0 := by omega
        have hi2 : (i : Int) ≤ s.size := by omega
        clear hroot hf hv h1 e hm
        go_enter Tryz.func76, Tryz.ntmps76
        go_wp2_with fail
        refine C1.out.mono ?_
        rintro e w1 ⟨rfl, hb1⟩
        clear C1
        go_wp2_with fail
        refine (C2.out _).mono ?_
        rintro e w2 ⟨rfl, rfl⟩
        go_wp2_with fail
        refine (C2.out _).mono ?_
        rintro e w2 ⟨rfl, rfl⟩
        clear C2
        go_wp2
        go_ret2
        exact ⟨by rw [R.out]; rfl, hb1⟩
  · have hv' : vpath s = false := by simpa using hv
    have R : Hid (parV s = .tuple #[.string ⟨#[]⟩, .int .i64 30]) := by unfold Hid parV; rw [if_neg (by simp [hv'])]
    rw [hv'] at C1
    have C1 := Lib.hid C1
    clear hv hv'
    go_enter Tryz.func76, Tryz.ntmps76
    go_wp2_with fail
    refine C1.out.mono ?_
    rintro e w1 ⟨rfl, hb1⟩
    clear C1
    go_wp2
    go_ret2
    exact ⟨by rw [R.out]; rfl, hb1⟩
end Go.Proofs.YtamolbegmkngdaaGreatDoor
namespace Go.Proofs.YtamolbegmkngdaaGreatDoor
open Go.RowKit
set_option maxHeartbeats 2000000
set_option maxRecDepth 100000

def RFromOut (L : List Nd) (w : World) (e : Ending) (w' : World) : Prop :=
  match fromN L with
  | .error (i, x) => e = .returned (.tuple #[.pointer none, .int .i64 i, .int .i64 x]) ∧ Ext w w'
  | .ok M => ∃ b, e = .returned (.tuple #[.pointer (some ⟨b, 0, none⟩), .int .i64 0, .int .i64 0]) ∧ w.heap.size ≤ b ∧ RT w' b (nds M) ∧ Ext w w'
theorem rfromOut_err {L : List Nd} {w w' : World} {i : Nat} {x : Int} (h : fromN L = .error (i, x)) (hb : Ext w w') : RFromOut L w (.returned (.tuple #[.pointer none, .int .i64 i, .int .i64 x])) w' := by
  unfold RFromOut; rw [h]; exact ⟨rfl, hb⟩

theorem nds_fit {M : List (Key × Nd)} (hM : MOk M) : ∀ m ∈ nds M, Fit m := fun m hm => by
  obtain ⟨x, hx, rfl⟩ := List.mem_map.1 hm
  exact (right_fit (hM.right x hx)).1
theorem rfind_isSome {M : List (Key × Nd)} (hM : MOk M) (s : ByteArray) : (rfind (nds M) s).2 = (mget M s.data.toList).isSome := rfind_there hM.sorted hM.key s
theorem rt_nil (w : World) : RT (w.alloc (.cells #[.slice none 0 0] 53)) w.heap.size [] :=
  ⟨none, 0, [], heap_alloc_new w _, Nat.le_refl _, Nat.zero_le _, fun _ h => h, ⟨rfl, fun j u hj => by simp at hj, fun j cs hj => by simp at hj⟩, .inl ⟨rfl, rfl⟩⟩

set_option maxHeartbeats 8000000 in
theorem rfrom_any (L : List Nd) (a : Option Addr) (c : Nat) (w : World) (hT0 : Tabs w) (hL : NdsAt w.heap.size w a L) (hf : ∀ n ∈ L, Fit n) (hl : L.length * 168 ≤ 140737488355328) : Calls Tryz.prog 13 #[.slice a L.length c] w (RFromOut L w) := by
  have hR0 := rt_nil w
  have hE0 : Ext w (w.alloc (.cells #[.slice none 0 0] 53)) := Ext.alloc _ _
  have hl2 : L.length ≤ 9223372036854775807 := by omega
  have hsz := hT0.size
  have HR0 := Lib.hid hR0
  have HE0 := Lib.hid hE0
  have HT := Lib.hid hT0
  have HL := Lib.hid hL
  have HF := Lib.hid hf
  clear hR0 hE0 hT0 hL hf
  go_enter Tryz.func13, Tryz.ntmps13
  go_wp2
  go_loopw [6] (fun i wr => ∃ (k : Nat) (M : List (Key × Nd)), k ≤ L.length ∧ i = .int .i64 k ∧ Hid (fromL L 0 [] = fromL (L.drop k) k M) ∧ Hid (MOk M) ∧ RT wr w.heap.size (nds M) ∧ M.length ≤ k ∧ Ext w wr) (fun i _ => L.length - (intOf i).toNat)
  case atStart => exact ⟨0, [], Nat.zero_le _, rfl, rfl, MOk.nil, HR0.out, Nat.le_refl _, HE0.out⟩
  case round =>
    obtain ⟨k, M, hk, rfl, HFL, HM, hR, hMk, hE⟩ := hrel
    by_cases hlt : k < L.length
    · have hLk : L[k]? = some L[k] := List.getElem?_eq_getElem hlt
      have hfk := HF.out L[k] (List.getElem_mem hlt)
      have HS := Lib.hid (HFL.out.trans (fromL_step L k L[k] M hLk))
      obtain ⟨b, off, v, rfl, hb, hv, hc⟩ := HL.out k L[k] hLk
      generalize L[k] = n at *
      obtain ⟨da, dc, aa, ac, rfl, hD, hA⟩ := hv
      have hcw : ∀ W, Ext w W → ∀ j u, (ndC n (.slice da n.data.length dc) (.slice aa n.acl.length ac))[j]? = some u → W.cell? ((⟨b, off + k * 17, none⟩ : Addr).add j) = some u := fun W h j u hj => by
        rw [addr_add, h.cell (p := ⟨b, off + k * 17 + j, none⟩) hb]
        exact hc j u hj
      have hc1 := hcw wr hE
      have CR := Lib.hid (rright_any n da aa dc ac wr hfk (HT.out.below hE hsz) ((hA.ext hE)))
      have HR := Lib.hid hR
      have HE := Lib.hid hE
      have HCW := Lib.hid hcw
      have HC1 := Lib.hid hc1
      have HD := Lib.hid hD
      have HA := Lib.hid hA
      unfold ndC at HC1
      clear hcw hc1 hc hR hE hD hA
      go_wp2_with (refine wpList_load_at rfl 47 (.tmp 27) rfl _ rfl _ _ HC1.out Tryz.underlying47 rfl sizeNd ?_)
      refine CR.out.mono ?_
      rintro e w2 ⟨rfl, hE2⟩
      have hE2 : Ext wr w2 := hE2
      have hEw2 := HE.out.trans hE2
      by_cases hr : rightN n = 0
      · have hp0 : w2.cell? ⟨b, off + k * 17, none⟩ = some (.string n.path) := by
          have := HCW.out w2 hEw2 0 (.string n.path) rfl
          rwa [addr_add] at this
        have CF := Lib.hid (rfind_any _ w2 w.heap.size (nds M) (HR.out.ext hE2) (nds_fit HM.out) n.path hfk.path)
        have hthere := rfind_isSome HM.out n.path
        have HS2 := Lib.hid (HS.out.trans (by rw [if_neg (by simpa using hr)]))
        have HR2 := Lib.hid (HR.out.ext hE2)
        have HE2 := Lib.hid hEw2
        rw [hr]
        have HRT := Lib.hid hr
        clear hE2 hEw2 CR HS HR HC1 hr
        rw [hthere] at CF
        cases hg : mget M n.path.data.toList with
        | some y =>
          rw [hg] at CF
          have hgK : mget M (keyN n) = some y := hg
          have HERR := Lib.hid (show fromN L = .error (k, 71) by
            unfold fromN
            rw [HS2.out, if_pos (by rw [hgK]; rfl)])
          clear hg hgK hthere HS2
          go_wp2_with fail
          refine CF.out.mono ?_
          rintro e w3 ⟨rfl, hE3⟩
          have HFIN := Lib.hid (rfromOut_err HERR.out (HE2.out.trans hE3))
          clear CF hE3 HERR hp0
          go_wp2
          go_ret3
          exact HFIN.out
        | none =>
          rw [hg] at CF
          have hgK : mget M (keyN n) = none := hg
          have HS3 := Lib.hid (HS2.out.trans (by rw [if_neg (by rw [hgK]; simp)]))
          have HINS := Lib.hid (rfind_ins HM.out n hgK)
          have HM2 := Lib.hid (HM.out.put n HRT.out)
          have hml : (mput M (keyN n) n).length ≤ k + 1 := by
            unfold mput; rw [mins_length]
            have := List.length_filter_le (fun x : Key × Nd => !(x.1 == keyN n)) M
            show (mdel M (keyN n)).length + 1 ≤ k + 1
            unfold mdel; omega
          clear hg hgK hthere HS2
          go_wp2_with fail
          refine CF.out.mono ?_
          rintro e w3 ⟨rfl, hE3⟩
          have hE3 : Ext w2 w3 := hE3
          have hEw3 := HE2.out.trans hE3
          have HC3 := Lib.hid (HCW.out w3 hEw3)
          have CI := Lib.hid (rinsert_any w3 w.heap.size (nds M) n da aa dc ac (HR2.out.ext hE3) (nds_fit HM.out) hfk (HD.out.ext hEw3) (HA.out.ext hEw3) (by rw [nds_length]; omega))
          have HE3 := Lib.hid hEw3
          unfold ndC at HC3
          clear hE3 hEw3 CF HR2 hp0
          go_wp2_with (refine wpList_load_at rfl 47 (.tmp 49) rfl _ rfl _ _ HC3.out Tryz.underlying47 rfl sizeNd ?_)
          refine CI.out.mono ?_
          rintro e w4 ⟨rfl, hR4, hC4⟩
          rw [← HINS.out] at hR4
          have HR4 := Lib.hid hR4
          have HE4 := Lib.hid (HE3.out.trans' (hC4.below (fun x hx => by subst hx; exact Nat.le_refl _) HE3.out.size))
          clear CI hR4 hC4 HC3
          go_wp2
          go_roundw
          case rel => exact ⟨k + 1, _, by omega, by go_num, HS3.out, HM2.out, HR4.out, hml, HE4.out⟩
          case measure => simp [intOf]; omega
      · have hr1 : (rightN n != 0) = true := by simpa using hr
        have HERR := Lib.hid (show fromN L = .error (k, rightN n) by
          unfold fromN
          rw [HS.out, if_pos (by simpa using hr)])
        have HFIN := Lib.hid (rfromOut_err HERR.out hEw2)
        clear hE2 hEw2 CR HS HERR HC1
        go_wp2
        go_ret3
        exact HFIN.out
    · obtain rfl : k = L.length := by omega
      have HF2 : Hid (fromL L 0 [] = .ok M) := by
        unfold Hid; rw [HFL.out, List.drop_length]; rfl
      have CF := Lib.hid (rfind_any _ wr w.heap.size (nds M) hR (nds_fit HM.out) ⟨#[47]⟩ (by decide))
      have hthere := rfind_isSome HM.out ⟨#[47]⟩
      rw [hthere] at CF
      have hkl : ((⟨#[47]⟩ : ByteArray)).data.toList = [47] := rfl
      rw [hkl] at CF
      have HR := Lib.hid hR
      have HE := Lib.hid hE
      clear hR hE hthere hkl
      cases hg : mget M [47] with
      | none =>
        rw [hg] at CF
        have HERR := Lib.hid (show fromN L = .error (0, 70) by
          unfold fromN
          rw [HF2.out]
          simp only
          rw [if_pos hg])
        clear hg
        go_wp2_with fail
        refine CF.out.mono ?_
        rintro e w3 ⟨rfl, hE3⟩
        have HFIN := Lib.hid (rfromOut_err HERR.out (HE.out.trans hE3))
        clear CF hE3 HERR
        go_wp2
        go_ret3
        exact HFIN.out
      | some y0 =>
        rw [hg] at CF
        have HG := Lib.hid hg
        have HRt := Lib.hid (fromL_right L 0 [] M HF2.out)
        clear hg
        go_wp2_with fail
        refine CF.out.mono ?_
        rintro e W5 ⟨rfl, hE5⟩
        have hE5 : Ext wr W5 := hE5
        have HR5 := Lib.hid (HR.out.ext hE5)
        have HE5 := Lib.hid (HE.out.trans hE5)
        clear CF hE5 HR HE
        go_wp2
        go_loopw [12] (fun i wt => ∃ k : Nat, k ≤ L.length ∧ i = .int .i64 k ∧ Hid (parL M L 0 = parL M (L.drop k) k) ∧ Ext W5 wt) (fun i _ => L.length - (intOf i).toNat)
        case atStart => exact ⟨0, Nat.zero_le _, rfl, rfl, Ext.refl _⟩
        case round =>
          obtain ⟨k, hk, rfl, HP, hE⟩ := hrel
          by_cases hlt : k < L.length
          · have hLk : L[k]? = some L[k] := List.getElem?_eq_getElem hlt
            have hrk := HRt.out L[k] (List.getElem_mem hlt)
            have HS := Lib.hid (HP.out.trans (parL_step M L k L[k] hLk))
            obtain ⟨b, off, v, rfl, hb, hv, hc⟩ := HL.out k L[k] hLk
            generalize L[k] = n at *
            obtain ⟨da, dc, aa, ac, rfl, _⟩ := hv
            have hEw := HE5.out.trans hE
            have hp0 : wr.cell? ⟨b, off + k * 17, none⟩ = some (.string n.path) := (hEw.cell (p := ⟨b, off + k * 17, none⟩) hb).trans (hc 0 (.string n.path) rfl)
            have hvp := right_vpath hrk
            have hvf := (vpath_facts hvp).2.1
            have HE := Lib.hid hE
            clear hc hE
            by_cases hroot : n.path.size = 1
            · have hroot' := (root_iff hvp).1 hroot
              have e1 : (n.path.toList == [47]) = true := by rw [ByteArray.toList_eq]; simpa using hroot'
              have e2 : n.path.toList = [47] := by simpa using e1
              have HS2 := Lib.hid (HS.out.trans (by rw [if_neg (fun h => h.1 hroot)]))
              clear hroot hroot' HS hvp hrk
              go_wp2
              go_roundw
              case rel => exact ⟨k + 1, by omega, by go_num, HS2.out, HE.out⟩
              case measure => simp [intOf]; omega
            · have e1 : (n.path.toList == [47]) = false := by rw [ByteArray.toList_eq]; simpa using fun h => hroot ((root_iff hvp).2 h)
              have e2 : ¬ n.path.toList = [47] := by simpa using e1
              have CP := rparent_any n.path wr (by omega)
              rw [show parV n.path = .tuple #[.string (parentB n.path), .int .i64 0] by unfold parV; rw [if_pos ⟨hvp, hroot⟩]] at CP
              have hps : (parentB n.path).size ≤ 9223372036854775800 := by
                have := (path_split hvp hroot).2.2.1
                omega
              have CP := Lib.hid CP
              have HRoot := Lib.hid hroot
              have HTH := Lib.hid (rfind_isSome HM.out (parentB n.path))
              clear hroot hvp hrk
              go_wp2_with fail
              refine CP.out.mono ?_
              rintro e w6 ⟨rfl, hE6⟩
              have hE6 : Ext wr w6 := hE6
              have hE56 := HE.out.trans hE6
              have CF := Lib.hid (rfind_any _ w6 w.heap.size (nds M) (HR5.out.ext hE56) (nds_fit HM.out) (parentB n.path) hps)
              rw [HTH.out] at CF
              have HE6 := Lib.hid hE56
              clear CP hE6 hE56 hp0
              cases hg : mget M (parentB n.path).data.toList with
              | none =>
                rw [hg] at CF
                have HERR := Lib.hid (show fromN L = .error (k, 73) by
                  unfold fromN
                  rw [HF2.out]
                  simp only
                  rw [if_neg (by rw [HG.out]; simp), HS.out, if_pos ⟨HRoot.out, hg⟩])
                clear hg HS
                go_wp2_with fail
                refine CF.out.mono ?_
                rintro e w7 ⟨rfl, hE7⟩
                have HFIN := Lib.hid (rfromOut_err HERR.out (HE5.out.trans (HE6.out.trans hE7)))
                clear CF hE7 HERR
                go_wp2
                go_ret3
                exact HFIN.out
              | some y1 =>
                rw [hg] at CF
                have HS2 := Lib.hid (HS.out.trans (by rw [if_neg (fun h => by rw [hg] at h; cases h.2)]))
                clear hg HS
                go_wp2_with fail
                refine CF.out.mono ?_
                rintro e w7 ⟨rfl, hE7⟩
                have HE7 := Lib.hid (HE6.out.trans hE7)
                clear CF hE7
                go_wp2
                go_roundw
                case rel => exact ⟨k + 1, by omega, by go_num, HS2.out, HE7.out⟩
                case measure => simp [intOf]; omega
          · obtain rfl : k = L.length := by omega
            have hfin : RFromOut L w (.returned (.tuple #[.pointer (some ⟨w.heap.size, 0, none⟩), .int .i64 0, .int .i64 0])) wr := by
              unfold RFromOut fromN
              rw [HF2.out]
              simp only
              rw [if_neg (by rw [HG.out]; simp), HP.out, List.drop_length]
              exact ⟨_, rfl, Nat.le_refl _, HR5.out.ext hE, HE5.out.trans hE⟩
            have HFIN := Lib.hid hfin
            clear hfin hE HP HG HF2
            go_wp2
            go_ret3
            exact HFIN.out
end Go.Proofs.YtamolbegmkngdaaGreatDoor
namespace Go.Proofs.YtamolbegmkngdaaGreatDoor
open Go.RowKit
set_option maxHeartbeats 4000000
set_option maxRecDepth 100000

theorem infoEnt : (Tryz.prog.info? 200).map (fun i => (i.zero, i.size, i.bytes)) = some (some (.agg #[.int .i64 0, .int .u64 0]), 2, 16) := by kernel_rfl
theorem sizeEnt : (Tryz.prog.info? 200).map (·.size) = some 2 := by kernel_rfl
theorem infoI64 : (Tryz.prog.info? 2).map (·.size) = some 1 := by kernel_rfl
theorem infoEnts : (Tryz.prog.info? 196).map (·.size) = some 1 := by kernel_rfl

/-- Entries in a row. -/
def entC (R : List (Int × Int)) : List Value := R.flatMap fun e => [.int .i64 e.1, .int .u64 e.2]
theorem entC_length (R : List (Int × Int)) : (entC R).length = R.length * 2 := by
  induction R with
  | nil => rfl
  | cons x R ih => simp only [entC, List.flatMap_cons, List.length_append, List.length_cons, List.length_nil] at ih ⊢; omega

def bookC (every most last : Int) (v : Value) (first : Nat) : Array Value := #[.int .i64 every, .int .i64 most, .int .i64 last, v, .int .i64 first]

/-- A book in memory, its blocks in S. -/
structure BookAt (S : Nat → Prop) (w : World) (bb : Nat) (every most last : Int) (R : List (Int × Int)) (first : Nat) (v : Value) : Prop where
  blk : w.heap[bb]? = some (.cells (bookC every most last v first) 198 (0, 0))
  ring : w.ownsRow 0 200 2 v R.length (entC R)
  own : ∀ k, v.ownBlock = some k → S k ∧ k ≠ bb
  mine : S bb
  bound : ∀ k, S k → k < w.heap.size

def NewBookOut (every most : Int) (w : World) (e : Ending) (w' : World) : Prop :=
  if 1 ≤ every ∧ 1 ≤ most then ∃ bb, e = .returned (.tuple #[.pointer (some ⟨bb, 0, none⟩), .int .i64 0]) ∧ w.heap.size ≤ bb ∧ BookAt (fun k => w.heap.size ≤ k ∧ k < w'.heap.size) w' bb every most 0 [] 0 (.slice none 0 0) ∧ Ext w w'
  else e = .returned (.tuple #[.pointer none, .int .i64 1]) ∧ w = w'

theorem newbook_any (every most : Int) (w : World) : Calls Tryz.prog 79 #[.int .i64 every, .int .i64 most] w (NewBookOut every most w) := by
  unfold NewBookOut
  by_cases h1 : every < 1
  · have h2 : ¬ (1 ≤ every ∧ 1 ≤ most) := by omega
    have hd : decide (every < 1) = true := by simpa using h1
    simp only [if_neg h2]
    clear h2
    go_enter Tryz.func79, Tryz.ntmps79
    go_wp2
    go_ret2
    exact ⟨rfl, rfl⟩
  · have hd : decide (every < 1) = false := by simpa using h1
    by_cases h3 : most < 1
    · have h2 : ¬ (1 ≤ every ∧ 1 ≤ most) := by omega
      have hd3 : decide (most < 1) = true := by simpa using h3
      simp only [if_neg h2]
      clear h2
      go_enter Tryz.func79, Tryz.ntmps79
      go_wp2
      go_ret2
      exact ⟨rfl, rfl⟩
    · have h2 : 1 ≤ every ∧ 1 ≤ most := by omega
      have hd3 : decide (most < 1) = false := by simpa using h3
      simp only [if_pos h2]
      have hfin : ∃ bb, (Ending.returned (.tuple #[.pointer (some ⟨w.heap.size, 0, none⟩), .int .i64 0])) = .returned (.tuple #[.pointer (some ⟨bb, 0, none⟩), .int .i64 0]) ∧ w.heap.size ≤ bb ∧
          BookAt (fun k => w.heap.size ≤ k ∧ k < (w.alloc (.cells (bookC every most 0 (.slice none 0 0) 0) 198)).heap.size) (w.alloc (.cells (bookC every most 0 (.slice none 0 0) 0) 198)) bb every most 0 [] 0 (.slice none 0 0) ∧ Ext w (w.alloc (.cells (bookC every most 0 (.slice none 0 0) 0) 198)) :=
        ⟨w.heap.size, rfl, Nat.le_refl _, ⟨heap_alloc_new w _, World.ownsRow_nil _ _ _ _, fun k hk => (by cases hk), ⟨Nat.le_refl _, by simp⟩, fun k hk => hk.2⟩, Ext.alloc _ _⟩
      have HFIN := Lib.hid hfin
      unfold bookC at HFIN
      clear hfin h2
      go_enter Tryz.func79, Tryz.ntmps79
      go_wp2
      go_ret2
      exact HFIN.out

theorem blen_any (S : Nat → Prop) (w : World) (bb : Nat) (every most last : Int) (R : List (Int × Int)) (first : Nat) (v : Value) (h : BookAt S w bb every most last R first v) : Calls Tryz.prog 82 #[.pointer (some ⟨bb, 0, none⟩)] w fun e w' => e = .returned (.int .i64 R.length) ∧ w = w' := by
  have hx : Box w bb (bookC every most last v first) := fun j => cell_of_row _ _ _ _ _ _ h.blk
  obtain ⟨a, c, rfl⟩ : ∃ a c, v = .slice a R.length c := by
    rcases h.ring.2 with ⟨rfl, h0⟩ | ⟨g, cap, cur, rfl, _⟩
    · exact ⟨none, 0, by rw [h0]⟩
    · exact ⟨_, _, rfl⟩
  unfold Box bookC at hx
  clear h
  go_enter Tryz.func82, Tryz.ntmps82
  go_wp2
  go_ret
  exact ⟨rfl, rfl⟩
end Go.Proofs.YtamolbegmkngdaaGreatDoor
namespace Go.Proofs.YtamolbegmkngdaaGreatDoor
open Go.RowKit Go.Sort
set_option maxHeartbeats 4000000
set_option maxRecDepth 100000

/-- A running number in memory. -/
def RunAt (w : World) (br : Nat) (v : Int) : Prop := w.heap[br]? = some (.cells #[.int .u64 v] 159 (0, 0))

/-- All is as it was, but for one block. -/
structure But (r : Nat) (w w' : World) : Prop where
  os : w'.os = w.os
  tape : w'.tape = w.tape
  output : w'.output = w.output
  size : w.heap.size ≤ w'.heap.size
  same : ∀ k, k < w.heap.size → k ≠ r → w'.heap[k]? = w.heap[k]?
theorem But.refl (r : Nat) (w : World) : But r w w := ⟨rfl, rfl, rfl, Nat.le_refl _, fun _ _ _ => rfl⟩
theorem But.trans {r : Nat} {a b c : World} (h : But r a b) (k : But r b c) : But r a c :=
  ⟨k.os.trans h.os, k.tape.trans h.tape, k.output.trans h.output, Nat.le_trans h.size k.size, fun i hi hn => (k.same i (Nat.lt_of_lt_of_le hi h.size) hn).trans (h.same i hi hn)⟩
theorem But.of_ext {r : Nat} {a b : World} (h : Ext a b) : But r a b := ⟨h.os, h.tape, h.output, h.size, fun k hk _ => h.block k hk⟩
theorem But.set (r : Nat) (w : World) (cs : Array Value) : But r w (w.setRow r cs) := ⟨rfl, rfl, rfl, by simp, fun _ _ hn => setRow_other _ _ _ _ hn⟩
theorem But.below {r B : Nat} {w w' : World} (h : But r w w') (hB : B ≤ r) (hs : B ≤ w.heap.size) : Below B w w' :=
  ⟨h.os, h.tape, h.output, h.size, fun k hk => h.same k (by omega) (by omega)⟩
theorem But.run {r q : Nat} {w w' : World} (h : But r w w') {v : Int} (hq : RunAt w q v) (hn : q ≠ r) : RunAt w' q v := (h.same q (Array.getElem?_eq_some_iff.1 hq).1 hn).trans hq

theorem value_any (br : Nat) (v : Int) (w : World) (hr : RunAt w br v) : Calls Tryz.prog 34 #[.pointer (some ⟨br, 0, none⟩)] w fun e w' => e = .returned (.int .u64 v) ∧ w = w' := by
  have hc : w.cell? ⟨br, 0, none⟩ = some (.int .u64 v) := cell_of_row _ _ _ _ _ _ hr
  clear hr
  go_enter Tryz.func34, Tryz.ntmps34
  go_wp2
  go_ret
  exact ⟨rfl, rfl⟩

def BeginOut (v : Int) (w : World) (e : Ending) (w' : World) : Prop := ∃ b, e = .returned (.pointer (some ⟨b, 0, none⟩)) ∧ w.heap.size ≤ b ∧ RunAt w' b v ∧ Ext w w'
theorem begin_any (S : Nat → Prop) (w : World) (bt : Nat) (M : List (Key × Nd)) (N : Nat) (hT : TreeAt S w bt M N) (hTb : Tabs w) (hks : M.length * 168 ≤ 140737488355328) :
    Calls Tryz.prog 33 #[.pointer (some ⟨bt, 0, none⟩)] w (BeginOut (addN 0 (M.map (·.2))) w) := by
  have C1 := Lib.hid (dof_any S w bt M N hT hTb hks)
  clear hT hTb
  go_enter Tryz.func33, Tryz.ntmps33
  go_wp2_with fail
  refine C1.out.mono ?_
  rintro e W1 ⟨rfl, hE1⟩
  have hfin : BeginOut (addN 0 (M.map (·.2))) w (.returned (.pointer (some ⟨W1.heap.size, 0, none⟩))) (W1.alloc (.cells #[.int .u64 (addN 0 (M.map (·.2)))] 159)) := ⟨W1.heap.size, rfl, hE1.size, heap_alloc_new _ _, hE1.trans (Ext.alloc _ _)⟩
  have HFIN := Lib.hid hfin
  clear hfin hE1 C1
  go_wp2
  go_ret
  exact HFIN.out

def TurnOut (br : Nat) (v : Int) (w : World) (e : Ending) (w' : World) : Prop := e = .returned (.tuple #[]) ∧ RunAt w' br v ∧ But br w w'

theorem addN_take (s : Int) (l : List Nd) (k : Nat) (h : k < l.length) : addN s (l.take (k + 1)) = IntKind.u64.wrap (addN s (l.take k) + nodeN l[k]) := by
  rw [List.take_succ_eq_append_getElem h, addN_snoc]
theorem subN_take (s : Int) (l : List Nd) (k : Nat) (h : k < l.length) : subN s (l.take (k + 1)) = IntKind.u64.wrap (subN s (l.take k) - nodeN l[k]) := by
  rw [List.take_succ_eq_append_getElem h, subN_snoc]

theorem turn_any (br : Nat) (v : Int) (A B : List Nd) (aA aB : Option Addr) (cA cB B0 : Nat) (w : World) (hr : RunAt w br v) (hT : Tabs w) (hA : NdsAt B0 w aA A) (hB : NdsAt B0 w aB B) (hfA : ∀ n ∈ A, Fit n) (hfB : ∀ n ∈ B, Fit n) (h2 : 2 ≤ B0) (hB0 : B0 ≤ br) (hB1 : B0 ≤ w.heap.size)
    (hlA : A.length ≤ 9223372036854775807) (hlB : B.length ≤ 9223372036854775807) :
    Calls Tryz.prog 36 #[.pointer (some ⟨br, 0, none⟩), .slice aA A.length cA, .slice aB B.length cB] w (TurnOut br (addN (subN v A) B) w) := by
  have HA := Lib.hid hA
  have HB := Lib.hid hB
  have HFA := Lib.hid hfA
  have HFB := Lib.hid hfB
  have HT := Lib.hid hT
  clear hA hB hfA hfB hT
  go_enter Tryz.func36, Tryz.ntmps36
  go_wp2
  go_loopw [14] (fun i wr => ∃ k : Nat, k ≤ A.length ∧ i = .int .i64 k ∧ RunAt wr br (subN (v) (A.take k)) ∧ But br w wr) (fun i _ => A.length - (intOf i).toNat)
  case atStart => exact ⟨0, Nat.zero_le _, rfl, by simpa [subN] using hr, But.refl _ _⟩
  case round =>
    obtain ⟨k, hk, rfl, hR, hU⟩ := hrel
    by_cases hlt : k < A.length
    · have hLk : A[k]? = some A[k] := List.getElem?_eq_getElem hlt
      have hfk := HFA.out A[k] (List.getElem_mem hlt)
      have HS := Lib.hid (subN_take (v) A k hlt)
      obtain ⟨b, off, vv, rfl, hb, hv, hc⟩ := HA.out k A[k] hLk
      generalize A[k] = n at *
      obtain ⟨da, dc, aa, ac, rfl, hD, hAc⟩ := hv
      have hBl : Below B0 w wr := hU.below hB0 hB1
      have hcw : ∀ j u, (ndC n (.slice da n.data.length dc) (.slice aa n.acl.length ac))[j]? = some u → wr.cell? ((⟨b, off + k * 17, none⟩ : Addr).add j) = some u := fun j u hj => by
        rw [addr_add, hBl.cell (p := ⟨b, off + k * 17 + j, none⟩) hb]
        exact hc j u hj
      have hwz : B0 ≤ wr.heap.size := Nat.le_trans hB1 hU.size
      obtain ⟨W2, hW2⟩ : ∃ W2, W2 = wr.alloc (.cells (ndC n (.slice da n.data.length dc) (.slice aa n.acl.length ac)) 47) := ⟨_, rfl⟩
      have he2 : Ext wr W2 := by rw [hW2]; exact Ext.alloc _ _
      have hDW := ((hD.below hBl).mono hwz).ext he2
      have hAW := ((hAc.below hBl).mono hwz).ext he2
      have hTW : Tabs W2 := HT.out.below (hBl.trans (he2.mono hwz)) h2
      have hU2 : But br w W2 := hU.trans (But.of_ext he2)
      have hR2 : RunAt W2 br (subN (v) (A.take k)) := (he2.block br (Array.getElem?_eq_some_iff.1 hR).1).trans hR
      have hbl : W2.heap[wr.heap.size]? = some (.cells (ndC n (.slice da n.data.length dc) (.slice aa n.acl.length ac)) 47 (0, 0)) := by rw [hW2]; exact heap_alloc_new wr _
      generalize subN (v) (A.take k) = s at *
      have hs : W2.cell? ⟨br, 0, none⟩ = some (.int .u64 s) := cell_of_row _ _ _ _ _ _ hR2
      have HSET := Lib.hid ((setRow_alloc wr zeroNd (ndC n (.slice da n.data.length dc) (.slice aa n.acl.length ac)) 47).trans hW2.symm)
      have HNew := Lib.hid (heap_alloc_new wr (.cells zeroNd 47))
      have HC := Lib.hid hcw
      have HBL := Lib.hid hbl
      have HSs := Lib.hid hs
      have HDW := Lib.hid hDW
      have HAW := Lib.hid hAW
      have HTW := Lib.hid hTW
      have HU2 := Lib.hid hU2
      have HR2 := Lib.hid hR2
      unfold ndC at HSET HC
      unfold zeroNd at HSET HNew
      clear hcw hbl hs hDW hAW hTW hU2 hR2 hW2 he2 hR hU hBl hc hD hAc hLk
      go_wp2_with (first | (refine wpList_load_at rfl 47 (.tmp 16) rfl _ rfl _ _ HC.out Tryz.underlying47 rfl sizeNd ?_) | (refine wpList_store_row rfl 47 (.tmp 7) (.tmp 17) rfl wr.heap.size _ rfl rfl 47 _ HNew.out sizeNd rfl (cells_node n da aa _ _ dc ac) ?_; rw [HSET.out]))
      have hbl := HBL.out
      have hs := HSs.out
      have hDW := HDW.out
      have hAW := HAW.out
      have hTW := HTW.out
      refine wp_region_P (by kernel_rfl) (region_store_vals 44 [.pointer (some ⟨br, 0, none⟩), .pointer (some ⟨br, 0, none⟩), .pointer (some ⟨br, 0, none⟩), .int .u64 s, .agg (ndC n (.slice da n.data.length dc) (.slice aa n.acl.length ac)), .int .u64 (nodeN n), .int .u64 (IntKind.u64.wrap (s - nodeN n)), .pointer (some ⟨br, 0, none⟩), .pointer (some ⟨br, 0, none⟩)] 9 _ rfl rfl rfl rfl rfl (by decide) rfl ?duties ?last)
      case duties =>
            refine ⟨?_, ?_, ?_, ?_, ?_, ?_, ?_, ?_, ?_, trivial⟩
            · refine duty_free rfl fun a w' hE hF hA => ?_
              have x1 := hF.slot 0 _ (by decide) rfl
              exact wp_value (w' := w') (v := .pointer (some ⟨br, 0, none⟩)) (by simp only [execOp, x1]; simp [go_sem]) ⟨_, rfl, rfl, Ext.refl _⟩
            · refine duty_free rfl fun a w' hE hF hA => ?_
              have x1 := hA.val 0 18 rfl rfl ⟨⟨0, .data⟩, by simp, rfl, rfl⟩ rfl
              exact wp_value (w' := w') (v := .pointer (some ⟨br, 0, none⟩)) (by simp only [execOp, x1]; simp [go_sem]) ⟨_, rfl, rfl, Ext.refl _⟩
            · refine duty_free rfl fun a w' hE hF hA => ?_
              have x1 := hA.val 1 19 rfl rfl ⟨⟨1, .data⟩, by simp, rfl, rfl⟩ rfl
              exact wp_value (w' := w') (v := .pointer (some ⟨br, 0, none⟩)) (by simp only [execOp, x1]; simp [go_sem]) ⟨_, rfl, rfl, Ext.refl _⟩
            · refine duty_free rfl fun a w' hE hF hA => ?_
              have x1 := hA.val 2 20 rfl rfl ⟨⟨2, .data⟩, by simp, rfl, rfl⟩ rfl
              exact wp_value (ex_cell rfl _ _ x1 ((hE.cell (World.block_lt_of_cell? _ _ hs)).trans hs) rfl Tryz.underlying30) ⟨_, rfl, rfl, Ext.refl _⟩
            · refine duty_free rfl fun a w' hE hF hA => ?_
              have x1 := hF.slot 7 _ (by decide) rfl
              exact wp_value (ex_load_row rfl _ x1 47 _ (0, 0) _ ((hE.block _ (Array.getElem?_eq_some_iff.1 hbl).1).trans hbl) Tryz.underlying47 rfl sizeNd) ⟨_, rfl, rfl, Ext.refl _⟩
            · refine duty_free rfl fun a w' hE hF hA => ?_
              have x1 := hA.val 4 22 rfl rfl ⟨⟨4, .data⟩, by simp, rfl, rfl⟩ rfl
              refine wp_enter (ex_call rfl (enters_f Tryz.func77 (by kernel_rfl) rfl)) (by simp only [List.map_toArray, List.map_cons, List.map_nil, x1]; exact node_any n da aa dc ac w' hfk (hTW.below hE hTW.size) (hDW.ext hE) (hAW.ext hE)) ?_
              rintro e w4 ⟨rfl, hb⟩
              exact ⟨_, rfl, _, rfl, rfl, hb⟩
            · refine duty_free rfl fun a w' hE hF hA => ?_
              have x1 := hA.val 3 21 rfl rfl ⟨⟨3, .data⟩, by simp, rfl, rfl⟩ rfl
              have x2 := hA.val 5 23 rfl rfl ⟨⟨5, .data⟩, by simp, rfl, rfl⟩ rfl
              exact wp_value (w' := w') (v := .int .u64 (IntKind.u64.wrap (s - nodeN n))) (by simp only [execOp, x1, x2]; simp [go_sem]) ⟨_, rfl, rfl, Ext.refl _⟩
            · refine duty_free rfl fun a w' hE hF hA => ?_
              have x1 := hA.val 0 18 rfl rfl ⟨⟨0, .data⟩, by simp, rfl, rfl⟩ rfl
              exact wp_value (w' := w') (v := .pointer (some ⟨br, 0, none⟩)) (by simp only [execOp, x1]; simp [go_sem]) ⟨_, rfl, rfl, Ext.refl _⟩
            · refine duty_free rfl fun a w' hE hF hA => ?_
              have x1 := hA.val 7 25 rfl rfl ⟨⟨7, .data⟩, by simp, rfl, rfl⟩ rfl
              exact wp_value (w' := w') (v := .pointer (some ⟨br, 0, none⟩)) (by simp only [execOp, x1]; simp [go_sem]) ⟨_, rfl, rfl, Ext.refl _⟩
      case last =>
        intro W8 hE8
        have hR8 : RunAt W8 br s := (hE8.block br (Array.getElem?_eq_some_iff.1 HR2.out).1).trans HR2.out
        have hU8 := (HU2.out.trans (But.of_ext hE8)).trans (But.set br W8 #[.int .u64 (IntKind.u64.wrap (s - nodeN n))])
        have hR9 : RunAt (W8.setRow br #[.int .u64 (IntKind.u64.wrap (s - nodeN n))]) br (IntKind.u64.wrap (s - nodeN n)) := setRow_heap _ _ _ _ _ _ hR8
        have HR9 := Lib.hid hR9
        have HU8 := Lib.hid hU8
        have HR8 := Lib.hid hR8
        clear hbl hs hDW hAW hTW hR9 hU8 hR8 HBL HSs HDW HAW HTW HU2 HR2 HC HSET HNew
        simp only [filled, List.take_succ_cons, List.take_zero, List.zip_cons_cons, List.zip_nil_left, List.foldl_cons, List.foldl_nil, Act.put, List.setIfInBounds_toArray, List.set_cons_succ, List.set_cons_zero]
        refine wp_skipped (w' := W8.setRow br #[.int .u64 (IntKind.u64.wrap (s - nodeN n))]) (by refine run_store_one 30 (.tmp 26) (.tmp 24) ?_ br (.int .u64 (IntKind.u64.wrap (s - nodeN n))) ?_ ?_ ?_ 159 (.int .u64 s) HR8.out infoU64 <;> rfl) ?_
        simp only [Exit.inBlock, Exit.then, Act.put]
        rename_i hK
        refine hK _ _ ?_
        go_wp2
        go_roundw
        case rel => exact ⟨k + 1, by omega, by go_num, by rw [HS.out]; exact HR9.out, HU8.out⟩
        case measure => simp [intOf]; omega
    · obtain rfl : k = A.length := by omega
      rw [List.take_length] at hR
      go_wp2
      go_loopw [30] (fun i wr => ∃ k : Nat, k ≤ B.length ∧ i = .int .i64 k ∧ RunAt wr br (addN (subN v A) (B.take k)) ∧ But br w wr) (fun i _ => B.length - (intOf i).toNat)
      case atStart => exact ⟨0, Nat.zero_le _, rfl, by simpa [addN] using hR, hU⟩
      case round =>
        obtain ⟨k, hk, rfl, hR, hU⟩ := hrel
        by_cases hlt : k < B.length
        · have hLk : B[k]? = some B[k] := List.getElem?_eq_getElem hlt
          have hfk := HFB.out B[k] (List.getElem_mem hlt)
          have HS := Lib.hid (addN_take (subN v A) B k hlt)
          obtain ⟨b, off, vv, rfl, hb, hv, hc⟩ := HB.out k B[k] hLk
          generalize B[k] = n at *
          obtain ⟨da, dc, aa, ac, rfl, hD, hAc⟩ := hv
          have hBl : Below B0 w wr := hU.below hB0 hB1
          have hcw : ∀ j u, (ndC n (.slice da n.data.length dc) (.slice aa n.acl.length ac))[j]? = some u → wr.cell? ((⟨b, off + k * 17, none⟩ : Addr).add j) = some u := fun j u hj => by
            rw [addr_add, hBl.cell (p := ⟨b, off + k * 17 + j, none⟩) hb]
            exact hc j u hj
          have hwz : B0 ≤ wr.heap.size := Nat.le_trans hB1 hU.size
          obtain ⟨W2, hW2⟩ : ∃ W2, W2 = wr.alloc (.cells (ndC n (.slice da n.data.length dc) (.slice aa n.acl.length ac)) 47) := ⟨_, rfl⟩
          have he2 : Ext wr W2 := by rw [hW2]; exact Ext.alloc _ _
          have hDW := ((hD.below hBl).mono hwz).ext he2
          have hAW := ((hAc.below hBl).mono hwz).ext he2
          have hTW : Tabs W2 := HT.out.below (hBl.trans (he2.mono hwz)) h2
          have hU2 : But br w W2 := hU.trans (But.of_ext he2)
          have hR2 : RunAt W2 br (addN (subN v A) (B.take k)) := (he2.block br (Array.getElem?_eq_some_iff.1 hR).1).trans hR
          have hbl : W2.heap[wr.heap.size]? = some (.cells (ndC n (.slice da n.data.length dc) (.slice aa n.acl.length ac)) 47 (0, 0)) := by rw [hW2]; exact heap_alloc_new wr _
          generalize addN (subN v A) (B.take k) = s at *
          have hs : W2.cell? ⟨br, 0, none⟩ = some (.int .u64 s) := cell_of_row _ _ _ _ _ _ hR2
          have HSET := Lib.hid ((setRow_alloc wr zeroNd (ndC n (.slice da n.data.length dc) (.slice aa n.acl.length ac)) 47).trans hW2.symm)
          have HNew := Lib.hid (heap_alloc_new wr (.cells zeroNd 47))
          have HC := Lib.hid hcw
          have HBL := Lib.hid hbl
          have HSs := Lib.hid hs
          have HDW := Lib.hid hDW
          have HAW := Lib.hid hAW
          have HTW := Lib.hid hTW
          have HU2 := Lib.hid hU2
          have HR2 := Lib.hid hR2
          unfold ndC at HSET HC
          unfold zeroNd at HSET HNew
          clear hcw hbl hs hDW hAW hTW hU2 hR2 hW2 he2 hR hU hBl hc hD hAc hLk
          go_wp2_with (first | (refine wpList_load_at rfl 47 (.tmp 32) rfl _ rfl _ _ HC.out Tryz.underlying47 rfl sizeNd ?_) | (refine wpList_store_row rfl 47 (.tmp 9) (.tmp 33) rfl wr.heap.size _ rfl rfl 47 _ HNew.out sizeNd rfl (cells_node n da aa _ _ dc ac) ?_; rw [HSET.out]))
          have hbl := HBL.out
          have hs := HSs.out
          have hDW := HDW.out
          have hAW := HAW.out
          have hTW := HTW.out
          refine wp_region_P (by kernel_rfl) (region_store_vals 44 [.pointer (some ⟨br, 0, none⟩), .pointer (some ⟨br, 0, none⟩), .pointer (some ⟨br, 0, none⟩), .int .u64 s, .agg (ndC n (.slice da n.data.length dc) (.slice aa n.acl.length ac)), .int .u64 (nodeN n), .int .u64 (IntKind.u64.wrap (s + nodeN n)), .pointer (some ⟨br, 0, none⟩), .pointer (some ⟨br, 0, none⟩)] 9 _ rfl rfl rfl rfl rfl (by decide) rfl ?duties ?last)
          case duties =>
                refine ⟨?_, ?_, ?_, ?_, ?_, ?_, ?_, ?_, ?_, trivial⟩
                · refine duty_free rfl fun a w' hE hF hA => ?_
                  have x1 := hF.slot 0 _ (by decide) rfl
                  exact wp_value (w' := w') (v := .pointer (some ⟨br, 0, none⟩)) (by simp only [execOp, x1]; simp [go_sem]) ⟨_, rfl, rfl, Ext.refl _⟩
                · refine duty_free rfl fun a w' hE hF hA => ?_
                  have x1 := hA.val 0 34 rfl rfl ⟨⟨0, .data⟩, by simp, rfl, rfl⟩ rfl
                  exact wp_value (w' := w') (v := .pointer (some ⟨br, 0, none⟩)) (by simp only [execOp, x1]; simp [go_sem]) ⟨_, rfl, rfl, Ext.refl _⟩
                · refine duty_free rfl fun a w' hE hF hA => ?_
                  have x1 := hA.val 1 35 rfl rfl ⟨⟨1, .data⟩, by simp, rfl, rfl⟩ rfl
                  exact wp_value (w' := w') (v := .pointer (some ⟨br, 0, none⟩)) (by simp only [execOp, x1]; simp [go_sem]) ⟨_, rfl, rfl, Ext.refl _⟩
                · refine duty_free rfl fun a w' hE hF hA => ?_
                  have x1 := hA.val 2 36 rfl rfl ⟨⟨2, .data⟩, by simp, rfl, rfl⟩ rfl
                  exact wp_value (ex_cell rfl _ _ x1 ((hE.cell (World.block_lt_of_cell? _ _ hs)).trans hs) rfl Tryz.underlying30) ⟨_, rfl, rfl, Ext.refl _⟩
                · refine duty_free rfl fun a w' hE hF hA => ?_
                  have x1 := hF.slot 9 _ (by decide) rfl
                  exact wp_value (ex_load_row rfl _ x1 47 _ (0, 0) _ ((hE.block _ (Array.getElem?_eq_some_iff.1 hbl).1).trans hbl) Tryz.underlying47 rfl sizeNd) ⟨_, rfl, rfl, Ext.refl _⟩
                · refine duty_free rfl fun a w' hE hF hA => ?_
                  have x1 := hA.val 4 38 rfl rfl ⟨⟨4, .data⟩, by simp, rfl, rfl⟩ rfl
                  refine wp_enter (ex_call rfl (enters_f Tryz.func77 (by kernel_rfl) rfl)) (by simp only [List.map_toArray, List.map_cons, List.map_nil, x1]; exact node_any n da aa dc ac w' hfk (hTW.below hE hTW.size) (hDW.ext hE) (hAW.ext hE)) ?_
                  rintro e w4 ⟨rfl, hb⟩
                  exact ⟨_, rfl, _, rfl, rfl, hb⟩
                · refine duty_free rfl fun a w' hE hF hA => ?_
                  have x1 := hA.val 3 37 rfl rfl ⟨⟨3, .data⟩, by simp, rfl, rfl⟩ rfl
                  have x2 := hA.val 5 39 rfl rfl ⟨⟨5, .data⟩, by simp, rfl, rfl⟩ rfl
                  exact wp_value (w' := w') (v := .int .u64 (IntKind.u64.wrap (s + nodeN n))) (by simp only [execOp, x1, x2]; simp [go_sem]) ⟨_, rfl, rfl, Ext.refl _⟩
                · refine duty_free rfl fun a w' hE hF hA => ?_
                  have x1 := hA.val 0 34 rfl rfl ⟨⟨0, .data⟩, by simp, rfl, rfl⟩ rfl
                  exact wp_value (w' := w') (v := .pointer (some ⟨br, 0, none⟩)) (by simp only [execOp, x1]; simp [go_sem]) ⟨_, rfl, rfl, Ext.refl _⟩
                · refine duty_free rfl fun a w' hE hF hA => ?_
                  have x1 := hA.val 7 41 rfl rfl ⟨⟨7, .data⟩, by simp, rfl, rfl⟩ rfl
                  exact wp_value (w' := w') (v := .pointer (some ⟨br, 0, none⟩)) (by simp only [execOp, x1]; simp [go_sem]) ⟨_, rfl, rfl, Ext.refl _⟩
          case last =>
            intro W8 hE8
            have hR8 : RunAt W8 br s := (hE8.block br (Array.getElem?_eq_some_iff.1 HR2.out).1).trans HR2.out
            have hU8 := (HU2.out.trans (But.of_ext hE8)).trans (But.set br W8 #[.int .u64 (IntKind.u64.wrap (s + nodeN n))])
            have hR9 : RunAt (W8.setRow br #[.int .u64 (IntKind.u64.wrap (s + nodeN n))]) br (IntKind.u64.wrap (s + nodeN n)) := setRow_heap _ _ _ _ _ _ hR8
            have HR9 := Lib.hid hR9
            have HU8 := Lib.hid hU8
            have HR8 := Lib.hid hR8
            clear hbl hs hDW hAW hTW hR9 hU8 hR8 HBL HSs HDW HAW HTW HU2 HR2 HC HSET HNew
            simp only [filled, List.take_succ_cons, List.take_zero, List.zip_cons_cons, List.zip_nil_left, List.foldl_cons, List.foldl_nil, Act.put, List.setIfInBounds_toArray, List.set_cons_succ, List.set_cons_zero]
            refine wp_skipped (w' := W8.setRow br #[.int .u64 (IntKind.u64.wrap (s + nodeN n))]) (by refine run_store_one 30 (.tmp 42) (.tmp 40) ?_ br (.int .u64 (IntKind.u64.wrap (s + nodeN n))) ?_ ?_ ?_ 159 (.int .u64 s) HR8.out infoU64 <;> rfl) ?_
            simp only [Exit.inBlock, Exit.then, Act.put]
            rename_i hK
            refine hK _ _ ?_
            go_wp2
            go_roundw
            case rel => exact ⟨k + 1, by omega, by go_num, by rw [HS.out]; exact HR9.out, HU8.out⟩
            case measure => simp [intOf]; omega
        · obtain rfl : k = B.length := by omega
          rw [List.take_length] at hR
          have hfin : TurnOut br (addN (subN v A) B) w (.returned (.tuple #[])) wr := ⟨rfl, hR, hU⟩
          have HFIN := Lib.hid hfin
          clear hfin hR hU
          go_wp2
          exact ⟨rfl, _, results_none rfl _ _ _, HFIN.out⟩


end Go.Proofs.YtamolbegmkngdaaGreatDoor
namespace Go.Proofs.YtamolbegmkngdaaGreatDoor
open Go.RowKit
set_option maxHeartbeats 4000000
set_option maxRecDepth 100000

/-- The cells of a book of every second number, two at the most. -/
def bkC (l : Int) (v : Value) : Array Value := #[.int .i64 2, .int .i64 2, .int .i64 l, v, .int .i64 0]

def FirstOut (w : World) (bb : Nat) (e : Ending) (w' : World) : Prop :=
  e = .returned (.bool true) ∧ (∃ v, w'.heap[bb]? = some (.cells (bkC 2 v) 198 (0, 0)) ∧ ∃ a c, v = .slice a 1 c) ∧ But bb w w'

/-- What the appending of an entry to a nil ring leaves, operation by operation. -/
def PhiF (bb : Nat) (i : Nat) (v : Value) (w : World) : Prop :=
  match i with
  | 0 | 1 | 2 | 8 => v = .pointer (some ⟨bb, 0, none⟩)
  | 3 | 9 => v = .pointer (some ⟨bb, 3, none⟩)
  | 4 => v = .slice none 0 0
  | 5 => v = .agg #[.int .i64 2, .int .u64 6]
  | 6 => ∃ g, v = .slice (some ⟨g, 0, none⟩) 1 1 ∧ w.heap[g]? = some (.cells #[.int .i64 2, .int .u64 6] 200 (0, 0))
  | 7 => ∃ a c, v = .slice a 1 c
  | _ => False
theorem PhiF.stab (bb : Nat) : ∀ i v w w', PhiF bb i v w → Ext w w' → PhiF bb i v w' := by
  intro i v w w' h hE
  unfold PhiF at *
  split <;> rename_i hi <;> simp only [] at h ⊢ <;> try exact h
  obtain ⟨g, rfl, hg⟩ := h
  exact ⟨g, rfl, (hE.block g (Array.getElem?_eq_some_iff.1 hg).1).trans hg⟩

theorem notefirst_any (w : World) (bb : Nat) (hb : w.heap[bb]? = some (.cells (bkC 0 (.slice none 0 0)) 198 (0, 0))) :
    Calls Tryz.prog 81 #[.pointer (some ⟨bb, 0, none⟩), .int .i64 2, .int .u64 6] w (FirstOut w bb) := by
  have hx : Box w bb (bkC 0 (.slice none 0 0)) := fun j => cell_of_row _ _ _ _ _ _ hb
  obtain ⟨W1, hW1⟩ : ∃ W1, W1 = w.setRow bb (bkC 2 (.slice none 0 0)) := ⟨_, rfl⟩
  have hb1 : W1.heap[bb]? = some (.cells (bkC 2 (.slice none 0 0)) 198 (0, 0)) := by rw [hW1]; exact setRow_heap _ _ _ _ _ _ hb
  have hx1 : Box W1 bb (bkC 2 (.slice none 0 0)) := fun j => cell_of_row _ _ _ _ _ _ hb1
  have hC1 : But bb w W1 := by rw [hW1]; exact But.set _ _ _
  have hbl : bb < W1.heap.size := (Array.getElem?_eq_some_iff.1 hb1).1
  obtain ⟨W2, hW2⟩ : ∃ W2, W2 = W1.alloc (.cells #[.int .i64 2, .int .u64 6] 200) := ⟨_, rfl⟩
  have hE2 : Ext W1 W2 := by rw [hW2]; exact Ext.alloc _ _
  have HSET := Lib.hid ((setRow_alloc W1 #[.int .i64 0, .int .u64 0] #[.int .i64 2, .int .u64 6] 200).trans hW2.symm)
  have HNew := Lib.hid (heap_alloc_new W1 (.cells #[.int .i64 0, .int .u64 0] 200))
  have ce : W2.heap[W1.heap.size]? = some (.cells #[.int .i64 2, .int .u64 6] 200 (0, 0)) := by rw [hW2]; exact heap_alloc_new _ _
  have hb2 := (hE2.block bb hbl).trans hb1
  have HB2 := Lib.hid hb2
  have HCE := Lib.hid ce
  have HC2 := Lib.hid (hC1.trans (But.of_ext hE2))
  have HC1' := Lib.hid (show W2.cell? ⟨bb, 1, none⟩ = some (.int .i64 2) from cell_of_row _ _ 1 _ _ _ hb2)
  have HC3' := Lib.hid (show W2.cell? ⟨bb, 3, none⟩ = some (.slice none 0 0) from cell_of_row _ _ 3 _ _ _ hb2)
  have hbl2 : bb ≠ W1.heap.size := by omega
  have HBLK := Lib.hid hb
  have HW1 := Lib.hid hW1
  have hdm : ((bits .and .i64 2 4294967295).tmod 2 != 0) = false := by decide +kernel
  unfold Box bkC at hx hx1
  unfold bkC at HBLK HW1
  clear hW1 hb1 hC1 hW2 hE2 ce hb2 hb
  go_enter Tryz.func81, Tryz.ntmps81
  go_wp2_with (first | (refine wpList_store_in rfl 2 (.tmp 25) (.tmp 23) rfl bb 2 (.int .i64 2) rfl rfl (by simp [Value.cells, Value.oneCell']) 198 _ HBLK.out (by simp [Value.cells]) infoI64 #[.int .i64 2, .int .i64 2, .int .i64 2, .slice none 0 0, .int .i64 0] (by simp [Value.cells]) ?_; rw [← HW1.out]) | (refine wpList_store_row rfl 200 (.tmp 7) (.tmp 36) rfl W1.heap.size _ rfl rfl 200 _ HNew.out sizeEnt rfl (by simp [Value.oneCell']) ?_; rw [HSET.out]))
  have c1 := HC1'.out
  have c3 := HC3'.out
  refine wp_region_P (by kernel_rfl) (region_vals 80 [.pointer (some ⟨bb, 0, none⟩), .pointer (some ⟨bb, 0, none⟩), .pointer (some ⟨bb, 3, none⟩), .slice none 0 0, .int .i64 0, .pointer (some ⟨bb, 0, none⟩), .pointer (some ⟨bb, 0, none⟩), .pointer (some ⟨bb, 1, none⟩), .int .i64 2, .bool true] rfl (by decide) rfl ?duties ?rest)
  case duties =>
    refine ⟨?_, ?_, ?_, ?_, ?_, ?_, ?_, ?_, ?_, ?_, trivial⟩
    · refine duty_free rfl fun a w' hE hF hA => ?_
      have x1 := hF.slot 0 _ (by decide) rfl
      exact wp_value (w' := w') (v := .pointer (some ⟨bb, 0, none⟩)) (by simp only [execOp, x1]; simp [go_sem]) ⟨_, rfl, rfl, Ext.refl _⟩
    · refine duty_free rfl fun a w' hE hF hA => ?_
      have x1 := hA.val 0 37 rfl rfl ⟨⟨0, .data⟩, by simp, rfl, rfl⟩ rfl
      exact wp_value (w' := w') (v := .pointer (some ⟨bb, 0, none⟩)) (by simp only [execOp, x1]; simp [go_sem]) ⟨_, rfl, rfl, Ext.refl _⟩
    · refine duty_free rfl fun a w' hE hF hA => ?_
      have x1 := hA.val 1 38 rfl rfl ⟨⟨1, .data⟩, by simp, rfl, rfl⟩ rfl
      exact wp_value (w' := w') (v := .pointer (some ⟨bb, 3, none⟩)) (by simp only [execOp, x1]; simp [go_sem]) ⟨_, rfl, rfl, Ext.refl _⟩
    · refine duty_free rfl fun a w' hE hF hA => ?_
      have x1 := hA.val 2 39 rfl rfl ⟨⟨2, .data⟩, by simp, rfl, rfl⟩ rfl
      exact wp_value (ex_cell rfl _ _ x1 ((hE.cell (World.block_lt_of_cell? _ _ c3)).trans c3) rfl Tryz.underlying196) ⟨_, rfl, rfl, Ext.refl _⟩
    · refine duty_free rfl fun a w' hE hF hA => ?_
      have x1 := hA.val 3 40 rfl rfl ⟨⟨3, .data⟩, by simp, rfl, rfl⟩ rfl
      exact wp_value (w' := w') (v := .int .i64 0) (by simp only [execOp, resolve, List.map_toArray, List.map_cons, List.map_nil, x1]; simp [go_sem, invoke, builtin, Builtin.len_]) ⟨_, rfl, rfl, Ext.refl _⟩
    · refine duty_free rfl fun a w' hE hF hA => ?_
      have x1 := hF.slot 0 _ (by decide) rfl
      exact wp_value (w' := w') (v := .pointer (some ⟨bb, 0, none⟩)) (by simp only [execOp, x1]; simp [go_sem]) ⟨_, rfl, rfl, Ext.refl _⟩
    · refine duty_free rfl fun a w' hE hF hA => ?_
      have x1 := hA.val 5 42 rfl rfl ⟨⟨5, .data⟩, by simp, rfl, rfl⟩ rfl
      exact wp_value (w' := w') (v := .pointer (some ⟨bb, 0, none⟩)) (by simp only [execOp, x1]; simp [go_sem]) ⟨_, rfl, rfl, Ext.refl _⟩
    · refine duty_free rfl fun a w' hE hF hA => ?_
      have x1 := hA.val 6 43 rfl rfl ⟨⟨6, .data⟩, by simp, rfl, rfl⟩ rfl
      exact wp_value (w' := w') (v := .pointer (some ⟨bb, 1, none⟩)) (by simp only [execOp, x1]; simp [go_sem]) ⟨_, rfl, rfl, Ext.refl _⟩
    · refine duty_free rfl fun a w' hE hF hA => ?_
      have x1 := hA.val 7 44 rfl rfl ⟨⟨7, .data⟩, by simp, rfl, rfl⟩ rfl
      exact wp_value (ex_cell rfl _ _ x1 ((hE.cell (World.block_lt_of_cell? _ _ c1)).trans c1) rfl Tryz.underlying3) ⟨_, rfl, rfl, Ext.refl _⟩
    · refine duty_free rfl fun a w' hE hF hA => ?_
      have x1 := hA.val 4 41 rfl rfl ⟨⟨4, .data⟩, by simp, rfl, rfl⟩ rfl
      have x2 := hA.val 8 45 rfl rfl ⟨⟨8, .data⟩, by simp, rfl, rfl⟩ rfl
      exact wp_value (w' := w') (v := .bool true) (by simp only [execOp, x1, x2]; simp [go_sem]) ⟨_, rfl, rfl, Ext.refl _⟩
  case rest =>
    intro W3 hE3
    clear c1 c3
    simp only [filled, List.zip_cons_cons, List.zip_nil_left, List.foldl_cons, List.foldl_nil, Act.put, List.setIfInBounds_toArray, List.set_cons_succ, List.set_cons_zero, Exit.then]
    rename_i hK
    refine hK _ _ ?_
    go_wp2
    have hb3 := (hE3.block bb (Array.getElem?_eq_some_iff.1 HB2.out).1).trans HB2.out
    have ce3 := (hE3.block _ (Array.getElem?_eq_some_iff.1 HCE.out).1).trans HCE.out
    have c3 : W3.cell? ⟨bb, 3, none⟩ = some (.slice none 0 0) := cell_of_row _ _ 3 _ _ _ hb3
    obtain ⟨i0, hi, hz0, hz1', hz2⟩ := info_parts infoEnt
    refine wp_region_last_e 80 (by kernel_rfl) (PhiF bb) (PhiF.stab bb) (by decide) rfl 10 _ rfl rfl rfl rfl ?duties2 ?last
    case duties2 =>
      refine ⟨?_, ?_, ?_, ?_, ?_, ?_, ?_, ?_, ?_, ?_, trivial⟩
      · exact duty_free rfl fun a w' hE hF hA => wp_value (w' := w') (ex_move rfl) ⟨_, rfl, hF.slot 0 _ (by decide) rfl, Ext.refl _⟩
      · exact duty_free rfl fun a w' hE hF hA => wp_value (w' := w') (ex_move rfl) ⟨_, rfl, hF.slot 0 _ (by decide) rfl, Ext.refl _⟩
      · refine duty_free rfl fun a w' hE hF hA => ?_
        have x1 : a.eval (.tmp 48) = _ := hA.slot 1 48 rfl rfl ⟨⟨1, .data⟩, by simp, rfl, rfl⟩
        exact wp_value (ex_nilCheck rfl _ x1) ⟨_, rfl, rfl, Ext.refl _⟩
      · refine duty_free rfl fun a w' hE hF hA => ?_
        have x1 : a.eval (.tmp 49) = _ := hA.slot 2 49 rfl rfl ⟨⟨2, .data⟩, by simp, rfl, rfl⟩
        exact wp_value (v := .pointer (some ⟨bb, 3, none⟩)) (w' := w') (by simp only [execOp, x1]; simp [go_sem]) ⟨_, rfl, rfl, Ext.refl _⟩
      · refine duty_free rfl fun a w' hE hF hA => ?_
        have x1 : a.eval (.tmp 50) = _ := hA.slot 3 50 rfl rfl ⟨⟨3, .data⟩, by simp, rfl, rfl⟩
        exact wp_value (ex_cell rfl _ _ x1 ((hE.cell (World.block_lt_of_cell? _ _ c3)).trans c3) rfl Tryz.underlying196) ⟨_, rfl, rfl, Ext.refl _⟩
      · refine duty_free rfl fun a w' hE hF hA => ?_
        have x1 := hF.slot 7 _ (by decide) rfl
        exact wp_value (ex_load_row rfl _ x1 200 _ (0, 0) _ ((hE.block _ (Array.getElem?_eq_some_iff.1 ce3).1).trans ce3) Tryz.underlying200 rfl sizeEnt) ⟨_, rfl, rfl, Ext.refl _⟩
      · refine duty_free rfl fun a w' hE hF hA => ?_
        have x1 : a.eval (.tmp 52) = _ := hA.slot 5 52 rfl rfl ⟨⟨5, .data⟩, by simp, rfl, rfl⟩
        refine wp_buildSlice 196 200 1 _ rfl #[.int .i64 2, .int .u64 6] i0 (.agg #[.int .i64 0, .int .u64 0]) Tryz.underlying196 hi hz0 (by rw [hz1']; decide) (by rw [hz1']; decide) (by simp only [List.map_toArray, List.map_cons, List.map_nil, x1, hz1']; kernel_rfl) ⟨_, rfl, ⟨w'.heap.size, rfl, heap_alloc_new _ _⟩, Ext.alloc _ _⟩
      · refine duty_free rfl fun a w' hE hF hA => ?_
        have x1 : a.eval (.tmp 51) = _ := hA.slot 4 51 rfl rfl ⟨⟨4, .data⟩, by simp, rfl, rfl⟩
        obtain ⟨g, x2, hg⟩ : ∃ g, a.eval (.tmp 53) = .slice (some ⟨g, 0, none⟩) 1 1 ∧ w'.heap[g]? = some (.cells #[.int .i64 2, .int .u64 6] 200 (0, 0)) := hA.slot 6 53 rfl rfl ⟨⟨6, .data⟩, by simp, rfl, rfl⟩
        have hcs : Cells w'.heap.size w' (some ⟨g, 0, none⟩) [.int .i64 2, .int .u64 6] := fun j u hj => ⟨g, 0, rfl, (Array.getElem?_eq_some_iff.1 hg).1, by rw [Nat.zero_add, cell_of_row _ _ _ _ _ _ hg]; simpa using hj⟩
        have hsrc : Src Tryz.prog 2 196 (.slice (some ⟨g, 0, none⟩) 1 1) 1 [.int .i64 2, .int .u64 6] w' := hcs.src Tryz.underlying196 1 1 rfl (by simp [Value.oneCell'])
        obtain ⟨v', w2, hr, hown, hgr, _, _⟩ := run_append_own_src (P := Tryz.prog) w' w'.heap.size 196 196 196 200 i0 (.agg #[.int .i64 0, .int .u64 0]) 2 16 Tryz.underlying196 hi hz0 hz1' hz2 rfl (by decide) (.slice none 0 0) 0 [] (World.ownsRow_nil _ _ _ _) _ 1 _ hsrc (by unfold maxLen; omega) (by omega) (Nat.le_refl _)
        obtain ⟨a', c', rfl, _⟩ := ownsRow_from hown
        exact wp_value (ex_append rfl (by rw [x1, x2]; exact hr)) ⟨_, rfl, ⟨a', c', rfl⟩, ⟨hgr.os, hgr.tape, hgr.output, hgr.size, fun k hk => hgr.block k hk (by simp [Value.ownBlock])⟩⟩
      · refine duty_free rfl fun a w' hE hF hA => ?_
        have x1 : a.eval (.tmp 47) = _ := hA.slot 0 47 rfl rfl ⟨⟨0, .data⟩, by simp, rfl, rfl⟩
        exact wp_value (ex_nilCheck rfl _ x1) ⟨_, rfl, rfl, Ext.refl _⟩
      · refine duty_free rfl fun a w' hE hF hA => ?_
        have x1 : a.eval (.tmp 55) = _ := hA.slot 8 55 rfl rfl ⟨⟨8, .data⟩, by simp, rfl, rfl⟩
        exact wp_value (v := .pointer (some ⟨bb, 3, none⟩)) (w' := w') (by simp only [execOp, x1]; simp [go_sem]) ⟨_, rfl, rfl, Ext.refl _⟩
    case last =>
      intro us W4 hE4 hl hP
      have hl' : us.length = 10 := by simpa using hl
      clear hl
      obtain ⟨u0, u1, u2, u3, u4, u5, u6, u7, u8, u9, rfl⟩ := us10 us hl'
      have h7 : ∃ a c, u7 = .slice a 1 c := hP 7 u7 rfl
      have h7a := h7.choose_spec
      generalize h7.choose = a' at h7a
      have h7b := h7a.choose_spec
      generalize h7a.choose = c' at h7b
      have h9 : u9 = .pointer (some ⟨bb, 3, none⟩) := hP 9 u9 rfl
      subst h7b h9
      clear h7 h7a
      have hb4 := (hE4.block bb (Array.getElem?_eq_some_iff.1 hb3).1).trans hb3
      have hfin : FirstOut w bb (.returned (.bool true)) (W4.setRow bb #[.int .i64 2, .int .i64 2, .int .i64 2, .slice a' 1 c', .int .i64 0]) :=
        ⟨rfl, ⟨_, setRow_heap _ _ _ _ _ _ hb4, a', c', rfl⟩, ((HC2.out.trans (But.of_ext hE3)).trans (But.of_ext hE4)).trans (But.set _ _ _)⟩
      have HFIN := Lib.hid hfin
      have HB4 := Lib.hid hb4
      unfold bkC at HB4
      clear hfin hb4 hb3 ce3 c3 hP hl'
      simp only [filled, List.take_succ_cons, List.take_zero, List.zip_cons_cons, List.zip_nil_left, List.foldl_cons, List.foldl_nil, Act.put, List.setIfInBounds_toArray, List.set_cons_succ, List.set_cons_zero]
      refine wp_store_in 196 (.tmp 56) (.tmp 54) bb 3 (.slice a' 1 c') 198 _ #[.int .i64 2, .int .i64 2, .int .i64 2, .slice a' 1 c', .int .i64 0] HB4.out (by simp [Value.cells]) infoEnts (by simp [Value.cells]) (by simp [Value.cells, Value.oneCell']) ?_ rfl rfl rfl
      simp only [Exit.inBlock, Exit.then, Act.put]
      rename_i hK2
      refine hK2 _ _ ?_
      go_wp2
      go_ret
      exact HFIN.out
end Go.Proofs.YtamolbegmkngdaaGreatDoor
namespace Go.Proofs.YtamolbegmkngdaaGreatDoor
open Go.RowKit
set_option maxHeartbeats 4000000
set_option maxRecDepth 100000

theorem blen_row (w : World) (bb : Nat) (a : Option Addr) (n c : Nat) (h3 : w.cell? ⟨bb, 3, none⟩ = some (.slice a n c)) : Calls Tryz.prog 82 #[.pointer (some ⟨bb, 0, none⟩)] w fun e w' => e = .returned (.int .i64 n) ∧ w = w' := by
  go_enter Tryz.func82, Tryz.ntmps82
  go_wp2
  go_ret
  exact ⟨rfl, rfl⟩

theorem root_number : addN 0 [rootN] ≠ 0 := by decide +kernel

theorem alive9_any (w : World) (hT : Tabs w) : Calls Tryz.prog 16 #[] w fun e w' => e = .returned (.bool true) ∧ Ext w w' := by
  have hsz := hT.size
  have C1 := newbook_any 2 2 w
  unfold NewBookOut at C1
  simp only [show ((1 : Int) ≤ 2 ∧ (1 : Int) ≤ 2) from by decide, if_true, and_self] at C1
  have C1 := Lib.hid C1
  have HT := Lib.hid hT
  clear hT
  go_enter Tryz.func16, Tryz.ntmps16
  go_wp2_with fail
  refine C1.out.mono ?_
  rintro e W1 ⟨bb, rfl, hbb, hB, hE1⟩
  have hbl := hB.bound _ hB.mine
  have C2 : Calls Tryz.prog 80 #[.slice none 0 0] W1 fun e w' => e = .returned (.int .u64 14695981039346656037) ∧ W1 = w' := sum_any none 0 [] W1 (Cells.nil _ _ _) (by simp)
  have C2 := Lib.hid C2
  have C3 := Lib.hid (notefirst_any W1 bb hB.blk)
  have HE1 := Lib.hid hE1
  have hz1 := hE1.size
  clear hB hE1 C1
  go_wp2_with fail
  refine C2.out.mono ?_
  rintro e W2 ⟨rfl, rfl⟩
  clear C2
  go_wp2_with fail
  refine C3.out.mono ?_
  rintro e W2 ⟨rfl, ⟨v, hrow, a, c, rfl⟩, hBut⟩
  have hB2 : Ext w W2 := HE1.out.trans' (hBut.below hbb (by omega))
  have C4 := Lib.hid (blen_row W2 bb a 1 c (cell_of_row _ _ 3 _ _ _ hrow))
  have C5 := Lib.hid (new_any W2)
  have HB2 := Lib.hid hB2
  clear C3 hrow hBut hB2
  go_wp2_with fail
  refine C4.out.mono ?_
  rintro e W3 ⟨rfl, rfl⟩
  clear C4
  go_wp2_with fail
  refine C5.out.mono ?_
  rintro e W3 ⟨bt, rfl, hTr, hE3⟩
  have hE3 : Ext W2 W3 := hE3
  have hB3 := HB2.out.trans hE3
  have C6 := dof_any _ W3 bt _ _ hTr (HT.out.below hB3 hsz) (by simp)
  simp only [List.map_cons, List.map_nil] at C6
  have C6 := Lib.hid C6
  have HB3 := Lib.hid hB3
  have hne : (addN 0 [rootN] != 0) = true := by simpa using root_number
  have hne2 : decide (addN 0 [rootN] = 0) = false := by simpa using root_number
  clear hTr hE3 hB3 C5
  go_wp2_with fail
  refine C6.out.mono ?_
  rintro e W4 ⟨rfl, hE4⟩
  have HFIN := Lib.hid (HB3.out.trans hE4)
  clear hE4 C6
  go_wp2
  go_ret
  exact ⟨rfl, HFIN.out⟩
end Go.Proofs.YtamolbegmkngdaaGreatDoor
