/- The walk of the document's From: its tree lies in blocks made in the call. A row of the call's own that shows nodes that were cloned for it; how it grows by one. A node that was cloned for it is appended to a row of the call's own: one law for the walk. What is under a path: itself and what is under its children. Plain law: the parent of a path is a path. No program in sight. The walk of arborref03.Under. The walk of After: a range over the map of nodes, in an order that nobody knows. A region that draws its order, whose last operation, a store, comes after all others. The walk of stat.Encode, where the node may be. The walk of the sum of bytes; a node's number. The walk of a node's number. The walk of the tree's number: a range over the tree's nodes. A nil tree: what is told of it. The walk of stat.Of. A region that draws its order, with one operation that turns memory (an append) ahead of all that follow it in the text. A region that draws its order, its operations turning memory: an invariant that knows which of them are done. A region that draws its order and turns memory: operations without a slot (a store) among them. The walk of (*Tree).Stat. The step of a range over a map keyed by strings: the name is told to be among those that were left. -/
import Derived.Test.YthinpbdbhijbgaaGreatDoorJQuotaBooks8
import Derived.Test.YthinpbdbhijbgaaGreatDoorJQuotaBooks7
import Derived.Test.YthinpbdbhijbgaaGreatDoorJQuotaBooks6
import Derived.Test.YthinpbdbhijbgaaGreatDoorJQuotaBooks5
import Derived.Test.YthinpbdbhijbgaaGreatDoorJQuotaBooks2
import Derived.Maps.RangeWalk
namespace Go.Proofs.YthinpbdbhijbgaaGreatDoor
open Go.RowKit Go.Sort
set_option maxHeartbeats 4000000
set_option maxRecDepth 100000

/-- A tree of the document's in blocks made behind b. -/
def RTf (b : Nat) (W : World) (L : List Nd) : Prop := RTree (fun k => b < k ∧ k < W.heap.size) W b L
theorem RTf.ext {b : Nat} {W W' : World} {L : List Nd} (h : RTf b W L) (hE : Ext W W') : RTf b W' L :=
  (RTree.ext h hE).keep (fun k hk => ⟨hk.1, Nat.lt_of_lt_of_le hk.2 hE.size⟩) rfl (fun _ _ => rfl) fun k hk => ⟨hk.2, fun e => by rw [e] at hk; exact Nat.lt_irrefl _ hk.1⟩
theorem RTf.ins {b : Nat} {W W' : World} {L' : List Nd} (hb : b < W.heap.size) (h : RTree (fun k => (b < k ∧ k < W.heap.size) ∨ (W.heap.size ≤ k ∧ k < W'.heap.size)) W' b L') (hz : W.heap.size ≤ W'.heap.size) : RTf b W' L' :=
  h.keep (fun k hk => by rcases hk with hk | hk <;> exact ⟨by omega, by omega⟩) rfl (fun _ _ => rfl) fun k hk => ⟨hk.2, fun e => by rw [e] at hk; exact Nat.lt_irrefl _ hk.1⟩
def RFromS (L : List Nd) (w : World) (e : Ending) (w' : World) : Prop :=
  match fromN L with
  | .error (i, x) => e = .returned (.tuple #[.pointer none, .int .i64 i, .int .i64 x]) ∧ Ext w w'
  | .ok M => e = .returned (.tuple #[.pointer (some ⟨w.heap.size, 0, none⟩), .int .i64 0, .int .i64 0]) ∧ RTf w.heap.size w' (nds M) ∧ Ext w w'
theorem rfromS_err {L : List Nd} {w w' : World} {i : Nat} {x : Int} (h : fromN L = .error (i, x)) (hb : Ext w w') : RFromS L w (.returned (.tuple #[.pointer none, .int .i64 i, .int .i64 x])) w' := by
  unfold RFromS; rw [h]; exact ⟨rfl, hb⟩
theorem rtf_nil (w : World) : RTf w.heap.size (w.alloc (.cells #[.slice none 0 0] 53)) [] :=
  RTree.keep (S := fun _ => False) ⟨none, 0, [], heap_alloc_new w _, Nat.le_refl _, Nat.zero_le _, fun _ h => h.elim, ⟨rfl, fun j u hj => by simp at hj, fun j cs hj => by simp at hj⟩, .inl ⟨rfl, rfl⟩⟩ (fun _ h => h.elim) rfl (fun _ _ => rfl) fun k hk => ⟨hk.2, fun e => by rw [e] at hk; exact Nat.lt_irrefl _ hk.1⟩

set_option maxHeartbeats 8000000 in
theorem rfrom_s (L : List Nd) (a : Option Addr) (c : Nat) (w : World) (hT0 : Tabs w) (hL : NdsAt w.heap.size w a L) (hf : ∀ n ∈ L, Fit n) (hl : L.length * 168 ≤ 140737488355328) : Calls Tryz.prog 99 #[.slice a L.length c] w (RFromS L w) := by
  have hR0 := rtf_nil w
  have hE0 : Ext w (w.alloc (.cells #[.slice none 0 0] 53)) := Ext.alloc _ _
  have hl2 : L.length ≤ 9223372036854775807 := by omega
  have hsz := hT0.size
  have HR0 := Lib.hid hR0
  have HE0 := Lib.hid hE0
  have HT := Lib.hid hT0
  have HL := Lib.hid hL
  have HF := Lib.hid hf
  clear hR0 hE0 hT0 hL hf
  go_enter Tryz.func99, Tryz.ntmps99
  go_wp2
  go_loopw [6] (fun i wr => ∃ (k : Nat) (M : List (Key × Nd)), k ≤ L.length ∧ i = .int .i64 k ∧ Hid (fromL L 0 [] = fromL (L.drop k) k M) ∧ Hid (MOk M) ∧ RTf w.heap.size wr (nds M) ∧ M.length ≤ k ∧ Ext w wr) (fun i _ => L.length - (intOf i).toNat)
  case atStart => exact ⟨0, [], Nat.zero_le _, rfl, rfl, MOk.nil, HR0.out, Nat.le_refl _, HE0.out⟩
  case round =>
    obtain ⟨k, M, hk, rfl, HFL, HM, hR, hMk, hE⟩ := hrel
    by_cases hlt : k < L.length
    · have hLk : L[k]? = some L[k] := List.getElem?_eq_getElem hlt
      have hfk := HF.out L[k] (List.getElem_mem hlt)
      have HS := Lib.hid (HFL.out.trans (fromL_step L k L[k] M hLk))
      obtain ⟨b, off, v, rfl, hb, hv, hc⟩ := HL.out k L[k] hLk
      generalize L[k] = n at *
      obtain ⟨da, dc, aa, ac, rfl, hD, hA⟩ := hv
      have hcw : ∀ W, Ext w W → ∀ j u, (ndC n (.slice da n.data.length dc) (.slice aa n.acl.length ac))[j]? = some u → W.cell? ((⟨b, off + k * 17, none⟩ : Addr).add j) = some u := fun W h j u hj => by
        rw [addr_add, h.cell (p := ⟨b, off + k * 17 + j, none⟩) hb]
        exact hc j u hj
      have hc1 := hcw wr hE
      have CR := Lib.hid (rright_any n da aa dc ac wr hfk (HT.out.below hE hsz) ((hA.ext hE)))
      have HR := Lib.hid hR
      have HE := Lib.hid hE
      have HCW := Lib.hid hcw
      have HC1 := Lib.hid hc1
      have HD := Lib.hid hD
      have HA := Lib.hid hA
      unfold ndC at HC1
      clear hcw hc1 hc hR hE hD hA
      go_wp2_with (refine wpList_load_at rfl 44 (.tmp 27) rfl _ rfl _ _ HC1.out Tryz.underlying44 rfl sizeNd ?_)
      refine CR.out.mono ?_
      rintro e w2 ⟨rfl, hE2⟩
      have hE2 : Ext wr w2 := hE2
      have hEw2 := HE.out.trans hE2
      by_cases hr : rightN n = 0
      · have hp0 : w2.cell? ⟨b, off + k * 17, none⟩ = some (.string n.path) := by
          have := HCW.out w2 hEw2 0 (.string n.path) rfl
          rwa [addr_add] at this
        have CF := Lib.hid (rfind_any _ w2 w.heap.size (nds M) (RTf.ext HR.out hE2) (nds_fit HM.out) n.path hfk.path)
        have hthere := rfind_isSome HM.out n.path
        have HS2 := Lib.hid (HS.out.trans (by rw [if_neg (by simpa using hr)]))
        have HR2 := Lib.hid (RTf.ext HR.out hE2)
        have HE2 := Lib.hid hEw2
        rw [hr]
        have HRT := Lib.hid hr
        clear hE2 hEw2 CR HS HR HC1 hr
        rw [hthere] at CF
        cases hg : mget M n.path.data.toList with
        | some y =>
          rw [hg] at CF
          have hgK : mget M (keyN n) = some y := hg
          have HERR := Lib.hid (show fromN L = .error (k, 71) by
            unfold fromN
            rw [HS2.out, if_pos (by rw [hgK]; rfl)])
          clear hg hgK hthere HS2
          go_wp2_with fail
          refine CF.out.mono ?_
          rintro e w3 ⟨rfl, hE3⟩
          have HFIN := Lib.hid (rfromS_err HERR.out (HE2.out.trans hE3))
          clear CF hE3 HERR hp0
          go_wp2
          go_ret3
          exact HFIN.out
        | none =>
          rw [hg] at CF
          have hgK : mget M (keyN n) = none := hg
          have HS3 := Lib.hid (HS2.out.trans (by rw [if_neg (by rw [hgK]; simp)]))
          have HINS := Lib.hid (rfind_ins HM.out n hgK)
          have HM2 := Lib.hid (HM.out.put n HRT.out)
          have hml : (mput M (keyN n) n).length ≤ k + 1 := by
            unfold mput; rw [mins_length]
            have := List.length_filter_le (fun x : Key × Nd => !(x.1 == keyN n)) M
            show (mdel M (keyN n)).length + 1 ≤ k + 1
            unfold mdel; omega
          clear hg hgK hthere HS2
          go_wp2_with fail
          refine CF.out.mono ?_
          rintro e w3 ⟨rfl, hE3⟩
          have hE3 : Ext w2 w3 := hE3
          have hbl3 : w.heap.size < w3.heap.size := (RTf.ext HR2.out hE3).lt
          have hEw3 := HE2.out.trans hE3
          have HC3 := Lib.hid (HCW.out w3 hEw3)
          have CI := Lib.hid (rinsert_s _ w3 w.heap.size (nds M) n da aa dc ac (RTf.ext HR2.out hE3) (nds_fit HM.out) hfk (HD.out.ext hEw3) (HA.out.ext hEw3) (by rw [nds_length]; omega))
          have HE3 := Lib.hid hEw3
          unfold ndC at HC3
          clear hE3 hEw3 CF HR2 hp0
          go_wp2_with (refine wpList_load_at rfl 44 (.tmp 49) rfl _ rfl _ _ HC3.out Tryz.underlying44 rfl sizeNd ?_)
          refine CI.out.mono ?_
          rintro e w4 ⟨rfl, hR4, hC4⟩
          rw [← HINS.out] at hR4
          have HR4 := Lib.hid (RTf.ins hbl3 hR4 hC4.size)
          have HE4 := Lib.hid (HE3.out.trans' (hC4.below (fun x hx => by subst hx; exact Nat.le_refl _) HE3.out.size))
          clear CI hR4 hC4 HC3
          go_wp2
          go_roundw
          case rel => exact ⟨k + 1, _, by omega, by go_num, HS3.out, HM2.out, HR4.out, hml, HE4.out⟩
          case measure => simp [intOf]; omega
      · have hr1 : (rightN n != 0) = true := by simpa using hr
        have HERR := Lib.hid (show fromN L = .error (k, rightN n) by
          unfold fromN
          rw [HS.out, if_pos (by simpa using hr)])
        have HFIN := Lib.hid (rfromS_err HERR.out hEw2)
        clear hE2 hEw2 CR HS HERR HC1
        go_wp2
        go_ret3
        exact HFIN.out
    · obtain rfl : k = L.length := by omega
      have HF2 : Hid (fromL L 0 [] = .ok M) := by
        unfold Hid; rw [HFL.out, List.drop_length]; rfl
      have CF := Lib.hid (rfind_any _ wr w.heap.size (nds M) hR (nds_fit HM.out) ⟨#[47]⟩ (by decide))
      have hthere := rfind_isSome HM.out ⟨#[47]⟩
      rw [hthere] at CF
      have hkl : ((⟨#[47]⟩ : ByteArray)).data.toList = [47] := rfl
      rw [hkl] at CF
      have HR := Lib.hid hR
      have HE := Lib.hid hE
      clear hR hE hthere hkl
      cases hg : mget M [47] with
      | none =>
        rw [hg] at CF
        have HERR := Lib.hid (show fromN L = .error (0, 70) by
          unfold fromN
          rw [HF2.out]
          simp only
          rw [if_pos hg])
        clear hg
        go_wp2_with fail
        refine CF.out.mono ?_
        rintro e w3 ⟨rfl, hE3⟩
        have HFIN := Lib.hid (rfromS_err HERR.out (HE.out.trans hE3))
        clear CF hE3 HERR
        go_wp2
        go_ret3
        exact HFIN.out
      | some y0 =>
        rw [hg] at CF
        have HG := Lib.hid hg
        have HRt := Lib.hid (fromL_right L 0 [] M HF2.out)
        clear hg
        go_wp2_with fail
        refine CF.out.mono ?_
        rintro e W5 ⟨rfl, hE5⟩
        have hE5 : Ext wr W5 := hE5
        have HR5 := Lib.hid (RTf.ext HR.out hE5)
        have HE5 := Lib.hid (HE.out.trans hE5)
        clear CF hE5 HR HE
        go_wp2
        go_loopw [12] (fun i wt => ∃ k : Nat, k ≤ L.length ∧ i = .int .i64 k ∧ Hid (parL M L 0 = parL M (L.drop k) k) ∧ Ext W5 wt) (fun i _ => L.length - (intOf i).toNat)
        case atStart => exact ⟨0, Nat.zero_le _, rfl, rfl, Ext.refl _⟩
        case round =>
          obtain ⟨k, hk, rfl, HP, hE⟩ := hrel
          by_cases hlt : k < L.length
          · have hLk : L[k]? = some L[k] := List.getElem?_eq_getElem hlt
            have hrk := HRt.out L[k] (List.getElem_mem hlt)
            have HS := Lib.hid (HP.out.trans (parL_step M L k L[k] hLk))
            obtain ⟨b, off, v, rfl, hb, hv, hc⟩ := HL.out k L[k] hLk
            generalize L[k] = n at *
            obtain ⟨da, dc, aa, ac, rfl, _⟩ := hv
            have hEw := HE5.out.trans hE
            have hp0 : wr.cell? ⟨b, off + k * 17, none⟩ = some (.string n.path) := (hEw.cell (p := ⟨b, off + k * 17, none⟩) hb).trans (hc 0 (.string n.path) rfl)
            have hvp := right_vpath hrk
            have hvf := (vpath_facts hvp).2.1
            have HE := Lib.hid hE
            clear hc hE
            by_cases hroot : n.path.size = 1
            · have hroot' := (root_iff hvp).1 hroot
              have e1 : (n.path.toList == [47]) = true := by rw [ByteArray.toList_eq]; simpa using hroot'
              have e2 : n.path.toList = [47] := by simpa using e1
              have HS2 := Lib.hid (HS.out.trans (by rw [if_neg (fun h => h.1 hroot)]))
              clear hroot hroot' HS hvp hrk
              go_wp2
              go_roundw
              case rel => exact ⟨k + 1, by omega, by go_num, HS2.out, HE.out⟩
              case measure => simp [intOf]; omega
            · have e1 : (n.path.toList == [47]) = false := by rw [ByteArray.toList_eq]; simpa using fun h => hroot ((root_iff hvp).2 h)
              have e2 : ¬ n.path.toList = [47] := by simpa using e1
              have CP := rparent_any n.path wr (by omega)
              rw [show parV n.path = .tuple #[.string (parentB n.path), .int .i64 0] by unfold parV; rw [if_pos ⟨hvp, hroot⟩]] at CP
              have hps : (parentB n.path).size ≤ 9223372036854775800 := by
                have := (path_split hvp hroot).2.2.1
                omega
              have CP := Lib.hid CP
              have HRoot := Lib.hid hroot
              have HTH := Lib.hid (rfind_isSome HM.out (parentB n.path))
              clear hroot hvp hrk
              go_wp2_with fail
              refine CP.out.mono ?_
              rintro e w6 ⟨rfl, hE6⟩
              have hE6 : Ext wr w6 := hE6
              have hE56 := HE.out.trans hE6
              have CF := Lib.hid (rfind_any _ w6 w.heap.size (nds M) (HR5.out.ext hE56) (nds_fit HM.out) (parentB n.path) hps)
              rw [HTH.out] at CF
              have HE6 := Lib.hid hE56
              clear CP hE6 hE56 hp0
              cases hg : mget M (parentB n.path).data.toList with
              | none =>
                rw [hg] at CF
                have HERR := Lib.hid (show fromN L = .error (k, 73) by
                  unfold fromN
                  rw [HF2.out]
                  simp only
                  rw [if_neg (by rw [HG.out]; simp), HS.out, if_pos ⟨HRoot.out, hg⟩])
                clear hg HS
                go_wp2_with fail
                refine CF.out.mono ?_
                rintro e w7 ⟨rfl, hE7⟩
                have HFIN := Lib.hid (rfromS_err HERR.out (HE5.out.trans (HE6.out.trans hE7)))
                clear CF hE7 HERR
                go_wp2
                go_ret3
                exact HFIN.out
              | some y1 =>
                rw [hg] at CF
                have HS2 := Lib.hid (HS.out.trans (by rw [if_neg (fun h => by rw [hg] at h; cases h.2)]))
                clear hg HS
                go_wp2_with fail
                refine CF.out.mono ?_
                rintro e w7 ⟨rfl, hE7⟩
                have HE7 := Lib.hid (HE6.out.trans hE7)
                clear CF hE7
                go_wp2
                go_roundw
                case rel => exact ⟨k + 1, by omega, by go_num, HS2.out, HE7.out⟩
                case measure => simp [intOf]; omega
          · obtain rfl : k = L.length := by omega
            have hfin : RFromS L w (.returned (.tuple #[.pointer (some ⟨w.heap.size, 0, none⟩), .int .i64 0, .int .i64 0])) wr := by
              unfold RFromS fromN
              rw [HF2.out]
              simp only
              rw [if_neg (by rw [HG.out]; simp), HP.out, List.drop_length]
              exact ⟨trivial, RTf.ext HR5.out hE, HE5.out.trans hE⟩
            have HFIN := Lib.hid hfin
            clear hfin hE HP HG HF2
            go_wp2
            go_ret3
            exact HFIN.out
end Go.Proofs.YthinpbdbhijbgaaGreatDoor
namespace Go.Proofs.YthinpbdbhijbgaaGreatDoor
open Go.RowKit Go.Sort
set_option maxHeartbeats 2000000
set_option maxRecDepth 100000

/-- What a clone of the row's nodes may lie in. -/
def NewN (base : Nat) (v : Value) (w : World) (b : Nat) : Prop := base ≤ b ∧ b < w.heap.size ∧ v.ownBlock ≠ some b
def OwnN (base : Nat) (L : List Nd) (v : Value) (w : World) : Prop :=
  ∃ vs : List (Array Value), w.ownsRow base 44 17 v L.length (vs.flatMap Array.toList) ∧ EachN (NewN base v w) w vs L

theorem EachN.imp {S S' : Nat → Prop} {w w' : World} {vs : List (Array Value)} {L : List Nd} (h : EachN S w vs L) (hS : ∀ b, S b → S' b) (hw : ∀ (b o : Nat) u, S b → w.cell? ⟨b, o, none⟩ = some u → w'.cell? ⟨b, o, none⟩ = some u) : EachN S' w' vs L :=
  ⟨h.1, fun j cs hj => by
    obtain ⟨n, hn, hN⟩ := h.2 j cs hj
    exact ⟨n, hn, NdS.imp hN hS fun b o u hb hu => hw b o u hb hu⟩⟩

theorem OwnN.nil (base : Nat) (w : World) : OwnN base [] (.slice none 0 0) w :=
  ⟨[], World.ownsRow_nil _ _ _ _, ⟨rfl, fun j cs h => by simp at h⟩⟩

theorem cell_ext {w w' : World} (h : Ext w w') (b o : Nat) (u : Value) (hu : w.cell? ⟨b, o, none⟩ = some u) : w'.cell? ⟨b, o, none⟩ = some u :=
  (h.cell (p := ⟨b, o, none⟩) (World.block_lt_of_cell? _ _ hu)).trans hu

theorem OwnN.ext {base : Nat} {L : List Nd} {v : Value} {w w' : World} (h : OwnN base L v w) (hE : Ext w w') : OwnN base L v w' := by
  obtain ⟨vs, h1, h2⟩ := h
  exact ⟨vs, h1.kept (grown_of_ext hE none) (Classical.em _), h2.imp (fun b hb => ⟨hb.1, Nat.lt_of_lt_of_le hb.2.1 hE.size, hb.2.2⟩) fun b o u _ hu => cell_ext hE b o u hu⟩

/-- A new node is handed to the row. -/
theorem OwnN.step {base : Nat} {L : List Nd} {v v' : Value} {w w5 : World} {vs : List (Array Value)} {cs : Array Value} {n : Nd} {t : TypeId} (hE : EachN (NewN base v w) w vs L) (hN : NdS (NewN base v w) w (.agg cs) n)
    (hown : w5.ownsRow base 44 17 v' (L.length + 1) (vs.flatMap Array.toList ++ cs.toList)) (hg : (w.alloc (.cells cs t)).grownBy w5 v.ownBlock) (ho : v'.ownBlock = v.ownBlock ∨ v'.ownBlock = some (w.heap.size + 1)) :
    OwnN base (L ++ [n]) v' w5 := by
  have hz := hg.size
  simp only [World.size_alloc] at hz
  have hS : ∀ b, NewN base v w b → NewN base v' w5 b := fun b hb => ⟨hb.1, by have := hb.2.1; omega, fun e => by
    rcases ho with h | h
    · rw [h] at e; exact hb.2.2 e
    · rw [h] at e; cases e; have := hb.2.1; omega⟩
  have hw : ∀ (b o : Nat) u, NewN base v w b → w.cell? ⟨b, o, none⟩ = some u → w5.cell? ⟨b, o, none⟩ = some u := fun b o u hb hu => by
    rw [World.cell?_of_block ((hg.block b (by simp; have := hb.2.1; omega) (fun e => hb.2.2 e.symm)).trans (heap_alloc_old w _ hb.2.1))]
    exact hu
  refine ⟨vs ++ [cs], by simpa using hown, (hE.imp hS hw).append ((EachN.one hN).imp hS hw)⟩

/-- Memory as it was, but the row. -/
theorem OwnN.keep {base : Nat} {v : Value} {w w5 : World} {cs : Array Value} {n : Nat} {xs : List Value} {t : TypeId} {w0 : World} (hE0 : Ext w0 w) (hb : w0.heap.size ≤ base) (hown : w.ownsRow base 44 17 v n xs) (hg : (w.alloc (.cells cs t)).grownBy w5 v.ownBlock) : Ext w0 w5 := by
  refine hE0.trans' ⟨hg.os, hg.tape, hg.output, by have := hg.size; simp at this; omega, fun k hk => ?_⟩
  have hz := hE0.size
  refine (hg.block k (by simp; omega) (fun e => ?_)).trans (heap_alloc_old w _ (by omega))
  have := ownBlock_ge hown k e.symm
  omega

/-- The row as rows that show nodes. -/
theorem OwnN.rows {base : Nat} {L : List Nd} {v : Value} {w : World} (h : OwnN base L v w) : ∃ a c vs, v = .slice a L.length c ∧ L.length ≤ c ∧ c ≤ maxLen ∧ RowsOf (fun k => base ≤ k ∧ k < w.heap.size) w a vs L ∧ PlainA a c := by
  obtain ⟨vs, h1, h2⟩ := h
  obtain ⟨a, c, e, h3, h4, h5, h6⟩ := RowsOf.of_own (S := fun k => base ≤ k ∧ k < w.heap.size) h1 rfl h2.1 (fun k h1 h2 => ⟨h1, h2⟩) (h2.imp (fun b hb => ⟨hb.1, hb.2.1⟩) fun _ _ _ _ h => h).2
  exact ⟨a, c, vs, e, h3, h4, h5, h6⟩

end Go.Proofs.YthinpbdbhijbgaaGreatDoor
namespace Go.Proofs.YthinpbdbhijbgaaGreatDoor
open Go.RowKit Go.Sort
set_option maxHeartbeats 2000000
set_option maxRecDepth 100000

theorem wpList_append_nd {ops : Array Oper} {rest : List Oper} {o : Oper} {a : Act} {Q : Exit → Act → World → Prop} {W4 W5 : World} (hgd : o.guard = none) (s x : Operand)
    (ho : o.op = .call { callee := .builtin .append, args := #[s, x], argTypes := #[50, 50] })
    (base : Nat) (L : List Nd) (ov : Value) (hO : OwnN base L ov W4) (hE : Ext W4 W5) (hb : base ≤ W4.heap.size) (n : Nd) (cs : Array Value) (hN : NdS (fun k => W4.heap.size ≤ k ∧ k < W5.heap.size) W5 (.agg cs) n) (hl : (L.length + 1) * 168 ≤ 140737488355328)
    (hs : a.eval s = ov) (hx : a.eval x = .slice (some ⟨W5.heap.size, 0, none⟩) 1 1)
    (hK : ∀ v' W6, OwnN base (L ++ [n]) v' W6 → (∀ w0, Ext w0 W5 → w0.heap.size ≤ base → Ext w0 W6) → wpList Tryz.prog ops Q rest (a.put o.dst v') W6) : wpList Tryz.prog ops Q (o :: rest) a (W5.alloc (.cells cs 44)) := by
  obtain ⟨qa, qc, ra, rc, hcs, hQ1, hQ2⟩ := hN
  cases hcs
  obtain ⟨ws, hown4, heach4⟩ := hO
  have hz5 := hE.size
  have hlt4 : ∀ g, ov.ownBlock = some g → base ≤ g ∧ g < W4.heap.size := fun g hg => hown4.lt g hg
  have hown5 := hown4.kept (grown_of_ext hE none) (Classical.em _)
  have heach5 : EachN (NewN base ov W5) W5 ws L := heach4.imp (fun b hb => ⟨hb.1, Nat.lt_of_lt_of_le hb.2.1 hE.size, hb.2.2⟩) fun b o u _ hu => cell_ext hE b o u hu
  have hnew5 : NdS (NewN base ov W5) W5 (.agg (ndC n (.slice qa n.data.length qc) (.slice ra n.acl.length rc))) n := NdS.imp ⟨qa, qc, ra, rc, rfl, hQ1, hQ2⟩ (fun k hk => ⟨by omega, hk.2, fun e => by have := (hlt4 k e).2; omega⟩) fun _ _ _ _ h => h
  have hs17 : Cells (W5.alloc (.cells (ndC n (.slice qa n.data.length qc) (.slice ra n.acl.length rc)) 44)).heap.size (W5.alloc (.cells (ndC n (.slice qa n.data.length qc) (.slice ra n.acl.length rc)) 44)) (some ⟨W5.heap.size, 0, none⟩) (ndC n (.slice qa n.data.length qc) (.slice ra n.acl.length rc)).toList := fun j u hj => by
    refine ⟨_, 0, rfl, by simp, ?_⟩
    rw [Nat.zero_add, cell_of_row _ _ _ _ _ _ (heap_alloc_new W5 _)]
    simpa using hj
  have hsrc : Src Tryz.prog 17 50 (.slice (some ⟨W5.heap.size, 0, none⟩) 1 1) 1 (ndC n (.slice qa n.data.length qc) (.slice ra n.acl.length rc)).toList (W5.alloc (.cells (ndC n (.slice qa n.data.length qc) (.slice ra n.acl.length rc)) 44)) :=
    hs17.src Tryz.underlying50 1 1 (by simp [ndC]) (fun u hu => by
      have := cells_node n qa ra n.data.length n.acl.length qc rc
      rw [← Array.all_toList] at this
      exact List.all_eq_true.1 this u hu)
  obtain ⟨i0, hi, hz0, hz1', hz2⟩ := info_parts infoNd
  have hownA := hown5.alloc (.cells (ndC n (.slice qa n.data.length qc) (.slice ra n.acl.length rc)) 44)
  refine wpList_append_src _ hgd s x 50 50 ho base 44 i0 (.agg zeroNd) 17 168 Tryz.underlying50 hi hz0 hz1' hz2 rfl (by decide) ov L.length _ hs hownA _ 1 _ hx hsrc (by unfold maxLen; omega) hl (by simp; omega) ?_
  intro v' w6 hown6 hg6 _ ho6
  exact hK v' w6 (OwnN.step heach5 hnew5 hown6 hg6 (by simpa using ho6)) fun w0 hE0 hb0 => OwnN.keep hE0 hb0 hown5 hg6
end Go.Proofs.YthinpbdbhijbgaaGreatDoor
namespace Go.Proofs.YthinpbdbhijbgaaGreatDoor
open Go.RowKit
set_option maxHeartbeats 1000000

/-- The steps from a path to the root: is s among them? -/
def undF : Nat → ByteArray → ByteArray → Bool
  | 0, p, s => p.data == s.data
  | f + 1, p, s => p.data == s.data || (p.size != 1 && undF f (parentB p) s)
def und (p s : ByteArray) : Bool := undF p.size p s

/-- Each node's parent is there. -/
def Clo (M : List (Key × Nd)) : Prop := ∀ x ∈ M, x.2.path.size ≠ 1 → ∃ y ∈ M, y.2.path = parentB x.2.path

theorem und_self (p : ByteArray) : und p p = true := by
  unfold und
  cases p.size <;> simp [undF]

theorem und_size {M : List (Key × Nd)} (hM : MOk M) (hc : Clo M) : ∀ (f : Nat) (x : Key × Nd), x ∈ M → ∀ s, undF f x.2.path s = true → s.size ≤ x.2.path.size
  | 0, x, _, s, h => by
    have : x.2.path = s := by
      simp only [undF, beq_iff_eq] at h
      exact ByteArray.ext h
    rw [this]; exact Nat.le_refl _
  | f + 1, x, hx, s, h => by
    simp only [undF, Bool.or_eq_true, beq_iff_eq, Bool.and_eq_true, bne_iff_ne, ne_eq] at h
    rcases h with h | ⟨h1, h⟩
    · have : x.2.path = s := ByteArray.ext h
      rw [this]; exact Nat.le_refl _
    · obtain ⟨y, hy, ey⟩ := hc x hx h1
      have := und_size hM hc f y hy s (by rw [ey]; exact h)
      have hs := (path_split (right_vpath (hM.right x hx)) h1).2.2.1
      rw [ey] at this
      omega

theorem MOk.pos {M : List (Key × Nd)} (hM : MOk M) {x : Key × Nd} (hx : x ∈ M) : 0 < x.2.path.size := by
  have := (vpath_facts (right_vpath (hM.right x hx))).1
  omega

theorem und_fuel {M : List (Key × Nd)} (hM : MOk M) (hc : Clo M) : ∀ (f g : Nat) (x : Key × Nd), x ∈ M → x.2.path.size ≤ f → x.2.path.size ≤ g → ∀ s, undF f x.2.path s = undF g x.2.path s
  | 0, _, x, hx, hf, _, s => by have := hM.pos hx; omega
  | _ + 1, 0, x, hx, _, hg, s => by have := hM.pos hx; omega
  | f + 1, g + 1, x, hx, hf, hg, s => by
    simp only [undF]
    by_cases h1 : x.2.path.size = 1
    · simp only [h1, bne_self_eq_false, Bool.false_and]
    · obtain ⟨y, hy, ey⟩ := hc x hx h1
      have hs := (path_split (right_vpath (hM.right x hx)) h1).2.2.1
      have e1 := und_fuel hM hc f g y hy (by rw [ey]; omega) (by rw [ey]; omega) s
      rw [ey] at e1
      rw [e1]

theorem und_one {M : List (Key × Nd)} (hM : MOk M) {x : Key × Nd} (hx : x ∈ M) (h1 : x.2.path.size = 1) (s : ByteArray) : und x.2.path s = (x.2.path.data == s.data) := by
  unfold und
  rw [h1]
  simp only [undF, h1, bne_self_eq_false, Bool.false_and, Bool.or_false]

theorem und_up {M : List (Key × Nd)} (hM : MOk M) (hc : Clo M) {x y : Key × Nd} (hx : x ∈ M) (hy : y ∈ M) (h1 : x.2.path.size ≠ 1) (ey : y.2.path = parentB x.2.path) (s : ByteArray) :
    und x.2.path s = (x.2.path.data == s.data || und y.2.path s) := by
  have hp := hM.pos hx
  have hs := (path_split (right_vpath (hM.right x hx)) h1).2.2.1
  obtain ⟨g, hg⟩ : ∃ g, x.2.path.size = g + 1 := ⟨x.2.path.size - 1, by omega⟩
  have e1 := und_fuel hM hc g y.2.path.size y hy (by rw [ey]; omega) (Nat.le_refl _) s
  have h2 : (x.2.path.size != 1) = true := by simpa using h1
  unfold und
  rw [hg]
  simp only [undF]
  rw [hg] at h2
  rw [hg, h2, ← ey, e1, Bool.true_and]

theorem und_le {M : List (Key × Nd)} (hM : MOk M) (hc : Clo M) {x : Key × Nd} (hx : x ∈ M) {s : ByteArray} (h : und x.2.path s = true) : s.size ≤ x.2.path.size := und_size hM hc _ x hx s h

section sums
variable {α β : Type}
end sums

/-- What is under s, weighed. -/
def wtN (M : List (Key × Nd)) (s : ByteArray) (a : Nd → Nat) : Nat := ((M.filter fun x => und x.2.path s).map fun x => a x.2).sum
theorem fromL_mem : ∀ (L : List Nd) (i : Nat) (M M' : List (Key × Nd)), fromL L i M = .ok M' → ∀ x ∈ M', x ∈ M ∨ x.2 ∈ L
  | [], _, M, M', h, x, hx => by
    simp only [fromL, Except.ok.injEq] at h
    subst h; exact .inl hx
  | n :: l, i, M, M', h, x, hx => by
    simp only [fromL] at h
    split at h
    · cases h
    split at h
    · cases h
    rcases fromL_mem l _ _ _ h x hx with h' | h'
    · rcases mem_mput.1 h' with rfl | ⟨h', _⟩
      · exact .inr (List.mem_cons_self ..)
      · exact .inl h'
    · exact .inr (List.mem_cons_of_mem _ h')
theorem parL_mem {M : List (Key × Nd)} : ∀ (L : List Nd) (i : Nat), parL M L i = .ok () → ∀ n ∈ L, n.path.size ≠ 1 → mget M (parentB n.path).data.toList ≠ none
  | [], _, _, n, hn, _ => by simp at hn
  | m :: l, i, h, n, hn, h1 => by
    simp only [parL] at h
    split at h
    · cases h
    rename_i hm
    rcases List.mem_cons.1 hn with rfl | hn
    · exact fun h2 => hm ⟨h1, h2⟩
    · exact parL_mem l _ h n hn h1
theorem fromN_clo {L : List Nd} {M : List (Key × Nd)} (hM : MOk M) (h : fromN L = .ok M) : Clo M := by
  unfold fromN at h
  cases hf : fromL L 0 [] with
  | error e => rw [hf] at h; cases h
  | ok M1 =>
    rw [hf] at h
    simp only at h
    split at h
    · cases h
    cases hp : parL M1 L 0 with
    | error e => rw [hp] at h; cases h
    | ok u =>
      rw [hp] at h
      simp only [Except.ok.injEq] at h
      subst h
      intro x hx h1
      have hxL : x.2 ∈ L := by
        rcases fromL_mem L 0 [] _ hf x hx with h | h
        · simp at h
        · exact h
      have := parL_mem L 0 hp x.2 hxL h1
      cases hg : mget M1 (parentB x.2.path).data.toList with
      | none => exact absurd hg this
      | some n =>
        refine ⟨_, mget_some_mem hg, ?_⟩
        have := (hM.at hg).1
        unfold keyN at this
        exact (ba_ext this).symm

/-- A list that holds s and the children of each that it holds has all that is under s. -/
theorem und_closed {M : List (Key × Nd)} (hM : MOk M) (hc : Clo M) (s : ByteArray) (l : List ByteArray) (hs : s ∈ l) (hl : ∀ x ∈ M, x.2.path.size ≠ 1 → parentB x.2.path ∈ l → x.2.path ∈ l) :
    ∀ (f : Nat) (x : Key × Nd), x ∈ M → x.2.path.size ≤ f → und x.2.path s = true → x.2.path ∈ l
  | 0, x, hx, hf, _ => by have := hM.pos hx; omega
  | f + 1, x, hx, hf, h => by
    by_cases h1 : x.2.path.size = 1
    · rw [und_one hM hx h1] at h
      rw [ByteArray.ext (beq_iff_eq.1 h)]; exact hs
    · obtain ⟨y, hy, ey⟩ := hc x hx h1
      have hsz := (path_split (right_vpath (hM.right x hx)) h1).2.2.1
      rw [und_up hM hc hx hy h1 ey, Bool.or_eq_true] at h
      rcases h with h | h
      · rw [ByteArray.ext (beq_iff_eq.1 h)]; exact hs
      · exact hl x hx h1 (by rw [← ey]; exact und_closed hM hc s l hs hl f y hy (by rw [ey]; omega) h)

theorem und_child {M : List (Key × Nd)} (hM : MOk M) (hc : Clo M) {x y : Key × Nd} (hx : x ∈ M) (hy : y ∈ M) (h : childOf y.2.path x.2 = true) (s : ByteArray) (hu : und y.2.path s = true) : und x.2.path s = true := by
  obtain ⟨h1, h2⟩ := childOf_iff.1 h
  rw [und_up hM hc hx hy h1 h2.symm, hu, Bool.or_true]
end Go.Proofs.YthinpbdbhijbgaaGreatDoor
namespace Go.Proofs.YthinpbdbhijbgaaGreatDoor
open Go.RowKit

theorem dec_take {s t : ByteArray} {i : Nat} (hi : i < s.size) (h47 : bat s i = 47) (ht : t.size = i) (hb : ∀ k, k < i → bat t k = bat s k) (p : Nat) (hp : p < i) : Utf8.decode t p = Utf8.decode s p := by
  have c : ∀ k, p + k ≤ i → (decide (p + k < t.size) && bat t (p + k) / 64 == 2) = (decide (p + k < s.size) && bat s (p + k) / 64 == 2) := fun k hk => by
    by_cases h : p + k < i
    · rw [hb _ h, ht]
      simp only [h, decide_true, Bool.true_and, show p + k < s.size by omega]
    · obtain e : p + k = i := by omega
      rw [e, h47, ht]
      simp
  have f : ∀ k, i ≤ p + k → (decide (p + k < t.size) && bat t (p + k) / 64 == 2) = false := fun k hk => by
    rw [ht]
    simp only [show ¬ p + k < i by omega, decide_false, Bool.false_and]
  have g : ∀ k, p + k = i → (decide (p + k < s.size) && bat s (p + k) / 64 == 2) = false := fun k hk => by
    rw [hk, h47]
    simp
  rw [dec_eq, dec_eq]
  simp only [hb p hp]
  by_cases h1 : p + 1 = i
  · have a1 := f 1 (by omega)
    have b1 := g 1 h1
    simp only [a1, b1, Bool.and_false, Bool.false_and, Bool.false_eq_true, if_false]
  · have e1 := c 1 (by omega)
    have v1 := hb (p + 1) (by omega)
    by_cases h2 : p + 2 = i
    · have a2 := f 2 (by omega)
      have b2 := g 2 h2
      simp only [e1, a2, b2]
      simp only [v1, Bool.and_false, Bool.false_and, Bool.false_eq_true, if_false]
    · have e2 := c 2 (by omega)
      have v2 := hb (p + 2) (by omega)
      by_cases h3 : p + 3 = i
      · have a3 := f 3 (by omega)
        have b3 := g 3 h3
        simp only [e1, e2, a3, b3]
        simp only [v1, v2, Bool.and_false, Bool.false_and, Bool.false_eq_true, if_false]
      · have e3 := c 3 (by omega)
        have v3 := hb (p + 3) (by omega)
        simp only [e1, e2, e3]
        simp only [v1, v2, v3]

theorem part_take {s t : ByteArray} {i : Nat} (hi : i < s.size) (h47 : bat s i = 47) (ht : t.data.toList = s.data.toList.take i) (p : Nat) (hp : p ≤ i) : partL t p = partL s p := by
  unfold partL
  have e : s.data.toList.drop p = (s.data.toList.take i).drop p ++ 47 :: s.data.toList.drop (i + 1) := by
    rw [← drop_at_slash hi h47]
    conv => lhs; rw [← List.take_append_drop i s.data.toList]
    rw [List.drop_append_of_le_length (by rw [List.length_take, size_list]; omega)]
  rw [e, ht, List.takeWhile_append]
  split
  · rename_i h
    simp
    have : List.takeWhile (fun x => x != 47) (List.drop p (List.take i s.data.toList)) = List.drop p (List.take i s.data.toList) := by
      exact (List.takeWhile_prefix _).eq_of_length h
    exact this
  · rfl

theorem bat_take {s t : ByteArray} {i : Nat} (hi : i ≤ s.size) (ht : t.data.toList = s.data.toList.take i) (hts : t.size = i) (k : Nat) (hk : k < i) : bat t k = bat s k := by
  rw [bat_get t k (by omega), bat_get s k (by omega)]
  have h1 : t[k]'(by omega) = t.data.toList[k]'(by rw [size_list]; omega) := by rw [Array.getElem_toList]; rfl
  have h2 : s[k]'(by omega) = s.data.toList[k]'(by rw [size_list]; omega) := by rw [Array.getElem_toList]; rfl
  rw [h1, h2]
  simp only [ht, List.getElem_take]

theorem scan_take {s t : ByteArray} {i : Nat} (hi : i < s.size) (h47 : bat s i = 47) (ht : t.data.toList = s.data.toList.take i) (hts : t.size = i) :
    ∀ (n p : Nat), i ≤ p + n → scanAt s p = true → scanAt t p = true
  | 0, p, hn, h => scanAt_end t p (by omega)
  | n + 1, p, hn, h => by
    by_cases hp : p < i
    · have hd := dec_take hi h47 hts (fun k hk => bat_take (by omega) ht hts k hk) p hp
      have d := (dec s p (by omega)).pos
      rw [scanAt_step s p (by omega)] at h
      rw [scanAt_step t p (by omega), hd]
      simp only [Bool.and_eq_true] at h ⊢
      refine ⟨⟨h.1.1, ?_⟩, scan_take hi h47 ht hts n _ (by omega) h.2⟩
      have h2 := h.1.2
      unfold sep dots at h2 ⊢
      rw [part_take hi h47 ht (p + 1) (by omega), bat_take (by omega) ht hts p hp]
      by_cases h0 : 0 < p
      · rw [bat_take (by omega) ht hts (p - 1) (by omega)]
        exact h2
      · have : p = 0 := by omega
        subst this
        simpa using h2
    · exact scanAt_end t p (by omega)

theorem vpath_slash : vpath ⟨#[47]⟩ = true := by decide +kernel
/-- The parent of a path is a path. -/
theorem vpath_parent {s : ByteArray} (h : vpath s = true) (h1 : s.size ≠ 1) : vpath (parentB s) = true := by
  obtain ⟨i, e, hi, h47, hn⟩ := lastS_spec h
  obtain ⟨g1, g2, g3, g4⟩ := vpath_facts h
  have eL : (parentB s).data.toList = s.data.toList.take (max i 1) := by
    unfold parentB
    rw [extract_list, e, List.drop_zero]
    congr 1
    omega
  by_cases h0 : i = 0
  · subst h0
    have : parentB s = ⟨#[47]⟩ := by
      apply ba_ext
      rw [eL]
      have := drop_at_slash (s := s) (i := 0) (by omega) g3
      rw [List.drop_zero] at this
      rw [this]; rfl
    rw [this]; exact vpath_slash
  · have hi1 : i ≠ 1 := by
      intro e1
      subst e1
      exact vpath_noadj h 0 (by omega) g3 h47
    rw [show max i 1 = i by omega] at eL
    have hts : (parentB s).size = i := by rw [← size_list, eL, List.length_take, size_list]; omega
    have hb := fun k hk => bat_take (by omega) eL hts k hk
    rcases g4 with g4 | ⟨_, g4⟩
    · omega
    · have hsc := scan_take hi h47 eL hts i 0 (by omega) g4
      have hlast : bat (parentB s) (i - 1) ≠ 47 := by
        rw [hb (i - 1) (by omega)]
        intro h2
        exact vpath_noadj h (i - 1) (by omega) h2 (by rw [show i - 1 + 1 = i by omega]; exact h47)
      have h3 : bat (parentB s) 0 = 47 := by rw [hb 0 (by omega)]; exact g3
      unfold vpath
      unfold scanAt at hsc
      rw [hts] at hsc ⊢
      simp only [Bool.and_eq_true, Bool.or_eq_true, bne_iff_ne, beq_iff_eq, decide_eq_true_eq, ne_eq]
      exact ⟨⟨⟨by omega, by omega⟩, h3⟩, .inr ⟨hlast, hsc⟩⟩

/-- A step towards the root, of any path. -/
theorem undV_fuel : ∀ (f g : Nat) (p : ByteArray), vpath p = true → p.size ≤ f → p.size ≤ g → ∀ s, undF f p s = undF g p s
  | 0, _, p, hv, hf, _, s => by have := (vpath_facts hv).1; omega
  | _ + 1, 0, p, hv, hf, hg, s => by have := (vpath_facts hv).1; omega
  | f + 1, g + 1, p, hv, hf, hg, s => by
    simp only [undF]
    by_cases h1 : p.size = 1
    · simp only [h1, bne_self_eq_false, Bool.false_and]
    · have hs := (path_split hv h1).2.2.1
      rw [undV_fuel f g (parentB p) (vpath_parent hv h1) (by omega) (by omega) s]
theorem undV_one {p : ByteArray} (h1 : p.size = 1) (s : ByteArray) : und p s = (p.data == s.data) := by
  unfold und
  rw [h1]
  simp only [undF, h1, bne_self_eq_false, Bool.false_and, Bool.or_false]
theorem undV_up {p : ByteArray} (hv : vpath p = true) (h1 : p.size ≠ 1) (s : ByteArray) : und p s = (p.data == s.data || und (parentB p) s) := by
  have hp := (vpath_facts hv).1
  have hs := (path_split hv h1).2.2.1
  obtain ⟨g, hg⟩ : ∃ g, p.size = g + 1 := ⟨p.size - 1, by omega⟩
  have e1 := undV_fuel g (parentB p).size (parentB p) (vpath_parent hv h1) (by omega) (Nat.le_refl _) s
  have h2 : (p.size != 1) = true := by simpa using h1
  unfold und
  rw [hg]
  simp only [undF]
  rw [h2, e1, Bool.true_and]
/-- What a path is under is a path. -/
theorem undV_path : ∀ (n : Nat) (p : ByteArray), p.size ≤ n → vpath p = true → ∀ s, und p s = true → vpath s = true
  | 0, p, hn, hv, s, _ => by have := (vpath_facts hv).1; omega
  | n + 1, p, hn, hv, s, h => by
    by_cases h1 : p.size = 1
    · rw [undV_one h1] at h
      rw [← ByteArray.ext (beq_iff_eq.1 h)]; exact hv
    · rw [undV_up hv h1] at h
      simp only [Bool.or_eq_true] at h
      rcases h with h | h
      · rw [← ByteArray.ext (beq_iff_eq.1 h)]; exact hv
      · have hs := (path_split hv h1).2.2.1
        exact undV_path n (parentB p) (by omega) (vpath_parent hv h1) s h
end Go.Proofs.YthinpbdbhijbgaaGreatDoor
namespace Go.Proofs.YthinpbdbhijbgaaGreatDoor
open Go.RowKit
set_option maxHeartbeats 2000000
set_option maxRecDepth 100000

theorem data_toList (p s : ByteArray) : (p.toList == s.toList) = (p.data == s.data) := by
  rw [ByteArray.toList_eq, ByteArray.toList_eq]
  by_cases h : p.data = s.data
  · rw [h]; simp
  · have : ¬ p.data.toList = s.data.toList := fun e => h (Array.toList_inj.1 e)
    rw [beq_eq_false_iff_ne.2 this, beq_eq_false_iff_ne.2 h]

theorem rund_any (p s : ByteArray) (w : World) (hp : p.size ≤ 9223372036854775800) (hs : s.size ≤ 9223372036854775800) : Calls Tryz.prog 122 #[.string s, .string p] w fun e w' => e = .returned (.bool (vpath s && vpath p && und p s)) ∧ Ext w w' := by
  have C1 := rvalid_any s w hs
  cases hvs : vpath s with
  | false =>
    rw [hvs] at C1
    have C1 := Lib.hid C1
    clear hvs
    go_enter Tryz.func122, Tryz.ntmps122
    go_wp2_with fail
    refine C1.out.mono ?_
    rintro e w1 ⟨rfl, hb1⟩
    clear C1
    go_wp2
    go_ret
    exact ⟨by simp, hb1⟩
  | true =>
    rw [hvs] at C1
    have C1 := Lib.hid C1
    have C2 := Lib.hid fun W => rvalid_any p W hp
    cases hvp : vpath p with
    | false =>
      rw [hvp] at C2
      clear hvp hvs
      go_enter Tryz.func122, Tryz.ntmps122
      go_wp2_with fail
      refine C1.out.mono ?_
      rintro e w1 ⟨rfl, hb1⟩
      clear C1
      go_wp2_with fail
      refine (C2.out w1).mono ?_
      rintro e w2 ⟨rfl, hb2⟩
      have HFIN := Lib.hid (Ext.trans hb1 hb2)
      clear C2 hb1 hb2
      go_wp2
      go_ret
      exact ⟨by simp, HFIN.out⟩
    | true =>
      rw [hvp] at C2
      have HVP := Lib.hid hvp
      clear hvp hvs
      go_enter Tryz.func122, Tryz.ntmps122
      go_wp2_with fail
      refine C1.out.mono ?_
      rintro e w1 ⟨rfl, hb1⟩
      clear C1
      go_wp2_with fail
      refine (C2.out w1).mono ?_
      rintro e w2 ⟨rfl, hb2⟩
      have HE2 := Lib.hid (Ext.trans hb1 hb2)
      clear C2 hb1 hb2
      go_wp2
      go_loopw [1] (fun v wr => ∃ q : ByteArray, v = .string q ∧ Hid (vpath q = true) ∧ q.size ≤ 4096 ∧ Hid (und p s = und q s) ∧ Ext w wr) (fun v _ => match v with | .string q => q.size | _ => 0)
      case atStart => exact ⟨p, rfl, HVP.out, (vpath_facts HVP.out).2.1, rfl, HE2.out⟩
      case round =>
        obtain ⟨q, rfl, HQ, hq, HU, hE⟩ := hrel
        have hroot := root_iff HQ.out
        have hone := fun h => undV_one (p := q) h s
        have hup := fun h => undV_up HQ.out h s
        have hdt := data_toList q s
        have HE := Lib.hid hE
        by_cases h1 : q.data = s.data
        · have e1 : (q.data == s.data) = true := by simpa using h1
          have e2 : (q.toList == s.toList) = true := hdt.trans e1
          have e3 : q.toList = s.toList := by simpa using e2
          have hu : und q s = true := by
            by_cases h : q.size = 1
            · rw [hone h, e1]
            · rw [hup h, e1, Bool.true_or]
          have HR := Lib.hid (HU.out.trans hu)
          clear hroot hone hup hdt hE h1 e1 hu HU
          go_wp2
          go_ret
          exact ⟨by rw [HR.out]; simp, HE.out⟩
        · have e1 : (q.data == s.data) = false := by simpa using h1
          have e2 : (q.toList == s.toList) = false := hdt.trans e1
          have e3 : ¬ q.toList = s.toList := by simpa using e2
          by_cases h2 : q.size = 1
          · have r2 : q.toList = [47] := by rw [ByteArray.toList_eq]; exact hroot.1 h2
            have r1 : (q.toList == [47]) = true := by simpa using r2
            have hu : und q s = false := by rw [hone h2, e1]
            have e4 : ¬ [47] = s.toList := by rw [← r2]; exact e3
            have e5 : ([47] == s.toList) = false := by simpa using e4
            have HR := Lib.hid (HU.out.trans hu)
            clear hroot hone hup hdt hE h1 e1 hu HU
            go_wp2
            go_ret
            exact ⟨by rw [HR.out]; simp, HE.out⟩
          · have r2 : ¬ q.toList = [47] := by rw [ByteArray.toList_eq]; exact fun h => h2 (hroot.2 h)
            have r1 : (q.toList == [47]) = false := by simpa using r2
            have hu : und q s = und (parentB q) s := by rw [hup h2, e1, Bool.false_or]
            have HR := Lib.hid (HU.out.trans hu)
            have hv2 := vpath_parent HQ.out h2
            have hsz := (path_split HQ.out h2).2.2.1
            have hsz2 := (vpath_facts hv2).2.1
            have CP := rparent_any q wr (by omega)
            rw [show parV q = .tuple #[.string (parentB q), .int .i64 0] by unfold parV; rw [if_pos ⟨HQ.out, h2⟩]] at CP
            have CP := Lib.hid CP
            have HV2 := Lib.hid hv2
            clear hroot hone hup hdt hE h1 e1 hu HU hv2 HQ h2
            go_wp2_with fail
            refine CP.out.mono ?_
            rintro e w3 ⟨rfl, hE3⟩
            have HE3 := Lib.hid (Ext.trans HE.out hE3)
            clear CP hE3
            go_wp2
            go_roundw
            case rel => exact ⟨_, rfl, HV2.out, hsz2, HR.out, HE3.out⟩
            case measure => first | exact hsz | simpa using hsz
end Go.Proofs.YthinpbdbhijbgaaGreatDoor
namespace Go.Proofs.YthinpbdbhijbgaaGreatDoor
open Go.RowKit
set_option maxHeartbeats 2000000
set_option maxRecDepth 100000

section
variable {P : Program} {ops : Array Oper} {rest : List Oper} {o : Oper} {a : Act} {Q : Exit → Act → World → Prop}

/-- 'range m' over a map keyed by strings. -/
theorem wpList_range_s (w : World) (hg : o.guard = none) (x : Operand) (t : TypeId) (hop : o.op = Op.range t x) (kt e : TypeId) (hk : P.underlying kt = some .string) (ht : P.underlying t = some (.map kt e)) (b : Nat) (m : List (Key × Value))
    (hm : a.eval x = .map (some b)) (h : SMap P kt w b m)
    (hK : ∀ w', w'.ranges P kt Rv b w.heap.size m.length (kvD m) (Maps.has (kvD m)) (Maps.size (kvD m)) → w.grownBy w' none → w'.heap.size = w.heap.size + 1 → wpList P ops Q rest (a.put o.dst (.pointer (some ⟨w.heap.size, 0, none⟩))) w') :
    wpList P ops Q (o :: rest) a w :=
  wpList_range_own w hg x t hop kt e (Maps.string_keyed hk) ht Rv b _ _ hm h hK

end

/-- The first behind a text. -/
def afterN (M : List (Key × Nd)) (s : ByteArray) : Option (Key × Nd) := M.find? fun x => bytesBefore s.data.toList x.1

/-- What the rounds of the range have found. -/
structure Aft (M : List (Key × Nd)) (s : Key) (left : Lit → Bool) (best : ByteArray) (found : Bool) : Prop where
  there : found = true → (∃ n, (best.data.toList, n) ∈ M) ∧ bytesBefore s best.data.toList = true
  no : found = false → best = ⟨#[]⟩
  le : ∀ x ∈ M, left (.string x.1) = false → bytesBefore s x.1 = true → found = true ∧ bytesBefore x.1 best.data.toList = false

theorem Aft.step {M : List (Key × Nd)} {s : Key} {left : Lit → Bool} {best : ByteArray} {found : Bool} (h : Aft M s left best found) (p : ByteArray) {n : Nd} (hp : (p.data.toList, n) ∈ M) :
    Aft M s (fun z => left z && !z.sameKey (.string p.data.toList)) (if bytesBefore s p.data.toList = true ∧ (found = false ∨ bytesBefore p.data.toList best.data.toList = true) then p else best)
      (if bytesBefore s p.data.toList = true ∧ (found = false ∨ bytesBefore p.data.toList best.data.toList = true) then true else found) := by
  have hsame : ∀ k : Key, (Lit.string k).sameKey (.string p.data.toList) = (k == p.data.toList) := fun k => rfl
  have tr : ∀ a b c : Key, bytesBefore a b = true → bytesBefore b c = true → bytesBefore a c = true := fun a b c => WideShapes.bytes_trans a b c
  split
  · rename_i hc
    refine ⟨fun _ => ⟨⟨n, hp⟩, hc.1⟩, fun e => (by cases e), fun x hx hl hs => ⟨rfl, ?_⟩⟩
    simp only [hsame, Bool.and_eq_false_iff, Bool.not_eq_false'] at hl
    rcases hl with hl | hl
    · obtain ⟨h1, h2⟩ := h.le x hx hl hs
      rcases hc.2 with h3 | h3
      · rw [h1] at h3; cases h3
      · cases h4 : bytesBefore x.1 p.data.toList with
        | false => rfl
        | true => rw [tr _ _ _ h4 h3] at h2; cases h2
    · have : x.1 = p.data.toList := by simpa using hl
      rw [this, WideAt.bytes_irrefl]
  · rename_i hc
    refine ⟨h.there, h.no, fun x hx hl hs => ?_⟩
    simp only [hsame, Bool.and_eq_false_iff, Bool.not_eq_false'] at hl
    rcases hl with hl | hl
    · exact h.le x hx hl hs
    · have e : x.1 = p.data.toList := by simpa using hl
      rw [e] at hs ⊢
      cases hf : found with
      | false => exact absurd ⟨hs, .inl hf⟩ hc
      | true =>
        refine ⟨rfl, ?_⟩
        cases h4 : bytesBefore p.data.toList best.data.toList with
        | false => rfl
        | true => exact absurd ⟨hs, .inr h4⟩ hc

theorem Aft.done {M : List (Key × Nd)} (hM : MOk M) {s : ByteArray} {left : Lit → Bool} {best : ByteArray} {found : Bool} (h : Aft M s.data.toList left best found) (hl : ∀ kl, left kl = false) :
    (afterN M s).isSome = found ∧ (mget M best.data.toList).getD zeroN = ((afterN M s).map (·.2)).getD zeroN := by
  unfold afterN
  cases hf : M.find? fun x => bytesBefore s.data.toList x.1 with
  | none =>
    have hno := List.find?_eq_none.1 hf
    cases found with
    | true =>
      obtain ⟨⟨n, hn⟩, hs⟩ := h.there rfl
      exact absurd hs (hno _ hn)
    | false =>
      refine ⟨rfl, ?_⟩
      rw [h.no rfl]
      rw [mget_none_of fun x hx => ?_]
      · rfl
      · intro e
        have h1 := (vpath_facts (right_vpath (hM.right x hx))).1
        have h2 := hM.key x hx
        rw [e] at h2
        have h3 : x.2.path.data.toList = [] := h2.symm
        have h4 : x.2.path.size = 0 := by rw [← size_list, h3]; rfl
        omega
  | some y =>
    have hy := List.find?_some hf
    have hm := List.mem_of_find?_eq_some hf
    obtain ⟨h1, h2⟩ := h.le y hm (hl _) (by simpa using hy)
    subst h1
    refine ⟨rfl, ?_⟩
    obtain ⟨⟨n, hn⟩, hs⟩ := h.there rfl
    have hb : best.data.toList = y.1 := by
      by_cases e : best.data.toList = y.1
      · exact e
      · exfalso
        rcases WideAt.bytes_total _ _ e with h3 | h3
        · have hp := List.find?_eq_some_iff_append.1 hf
          obtain ⟨_, l1, l2, e1, h4⟩ := hp
          have hso := hM.sorted
          rw [e1] at hn hso
          rcases List.mem_append.1 hn with h5 | h5
          · have := h4 _ h5
            rw [hs] at this; cases this
          · rcases List.mem_cons.1 h5 with h6 | h6
            · exact e (by rw [← h6])
            · have h7 := (List.pairwise_append.1 hso).2.1
              have h8 := (List.pairwise_cons.1 h7).1 _ h6
              have h9 := WideShapes.bytes_trans _ _ _ h3 h8
              rw [WideAt.bytes_irrefl] at h9; cases h9
        · rw [h3] at h2; cases h2
    rw [hb, mget_of_mem hM.sorted (show (y.1, y.2) ∈ M from hm)]
    rfl

end Go.Proofs.YthinpbdbhijbgaaGreatDoor
namespace Go.Proofs.YthinpbdbhijbgaaGreatDoor
open Go.RowKit
section
variable {P : Program} {ops : Array Oper} {Q : Exit → Act → World → Prop} {a0 : Act} {w0 : World}
end
end Go.Proofs.YthinpbdbhijbgaaGreatDoor
namespace Go.Proofs.YthinpbdbhijbgaaGreatDoor
open Go.RowKit
set_option maxHeartbeats 4000000
set_option maxRecDepth 100000

end Go.Proofs.YthinpbdbhijbgaaGreatDoor
namespace Go.Proofs.YthinpbdbhijbgaaGreatDoor
open Go.RowKit
set_option maxHeartbeats 2000000
set_option maxRecDepth 100000

end Go.Proofs.YthinpbdbhijbgaaGreatDoor
namespace Go.Proofs.YthinpbdbhijbgaaGreatDoor
open Go.RowKit
set_option maxHeartbeats 2000000
set_option maxRecDepth 100000

end Go.Proofs.YthinpbdbhijbgaaGreatDoor
namespace Go.Proofs.YthinpbdbhijbgaaGreatDoor
open Go.RowKit Go.Sort
set_option maxHeartbeats 4000000
set_option maxRecDepth 100000
attribute [local go_sem] Oper.semAt_some

theorem MOk.keys_le {M : List (Key × Nd)} (hok : MOk M) : ∀ k ∈ M.map (·.1), k.length ≤ maxLen := fun k hk => by
  obtain ⟨x, hx, rfl⟩ := List.mem_map.1 hk
  rw [hok.key x hx]
  unfold keyN
  rw [size_list]
  have := (vpath_facts (right_vpath (hok.right x hx))).2.1
  unfold maxLen; omega

end Go.Proofs.YthinpbdbhijbgaaGreatDoor
namespace Go.Proofs.YthinpbdbhijbgaaGreatDoor
open Go.RowKit Go.Sort
set_option maxHeartbeats 4000000
set_option maxRecDepth 100000
attribute [local go_sem] Oper.semAt_some

theorem sorted_nil (w : World) : Calls Tryz.prog 152 #[.pointer none] w fun e w' => e = .returned (.slice none 0 0) ∧ w = w' := by
  go_enter Tryz.func152, Tryz.ntmps152
  go_wp2
  go_ret
  exact ⟨rfl, rfl⟩

def SeqNil (w : World) (e : Ending) (w' : World) : Prop :=
  ∃ bw btb, e = .returned (.func (.func 195) #[] #[.pointer (some ⟨bw, 0, none⟩), .pointer (some ⟨btb, 0, none⟩)]) ∧
    w'.cell? ⟨bw, 0, none⟩ = some (.func (.func 152) #[.pointer none] #[]) ∧ Ext w w'

theorem told_nil (w : World) : Calls Tryz.prog 151 #[.pointer none, .func (.func 152) #[.pointer none] #[]] w (SeqNil w) := by
  have h2 : ∀ t u, ((w.alloc (.cells #[Value.pointer none] t)).alloc (.cells #[Value.func (.func 152) #[.pointer none] #[]] u)).cell? ⟨w.heap.size + 1, 0, none⟩ = some (.func (.func 152) #[.pointer none] #[]) := fun t u =>
    cell_of_row _ _ _ _ _ _ (by have := heap_alloc_new (w.alloc (.cells #[Value.pointer none] t)) (.cells #[Value.func (.func 152) #[.pointer none] #[]] u); rwa [World.size_alloc] at this)
  have H2 := Lib.hid h2
  clear h2
  go_enter Tryz.func151, Tryz.ntmps151
  go_wp2
  go_ret
  exact ⟨_, _, rfl, H2.out _ _, (Ext.alloc w _).trans (Ext.alloc _ _)⟩

theorem tall_nil (w : World) : Calls Tryz.prog 89 #[.pointer none] w (SeqNil w) := by
  have C1 := told_nil w
  go_enter Tryz.func89, Tryz.ntmps89
  go_wp2_with fail
  refine C1.mono ?_
  rintro e w1 ⟨bw, btb, rfl, h1, hE⟩
  have hfin : SeqNil w (.returned (.func (.func 195) #[] #[.pointer (some ⟨bw, 0, none⟩), .pointer (some ⟨btb, 0, none⟩)])) w1 := ⟨_, _, rfl, h1, hE⟩
  have HFIN := Lib.hid hfin
  clear hfin h1 hE C1
  go_wp2
  go_ret
  exact HFIN.out

/-- Nothing is told of a nil tree. -/
theorem told_tells_nil (Safe : World → Nat → Prop) (w : World) (bw btb fw : Nat) (bnd cap : Array Value)
    (hcw : w.cell? ⟨bw, 0, none⟩ = some (.func (.func fw) bnd cap)) (hen : ∀ args w, (callFunc fw args).run Tryz.prog w = .ok (.enter fw args) w) (hw : ∀ W, Ext w W → Calls Tryz.prog fw (bnd ++ cap) W fun e w' => e = .returned (.slice none 0 0) ∧ Ext W w') :
    Tells Fence.wide 5 Tryz.prog 195 #[.pointer (some ⟨bw, 0, none⟩), .pointer (some ⟨btb, 0, none⟩)] (fun x : Value × Nd => #[x.1]) (GS Safe) (KeepS Safe) Safe (fun xs => xs.map (·.2) = []) (fun pre => ∃ rest, pre.map (·.2) ++ rest = []) w := by
  intro l J Jx W hW hSW hJ hY h0
  refine callsIn_wide.2 ?_
  have hcwW : W.cell? ⟨bw, 0, none⟩ = some (.func (.func fw) bnd cap) := (hW.cell (p := ⟨bw, 0, none⟩) (World.block_lt_of_cell? _ _ hcw)).trans hcw
  have CW := hw W hW
  have HJ := Lib.hid hJ
  have CW := Lib.hid CW
  clear hcw hw hY hJ hSW
  go_enter Tryz.func195, Tryz.ntmps195
  go_wp2_with fail
  refine CW.out.mono ?_
  rintro e W1 ⟨rfl, hE1⟩
  have hJ1 := (HJ.out [] W W1 h0 hE1).1
  have HJ1 := Lib.hid hJ1
  clear CW hcwW hJ1 h0 hE1
  go_wp2
  go_loopw [4, 12] (fun lv i wr => lv = .slice none 0 0 ∧ i = .int .i64 0 ∧ wr = W1) (fun _ _ _ => 0)
  case atStart => exact ⟨rfl, rfl, rfl⟩
  case round =>
    obtain ⟨rfl, rfl, rfl⟩ := hrel
    go_wp2
    go_loopw [28] (fun i wt => i = .int .i64 0 ∧ wt = wr) (fun _ _ => 0)
    case atStart => exact ⟨rfl, rfl⟩
    case round =>
      obtain ⟨rfl, rfl⟩ := hrel
      go_wp2
      exact ⟨rfl, _, results_none rfl _ _ _, ⟨_, rfl⟩, .inl ⟨[], rfl, HJ1.out⟩⟩

end Go.Proofs.YthinpbdbhijbgaaGreatDoor
namespace Go.Proofs.YthinpbdbhijbgaaGreatDoor
open Go.RowKit
set_option maxHeartbeats 2000000
set_option maxRecDepth 100000

def zeroStat : Array Value := #[.int .i64 0, .int .i64 0, .int .i64 0, .int .i64 0, .int .i32 0, .int .i32 0, .int .i32 0, .int .i64 0, .int .i32 0, .int .i32 0, .int .i64 0]
end Go.Proofs.YthinpbdbhijbgaaGreatDoor
namespace Go.Proofs.YthinpbdbhijbgaaGreatDoor
open Go.RowKit
section
variable {P : Program} {ops : Array Oper} {Q : Exit → Act → World → Prop} {a0 : Act} {w0 : World}

/-- Does i wait for j? -/
def reachB (ops : Array Oper) : Nat → Nat → Nat → Bool
  | 0, i, j => i == j
  | f + 1, i, j => i == j || (ops[i]?.any fun o => o.after.toList.any fun e => Region.binds .any e && reachB ops f e.on j)
def Closed (ops : Array Oper) (l : Array Bool) : Prop := ∀ (i : Nat) o, ops[i]? = some o → l.getD i false = true → ∀ e ∈ o.after.toList, Region.binds .any e = true → l.getD e.on false = true
theorem Closed.reach {l : Array Bool} (h : Closed ops l) : ∀ (f i j : Nat), reachB ops f i j = true → l.getD i false = true → l.getD j false = true
  | 0, i, j, hr, hi => by simp [reachB] at hr; rw [← hr]; exact hi
  | f + 1, i, j, hr, hi => by
    simp only [reachB, Bool.or_eq_true, beq_iff_eq] at hr
    rcases hr with rfl | hr
    · exact hi
    · obtain ⟨o, ho, he⟩ := (Option.any_eq_true _ _).1 hr
      obtain ⟨e, hem, h2⟩ := List.any_eq_true.1 he
      simp only [Bool.and_eq_true] at h2
      exact h.reach f e.on j h2.2 (h i o ho hi e hem h2.1)

/-- An operation's duty: p is the one that turns memory; b: has it been? -/
def DutyP (P : Program) (ops : Array Oper) (Q : Exit → Act → World → Prop) (p : Nat) (G : Bool → World → Prop) (Φ : Nat → Value → World → Prop) (a0 : Act) (i : Nat) (o : Oper) : Prop :=
  ∀ b a w, (reachB ops ops.size p i = true → b = false) → (p < i → b = true) → G b w → Framed ops a0 a → Ahead ops Φ o a w →
    o.wp P a w (fun a' w' => ∃ v, a' = a.put o.dst v ∧ Φ i v w' ∧ (∀ j u, j ≠ i → (i = p → j < p) → Φ j u w → Φ j u w') ∧ G (b || i == p) w') Q
def DutiesP (P : Program) (ops : Array Oper) (Q : Exit → Act → World → Prop) (p : Nat) (G : Bool → World → Prop) (Φ : Nat → Value → World → Prop) (a0 : Act) : Nat → List Oper → Prop
  | _, [] => True
  | i, o :: l => DutyP P ops Q p G Φ a0 i o ∧ DutiesP P ops Q p G Φ a0 (i + 1) l
theorem DutiesP.at {p : Nat} {G : Bool → World → Prop} {Φ : Nat → Value → World → Prop} : ∀ {l : List Oper} {k : Nat}, DutiesP P ops Q p G Φ a0 k l → ∀ i o, l[i]? = some o → DutyP P ops Q p G Φ a0 (k + i) o
  | [], _, _, i, o, h => by simp at h
  | q :: l, k, hd, 0, o, h => by simp at h; subst h; exact hd.1
  | q :: l, k, hd, i + 1, o, h => by
    have := DutiesP.at (k := k + 1) hd.2 i o (by simpa using h)
    rwa [show k + 1 + i = k + (i + 1) from by omega] at this

end
end Go.Proofs.YthinpbdbhijbgaaGreatDoor
namespace Go.Proofs.YthinpbdbhijbgaaGreatDoor
open Go.RowKit
section
variable {P : Program} {ops : Array Oper} {Q : Exit → Act → World → Prop} {a0 : Act} {w0 : World}

/-- An operation's duty; l: which are done. Φ speaks of values alone. -/
def DutyS (P : Program) (ops : Array Oper) (Q : Exit → Act → World → Prop) (G : (Nat → Bool) → World → Prop) (Φ : Nat → Value → Prop) (a0 : Act) (i : Nat) (o : Oper) : Prop :=
  ∀ (d : Nat → Bool) a w, d i = false → (∀ f k j, reachB ops f k j = true → d k = true → d j = true) → (∀ e ∈ o.after.toList, Region.binds .any e = true → d e.on = true) → G d w → Framed ops a0 a → Ahead ops (fun i v _ => Φ i v) o a w →
    o.wp P a w (fun a' w' => ∃ v, a' = a.put o.dst v ∧ Φ i v ∧ G (fun k => d k || k == i) w') Q
def DutiesS (P : Program) (ops : Array Oper) (Q : Exit → Act → World → Prop) (G : (Nat → Bool) → World → Prop) (Φ : Nat → Value → Prop) (a0 : Act) : Nat → List Oper → Prop
  | _, [] => True
  | i, o :: l => DutyS P ops Q G Φ a0 i o ∧ DutiesS P ops Q G Φ a0 (i + 1) l
theorem DutiesS.at {G : (Nat → Bool) → World → Prop} {Φ : Nat → Value → Prop} : ∀ {l : List Oper} {k : Nat}, DutiesS P ops Q G Φ a0 k l → ∀ i o, l[i]? = some o → DutyS P ops Q G Φ a0 (k + i) o
  | [], _, _, i, o, h => by simp at h
  | q :: l, k, hd, 0, o, h => by simp at h; subst h; exact hd.1
  | q :: l, k, hd, i + 1, o, h => by
    have := DutiesS.at (k := k + 1) hd.2 i o (by simpa using h)
    rwa [show k + 1 + i = k + (i + 1) from by omega] at this

theorem region_state (m : Nat) (G : (Nat → Bool) → World → Prop) (hG0 : G (fun _ => false) w0.drew) (Φ : Nat → Value → Prop)
    (hchk : (dstsOk ops && aheadB ops && (ops.toList.all fun o => o.guard.isNone && o.dst.any fun d => decide (d < m))) = true) (hsz : a0.tmps.size = m)
    (hd : DutiesS P ops Q G Φ a0 0 ops.toList)
    (hend : ∀ us d w, (∀ i, i < ops.size → d i = true) → G d w → us.length = ops.toList.length → (∀ i u, us[i]? = some u → Φ i u) → Q .normal (filled ops.toList us a0) w) :
    RegionP P ops Q a0 w0 := by
  simp only [Bool.and_eq_true] at hchk
  obtain ⟨⟨hdst, hacy⟩, hall⟩ := hchk
  have hdd : ∀ o ∈ ops.toList, ∃ d, o.dst = some d ∧ d < a0.tmps.size := fun o ho => by
    have := List.all_eq_true.1 hall o ho
    simp only [Bool.and_eq_true] at this
    have h2 := this.2
    cases hq : o.dst with
    | none => rw [hq] at h2; cases h2
    | some d => rw [hq] at h2; exact ⟨d, rfl, by rw [hsz]; simpa using h2⟩
  have hin : ∀ o ∈ ops.toList, ∀ d, o.dst = some d → d < a0.tmps.size := fun o ho d hd => by
    obtain ⟨d', h1, h2⟩ := hdd o ho
    rw [hd] at h1
    rw [Option.some.inj h1]; exact h2
  have hng : ∀ o ∈ ops.toList, o.guard = none := fun o ho => by
    have := List.all_eq_true.1 hall o ho
    simp only [Bool.and_eq_true] at this
    simpa using this.1
  have hdn : (ops.toList.filterMap (·.dst)).Nodup := by simpa [dstsOk] using hdst
  unfold RegionP
  refine wpAny_inv (fun l a w => l.size = ops.size ∧ G (fun k => l.getD k false) w ∧ Framed ops a0 a ∧ (∀ i o, ops[i]? = some o → l.getD i false = true → Φ i (valOf o a)) ∧ Closed ops l) (fun _ _ _ h => h.1) ?_ ?_ _ _ _ _ ?_ ?_
  · rintro l a w i ⟨hs, hE, hF, hP, hC⟩ hi
    obtain ⟨hlt, hu, hpre⟩ := (ready_iff hs).1 hi
    have ho : ops[i]? = some ops[i] := Array.getElem?_eq_getElem hlt
    have hol : ops.toList[i]? = some ops[i] := by simp
    have hmem : ops[i] ∈ ops.toList := by simp
    have hduty := hd.at i ops[i] hol
    rw [Nat.zero_add] at hduty
    have hgo := hduty (fun k => l.getD k false) a w hu (fun f k j h hk => hC.reach f k j h hk) (fun e he hb => hpre e he hb) hE hF (fun e he hb q hq => hP e.on q hq (hpre e he hb))
    unfold wpOpP
    rw [ho]
    simp only []
    rw [if_pos (by unfold Region.wanted; rw [hng _ hmem])]
    refine Oper.wp_mono (fun a' w' h => ?_) hgo
    obtain ⟨v, rfl, hv, hG'⟩ := h
    have hgp : (fun k => (l.setIfInBounds i true).getD k false) = fun k => l.getD k false || k == i := by
      funext k
      by_cases e : k = i
      · subst e
        rw [getD_set_same (by omega)]; simp
      · rw [getD_set_other e]
        have : (k == i) = false := by simpa using e
        rw [this, Bool.or_false]
    refine ⟨by simpa using hs, by rw [hgp]; exact hG', framed_put hF hmem v, fun j o hj hlj => ?_, fun j o hj hlj e he hb => ?_⟩
    · by_cases e : j = i
      · subst e
        rw [ho] at hj
        obtain rfl := Option.some.inj hj
        obtain ⟨d, hd1, _⟩ := hdd _ hmem
        rw [valOf_put_same (fun d hd => by rw [hF.2.1]; exact hin _ hmem d hd) (fun h => by rw [hd1] at h; cases h)]
        exact hv
      · rw [getD_set_other e] at hlj
        rw [valOf_put_other (fun d hd h => e (dst_inj ops.toList hdn j i o ops[i] d (by simpa using hj) hol hd h))]
        exact hP j o hj hlj
    · by_cases hei : e.on = i
      · rw [hei]; exact getD_set_same (by omega)
      · rw [getD_set_other hei]
        by_cases hji : j = i
        · subst hji
          rw [ho] at hj
          obtain rfl := Option.some.inj hj
          exact hpre e he hb
        · rw [getD_set_other hji] at hlj
          exact hC j o hj hlj e he hb
  · rintro l a w ⟨hs, hE, hF, hP, _⟩ hr
    have hdone : ∀ i, i < ops.size → l.getD i false = true := fun i hi => ready_none hs hacy hr (i + 1) i (by omega) hi
    rw [framed_filled hF ops.toList (fun _ h => h) (fun _ h => .inl h) hin]
    refine hend _ _ w hdone hE (by simp) fun i u hu => ?_
    rw [List.getElem?_map, Option.map_eq_some_iff] at hu
    obtain ⟨o, ho, rfl⟩ := hu
    exact hP i o (by simpa using ho) (hdone i (Array.getElem?_eq_some_iff.1 (show ops[i]? = some o by simpa using ho)).1)
  · have hf : ∀ i, (Array.replicate ops.size false).getD i false = false := fun i => by
      rw [Array.getD_eq_getD_getElem?, Array.getElem?_replicate]; split <;> rfl
    refine ⟨by simp, by simp only [hf]; exact hG0, ⟨rfl, rfl, fun _ _ => rfl⟩, ?_, ?_⟩
    · intro i o _ h
      rw [hf] at h; cases h
    · intro i o _ h
      rw [hf] at h; cases h
  · unfold unlisted
    exact Nat.le_trans (List.count_le_length) (by simp)

theorem region_state_vals (m : Nat) (G : (Nat → Bool) → World → Prop) (hG0 : G (fun _ => false) w0.drew) (vals : List Value) (hlen : vals.length = ops.toList.length)
    (hchk : (dstsOk ops && aheadB ops && (ops.toList.all fun o => o.guard.isNone && o.dst.any fun d => decide (d < m))) = true) (hsz : a0.tmps.size = m)
    (hd : DutiesS P ops Q G (fun i v => vals[i]? = some v) a0 0 ops.toList)
    (hend : ∀ d w, (∀ i, i < ops.size → d i = true) → G d w → Q .normal (filled ops.toList vals a0) w) : RegionP P ops Q a0 w0 := by
  refine region_state m G hG0 (fun i v => vals[i]? = some v) hchk hsz hd fun us d w hdn hG hl hP => ?_
  have : us = vals := List.ext_getElem? fun i => by
    by_cases hi : i < us.length
    · rw [hP i us[i] (List.getElem?_eq_getElem hi), List.getElem?_eq_getElem hi]
    · rw [List.getElem?_eq_none (by omega), List.getElem?_eq_none (by omega)]
  rw [this]
  exact hend d w hdn hG

end
end Go.Proofs.YthinpbdbhijbgaaGreatDoor
namespace Go.Proofs.YthinpbdbhijbgaaGreatDoor
open Go.RowKit
section
variable {P : Program} {ops : Array Oper} {Q : Exit → Act → World → Prop} {a0 : Act} {w0 : World}

end
end Go.Proofs.YthinpbdbhijbgaaGreatDoor
namespace Go.Proofs.YthinpbdbhijbgaaGreatDoor
open Go.RowKit
set_option maxHeartbeats 2000000
set_option maxRecDepth 100000

/-- The children's names of a path, as the map that is looked up. -/
theorem TreeAt.kids_look {S : Nat → Prop} {w : World} {bt : Nat} {M : List (Key × Nd)} {N : Nat} (hT : TreeAt S w bt M N) (s : ByteArray) (hs : s.size ≤ maxLen) :
    ∃ (bn bk : Nat) (mb : Option Nat), (∀ b, mb = some b → S b) ∧ ∀ W : World, (∀ k, S k → W.heap[k]? = w.heap[k]?) → Box W bt (treeC bn bk) ∧ (Instr.lookup 121 (.map (some bk)) (.string s) false).run Tryz.prog W = .ok (.map mb) W ∧
      (∀ b, mb = some b → SMap Tryz.prog 9 W b (kidsOf M s)) ∧ (mb = none → kidsOf M s = []) ∧ ∀ ty, (Builtin.len_ #[157] ty #[.map mb]).run Tryz.prog W = .ok (.int .i64 (kidsOf M s).length) W := by
  obtain ⟨bn, bk, K, hd, hNd, hKd⟩ := hT
  have hbox : ∀ W : World, (∀ k, S k → W.heap[k]? = w.heap[k]?) → Box W bt (treeC bn bk) := fun W h j => cell_of_row _ _ _ _ _ _ ((h bt hd.st).trans hd.blk)
  have hlk : ∀ W : World, (∀ k, S k → W.heap[k]? = w.heap[k]?) → (Instr.lookup 121 (.map (some bk)) (.string s) false).run Tryz.prog W = .ok ((mget (kidsV K) s.data.toList).getD (.map none)) W := fun W h =>
    SMap.look (e := 157) (hKd.map.keep (h bk hd.sk)) strT Tryz.underlying121 (z := .map none) (by kernel_rfl) hs
  cases hk : mget K s.data.toList with
  | some b =>
    have hq := hKd.each _ (mget_some_mem hk)
    have hS := hq.1
    have hSM := hq.2.2.2
    rw [key_bytes] at hSM
    have e : (mget (kidsV K) s.data.toList).getD (.map none) = .map (some b) := by rw [kidsV_get, hk]; rfl
    rw [e] at hlk
    refine ⟨bn, bk, some b, fun x hx => by cases hx; exact hS, fun W h => ⟨hbox W h, hlk W h, fun x hx => by cases hx; exact hSM.keep (h b hS), fun hx => (by cases hx), fun ty => ?_⟩⟩
    exact SMap.len (e := 205) (hSM.keep (h b hS)) Tryz.underlying157 ty
  | none =>
    have e : (mget (kidsV K) s.data.toList).getD (.map none) = .map none := by rw [kidsV_get, hk]; rfl
    rw [e] at hlk
    have hno := hKd.rest _ hk
    refine ⟨bn, bk, none, fun x hx => (by cases hx), fun W h => ⟨hbox W h, hlk W h, fun x hx => (by cases hx), fun _ => hno, fun ty => ?_⟩⟩
    rw [hno]
    exact run_len_nilMap (P := Tryz.prog) W 157 ty (by kernel_rfl)

/-- What the region has done. -/
def StG (W3 : World) (gs : Nat) (cs : Array Value) (d : Nat → Bool) (W : World) : Prop :=
  Chg (· = gs) W3 W ∧ W.heap[gs]? = some (.cells (if d 9 = true then cs else zeroStat) 139 (0, 0))
theorem StG.ext {W3 : World} {gs : Nat} {cs : Array Value} {i : Nat} (hi : i ≠ 9) (d d' : Nat → Bool) (w w' : World) (h : StG W3 gs cs d w) (he : Ext w w') (hd : ∀ k, k ≠ i → d' k = d k) : StG W3 gs cs d' w' := by
  obtain ⟨h1, h2⟩ := h
  refine ⟨h1.trans (Chg.of_ext (S := fun _ => False) he) (fun _ _ h => h.elim), ?_⟩
  rw [hd 9 (Ne.symm hi), he.block gs (Array.getElem?_eq_some_iff.1 h2).1]
  exact h2
end Go.Proofs.YthinpbdbhijbgaaGreatDoor
namespace Go.Proofs.YthinpbdbhijbgaaGreatDoor
open Go.RowKit
set_option maxHeartbeats 1000000

section
variable {P : Program} {ops : Array Oper} {rest : List Oper} {o : Oper} {a : Act} {Q : Exit → Act → World → Prop}
theorem wpList_next_left (w : World) (hg : o.guard = none) (it : Operand) (hop : o.op = Op.next it false) (kt : TypeId) (hk : P.underlying kt = some .string) (b r n : Nat) (m : List (Key × Value)) (left : Lit → Bool) (cnt : Nat)
    (hit : a.eval it = .pointer (some ⟨r, 0, none⟩)) (h : w.ranges P kt Rv b r n (kvD m) left cnt)
    (hDone : (∀ kl, left kl = false) → wpList P ops Q rest (a.put o.dst (.tuple #[.bool false])) w)
    (hMore : ∀ (s : ByteArray) (v : Value) (w' : World) (cnt' : Nat), s.size ≤ maxLen → left (.string s.data.toList) = true → mget m s.data.toList = some v → w'.ranges P kt Rv b r n (kvD m) (fun z => left z && !z.sameKey (.string s.data.toList)) cnt' → cnt' < cnt →
      w.grownBy w' (some r) → w'.heap.size = w.heap.size → (Instr.entry (.pointer (some ⟨r, 0, none⟩))).run P w' = .ok (.tuple #[.string s, v]) w' → wpList P ops Q rest (a.put o.dst (.tuple #[.bool true, .string s, v])) w') :
    wpList P ops Q (o :: rest) a w :=
  wpList_next_ranges w hg it hop kt (Maps.string_keyed hk) Rv Value.string (id : Value → Value) (fun key kl hkey => by
      simp only [keyOf, hk, mapKey] at hkey
      cases key <;> simp at hkey
      exact ⟨_, rfl⟩) (fun v y _ => ⟨v, rfl⟩) b r n (kvD m) left cnt hit h (fun _ => hDone) fun s v kl y w' cnt' hkey hlk hv hat hrg hlt hgr hsz hen => by
    have hkl : kl = .string s.data.toList ∧ s.size ≤ maxLen := by
      simp only [keyOf, hk, mapKey] at hkey
      split at hkey
      · rename_i hs; exact ⟨(Option.some.inj hkey).symm, hs⟩
      · cases hkey
    obtain ⟨rfl, hs⟩ := hkl
    simp only [Rv, id, Option.some.injEq] at hv
    subst hv
    refine hMore s v w' cnt' hs hlk ?_ hrg hlt hgr hsz hen
    have h1 := hat (.held (.bool true))
    have h2 := hat (.held (.bool false))
    rw [kvD_at] at h1 h2
    simp only [DataW.held.injEq] at h1 h2
    cases hq : mget m s.data.toList with
    | some u => rw [hq] at h1; exact congrArg some h1
    | none => rw [hq] at h1 h2; simp at h1 h2; rw [← h1] at h2; cases h2
end
end Go.Proofs.YthinpbdbhijbgaaGreatDoor
