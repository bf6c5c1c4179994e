/- The walk of arborref07.From. The walk of stat.Of. A region that draws its order and turns memory: operations without a slot (a store) among them. The walk of (*Tree).Stat. What is under a path: itself and what is under its children. The list that grows while its places are gone through: in the end it holds what is under the first. The list under a path, sorted. The walk of paths.Join. Joining a node's path and a child's last part gives the child's path. The walk of (*Tree).under. The walks of arborref03's Name and arborref07's Kids. The walk of Put. Plain laws for TreePlays: where a path is taken out of the document's list; what a call makes of the nodes. The walk of stat.Encode, where the node may be. The walk of the sum of bytes; a node's number. The walk of a node's number. The walk of the tree's number: a range over the tree's nodes. A nil tree: what is told of it. The walk of the law's Below: a range over the nodes under a path. The walks of a nil tree's methods. The walks of arborref07's Get and After. The walks of arborref07's Add, Put and Remove. The walks of arborref05's New and arborref07's Root. Plain law: the parent of a path is a path. No program in sight. The walk of arborref03.Under. The plain sums of TreeSums. The walk of (*Tree).Weigh. The walk of arborref07's Below. The walks of arborref07's All, Clone and New. The walk of arborref08's at: the place of a session. -/
import Derived.Test.YtclekhjnnljjlaaGreatDoorJFuzzyWhole9
import Derived.Test.YtclekhjnnljjlaaGreatDoorJFuzzyWhole14
import Derived.Test.YtclekhjnnljjlaaGreatDoorJFuzzyWhole5
import Derived.Test.YtclekhjnnljjlaaGreatDoorJFuzzyWhole13
import Derived.Test.YtclekhjnnljjlaaGreatDoorJFuzzyWhole6
import Derived.Test.YtclekhjnnljjlaaGreatDoorJFuzzyWhole7
import Derived.Test.YtclekhjnnljjlaaGreatDoorJFuzzyWhole4
import Derived.Lib.IndexLaws
import Derived.Sort.OwnSorted
import Derived.Great.BuildSlice
import Derived.Test.YtclekhjnnljjlaaGreatDoorJFuzzyWhole2
import Derived.Test.YtclekhjnnljjlaaGreatDoorJFuzzyWhole8
import Derived.Test.YtclekhjnnljjlaaGreatDoorJFuzzyWhole3
import Derived.Test.YtclekhjnnljjlaaGreatDoorJFuzzyWhole10
import Derived.Test.YtclekhjnnljjlaaGreatDoorJFuzzyWhole12
import Derived.BigQuiet
import Derived.Deep.QuietTactic
namespace Go.Proofs.YtclekhjnnljjlaaGreatDoor
open Go.RowKit
set_option maxHeartbeats 2000000
set_option maxRecDepth 100000

def RFromOut (L : List Nd) (w : World) (e : Ending) (w' : World) : Prop :=
  match fromN L with
  | .error (i, x) => e = .returned (.tuple #[.pointer none, .int .i64 i, .int .i64 x]) ∧ Ext w w'
  | .ok M => ∃ b, e = .returned (.tuple #[.pointer (some ⟨b, 0, none⟩), .int .i64 0, .int .i64 0]) ∧ w.heap.size ≤ b ∧ RT w' b (nds M) ∧ Ext w w'
theorem rfromOut_err {L : List Nd} {w w' : World} {i : Nat} {x : Int} (h : fromN L = .error (i, x)) (hb : Ext w w') : RFromOut L w (.returned (.tuple #[.pointer none, .int .i64 i, .int .i64 x])) w' := by
  unfold RFromOut; rw [h]; exact ⟨rfl, hb⟩

theorem nds_fit {M : List (Key × Nd)} (hM : MOk M) : ∀ m ∈ nds M, Fit m := fun m hm => by
  obtain ⟨x, hx, rfl⟩ := List.mem_map.1 hm
  exact (right_fit (hM.right x hx)).1
theorem rfind_isSome {M : List (Key × Nd)} (hM : MOk M) (s : ByteArray) : (rfind (nds M) s).2 = (mget M s.data.toList).isSome := rfind_there hM.sorted hM.key s
theorem rt_nil (w : World) : RT (w.alloc (.cells #[.slice none 0 0] 106)) w.heap.size [] :=
  ⟨none, 0, [], heap_alloc_new w _, Nat.le_refl _, Nat.zero_le _, fun _ h => h, ⟨rfl, fun j u hj => by simp at hj, fun j cs hj => by simp at hj⟩, .inl ⟨rfl, rfl⟩⟩

set_option maxHeartbeats 8000000 in
theorem rfrom_any (L : List Nd) (a : Option Addr) (c : Nat) (w : World) (hT0 : Tabs w) (hL : NdsAt w.heap.size w a L) (hf : ∀ n ∈ L, Fit n) (hl : L.length * 168 ≤ 140737488355328) : Calls Tryz.prog 18 #[.slice a L.length c] w (RFromOut L w) := by
  have hR0 := rt_nil w
  have hE0 : Ext w (w.alloc (.cells #[.slice none 0 0] 106)) := Ext.alloc _ _
  have hl2 : L.length ≤ 9223372036854775807 := by omega
  have hsz := hT0.size
  have HR0 := Lib.hid hR0
  have HE0 := Lib.hid hE0
  have HT := Lib.hid hT0
  have HL := Lib.hid hL
  have HF := Lib.hid hf
  clear hR0 hE0 hT0 hL hf
  go_enter Tryz.func18, Tryz.ntmps18
  go_wp2
  go_loopw [6] (fun i wr => ∃ (k : Nat) (M : List (Key × Nd)), k ≤ L.length ∧ i = .int .i64 k ∧ Hid (fromL L 0 [] = fromL (L.drop k) k M) ∧ Hid (MOk M) ∧ RT wr w.heap.size (nds M) ∧ M.length ≤ k ∧ Ext w wr) (fun i _ => L.length - (intOf i).toNat)
  case atStart => exact ⟨0, [], Nat.zero_le _, rfl, rfl, MOk.nil, HR0.out, Nat.le_refl _, HE0.out⟩
  case round =>
    obtain ⟨k, M, hk, rfl, HFL, HM, hR, hMk, hE⟩ := hrel
    by_cases hlt : k < L.length
    · have hLk : L[k]? = some L[k] := List.getElem?_eq_getElem hlt
      have hfk := HF.out L[k] (List.getElem_mem hlt)
      have HS := Lib.hid (HFL.out.trans (fromL_step L k L[k] M hLk))
      obtain ⟨b, off, v, rfl, hb, hv, hc⟩ := HL.out k L[k] hLk
      generalize L[k] = n at *
      obtain ⟨da, dc, aa, ac, rfl, hD, hA⟩ := hv
      have hcw : ∀ W, Ext w W → ∀ j u, (ndC n (.slice da n.data.length dc) (.slice aa n.acl.length ac))[j]? = some u → W.cell? ((⟨b, off + k * 17, none⟩ : Addr).add j) = some u := fun W h j u hj => by
        rw [addr_add, h.cell (p := ⟨b, off + k * 17 + j, none⟩) hb]
        exact hc j u hj
      have hc1 := hcw wr hE
      have CR := Lib.hid (rright_any n da aa dc ac wr hfk (HT.out.below hE hsz) ((hA.ext hE)))
      have HR := Lib.hid hR
      have HE := Lib.hid hE
      have HCW := Lib.hid hcw
      have HC1 := Lib.hid hc1
      have HD := Lib.hid hD
      have HA := Lib.hid hA
      unfold ndC at HC1
      clear hcw hc1 hc hR hE hD hA
      go_wp2_with (refine wpList_load_at rfl 88 (.tmp 27) rfl _ rfl _ _ HC1.out Tryz.underlying88 rfl sizeNd ?_)
      refine CR.out.mono ?_
      rintro e w2 ⟨rfl, hE2⟩
      have hE2 : Ext wr w2 := hE2
      have hEw2 := HE.out.trans hE2
      by_cases hr : rightN n = 0
      · have hp0 : w2.cell? ⟨b, off + k * 17, none⟩ = some (.string n.path) := by
          have := HCW.out w2 hEw2 0 (.string n.path) rfl
          rwa [addr_add] at this
        have CF := Lib.hid (rfind_any _ w2 w.heap.size (nds M) (HR.out.ext hE2) (nds_fit HM.out) n.path hfk.path)
        have hthere := rfind_isSome HM.out n.path
        have HS2 := Lib.hid (HS.out.trans (by rw [if_neg (by simpa using hr)]))
        have HR2 := Lib.hid (HR.out.ext hE2)
        have HE2 := Lib.hid hEw2
        rw [hr]
        have HRT := Lib.hid hr
        clear hE2 hEw2 CR HS HR HC1 hr
        rw [hthere] at CF
        cases hg : mget M n.path.data.toList with
        | some y =>
          rw [hg] at CF
          have hgK : mget M (keyN n) = some y := hg
          have HERR := Lib.hid (show fromN L = .error (k, 71) by
            unfold fromN
            rw [HS2.out, if_pos (by rw [hgK]; rfl)])
          clear hg hgK hthere HS2
          go_wp2_with fail
          refine CF.out.mono ?_
          rintro e w3 ⟨rfl, hE3⟩
          have HFIN := Lib.hid (rfromOut_err HERR.out (HE2.out.trans hE3))
          clear CF hE3 HERR hp0
          go_wp2
          go_ret3
          exact HFIN.out
        | none =>
          rw [hg] at CF
          have hgK : mget M (keyN n) = none := hg
          have HS3 := Lib.hid (HS2.out.trans (by rw [if_neg (by rw [hgK]; simp)]))
          have HINS := Lib.hid (rfind_ins HM.out n hgK)
          have HM2 := Lib.hid (HM.out.put n HRT.out)
          have hml : (mput M (keyN n) n).length ≤ k + 1 := by
            unfold mput; rw [mins_length]
            have := List.length_filter_le (fun x : Key × Nd => !(x.1 == keyN n)) M
            show (mdel M (keyN n)).length + 1 ≤ k + 1
            unfold mdel; omega
          clear hg hgK hthere HS2
          go_wp2_with fail
          refine CF.out.mono ?_
          rintro e w3 ⟨rfl, hE3⟩
          have hE3 : Ext w2 w3 := hE3
          have hEw3 := HE2.out.trans hE3
          have HC3 := Lib.hid (HCW.out w3 hEw3)
          have CI := Lib.hid (rinsert_any w3 w.heap.size (nds M) n da aa dc ac (HR2.out.ext hE3) (nds_fit HM.out) hfk (HD.out.ext hEw3) (HA.out.ext hEw3) (by rw [nds_length]; omega))
          have HE3 := Lib.hid hEw3
          unfold ndC at HC3
          clear hE3 hEw3 CF HR2 hp0
          go_wp2_with (refine wpList_load_at rfl 88 (.tmp 49) rfl _ rfl _ _ HC3.out Tryz.underlying88 rfl sizeNd ?_)
          refine CI.out.mono ?_
          rintro e w4 ⟨rfl, hR4, hC4⟩
          rw [← HINS.out] at hR4
          have HR4 := Lib.hid hR4
          have HE4 := Lib.hid (HE3.out.trans' (hC4.below (fun x hx => by subst hx; exact Nat.le_refl _) HE3.out.size))
          clear CI hR4 hC4 HC3
          go_wp2
          go_roundw
          case rel => exact ⟨k + 1, _, by omega, by go_num, HS3.out, HM2.out, HR4.out, hml, HE4.out⟩
          case measure => simp [intOf]; omega
      · have hr1 : (rightN n != 0) = true := by simpa using hr
        have HERR := Lib.hid (show fromN L = .error (k, rightN n) by
          unfold fromN
          rw [HS.out, if_pos (by simpa using hr)])
        have HFIN := Lib.hid (rfromOut_err HERR.out hEw2)
        clear hE2 hEw2 CR HS HERR HC1
        go_wp2
        go_ret3
        exact HFIN.out
    · obtain rfl : k = L.length := by omega
      have HF2 : Hid (fromL L 0 [] = .ok M) := by
        unfold Hid; rw [HFL.out, List.drop_length]; rfl
      have CF := Lib.hid (rfind_any _ wr w.heap.size (nds M) hR (nds_fit HM.out) ⟨#[47]⟩ (by decide))
      have hthere := rfind_isSome HM.out ⟨#[47]⟩
      rw [hthere] at CF
      have hkl : ((⟨#[47]⟩ : ByteArray)).data.toList = [47] := rfl
      rw [hkl] at CF
      have HR := Lib.hid hR
      have HE := Lib.hid hE
      clear hR hE hthere hkl
      cases hg : mget M [47] with
      | none =>
        rw [hg] at CF
        have HERR := Lib.hid (show fromN L = .error (0, 70) by
          unfold fromN
          rw [HF2.out]
          simp only
          rw [if_pos hg])
        clear hg
        go_wp2_with fail
        refine CF.out.mono ?_
        rintro e w3 ⟨rfl, hE3⟩
        have HFIN := Lib.hid (rfromOut_err HERR.out (HE.out.trans hE3))
        clear CF hE3 HERR
        go_wp2
        go_ret3
        exact HFIN.out
      | some y0 =>
        rw [hg] at CF
        have HG := Lib.hid hg
        have HRt := Lib.hid (fromL_right L 0 [] M HF2.out)
        clear hg
        go_wp2_with fail
        refine CF.out.mono ?_
        rintro e W5 ⟨rfl, hE5⟩
        have hE5 : Ext wr W5 := hE5
        have HR5 := Lib.hid (HR.out.ext hE5)
        have HE5 := Lib.hid (HE.out.trans hE5)
        clear CF hE5 HR HE
        go_wp2
        go_loopw [12] (fun i wt => ∃ k : Nat, k ≤ L.length ∧ i = .int .i64 k ∧ Hid (parL M L 0 = parL M (L.drop k) k) ∧ Ext W5 wt) (fun i _ => L.length - (intOf i).toNat)
        case atStart => exact ⟨0, Nat.zero_le _, rfl, rfl, Ext.refl _⟩
        case round =>
          obtain ⟨k, hk, rfl, HP, hE⟩ := hrel
          by_cases hlt : k < L.length
          · have hLk : L[k]? = some L[k] := List.getElem?_eq_getElem hlt
            have hrk := HRt.out L[k] (List.getElem_mem hlt)
            have HS := Lib.hid (HP.out.trans (parL_step M L k L[k] hLk))
            obtain ⟨b, off, v, rfl, hb, hv, hc⟩ := HL.out k L[k] hLk
            generalize L[k] = n at *
            obtain ⟨da, dc, aa, ac, rfl, _⟩ := hv
            have hEw := HE5.out.trans hE
            have hp0 : wr.cell? ⟨b, off + k * 17, none⟩ = some (.string n.path) := (hEw.cell (p := ⟨b, off + k * 17, none⟩) hb).trans (hc 0 (.string n.path) rfl)
            have hvp := right_vpath hrk
            have hvf := (vpath_facts hvp).2.1
            have HE := Lib.hid hE
            clear hc hE
            by_cases hroot : n.path.size = 1
            · have hroot' := (root_iff hvp).1 hroot
              have e1 : (n.path.toList == [47]) = true := by rw [ByteArray.toList_eq]; simpa using hroot'
              have e2 : n.path.toList = [47] := by simpa using e1
              have HS2 := Lib.hid (HS.out.trans (by rw [if_neg (fun h => h.1 hroot)]))
              clear hroot hroot' HS hvp hrk
              go_wp2
              go_roundw
              case rel => exact ⟨k + 1, by omega, by go_num, HS2.out, HE.out⟩
              case measure => simp [intOf]; omega
            · have e1 : (n.path.toList == [47]) = false := by rw [ByteArray.toList_eq]; simpa using fun h => hroot ((root_iff hvp).2 h)
              have e2 : ¬ n.path.toList = [47] := by simpa using e1
              have CP := rparent_any n.path wr (by omega)
              rw [show parV n.path = .tuple #[.string (parentB n.path), .int .i64 0] by unfold parV; rw [if_pos ⟨hvp, hroot⟩]] at CP
              have hps : (parentB n.path).size ≤ 9223372036854775800 := by
                have := (path_split hvp hroot).2.2.1
                omega
              have CP := Lib.hid CP
              have HRoot := Lib.hid hroot
              have HTH := Lib.hid (rfind_isSome HM.out (parentB n.path))
              clear hroot hvp hrk
              go_wp2_with fail
              refine CP.out.mono ?_
              rintro e w6 ⟨rfl, hE6⟩
              have hE6 : Ext wr w6 := hE6
              have hE56 := HE.out.trans hE6
              have CF := Lib.hid (rfind_any _ w6 w.heap.size (nds M) (HR5.out.ext hE56) (nds_fit HM.out) (parentB n.path) hps)
              rw [HTH.out] at CF
              have HE6 := Lib.hid hE56
              clear CP hE6 hE56 hp0
              cases hg : mget M (parentB n.path).data.toList with
              | none =>
                rw [hg] at CF
                have HERR := Lib.hid (show fromN L = .error (k, 73) by
                  unfold fromN
                  rw [HF2.out]
                  simp only
                  rw [if_neg (by rw [HG.out]; simp), HS.out, if_pos ⟨HRoot.out, hg⟩])
                clear hg HS
                go_wp2_with fail
                refine CF.out.mono ?_
                rintro e w7 ⟨rfl, hE7⟩
                have HFIN := Lib.hid (rfromOut_err HERR.out (HE5.out.trans (HE6.out.trans hE7)))
                clear CF hE7 HERR
                go_wp2
                go_ret3
                exact HFIN.out
              | some y1 =>
                rw [hg] at CF
                have HS2 := Lib.hid (HS.out.trans (by rw [if_neg (fun h => by rw [hg] at h; cases h.2)]))
                clear hg HS
                go_wp2_with fail
                refine CF.out.mono ?_
                rintro e w7 ⟨rfl, hE7⟩
                have HE7 := Lib.hid (HE6.out.trans hE7)
                clear CF hE7
                go_wp2
                go_roundw
                case rel => exact ⟨k + 1, by omega, by go_num, HS2.out, HE7.out⟩
                case measure => simp [intOf]; omega
          · obtain rfl : k = L.length := by omega
            have hfin : RFromOut L w (.returned (.tuple #[.pointer (some ⟨w.heap.size, 0, none⟩), .int .i64 0, .int .i64 0])) wr := by
              unfold RFromOut fromN
              rw [HF2.out]
              simp only
              rw [if_neg (by rw [HG.out]; simp), HP.out, List.drop_length]
              exact ⟨_, rfl, Nat.le_refl _, HR5.out.ext hE, HE5.out.trans hE⟩
            have HFIN := Lib.hid hfin
            clear hfin hE HP HG HF2
            go_wp2
            go_ret3
            exact HFIN.out
end Go.Proofs.YtclekhjnnljjlaaGreatDoor
namespace Go.Proofs.YtclekhjnnljjlaaGreatDoor
open Go.RowKit
set_option maxHeartbeats 2000000
set_option maxRecDepth 100000

end Go.Proofs.YtclekhjnnljjlaaGreatDoor
namespace Go.Proofs.YtclekhjnnljjlaaGreatDoor
open Go.RowKit
section
variable {P : Program} {ops : Array Oper} {Q : Exit → Act → World → Prop} {a0 : Act} {w0 : World}

end
end Go.Proofs.YtclekhjnnljjlaaGreatDoor
namespace Go.Proofs.YtclekhjnnljjlaaGreatDoor
open Go.RowKit
set_option maxHeartbeats 2000000
set_option maxRecDepth 100000

end Go.Proofs.YtclekhjnnljjlaaGreatDoor
namespace Go.Proofs.YtclekhjnnljjlaaGreatDoor
open Go.RowKit
set_option maxHeartbeats 1000000

/-- The steps from a path to the root: is s among them? -/
def undF : Nat → ByteArray → ByteArray → Bool
  | 0, p, s => p.data == s.data
  | f + 1, p, s => p.data == s.data || (p.size != 1 && undF f (parentB p) s)
def und (p s : ByteArray) : Bool := undF p.size p s

/-- Each node's parent is there. -/
def Clo (M : List (Key × Nd)) : Prop := ∀ x ∈ M, x.2.path.size ≠ 1 → ∃ y ∈ M, y.2.path = parentB x.2.path

theorem und_size {M : List (Key × Nd)} (hM : MOk M) (hc : Clo M) : ∀ (f : Nat) (x : Key × Nd), x ∈ M → ∀ s, undF f x.2.path s = true → s.size ≤ x.2.path.size
  | 0, x, _, s, h => by
    have : x.2.path = s := by
      simp only [undF, beq_iff_eq] at h
      exact ByteArray.ext h
    rw [this]; exact Nat.le_refl _
  | f + 1, x, hx, s, h => by
    simp only [undF, Bool.or_eq_true, beq_iff_eq, Bool.and_eq_true, bne_iff_ne, ne_eq] at h
    rcases h with h | ⟨h1, h⟩
    · have : x.2.path = s := ByteArray.ext h
      rw [this]; exact Nat.le_refl _
    · obtain ⟨y, hy, ey⟩ := hc x hx h1
      have := und_size hM hc f y hy s (by rw [ey]; exact h)
      have hs := (path_split (right_vpath (hM.right x hx)) h1).2.2.1
      rw [ey] at this
      omega

theorem MOk.pos {M : List (Key × Nd)} (hM : MOk M) {x : Key × Nd} (hx : x ∈ M) : 0 < x.2.path.size := by
  have := (vpath_facts (right_vpath (hM.right x hx))).1
  omega

theorem und_fuel {M : List (Key × Nd)} (hM : MOk M) (hc : Clo M) : ∀ (f g : Nat) (x : Key × Nd), x ∈ M → x.2.path.size ≤ f → x.2.path.size ≤ g → ∀ s, undF f x.2.path s = undF g x.2.path s
  | 0, _, x, hx, hf, _, s => by have := hM.pos hx; omega
  | _ + 1, 0, x, hx, _, hg, s => by have := hM.pos hx; omega
  | f + 1, g + 1, x, hx, hf, hg, s => by
    simp only [undF]
    by_cases h1 : x.2.path.size = 1
    · simp only [h1, bne_self_eq_false, Bool.false_and]
    · obtain ⟨y, hy, ey⟩ := hc x hx h1
      have hs := (path_split (right_vpath (hM.right x hx)) h1).2.2.1
      have e1 := und_fuel hM hc f g y hy (by rw [ey]; omega) (by rw [ey]; omega) s
      rw [ey] at e1
      rw [e1]

theorem und_one {M : List (Key × Nd)} (hM : MOk M) {x : Key × Nd} (hx : x ∈ M) (h1 : x.2.path.size = 1) (s : ByteArray) : und x.2.path s = (x.2.path.data == s.data) := by
  unfold und
  rw [h1]
  simp only [undF, h1, bne_self_eq_false, Bool.false_and, Bool.or_false]

theorem und_up {M : List (Key × Nd)} (hM : MOk M) (hc : Clo M) {x y : Key × Nd} (hx : x ∈ M) (hy : y ∈ M) (h1 : x.2.path.size ≠ 1) (ey : y.2.path = parentB x.2.path) (s : ByteArray) :
    und x.2.path s = (x.2.path.data == s.data || und y.2.path s) := by
  have hp := hM.pos hx
  have hs := (path_split (right_vpath (hM.right x hx)) h1).2.2.1
  obtain ⟨g, hg⟩ : ∃ g, x.2.path.size = g + 1 := ⟨x.2.path.size - 1, by omega⟩
  have e1 := und_fuel hM hc g y.2.path.size y hy (by rw [ey]; omega) (Nat.le_refl _) s
  have h2 : (x.2.path.size != 1) = true := by simpa using h1
  unfold und
  rw [hg]
  simp only [undF]
  rw [hg] at h2
  rw [hg, h2, ← ey, e1, Bool.true_and]

theorem und_le {M : List (Key × Nd)} (hM : MOk M) (hc : Clo M) {x : Key × Nd} (hx : x ∈ M) {s : ByteArray} (h : und x.2.path s = true) : s.size ≤ x.2.path.size := und_size hM hc _ x hx s h

section sums
variable {α β : Type}
end sums

theorem fromL_mem : ∀ (L : List Nd) (i : Nat) (M M' : List (Key × Nd)), fromL L i M = .ok M' → ∀ x ∈ M', x ∈ M ∨ x.2 ∈ L
  | [], _, M, M', h, x, hx => by
    simp only [fromL, Except.ok.injEq] at h
    subst h; exact .inl hx
  | n :: l, i, M, M', h, x, hx => by
    simp only [fromL] at h
    split at h
    · cases h
    split at h
    · cases h
    rcases fromL_mem l _ _ _ h x hx with h' | h'
    · rcases mem_mput.1 h' with rfl | ⟨h', _⟩
      · exact .inr (List.mem_cons_self ..)
      · exact .inl h'
    · exact .inr (List.mem_cons_of_mem _ h')
theorem parL_mem {M : List (Key × Nd)} : ∀ (L : List Nd) (i : Nat), parL M L i = .ok () → ∀ n ∈ L, n.path.size ≠ 1 → mget M (parentB n.path).data.toList ≠ none
  | [], _, _, n, hn, _ => by simp at hn
  | m :: l, i, h, n, hn, h1 => by
    simp only [parL] at h
    split at h
    · cases h
    rename_i hm
    rcases List.mem_cons.1 hn with rfl | hn
    · exact fun h2 => hm ⟨h1, h2⟩
    · exact parL_mem l _ h n hn h1
theorem fromN_clo {L : List Nd} {M : List (Key × Nd)} (hM : MOk M) (h : fromN L = .ok M) : Clo M := by
  unfold fromN at h
  cases hf : fromL L 0 [] with
  | error e => rw [hf] at h; cases h
  | ok M1 =>
    rw [hf] at h
    simp only at h
    split at h
    · cases h
    cases hp : parL M1 L 0 with
    | error e => rw [hp] at h; cases h
    | ok u =>
      rw [hp] at h
      simp only [Except.ok.injEq] at h
      subst h
      intro x hx h1
      have hxL : x.2 ∈ L := by
        rcases fromL_mem L 0 [] _ hf x hx with h | h
        · simp at h
        · exact h
      have := parL_mem L 0 hp x.2 hxL h1
      cases hg : mget M1 (parentB x.2.path).data.toList with
      | none => exact absurd hg this
      | some n =>
        refine ⟨_, mget_some_mem hg, ?_⟩
        have := (hM.at hg).1
        unfold keyN at this
        exact (ba_ext this).symm

/-- A list that holds s and the children of each that it holds has all that is under s. -/
theorem und_closed {M : List (Key × Nd)} (hM : MOk M) (hc : Clo M) (s : ByteArray) (l : List ByteArray) (hs : s ∈ l) (hl : ∀ x ∈ M, x.2.path.size ≠ 1 → parentB x.2.path ∈ l → x.2.path ∈ l) :
    ∀ (f : Nat) (x : Key × Nd), x ∈ M → x.2.path.size ≤ f → und x.2.path s = true → x.2.path ∈ l
  | 0, x, hx, hf, _ => by have := hM.pos hx; omega
  | f + 1, x, hx, hf, h => by
    by_cases h1 : x.2.path.size = 1
    · rw [und_one hM hx h1] at h
      rw [ByteArray.ext (beq_iff_eq.1 h)]; exact hs
    · obtain ⟨y, hy, ey⟩ := hc x hx h1
      have hsz := (path_split (right_vpath (hM.right x hx)) h1).2.2.1
      rw [und_up hM hc hx hy h1 ey, Bool.or_eq_true] at h
      rcases h with h | h
      · rw [ByteArray.ext (beq_iff_eq.1 h)]; exact hs
      · exact hl x hx h1 (by rw [← ey]; exact und_closed hM hc s l hs hl f y hy (by rw [ey]; omega) h)

theorem und_child {M : List (Key × Nd)} (hM : MOk M) (hc : Clo M) {x y : Key × Nd} (hx : x ∈ M) (hy : y ∈ M) (h : childOf y.2.path x.2 = true) (s : ByteArray) (hu : und y.2.path s = true) : und x.2.path s = true := by
  obtain ⟨h1, h2⟩ := childOf_iff.1 h
  rw [und_up hM hc hx hy h1 h2.symm, hu, Bool.or_true]
end Go.Proofs.YtclekhjnnljjlaaGreatDoor
namespace Go.Proofs.YtclekhjnnljjlaaGreatDoor
open Go.RowKit
set_option maxHeartbeats 1000000

theorem nodup_at {l : List ByteArray} (h : l.Nodup) {i j : Nat} (hi : i < l.length) (hj : j < l.length) (e : l[i] = l[j]) : i = j := by
  have hp := List.pairwise_iff_getElem.1 h
  rcases Nat.lt_trichotomy i j with hij | hij | hij
  · exact absurd e (hp i j hi hj hij)
  · exact hij
  · exact absurd e.symm (hp j i hj hi hij)
theorem nodup_len : ∀ (l m : List ByteArray), l.Nodup → l ⊆ m → l.length ≤ m.length
  | [], m, _, _ => Nat.zero_le _
  | a :: l, m, h, hs => by
    obtain ⟨h1, h2⟩ := List.nodup_cons.1 h
    obtain ⟨u, v, e⟩ := List.append_of_mem (hs (List.mem_cons_self ..))
    have := nodup_len l (u ++ v) h2 fun b hb => by
      have hb' := hs (List.mem_cons_of_mem _ hb)
      rw [e] at hb'
      rcases List.mem_append.1 hb' with hb' | hb'
      · exact List.mem_append_left _ hb'
      · rcases List.mem_cons.1 hb' with hb' | hb'
        · subst hb'; exact absurd hb h1
        · exact List.mem_append_right _ hb'
    rw [e]
    simp only [List.length_append, List.length_cons] at this ⊢
    omega

/-- l's places ahead of i are done, of place i those children that are not left. -/
structure Bfs (M : List (Key × Nd)) (s : ByteArray) (l : List ByteArray) (i : Nat) (left : Key → Bool) : Prop where
  head : s ∈ l
  nodup : l.Nodup
  mem : ∀ p ∈ l, ∃ x ∈ M, x.2.path = p ∧ und p s = true
  done : ∀ j p, j < i → l[j]? = some p → ∀ x ∈ M, childOf p x.2 = true → x.2.path ∈ l
  part : ∀ p, l[i]? = some p → ∀ x ∈ M, childOf p x.2 = true → left (nameK x.2) = false → x.2.path ∈ l
  back : ∀ p ∈ l, p = s ∨ ∃ j q, l[j]? = some q ∧ p.size ≠ 1 ∧ parentB p = q ∧ (j < i ∨ (j = i ∧ left (nameB p).data.toList = false))

theorem Bfs.round {M : List (Key × Nd)} {s : ByteArray} {l : List ByteArray} {i : Nat} {left : Key → Bool} (h : Bfs M s l i left) {p : ByteArray} (hp : l[i]? = some p) (hl : ∀ y ∈ kidsOf M p, left y.1 = false) : Bfs M s l (i + 1) (fun _ => true) :=
  ⟨h.head, h.nodup, h.mem, fun j q hj hq x hx hc => by
    by_cases hji : j = i
    · subst hji
      have e : p = q := Option.some.inj (hp.symm.trans hq)
      subst e
      exact h.part p hp x hx hc (hl _ (mem_kids.2 ⟨x, hx, hc, rfl⟩))
    · exact h.done j q (by omega) hq x hx hc, fun p _ y _ _ hh => by simp at hh, fun q hq => by
    rcases h.back q hq with e | ⟨j, r, h1, h2, h3, h4⟩
    · exact .inl e
    · exact .inr ⟨j, r, h1, h2, h3, .inl (by rcases h4 with h4 | h4 <;> omega)⟩⟩

theorem Bfs.step {M : List (Key × Nd)} (hM : MOk M) (hc : Clo M) {s : ByteArray} {l : List ByteArray} {i : Nat} {left : Key → Bool} (h : Bfs M s l i left) {p : ByteArray} (hp : l[i]? = some p) {x : Key × Nd} (hx : x ∈ M) (hch : childOf p x.2 = true) (hleft : left (nameK x.2) = true) :
    Bfs M s (l ++ [x.2.path]) i (fun k => left k && !(k == nameK x.2)) := by
  obtain ⟨c1, c2⟩ := childOf_iff.1 hch
  obtain ⟨y, hy, ey, hu⟩ := h.mem p (List.mem_of_getElem? hp)
  have hsz := (path_split (right_vpath (hM.right x hx)) c1).2.2.1
  have hnew : x.2.path ∉ l := by
    intro hm
    rcases h.back _ hm with e | ⟨j, q, h1, h2, h3, h4⟩
    · have := und_le hM hc hy (by rw [ey]; exact hu)
      rw [← e, ey, ← c2] at this
      omega
    · rw [c2] at h3
      subst h3
      have hj : j = i := by
        obtain ⟨a1, a2⟩ := List.getElem?_eq_some_iff.1 h1
        obtain ⟨b1, b2⟩ := List.getElem?_eq_some_iff.1 hp
        exact nodup_at h.nodup a1 b1 (a2.trans b2.symm)
      rcases h4 with h4 | ⟨_, h4⟩
      · omega
      · rw [show (nameB x.2.path).data.toList = nameK x.2 from rfl, hleft] at h4; cases h4
  obtain ⟨hi, ei⟩ := List.getElem?_eq_some_iff.1 hp
  have old : ∀ j q, (l ++ [x.2.path])[j]? = some q → j ≤ i → l[j]? = some q := fun j q hq hji => by
    rwa [List.getElem?_append_left (by omega)] at hq
  refine ⟨by simp [h.head], ?_, fun q hq => ?_, fun j q hj hq z hz hcz => ?_, fun q hq z hz hcz hlz => ?_, fun q hq => ?_⟩
  · rw [List.nodup_append]
    refine ⟨h.nodup, by simp, fun a ha b hb => ?_⟩
    have : b = x.2.path := by simpa using hb
    subst this
    exact fun e => hnew (e ▸ ha)
  · rcases List.mem_append.1 hq with hq | hq
    · exact h.mem q hq
    · have : q = x.2.path := by simpa using hq
      subst this
      exact ⟨x, hx, rfl, und_child hM hc hx hy (by rw [ey]; exact hch) s (by rw [ey]; exact hu)⟩
  · exact List.mem_append_left _ (h.done j q hj (old j q hq (by omega)) z hz hcz)
  · have hq' := old i q hq (Nat.le_refl _)
    have e : p = q := Option.some.inj (hp.symm.trans hq')
    subst e
    by_cases hn : nameK z.2 = nameK x.2
    · obtain ⟨d1, d2⟩ := childOf_iff.1 hcz
      have : z.2.path = x.2.path := by
        have a1 := (path_split (right_vpath (hM.right z hz)) d1).1
        have a2 := (path_split (right_vpath (hM.right x hx)) c1).1
        apply ba_ext
        rw [a1, a2, d2, c2]
        unfold nameK at hn
        rw [hn]
      rw [this]; simp
    · refine List.mem_append_left _ (h.part p hq' z hz hcz ?_)
      simpa [hn] using hlz
  · rcases List.mem_append.1 hq with hq | hq
    · rcases h.back q hq with e | ⟨j, r, h1, h2, h3, h4⟩
      · exact .inl e
      · refine .inr ⟨j, r, ?_, h2, h3, ?_⟩
        · rw [List.getElem?_append_left (List.getElem?_eq_some_iff.1 h1).1]; exact h1
        · rcases h4 with h4 | ⟨h4, h5⟩
          · exact .inl h4
          · exact .inr ⟨h4, by rw [h5]; rfl⟩
    · have : q = x.2.path := by simpa using hq
      subst this
      refine .inr ⟨i, p, ?_, c1, c2, .inr ⟨rfl, ?_⟩⟩
      · rw [List.getElem?_append_left hi]; exact hp
      · rw [show (nameB x.2.path).data.toList = nameK x.2 from rfl]
        simp

/-- In the end: just what is under s. -/
theorem Bfs.all {M : List (Key × Nd)} (hM : MOk M) (hc : Clo M) {s : ByteArray} {l : List ByteArray} {left : Key → Bool} (h : Bfs M s l l.length left) (p : ByteArray) : p ∈ l ↔ ∃ x ∈ M, x.2.path = p ∧ und p s = true := by
  constructor
  · exact h.mem p
  · rintro ⟨x, hx, rfl, hu⟩
    refine und_closed hM hc s l h.head (fun z hz h1 hpz => ?_) _ x hx (Nat.le_refl _) hu
    obtain ⟨j, hj, ej⟩ := List.getElem_of_mem hpz
    exact h.done j _ hj (by rw [List.getElem?_eq_getElem hj, ej]) z hz (childOf_iff.2 ⟨h1, rfl⟩)

/-- How long it gets. -/
theorem Bfs.length_le {M : List (Key × Nd)} {s : ByteArray} {l : List ByteArray} {i : Nat} {left : Key → Bool} (h : Bfs M s l i left) : l.length ≤ M.length := by
  have hsub : l ⊆ M.map (fun x => x.2.path) := fun p hp => by
    obtain ⟨x, hx, e, _⟩ := h.mem p hp
    exact List.mem_map.2 ⟨x, hx, e⟩
  have := nodup_len l _ h.nodup hsub
  simpa using this
end Go.Proofs.YtclekhjnnljjlaaGreatDoor
namespace Go.Proofs.YtclekhjnnljjlaaGreatDoor
open Go.RowKit
set_option maxHeartbeats 1000000

theorem perm_nodup : ∀ (l m : List Key), l.Nodup → m.Nodup → (∀ x, x ∈ l ↔ x ∈ m) → l.Perm m
  | [], m, _, _, h => by
    cases m with
    | nil => exact .refl _
    | cons b m => exact absurd ((h b).2 (List.mem_cons_self ..)) (by simp)
  | a :: l, m, hl, hm, h => by
    obtain ⟨u, v, rfl⟩ := List.append_of_mem ((h a).1 (List.mem_cons_self ..))
    obtain ⟨h1, h2⟩ := List.nodup_cons.1 hl
    have hm' : (a :: (u ++ v)).Nodup := (List.perm_middle.nodup_iff).1 hm
    obtain ⟨k1, k2⟩ := List.nodup_cons.1 hm'
    refine ((perm_nodup l (u ++ v) h2 k2 fun x => ?_).cons a).trans List.perm_middle.symm
    constructor
    · intro hx
      have := (h x).1 (List.mem_cons_of_mem _ hx)
      have hne : x ≠ a := fun e => h1 (e ▸ hx)
      simp only [List.mem_append, List.mem_cons] at this ⊢
      rcases this with h | h | h
      · exact .inl h
      · exact absurd h hne
      · exact .inr h
    · intro hx
      have hne : x ≠ a := fun e => k1 (e ▸ hx)
      have : x ∈ u ++ a :: v := by
        simp only [List.mem_append, List.mem_cons] at hx ⊢
        rcases hx with h | h
        · exact .inl h
        · exact .inr (.inr h)
      rcases List.mem_cons.1 ((h x).2 this) with h | h
      · exact absurd h hne
      · exact h

/-- The keys under s, in order. -/
def undK (M : List (Key × Nd)) (s : ByteArray) : List Key := (M.filter fun x => und x.2.path s).map (·.1)

theorem undK_sorted {M : List (Key × Nd)} (hM : MOk M) (s : ByteArray) : (undK M s).Pairwise fun a b => bytesBefore a b = true := by
  unfold undK
  rw [List.pairwise_map, List.pairwise_filter]
  exact List.Pairwise.imp (fun h _ _ => h) hM.sorted

theorem Bfs.sorted {M : List (Key × Nd)} (hM : MOk M) (hc : Clo M) {s : ByteArray} {l : List ByteArray} {left : Key → Bool} (h : Bfs M s l l.length left) :
    (l.map fun p => p.data.toList).mergeSort (fun x y => decide (x ≤ y)) = undK M s := by
  refine sortedKeys (undK_sorted hM s) (perm_nodup _ _ ?_ ?_ fun k => ?_)
  · unfold List.Nodup
    rw [List.pairwise_map]
    exact List.Pairwise.imp (fun h e => h (ba_ext e)) h.nodup
  · refine List.Pairwise.imp (fun {a b} hab e => ?_) (undK_sorted hM s)
    rw [e] at hab
    exact before_asymm hab hab
  · unfold undK
    simp only [List.mem_map, List.mem_filter]
    constructor
    · rintro ⟨p, hp, rfl⟩
      obtain ⟨x, hx, e, hu⟩ := (h.all hM hc p).1 hp
      exact ⟨x, ⟨hx, by rw [e]; exact hu⟩, by rw [hM.key x hx]; unfold keyN; rw [e]⟩
    · rintro ⟨x, ⟨hx, hu⟩, rfl⟩
      exact ⟨x.2.path, (h.all hM hc _).2 ⟨x, hx, rfl, hu⟩, (hM.key x hx).symm⟩
end Go.Proofs.YtclekhjnnljjlaaGreatDoor
namespace Go.Proofs.YtclekhjnnljjlaaGreatDoor
open Go.RowKit
set_option maxHeartbeats 1000000
set_option maxRecDepth 100000

end Go.Proofs.YtclekhjnnljjlaaGreatDoor
namespace Go.Proofs.YtclekhjnnljjlaaGreatDoor
open Go.RowKit
set_option maxHeartbeats 1000000

end Go.Proofs.YtclekhjnnljjlaaGreatDoor
namespace Go.Proofs.YtclekhjnnljjlaaGreatDoor
open Go.RowKit Go.Sort
set_option maxHeartbeats 2000000
set_option maxRecDepth 100000

/-- A range over a map that may be nil: which names are left. -/
def RngAt (W : World) (r : Nat) (mb : Option Nat) (L : List (Key × Value)) (left : Key → Bool) : Prop :=
  match mb with
  | some b => ∃ (lf : Lit → Bool) (cnt : Nat), (∀ k, lf (.string k) = left k) ∧ W.ranges Tryz.prog 9 Rv b r L.length (kvD L) lf cnt
  | none => L = [] ∧ (∀ k, left k = false) ∧ W.heap[r]? = some (.mapIter none 0 #[] 0)
def rngLeft (mb : Option Nat) (r : Nat) (W : World) : Nat := match mb with | some b => W.rangeLeft b r | none => 0

theorem RngAt.iter {W : World} {r : Nat} {mb : Option Nat} {L : List (Key × Value)} {left : Key → Bool} (h : RngAt W r mb L left) : ∃ m s c d, W.heap[r]? = some (.mapIter m s c d) := by
  cases mb with
  | some b =>
    obtain ⟨lf, cnt, _, es, clock, since, seen, c0, _, _, _, _, hr, _⟩ := h
    exact ⟨_, _, _, _, hr⟩
  | none => exact ⟨_, _, _, _, h.2.2⟩
theorem RngAt.kept {W W' : World} {r : Nat} {mb : Option Nat} {L : List (Key × Value)} {left : Key → Bool} {row : Option Nat} (h : RngAt W r mb L left) (hg : W.grownBy W' row) (hb : ∀ b, mb = some b → some b ≠ row) (hr : some r ≠ row) : RngAt W' r mb L left ∧ rngLeft mb r W' = rngLeft mb r W := by
  cases mb with
  | some b =>
    obtain ⟨lf, cnt, h1, h2⟩ := h
    have h3 := h2.kept hg (hb b rfl) hr
    exact ⟨⟨lf, cnt, h1, h3⟩, by show W'.rangeLeft b r = W.rangeLeft b r; rw [h3.left_eq, h2.left_eq]⟩
  | none =>
    obtain ⟨h1, h2, h3⟩ := h
    exact ⟨⟨h1, h2, (hg.block r (Array.getElem?_eq_some_iff.1 h3).1 hr).trans h3⟩, rfl⟩

section
variable {ops : Array Oper} {rest : List Oper} {o : Oper} {a : Act} {Q : Exit → Act → World → Prop}
end

theorem Bfs.enter {M : List (Key × Nd)} {s : ByteArray} {l : List ByteArray} {i : Nat} {p : ByteArray} (h : Bfs M s l i (fun _ => true)) (hp : l[i]? = some p) : Bfs M s l i (fun k => (mget (kidsOf M p) k).isSome) := by
  refine ⟨h.head, h.nodup, h.mem, h.done, fun q hq x hx hc hl => ?_, fun q hq => ?_⟩
  · exfalso
    have e : p = q := Option.some.inj (hp.symm.trans hq)
    subst e
    have hm : (nameK x.2, Value.agg #[]) ∈ kidsOf M p := mem_kids.2 ⟨x, hx, hc, rfl⟩
    cases hg : mget (kidsOf M p) (nameK x.2) with
    | none => exact mget_none hg _ hm rfl
    | some v => rw [hg] at hl; cases hl
  · rcases h.back q hq with e | ⟨j, r, h1, h2, h3, h4⟩
    · exact .inl e
    · refine .inr ⟨j, r, h1, h2, h3, .inl ?_⟩
      rcases h4 with h4 | ⟨_, h4⟩
      · exact h4
      · cases h4

end Go.Proofs.YtclekhjnnljjlaaGreatDoor
namespace Go.Proofs.YtclekhjnnljjlaaGreatDoor
open Go.RowKit Go.Sort
set_option maxHeartbeats 4000000
set_option maxRecDepth 100000

end Go.Proofs.YtclekhjnnljjlaaGreatDoor
namespace Go.Proofs.YtclekhjnnljjlaaGreatDoor
open Go.RowKit
set_option maxHeartbeats 4000000
set_option maxRecDepth 100000

end Go.Proofs.YtclekhjnnljjlaaGreatDoor
namespace Go.Proofs.YtclekhjnnljjlaaGreatDoor
open Go.RowKit
set_option maxHeartbeats 1000000

/-- A call of a script: its kind, its path, its node. -/
structure Opn where
  k : Int
  p : ByteArray
  n : Nd
instance : Inhabited Opn := ⟨⟨0, ⟨#[]⟩, zeroN⟩⟩
end Go.Proofs.YtclekhjnnljjlaaGreatDoor
namespace Go.Proofs.YtclekhjnnljjlaaGreatDoor
open Go.RowKit
set_option maxHeartbeats 4000000
set_option maxRecDepth 100000

end Go.Proofs.YtclekhjnnljjlaaGreatDoor
namespace Go.Proofs.YtclekhjnnljjlaaGreatDoor
open Go.RowKit
set_option maxHeartbeats 2000000
set_option maxRecDepth 100000

end Go.Proofs.YtclekhjnnljjlaaGreatDoor
namespace Go.Proofs.YtclekhjnnljjlaaGreatDoor
open Go.RowKit
set_option maxHeartbeats 2000000
set_option maxRecDepth 100000

end Go.Proofs.YtclekhjnnljjlaaGreatDoor
namespace Go.Proofs.YtclekhjnnljjlaaGreatDoor
open Go.RowKit Go.Sort
set_option maxHeartbeats 4000000
set_option maxRecDepth 100000
attribute [local go_sem] Oper.semAt_some

end Go.Proofs.YtclekhjnnljjlaaGreatDoor
namespace Go.Proofs.YtclekhjnnljjlaaGreatDoor
open Go.RowKit Go.Sort
set_option maxHeartbeats 4000000
set_option maxRecDepth 100000
attribute [local go_sem] Oper.semAt_some

end Go.Proofs.YtclekhjnnljjlaaGreatDoor
namespace Go.Proofs.YtclekhjnnljjlaaGreatDoor
open Go.RowKit Go.Sort
set_option maxHeartbeats 2000000
set_option maxRecDepth 100000
attribute [local go_sem] Oper.semAt_some

end Go.Proofs.YtclekhjnnljjlaaGreatDoor
namespace Go.Proofs.YtclekhjnnljjlaaGreatDoor
open Go.RowKit Go.Sort
set_option maxHeartbeats 2000000
set_option maxRecDepth 100000

end Go.Proofs.YtclekhjnnljjlaaGreatDoor
namespace Go.Proofs.YtclekhjnnljjlaaGreatDoor
open Go.RowKit Go.Sort
set_option maxHeartbeats 4000000
set_option maxRecDepth 100000

end Go.Proofs.YtclekhjnnljjlaaGreatDoor
namespace Go.Proofs.YtclekhjnnljjlaaGreatDoor
open Go.RowKit
set_option maxHeartbeats 4000000
set_option maxRecDepth 100000

/-- The document's tree behind a call: its rows in old blocks or new ones. -/
def RTo (S : Nat → Prop) (w : World) (b : Nat) (M : List (Key × Nd)) (v : Value) (e : Ending) (w' : World) : Prop :=
  e = .returned v ∧ RTree (fun k => S k ∨ (w.heap.size ≤ k ∧ k < w'.heap.size)) w' b (nds M) ∧ Chg (· = b) w w'
theorem RTree.more {S : Nat → Prop} {w w' : World} {b : Nat} {L : List Nd} (h : RTree S w b L) (hE : Ext w w') : RTree (fun k => S k ∨ (w.heap.size ≤ k ∧ k < w'.heap.size)) w' b L :=
  h.keep (fun _ h => .inl h) (hE.block b h.lt) (fun k hk => hE.block k (h.bound k hk).1) fun k hk => by
    have hb := h.lt
    rcases hk with hk | hk
    · have := h.bound k hk; exact ⟨Nat.lt_of_lt_of_le this.1 hE.size, this.2⟩
    · exact ⟨hk.2, by omega⟩
theorem RTo.same {S : Nat → Prop} {w w' : World} {b : Nat} {M : List (Key × Nd)} (h : RTree S w b (nds M)) (hE : Ext w w') (v : Value) : RTo S w b M v (.returned v) w' := ⟨rfl, h.more hE, Chg.of_ext hE⟩
theorem RTree.tail {S : Nat → Prop} {w X w' : World} {b : Nat} {L : List Nd} (hE : Ext w X) (h : RTree (fun k => S k ∨ (X.heap.size ≤ k ∧ k < w'.heap.size)) w' b L) (hb : b < w.heap.size) : RTree (fun k => S k ∨ (w.heap.size ≤ k ∧ k < w'.heap.size)) w' b L :=
  h.keep (fun k hk => hk.imp id fun h => ⟨Nat.le_trans hE.size h.1, h.2⟩) rfl (fun _ _ => rfl) fun k hk => by
    rcases hk with hk | hk
    · exact h.bound k (.inl hk)
    · exact ⟨hk.2, by omega⟩
end Go.Proofs.YtclekhjnnljjlaaGreatDoor
namespace Go.Proofs.YtclekhjnnljjlaaGreatDoor
open Go.RowKit
set_option maxHeartbeats 2000000
set_option maxRecDepth 100000

end Go.Proofs.YtclekhjnnljjlaaGreatDoor
namespace Go.Proofs.YtclekhjnnljjlaaGreatDoor
open Go.RowKit

end Go.Proofs.YtclekhjnnljjlaaGreatDoor
namespace Go.Proofs.YtclekhjnnljjlaaGreatDoor
open Go.RowKit
set_option maxHeartbeats 2000000
set_option maxRecDepth 100000

end Go.Proofs.YtclekhjnnljjlaaGreatDoor
namespace Go.Proofs.YtclekhjnnljjlaaGreatDoor
open Go.RowKit
set_option maxHeartbeats 1000000

/-- A node is there. -/
theorem there_of {M : List (Key × Nd)} (hM : MOk M) {x : Key × Nd} (hx : x ∈ M) : mget M x.2.path.data.toList = some x.2 := by
  have hk := hM.key x hx
  have := mget_of_mem hM.sorted (show (x.1, x.2) ∈ M from hx)
  rw [hk] at this
  exact this
end Go.Proofs.YtclekhjnnljjlaaGreatDoor
namespace Go.Proofs.YtclekhjnnljjlaaGreatDoor
open Go.RowKit Go.Sort
set_option maxHeartbeats 2000000
set_option maxRecDepth 100000

end Go.Proofs.YtclekhjnnljjlaaGreatDoor
namespace Go.Proofs.YtclekhjnnljjlaaGreatDoor
open Go.RowKit Go.Sort
set_option maxHeartbeats 4000000
set_option maxRecDepth 100000

/-- A row of the call's own that shows these nodes. -/
def NodesOut (L : List Nd) (w : World) (e : Ending) (w' : World) : Prop := ∃ v, e = .returned v ∧ OwnN w.heap.size L v w' ∧ Ext w w'

end Go.Proofs.YtclekhjnnljjlaaGreatDoor
namespace Go.Proofs.YtclekhjnnljjlaaGreatDoor
open Go.RowKit Go.Sort
set_option maxHeartbeats 4000000
set_option maxRecDepth 100000

theorem rall_any (w : World) (b : Nat) (M : List (Key × Nd)) (hR : RT w b (nds M)) (hM : MOk M) (hl : M.length * 168 ≤ 140737488355328) :
    Calls Tryz.prog 114 #[.pointer (some ⟨b, 0, none⟩)] w (NodesOut (nds M) w) := by
  obtain ⟨a, cap, vs, hb, hlc, hcm, hS, hrows, _⟩ := hR
  have hcb : w.cell? ⟨b, 0, none⟩ = some (.slice a (nds M).length cap) := cell_of_row _ _ _ _ _ _ hb
  have hbl := (Array.getElem?_eq_some_iff.1 hb).1
  rw [nds_length] at hcb
  have hl64 : M.length ≤ 9223372036854775807 := by omega
  have HROWS := Lib.hid hrows
  have HS := Lib.hid hS
  have HM := Lib.hid hM
  clear hb hrows hS hM hlc hcm
  go_enter Tryz.func114, Tryz.ntmps114
  go_wp2
  go_loopw [3, 4] (fun ov i wr => ∃ k : Nat, k ≤ M.length ∧ i = .int .i64 k ∧ Hid (OwnN w.heap.size (nds (M.take k)) ov wr) ∧ Ext w wr) (fun _ i _ => M.length - (intOf i).toNat)
  case atStart => exact ⟨0, Nat.zero_le _, rfl, OwnN.nil _ _, Ext.refl _⟩
  case round =>
    obtain ⟨k, hk, rfl, HO, hE⟩ := hrel
    have hcr : wr.cell? ⟨b, 0, none⟩ = some (.slice a M.length cap) := (hE.cell (p := ⟨b, 0, none⟩) hbl).trans hcb
    by_cases hlt : k < M.length
    · have hMk : (nds M)[k]? = some M[k].2 := by unfold nds; rw [List.getElem?_map, List.getElem?_eq_getElem hlt]; rfl
      obtain ⟨bl, off, da, dc, aa, ac, ea, hSb, hc, hD, hA, _⟩ := HROWS.out.row hMk
      subst ea
      have hfit := (right_fit (HM.out.right M[k] (List.getElem_mem hlt))).1
      have HST := Lib.hid (nds_take_succ hlt)
      generalize hxx : M[k] = x at *
      obtain ⟨xk, n⟩ := x
      simp only at *
      have hcw : ∀ j u, (ndC n (.slice da n.data.length dc) (.slice aa n.acl.length ac))[j]? = some u → wr.cell? ((⟨bl, off + k * 17, none⟩ : Addr).add j) = some u := fun j u hj => by
        rw [addr_add, hE.cell (p := ⟨bl, off + k * 17 + j, none⟩) (HS.out bl hSb).1]
        exact hc j u hj
      have hll : (nds (M.take k)).length ≤ k := by rw [nds_length, List.length_take]; omega
      have CC := Lib.hid (rclone_new n da aa dc ac wr hfit ((hD.cells fun b hb => (HS.out b hb).1).ext hE) ((hA.cells fun b hb => (HS.out b hb).1).ext hE))
      have HC := Lib.hid hcw
      have HE := Lib.hid hE
      unfold ndC at HC
      clear hc hD hA hfit hE hMk hxx hcw
      go_wp2_with (refine wpList_load_at rfl 88 (.tmp 24) rfl _ rfl _ _ HC.out Tryz.underlying88 rfl sizeNd ?_)
      refine CC.out.mono ?_
      rintro e W5 ⟨v, rfl, hN, hE5⟩
      have hE5 : Ext wr W5 := hE5
      have HNW := Lib.hid hN
      obtain ⟨qa, qc, ra, rc, rfl, _, _⟩ := hN
      have HE5 := Lib.hid hE5
      have hbz : w.heap.size ≤ wr.heap.size := HE.out.size
      have HE05 := Lib.hid (HE.out.trans hE5)
      unfold ndC at HNW ⊢
      clear CC hE5 hcr HC
      go_wp2_with (at_builtin; refine wpList_append_nd rfl (.tmp 18) (.tmp 27) rfl w.heap.size (nds (M.take k)) _ HO.out HE5.out hbz n _ HNW.out (by omega) rfl rfl ?_)
      intro v' W6 hO6 hE6
      have HO6 := Lib.hid hO6
      have HE6 := Lib.hid (hE6 w HE05.out (Nat.le_refl _))
      clear hO6 hE6
      go_wp2
      go_roundw
      case rel => exact ⟨k + 1, by omega, by go_num, by unfold Hid; rw [HST.out]; exact HO6.out, HE6.out⟩
      case measure => simp [intOf]; omega
    · obtain rfl : k = M.length := by omega
      rw [List.take_length] at HO
      have HFIN := Lib.hid (show NodesOut (nds M) w (.returned u3) wr from ⟨_, rfl, HO.out, hE⟩)
      clear hE HROWS HO
      go_wp2
      go_ret
      exact HFIN.out

/-- A new tree of the document's. -/
def RNewT (L : List Nd) (w : World) (e : Ending) (w' : World) : Prop := ∃ b, e = .returned (.pointer (some ⟨b, 0, none⟩)) ∧ w.heap.size ≤ b ∧ RTree (fun k => w.heap.size ≤ k ∧ k < w'.heap.size ∧ k ≠ b) w' b L ∧ Ext w w'
theorem rtree_box {w W : World} {v : Value} {L : List Nd} (h : OwnN w.heap.size L v W) (hE : Ext w W) : RNewT L w (.returned (.pointer (some ⟨W.heap.size, 0, none⟩))) (W.alloc (.cells #[v] 106)) := by
  obtain ⟨a, c, vs, rfl, h1, h2, h3, h4⟩ := h.rows
  refine ⟨_, rfl, hE.size, ⟨a, c, vs, heap_alloc_new W _, h1, h2, fun k hk => ⟨hk.2.1, hk.2.2⟩, h3.imp (fun k hk => ⟨hk.1, by rw [World.size_alloc]; omega, by omega⟩) (fun k hk => heap_alloc_old W _ hk.2), h4⟩, hE.trans (Ext.alloc _ _)⟩

theorem rclone7_any (w : World) (b : Nat) (M : List (Key × Nd)) (hR : RT w b (nds M)) (hM : MOk M) (hl : M.length * 168 ≤ 140737488355328) :
    Calls Tryz.prog 83 #[.pointer (some ⟨b, 0, none⟩)] w (RNewT (nds M) w) := by
  have CA := Lib.hid (rall_any w b M hR hM hl)
  clear hR hM
  go_enter Tryz.func83, Tryz.ntmps83
  go_wp2_with fail
  refine CA.out.mono ?_
  rintro e W ⟨v, rfl, hO, hE⟩
  have HFIN := Lib.hid (rtree_box hO hE)
  obtain ⟨a, c, vs, rfl, _⟩ := hO.rows
  clear CA hO hE
  go_wp2
  go_ret
  exact HFIN.out

end Go.Proofs.YtclekhjnnljjlaaGreatDoor
namespace Go.Proofs.YtclekhjnnljjlaaGreatDoor
open Go.RowKit
set_option maxHeartbeats 2000000
set_option maxRecDepth 100000

/-- Is it at its place? -/
def tis (l : List Se) (k : Int) : Bool := match l[tat l k]? with | some s => decide (s.id = k) | none => false
theorem tis_get {l : List Se} (h : TSorted l) (k : Int) : tis l k = (tget l k).isSome := by
  rw [tget_at h]
  unfold tis
  cases l[tat l k]? with
  | none => rfl
  | some s =>
    simp only [Option.bind_some]
    by_cases e : s.id = k
    · rw [if_pos e]; simp [e]
    · rw [if_neg e]; simp [e]
theorem tat_step {l : List Se} {k : Int} : ∀ {i : Nat}, i ≤ l.length → (∀ (j : Nat) (m : Se), j < i → l[j]? = some m → m.id < k) → (∀ m, l[i]? = some m → ¬ m.id < k) → tat l k = i := by
  induction l with
  | nil => intro i hi _ _; simp only [List.length_nil] at hi; unfold tat; simp; omega
  | cons x r ih =>
    intro i hi h1 h2
    unfold tat
    cases i with
    | zero =>
      have := h2 x rfl
      rw [List.takeWhile_cons, if_neg (by simpa using this)]
      rfl
    | succ i =>
      have := h1 0 x (by omega) rfl
      rw [List.takeWhile_cons, if_pos (by simpa using this)]
      have h3 := ih (i := i) (by simpa using hi) (fun j m hj hm => h1 (j + 1) m (by omega) (by simpa using hm)) (fun m hm => h2 m (by simpa using hm))
      simpa [tat] using h3

theorem rat8_any (S : Nat → Prop) (w : World) (b : Nat) (T : List Se) (hR : RTbl S w b T) (k : Int) :
    Calls Tryz.prog 47 #[.pointer (some ⟨b, 0, none⟩), .int .i64 k] w fun e w' => e = .returned (.tuple #[.int .i64 (tat T k), .bool (tis T k)]) ∧ Ext w w' := by
  obtain ⟨a, cap, vs, hb, hl, hcm, hS, hrows, _⟩ := hR
  have hcb : w.cell? ⟨b, 0, none⟩ = some (.slice a T.length cap) := cell_of_row _ _ _ _ _ _ hb
  have hbl := (Array.getElem?_eq_some_iff.1 hb).1
  have hl64 : T.length ≤ 9223372036854775807 := by unfold maxLen at hcm; omega
  have HROWS := Lib.hid hrows
  have HS := Lib.hid hS
  clear hb hrows hS
  go_enter Tryz.func47, Tryz.ntmps47
  go_wp2
  go_loopw [6] (fun i wr => ∃ n : Nat, n ≤ T.length ∧ i = .int .i64 n ∧ Ext w wr ∧ Hid (∀ (j : Nat) (m : Se), j < n → T[j]? = some m → m.id < k)) (fun i _ => T.length - (intOf i).toNat)
  case atStart => exact ⟨0, Nat.zero_le _, rfl, Ext.refl _, fun j m hj => by omega⟩
  case round =>
    obtain ⟨n, hn, rfl, hE, HLT⟩ := hrel
    have hcr : wr.cell? ⟨b, 0, none⟩ = some (.slice a T.length cap) := (hE.cell (p := ⟨b, 0, none⟩) hbl).trans hcb
    by_cases hlt : n < T.length
    · obtain ⟨bl, off, ia, ic, ea, hSb, hc, _, _, _⟩ := HROWS.out.row (List.getElem?_eq_getElem hlt)
      subst ea
      have c0 : wr.cell? ⟨bl, off + n * 3, none⟩ = some (.int .i64 T[n].id) := (hE.cell (p := ⟨bl, off + n * 3, none⟩) (HS.out bl hSb).1).trans (hc 0 _ rfl)
      have hnext : T[n].id < k → ∀ (j : Nat) (m : Se), j < n + 1 → T[j]? = some m → m.id < k := fun h0 j m hj hm => by
        by_cases e : j = n
        · subst e
          rw [List.getElem?_eq_getElem hlt] at hm
          rw [← Option.some.inj hm]; exact h0
        · exact HLT.out j m (by omega) hm
      by_cases hid : T[n].id < k
      · have HN2 := Lib.hid (hnext hid)
        have d1 : decide (T[n].id < k) = true := decide_eq_true hid
        generalize T[n].id = x at *
        have HE := Lib.hid hE
        clear hc hE hnext
        go_wp2
        go_roundw
        case rel => exact ⟨n + 1, by omega, by go_num, HE.out, HN2.out⟩
        case measure => simp [intOf]; omega
      · have ht : tat T k = n := tat_step hn HLT.out fun m hm => by
          rw [List.getElem?_eq_getElem hlt] at hm
          rw [← Option.some.inj hm]; exact hid
        have HP : Hid (tis T k = decide (T[n].id = k)) := by
          unfold Hid tis
          rw [ht, List.getElem?_eq_getElem hlt]
        have HT := Lib.hid ht
        have d1 : decide (T[n].id < k) = false := decide_eq_false hid
        generalize T[n].id = x at *
        have HE := Lib.hid hE
        clear hc hE hnext ht
        go_wp2
        by_cases he : x = k
        · have hp : tis T k = true := by rw [HP.out]; simpa using he
          have e1 : (x == k) = true := by simpa using he
          have HP := Lib.hid hp
          clear hp
          go_quiet (fail)
          go_wp2
          go_ret2
          exact ⟨by rw [HT.out, HP.out]; rfl, HE.out.trans (below_drewN (Below.refl _ _) _)⟩
        · have hp : tis T k = false := by rw [HP.out]; simpa using he
          have e1 : (x == k) = false := by simpa using he
          have HP := Lib.hid hp
          clear hp
          go_quiet (fail)
          go_wp2
          go_ret2
          exact ⟨by rw [HT.out, HP.out]; rfl, HE.out.trans (below_drewN (Below.refl _ _) _)⟩
    · obtain rfl : n = T.length := by omega
      have ht : tat T k = T.length := tat_step (Nat.le_refl _) HLT.out fun m hm => by simp at hm
      have HP : Hid (tis T k = false) := by
        unfold Hid tis
        rw [ht]; simp
      have HT := Lib.hid ht
      have HE := Lib.hid hE
      have hp : tis T k = false := HP.out
      have HP := Lib.hid hp
      clear hE hp ht
      go_wp2
      go_quiet (fail)
      go_wp2
      go_ret2
      exact ⟨by rw [HT.out, HP.out]; rfl, HE.out.trans (below_drewN (Below.refl _ _) _)⟩
end Go.Proofs.YtclekhjnnljjlaaGreatDoor
