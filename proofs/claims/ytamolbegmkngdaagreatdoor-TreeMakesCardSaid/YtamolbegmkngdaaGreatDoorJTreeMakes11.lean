/- The walk of arborref07.From. The walk of After: a range over the map of nodes, in an order that nobody knows. A region that draws its order, whose last operation, a store, comes after all others. The walk of stat.Encode, where the node may be. The walk of the sum of bytes; a node's number. The walk of a node's number. The walk of the tree's number: a range over the tree's nodes. A nil tree: what is told of it. The walk of stat.Of. -/
import Derived.Test.YtamolbegmkngdaaGreatDoorJTreeMakes10
import Derived.Test.YtamolbegmkngdaaGreatDoorJTreeMakes7
import Derived.Test.YtamolbegmkngdaaGreatDoorJTreeMakes6
import Derived.Maps.RangeWalk
import Derived.Test.YtamolbegmkngdaaGreatDoorJTreeMakes9
import Derived.Test.YtamolbegmkngdaaGreatDoorJTreeMakes2
namespace Go.Proofs.YtamolbegmkngdaaGreatDoor
open Go.RowKit
set_option maxHeartbeats 2000000
set_option maxRecDepth 100000

def RFromOut (L : List Nd) (w : World) (e : Ending) (w' : World) : Prop :=
  match fromN L with
  | .error (i, x) => e = .returned (.tuple #[.pointer none, .int .i64 i, .int .i64 x]) ∧ Ext w w'
  | .ok M => ∃ b, e = .returned (.tuple #[.pointer (some ⟨b, 0, none⟩), .int .i64 0, .int .i64 0]) ∧ w.heap.size ≤ b ∧ RT w' b (nds M) ∧ Ext w w'
theorem rfromOut_err {L : List Nd} {w w' : World} {i : Nat} {x : Int} (h : fromN L = .error (i, x)) (hb : Ext w w') : RFromOut L w (.returned (.tuple #[.pointer none, .int .i64 i, .int .i64 x])) w' := by
  unfold RFromOut; rw [h]; exact ⟨rfl, hb⟩

theorem nds_fit {M : List (Key × Nd)} (hM : MOk M) : ∀ m ∈ nds M, Fit m := fun m hm => by
  obtain ⟨x, hx, rfl⟩ := List.mem_map.1 hm
  exact (right_fit (hM.right x hx)).1
theorem rfind_isSome {M : List (Key × Nd)} (hM : MOk M) (s : ByteArray) : (rfind (nds M) s).2 = (mget M s.data.toList).isSome := rfind_there hM.sorted hM.key s
theorem rt_nil (w : World) : RT (w.alloc (.cells #[.slice none 0 0] 53)) w.heap.size [] :=
  ⟨none, 0, [], heap_alloc_new w _, Nat.le_refl _, Nat.zero_le _, fun _ h => h, ⟨rfl, fun j u hj => by simp at hj, fun j cs hj => by simp at hj⟩, .inl ⟨rfl, rfl⟩⟩

set_option maxHeartbeats 8000000 in
theorem rfrom_any (L : List Nd) (a : Option Addr) (c : Nat) (w : World) (hT0 : Tabs w) (hL : NdsAt w.heap.size w a L) (hf : ∀ n ∈ L, Fit n) (hl : L.length * 168 ≤ 140737488355328) : Calls Tryz.prog 13 #[.slice a L.length c] w (RFromOut L w) := by
  have hR0 := rt_nil w
  have hE0 : Ext w (w.alloc (.cells #[.slice none 0 0] 53)) := Ext.alloc _ _
  have hl2 : L.length ≤ 9223372036854775807 := by omega
  have hsz := hT0.size
  have HR0 := Lib.hid hR0
  have HE0 := Lib.hid hE0
  have HT := Lib.hid hT0
  have HL := Lib.hid hL
  have HF := Lib.hid hf
  clear hR0 hE0 hT0 hL hf
  go_enter Tryz.func13, Tryz.ntmps13
  go_wp2
  go_loopw [6] (fun i wr => ∃ (k : Nat) (M : List (Key × Nd)), k ≤ L.length ∧ i = .int .i64 k ∧ Hid (fromL L 0 [] = fromL (L.drop k) k M) ∧ Hid (MOk M) ∧ RT wr w.heap.size (nds M) ∧ M.length ≤ k ∧ Ext w wr) (fun i _ => L.length - (intOf i).toNat)
  case atStart => exact ⟨0, [], Nat.zero_le _, rfl, rfl, MOk.nil, HR0.out, Nat.le_refl _, HE0.out⟩
  case round =>
    obtain ⟨k, M, hk, rfl, HFL, HM, hR, hMk, hE⟩ := hrel
    by_cases hlt : k < L.length
    · have hLk : L[k]? = some L[k] := List.getElem?_eq_getElem hlt
      have hfk := HF.out L[k] (List.getElem_mem hlt)
      have HS := Lib.hid (HFL.out.trans (fromL_step L k L[k] M hLk))
      obtain ⟨b, off, v, rfl, hb, hv, hc⟩ := HL.out k L[k] hLk
      generalize L[k] = n at *
      obtain ⟨da, dc, aa, ac, rfl, hD, hA⟩ := hv
      have hcw : ∀ W, Ext w W → ∀ j u, (ndC n (.slice da n.data.length dc) (.slice aa n.acl.length ac))[j]? = some u → W.cell? ((⟨b, off + k * 17, none⟩ : Addr).add j) = some u := fun W h j u hj => by
        rw [addr_add, h.cell (p := ⟨b, off + k * 17 + j, none⟩) hb]
        exact hc j u hj
      have hc1 := hcw wr hE
      have CR := Lib.hid (rright_any n da aa dc ac wr hfk (HT.out.below hE hsz) ((hA.ext hE)))
      have HR := Lib.hid hR
      have HE := Lib.hid hE
      have HCW := Lib.hid hcw
      have HC1 := Lib.hid hc1
      have HD := Lib.hid hD
      have HA := Lib.hid hA
      unfold ndC at HC1
      clear hcw hc1 hc hR hE hD hA
      go_wp2_with (refine wpList_load_at rfl 47 (.tmp 27) rfl _ rfl _ _ HC1.out Tryz.underlying47 rfl sizeNd ?_)
      refine CR.out.mono ?_
      rintro e w2 ⟨rfl, hE2⟩
      have hE2 : Ext wr w2 := hE2
      have hEw2 := HE.out.trans hE2
      by_cases hr : rightN n = 0
      · have hp0 : w2.cell? ⟨b, off + k * 17, none⟩ = some (.string n.path) := by
          have := HCW.out w2 hEw2 0 (.string n.path) rfl
          rwa [addr_add] at this
        have CF := Lib.hid (rfind_any _ w2 w.heap.size (nds M) (HR.out.ext hE2) (nds_fit HM.out) n.path hfk.path)
        have hthere := rfind_isSome HM.out n.path
        have HS2 := Lib.hid (HS.out.trans (by rw [if_neg (by simpa using hr)]))
        have HR2 := Lib.hid (HR.out.ext hE2)
        have HE2 := Lib.hid hEw2
        rw [hr]
        have HRT := Lib.hid hr
        clear hE2 hEw2 CR HS HR HC1 hr
        rw [hthere] at CF
        cases hg : mget M n.path.data.toList with
        | some y =>
          rw [hg] at CF
          have hgK : mget M (keyN n) = some y := hg
          have HERR := Lib.hid (show fromN L = .error (k, 71) by
            unfold fromN
            rw [HS2.out, if_pos (by rw [hgK]; rfl)])
          clear hg hgK hthere HS2
          go_wp2_with fail
          refine CF.out.mono ?_
          rintro e w3 ⟨rfl, hE3⟩
          have HFIN := Lib.hid (rfromOut_err HERR.out (HE2.out.trans hE3))
          clear CF hE3 HERR hp0
          go_wp2
          go_ret3
          exact HFIN.out
        | none =>
          rw [hg] at CF
          have hgK : mget M (keyN n) = none := hg
          have HS3 := Lib.hid (HS2.out.trans (by rw [if_neg (by rw [hgK]; simp)]))
          have HINS := Lib.hid (rfind_ins HM.out n hgK)
          have HM2 := Lib.hid (HM.out.put n HRT.out)
          have hml : (mput M (keyN n) n).length ≤ k + 1 := by
            unfold mput; rw [mins_length]
            have := List.length_filter_le (fun x : Key × Nd => !(x.1 == keyN n)) M
            show (mdel M (keyN n)).length + 1 ≤ k + 1
            unfold mdel; omega
          clear hg hgK hthere HS2
          go_wp2_with fail
          refine CF.out.mono ?_
          rintro e w3 ⟨rfl, hE3⟩
          have hE3 : Ext w2 w3 := hE3
          have hEw3 := HE2.out.trans hE3
          have HC3 := Lib.hid (HCW.out w3 hEw3)
          have CI := Lib.hid (rinsert_any w3 w.heap.size (nds M) n da aa dc ac (HR2.out.ext hE3) (nds_fit HM.out) hfk (HD.out.ext hEw3) (HA.out.ext hEw3) (by rw [nds_length]; omega))
          have HE3 := Lib.hid hEw3
          unfold ndC at HC3
          clear hE3 hEw3 CF HR2 hp0
          go_wp2_with (refine wpList_load_at rfl 47 (.tmp 49) rfl _ rfl _ _ HC3.out Tryz.underlying47 rfl sizeNd ?_)
          refine CI.out.mono ?_
          rintro e w4 ⟨rfl, hR4, hC4⟩
          rw [← HINS.out] at hR4
          have HR4 := Lib.hid hR4
          have HE4 := Lib.hid (HE3.out.trans' (hC4.below (fun x hx => by subst hx; exact Nat.le_refl _) HE3.out.size))
          clear CI hR4 hC4 HC3
          go_wp2
          go_roundw
          case rel => exact ⟨k + 1, _, by omega, by go_num, HS3.out, HM2.out, HR4.out, hml, HE4.out⟩
          case measure => simp [intOf]; omega
      · have hr1 : (rightN n != 0) = true := by simpa using hr
        have HERR := Lib.hid (show fromN L = .error (k, rightN n) by
          unfold fromN
          rw [HS.out, if_pos (by simpa using hr)])
        have HFIN := Lib.hid (rfromOut_err HERR.out hEw2)
        clear hE2 hEw2 CR HS HERR HC1
        go_wp2
        go_ret3
        exact HFIN.out
    · obtain rfl : k = L.length := by omega
      have HF2 : Hid (fromL L 0 [] = .ok M) := by
        unfold Hid; rw [HFL.out, List.drop_length]; rfl
      have CF := Lib.hid (rfind_any _ wr w.heap.size (nds M) hR (nds_fit HM.out) ⟨#[47]⟩ (by decide))
      have hthere := rfind_isSome HM.out ⟨#[47]⟩
      rw [hthere] at CF
      have hkl : ((⟨#[47]⟩ : ByteArray)).data.toList = [47] := rfl
      rw [hkl] at CF
      have HR := Lib.hid hR
      have HE := Lib.hid hE
      clear hR hE hthere hkl
      cases hg : mget M [47] with
      | none =>
        rw [hg] at CF
        have HERR := Lib.hid (show fromN L = .error (0, 70) by
          unfold fromN
          rw [HF2.out]
          simp only
          rw [if_pos hg])
        clear hg
        go_wp2_with fail
        refine CF.out.mono ?_
        rintro e w3 ⟨rfl, hE3⟩
        have HFIN := Lib.hid (rfromOut_err HERR.out (HE.out.trans hE3))
        clear CF hE3 HERR
        go_wp2
        go_ret3
        exact HFIN.out
      | some y0 =>
        rw [hg] at CF
        have HG := Lib.hid hg
        have HRt := Lib.hid (fromL_right L 0 [] M HF2.out)
        clear hg
        go_wp2_with fail
        refine CF.out.mono ?_
        rintro e W5 ⟨rfl, hE5⟩
        have hE5 : Ext wr W5 := hE5
        have HR5 := Lib.hid (HR.out.ext hE5)
        have HE5 := Lib.hid (HE.out.trans hE5)
        clear CF hE5 HR HE
        go_wp2
        go_loopw [12] (fun i wt => ∃ k : Nat, k ≤ L.length ∧ i = .int .i64 k ∧ Hid (parL M L 0 = parL M (L.drop k) k) ∧ Ext W5 wt) (fun i _ => L.length - (intOf i).toNat)
        case atStart => exact ⟨0, Nat.zero_le _, rfl, rfl, Ext.refl _⟩
        case round =>
          obtain ⟨k, hk, rfl, HP, hE⟩ := hrel
          by_cases hlt : k < L.length
          · have hLk : L[k]? = some L[k] := List.getElem?_eq_getElem hlt
            have hrk := HRt.out L[k] (List.getElem_mem hlt)
            have HS := Lib.hid (HP.out.trans (parL_step M L k L[k] hLk))
            obtain ⟨b, off, v, rfl, hb, hv, hc⟩ := HL.out k L[k] hLk
            generalize L[k] = n at *
            obtain ⟨da, dc, aa, ac, rfl, _⟩ := hv
            have hEw := HE5.out.trans hE
            have hp0 : wr.cell? ⟨b, off + k * 17, none⟩ = some (.string n.path) := (hEw.cell (p := ⟨b, off + k * 17, none⟩) hb).trans (hc 0 (.string n.path) rfl)
            have hvp := right_vpath hrk
            have hvf := (vpath_facts hvp).2.1
            have HE := Lib.hid hE
            clear hc hE
            by_cases hroot : n.path.size = 1
            · have hroot' := (root_iff hvp).1 hroot
              have e1 : (n.path.toList == [47]) = true := by rw [ByteArray.toList_eq]; simpa using hroot'
              have e2 : n.path.toList = [47] := by simpa using e1
              have HS2 := Lib.hid (HS.out.trans (by rw [if_neg (fun h => h.1 hroot)]))
              clear hroot hroot' HS hvp hrk
              go_wp2
              go_roundw
              case rel => exact ⟨k + 1, by omega, by go_num, HS2.out, HE.out⟩
              case measure => simp [intOf]; omega
            · have e1 : (n.path.toList == [47]) = false := by rw [ByteArray.toList_eq]; simpa using fun h => hroot ((root_iff hvp).2 h)
              have e2 : ¬ n.path.toList = [47] := by simpa using e1
              have CP := rparent_any n.path wr (by omega)
              rw [show parV n.path = .tuple #[.string (parentB n.path), .int .i64 0] by unfold parV; rw [if_pos ⟨hvp, hroot⟩]] at CP
              have hps : (parentB n.path).size ≤ 9223372036854775800 := by
                have := (path_split hvp hroot).2.2.1
                omega
              have CP := Lib.hid CP
              have HRoot := Lib.hid hroot
              have HTH := Lib.hid (rfind_isSome HM.out (parentB n.path))
              clear hroot hvp hrk
              go_wp2_with fail
              refine CP.out.mono ?_
              rintro e w6 ⟨rfl, hE6⟩
              have hE6 : Ext wr w6 := hE6
              have hE56 := HE.out.trans hE6
              have CF := Lib.hid (rfind_any _ w6 w.heap.size (nds M) (HR5.out.ext hE56) (nds_fit HM.out) (parentB n.path) hps)
              rw [HTH.out] at CF
              have HE6 := Lib.hid hE56
              clear CP hE6 hE56 hp0
              cases hg : mget M (parentB n.path).data.toList with
              | none =>
                rw [hg] at CF
                have HERR := Lib.hid (show fromN L = .error (k, 73) by
                  unfold fromN
                  rw [HF2.out]
                  simp only
                  rw [if_neg (by rw [HG.out]; simp), HS.out, if_pos ⟨HRoot.out, hg⟩])
                clear hg HS
                go_wp2_with fail
                refine CF.out.mono ?_
                rintro e w7 ⟨rfl, hE7⟩
                have HFIN := Lib.hid (rfromOut_err HERR.out (HE5.out.trans (HE6.out.trans hE7)))
                clear CF hE7 HERR
                go_wp2
                go_ret3
                exact HFIN.out
              | some y1 =>
                rw [hg] at CF
                have HS2 := Lib.hid (HS.out.trans (by rw [if_neg (fun h => by rw [hg] at h; cases h.2)]))
                clear hg HS
                go_wp2_with fail
                refine CF.out.mono ?_
                rintro e w7 ⟨rfl, hE7⟩
                have HE7 := Lib.hid (HE6.out.trans hE7)
                clear CF hE7
                go_wp2
                go_roundw
                case rel => exact ⟨k + 1, by omega, by go_num, HS2.out, HE7.out⟩
                case measure => simp [intOf]; omega
          · obtain rfl : k = L.length := by omega
            have hfin : RFromOut L w (.returned (.tuple #[.pointer (some ⟨w.heap.size, 0, none⟩), .int .i64 0, .int .i64 0])) wr := by
              unfold RFromOut fromN
              rw [HF2.out]
              simp only
              rw [if_neg (by rw [HG.out]; simp), HP.out, List.drop_length]
              exact ⟨_, rfl, Nat.le_refl _, HR5.out.ext hE, HE5.out.trans hE⟩
            have HFIN := Lib.hid hfin
            clear hfin hE HP HG HF2
            go_wp2
            go_ret3
            exact HFIN.out
end Go.Proofs.YtamolbegmkngdaaGreatDoor
namespace Go.Proofs.YtamolbegmkngdaaGreatDoor
open Go.RowKit
set_option maxHeartbeats 2000000
set_option maxRecDepth 100000

section
variable {P : Program} {ops : Array Oper} {rest : List Oper} {o : Oper} {a : Act} {Q : Exit → Act → World → Prop}

/-- 'range m' over a map keyed by strings. -/
theorem wpList_range_s (w : World) (hg : o.guard = none) (x : Operand) (t : TypeId) (hop : o.op = Op.range t x) (kt e : TypeId) (hk : P.underlying kt = some .string) (ht : P.underlying t = some (.map kt e)) (b : Nat) (m : List (Key × Value))
    (hm : a.eval x = .map (some b)) (h : SMap P kt w b m)
    (hK : ∀ w', w'.ranges P kt Rv b w.heap.size m.length (kvD m) (Maps.has (kvD m)) (Maps.size (kvD m)) → w.grownBy w' none → w'.heap.size = w.heap.size + 1 → wpList P ops Q rest (a.put o.dst (.pointer (some ⟨w.heap.size, 0, none⟩))) w') :
    wpList P ops Q (o :: rest) a w :=
  wpList_range_own w hg x t hop kt e (Maps.string_keyed hk) ht Rv b _ _ hm h hK

/-- The step of a range over a map keyed by strings. -/
theorem wpList_next_s (w : World) (hg : o.guard = none) (it : Operand) (hop : o.op = Op.next it false) (kt : TypeId) (hk : P.underlying kt = some .string) (b r n : Nat) (m : List (Key × Value)) (left : Lit → Bool) (cnt : Nat)
    (hit : a.eval it = .pointer (some ⟨r, 0, none⟩)) (h : w.ranges P kt Rv b r n (kvD m) left cnt)
    (hDone : (∀ kl, left kl = false) → wpList P ops Q rest (a.put o.dst (.tuple #[.bool false])) w)
    (hMore : ∀ (s : ByteArray) (v : Value) (w' : World) (cnt' : Nat), s.size ≤ maxLen → mget m s.data.toList = some v → w'.ranges P kt Rv b r n (kvD m) (fun z => left z && !z.sameKey (.string s.data.toList)) cnt' → cnt' < cnt →
      w.grownBy w' (some r) → w'.heap.size = w.heap.size → (Instr.entry (.pointer (some ⟨r, 0, none⟩))).run P w' = .ok (.tuple #[.string s, v]) w' → wpList P ops Q rest (a.put o.dst (.tuple #[.bool true, .string s, v])) w') :
    wpList P ops Q (o :: rest) a w :=
  wpList_next_ranges w hg it hop kt (Maps.string_keyed hk) Rv Value.string (id : Value → Value) (fun key kl hkey => by
      simp only [keyOf, hk, mapKey] at hkey
      cases key <;> simp at hkey
      exact ⟨_, rfl⟩) (fun v y _ => ⟨v, rfl⟩) b r n (kvD m) left cnt hit h (fun _ => hDone) fun s v kl y w' cnt' hkey _ hv hat hrg hlt hgr hsz hen => by
    have hkl : kl = .string s.data.toList ∧ s.size ≤ maxLen := by
      simp only [keyOf, hk, mapKey] at hkey
      split at hkey
      · rename_i hs; exact ⟨(Option.some.inj hkey).symm, hs⟩
      · cases hkey
    obtain ⟨rfl, hs⟩ := hkl
    simp only [Rv, id, Option.some.injEq] at hv
    subst hv
    refine hMore s v w' cnt' hs ?_ hrg hlt hgr hsz hen
    have h1 := hat (.held (.bool true))
    have h2 := hat (.held (.bool false))
    rw [kvD_at] at h1 h2
    simp only [DataW.held.injEq] at h1 h2
    cases hq : mget m s.data.toList with
    | some u => rw [hq] at h1; exact congrArg some h1
    | none => rw [hq] at h1 h2; simp at h1 h2; rw [← h1] at h2; cases h2
end

/-- The first behind a text. -/
def afterN (M : List (Key × Nd)) (s : ByteArray) : Option (Key × Nd) := M.find? fun x => bytesBefore s.data.toList x.1

/-- What the rounds of the range have found. -/
structure Aft (M : List (Key × Nd)) (s : Key) (left : Lit → Bool) (best : ByteArray) (found : Bool) : Prop where
  there : found = true → (∃ n, (best.data.toList, n) ∈ M) ∧ bytesBefore s best.data.toList = true
  no : found = false → best = ⟨#[]⟩
  le : ∀ x ∈ M, left (.string x.1) = false → bytesBefore s x.1 = true → found = true ∧ bytesBefore x.1 best.data.toList = false

theorem Aft.step {M : List (Key × Nd)} {s : Key} {left : Lit → Bool} {best : ByteArray} {found : Bool} (h : Aft M s left best found) (p : ByteArray) {n : Nd} (hp : (p.data.toList, n) ∈ M) :
    Aft M s (fun z => left z && !z.sameKey (.string p.data.toList)) (if bytesBefore s p.data.toList = true ∧ (found = false ∨ bytesBefore p.data.toList best.data.toList = true) then p else best)
      (if bytesBefore s p.data.toList = true ∧ (found = false ∨ bytesBefore p.data.toList best.data.toList = true) then true else found) := by
  have hsame : ∀ k : Key, (Lit.string k).sameKey (.string p.data.toList) = (k == p.data.toList) := fun k => rfl
  have tr : ∀ a b c : Key, bytesBefore a b = true → bytesBefore b c = true → bytesBefore a c = true := fun a b c => WideShapes.bytes_trans a b c
  split
  · rename_i hc
    refine ⟨fun _ => ⟨⟨n, hp⟩, hc.1⟩, fun e => (by cases e), fun x hx hl hs => ⟨rfl, ?_⟩⟩
    simp only [hsame, Bool.and_eq_false_iff, Bool.not_eq_false'] at hl
    rcases hl with hl | hl
    · obtain ⟨h1, h2⟩ := h.le x hx hl hs
      rcases hc.2 with h3 | h3
      · rw [h1] at h3; cases h3
      · cases h4 : bytesBefore x.1 p.data.toList with
        | false => rfl
        | true => rw [tr _ _ _ h4 h3] at h2; cases h2
    · have : x.1 = p.data.toList := by simpa using hl
      rw [this, WideAt.bytes_irrefl]
  · rename_i hc
    refine ⟨h.there, h.no, fun x hx hl hs => ?_⟩
    simp only [hsame, Bool.and_eq_false_iff, Bool.not_eq_false'] at hl
    rcases hl with hl | hl
    · exact h.le x hx hl hs
    · have e : x.1 = p.data.toList := by simpa using hl
      rw [e] at hs ⊢
      cases hf : found with
      | false => exact absurd ⟨hs, .inl hf⟩ hc
      | true =>
        refine ⟨rfl, ?_⟩
        cases h4 : bytesBefore p.data.toList best.data.toList with
        | false => rfl
        | true => exact absurd ⟨hs, .inr h4⟩ hc

theorem Aft.done {M : List (Key × Nd)} (hM : MOk M) {s : ByteArray} {left : Lit → Bool} {best : ByteArray} {found : Bool} (h : Aft M s.data.toList left best found) (hl : ∀ kl, left kl = false) :
    (afterN M s).isSome = found ∧ (mget M best.data.toList).getD zeroN = ((afterN M s).map (·.2)).getD zeroN := by
  unfold afterN
  cases hf : M.find? fun x => bytesBefore s.data.toList x.1 with
  | none =>
    have hno := List.find?_eq_none.1 hf
    cases found with
    | true =>
      obtain ⟨⟨n, hn⟩, hs⟩ := h.there rfl
      exact absurd hs (hno _ hn)
    | false =>
      refine ⟨rfl, ?_⟩
      rw [h.no rfl]
      rw [mget_none_of fun x hx => ?_]
      · rfl
      · intro e
        have h1 := (vpath_facts (right_vpath (hM.right x hx))).1
        have h2 := hM.key x hx
        rw [e] at h2
        have h3 : x.2.path.data.toList = [] := h2.symm
        have h4 : x.2.path.size = 0 := by rw [← size_list, h3]; rfl
        omega
  | some y =>
    have hy := List.find?_some hf
    have hm := List.mem_of_find?_eq_some hf
    obtain ⟨h1, h2⟩ := h.le y hm (hl _) (by simpa using hy)
    subst h1
    refine ⟨rfl, ?_⟩
    obtain ⟨⟨n, hn⟩, hs⟩ := h.there rfl
    have hb : best.data.toList = y.1 := by
      by_cases e : best.data.toList = y.1
      · exact e
      · exfalso
        rcases WideAt.bytes_total _ _ e with h3 | h3
        · have hp := List.find?_eq_some_iff_append.1 hf
          obtain ⟨_, l1, l2, e1, h4⟩ := hp
          have hso := hM.sorted
          rw [e1] at hn hso
          rcases List.mem_append.1 hn with h5 | h5
          · have := h4 _ h5
            rw [hs] at this; cases this
          · rcases List.mem_cons.1 h5 with h6 | h6
            · exact e (by rw [← h6])
            · have h7 := (List.pairwise_append.1 hso).2.1
              have h8 := (List.pairwise_cons.1 h7).1 _ h6
              have h9 := WideShapes.bytes_trans _ _ _ h3 h8
              rw [WideAt.bytes_irrefl] at h9; cases h9
        · rw [h3] at h2; cases h2
    rw [hb, mget_of_mem hM.sorted (show (y.1, y.2) ∈ M from hm)]
    rfl

theorem less_before : ∀ a b : List UInt8, Op.bytesLess a b = bytesBefore a b
  | [], [] => rfl
  | [], _ :: _ => rfl
  | _ :: _, [] => rfl
  | a :: x, b :: y => by simp only [Op.bytesLess, bytesBefore, less_before x y]

def AfterOut (M : List (Key × Nd)) (s : ByteArray) (w : World) (e : Ending) (w' : World) : Prop :=
  ∃ v, e = .returned (.tuple #[v, .bool (afterN M s).isSome]) ∧ NdS (fun b => w.heap.size ≤ b ∧ b < w'.heap.size) w' v (((afterN M s).map (·.2)).getD zeroN) ∧ Ext w w'

theorem after_any (S : Nat → Prop) (w : World) (bt : Nat) (M : List (Key × Nd)) (N : Nat) (hT : TreeAt S w bt M N) (s : ByteArray) : Calls Tryz.prog 59 #[.pointer (some ⟨bt, 0, none⟩), .string s] w (AfterOut M s w) := by
  obtain ⟨W1, hW1⟩ : ∃ W1, W1 = w.alloc (.cells zeroNd 47) := ⟨_, rfl⟩
  have hE1 : Ext w W1 := by rw [hW1]; exact Ext.alloc _ _
  have hz1 : W1.heap.size = w.heap.size + 1 := by rw [hW1]; simp
  have hr1 : W1.heap[w.heap.size]? = some (.cells zeroNd 47 (0, 0)) := by rw [hW1]; exact heap_alloc_new w _
  have hT1 := hT.ext hE1
  have hok := hT.ok
  obtain ⟨bn, bk, K, hd, hNd, hKd⟩ := hT1
  have hx := TreeAt.box hd
  obtain ⟨mm, hm, hr⟩ := hNd.ex
  have HT := Lib.hid hT
  have HE1 := Lib.hid hE1
  have HR1 := Lib.hid hr1
  have HD := Lib.hid hd
  have HND := Lib.hid hNd
  have HM := hm
  have HR := Lib.hid hr
  unfold Box treeC at hx
  have hx' := hx
  rw [hW1] at hx' HM
  unfold zeroNd at hx' HM hW1
  have HW1 := Lib.hid hW1
  clear hT hE1 hr1 hd hNd hKd hm hr hW1 hx
  go_enter Tryz.func59, Tryz.ntmps59
  go_wp2_with (at_range; refine wpList_range_s _ rfl _ 115 rfl 9 47 strT Tryz.underlying115 bn mm rfl HM ?_; intro w0 hrg0 hg0 hs0)
  go_frame
  rw [← HW1.out] at hrg0 hg0 hs0
  rw [show (w.alloc (.cells #[.string ⟨#[]⟩, .slice none 0 0, .slice none 0 0, .int .i64 0, .int .i64 0, .int .i64 0, .int .i64 0, .int .i64 0, .int .i64 0, .int .i64 0, .int .i64 0, .int .i32 0, .int .i32 0, .int .i32 0, .bool false, .int .i64 0, .int .i64 0] 47)) = W1 from HW1.out.symm]
  rw [hz1] at hrg0 ⊢
  clear hx' HM
  have hbl : bn < w.heap.size := HT.out.bound _ (by have := HD.out.sn; exact this)
  have hEr : Ext W1 w0 := ⟨hg0.os, hg0.tape, hg0.output, hg0.size, fun k hk => hg0.block k hk (by simp)⟩
  have hA0 : Aft M s.data.toList (Maps.has (kvD mm)) ⟨#[]⟩ false := ⟨fun h => (by cases h), fun _ => rfl, fun x hx hl _ => by
    exfalso
    rw [kvD_has] at hl
    rcases HR.out.get x.1 with ⟨h1, _⟩ | ⟨y, v, _, h2, _⟩
    · exact mget_none h1 x hx rfl
    · rw [h2] at hl; cases hl⟩
  go_loopw [6, 7] (fun b f wr => ∃ (left : Lit → Bool) (cnt : Nat) (best : ByteArray) (found : Bool), b = .string best ∧ f = .bool found ∧ wr.ranges Tryz.prog 9 Rv bn (w.heap.size + 1) mm.length (kvD mm) left cnt ∧ Aft M s.data.toList left best found ∧ Ext W1 wr) (fun _ _ wr => wr.rangeLeft bn (w.heap.size + 1))
  case atStart => exact ⟨_, _, _, _, rfl, rfl, hrg0, hA0, hEr⟩
  case round =>
    obtain ⟨left, cnt, best, found, rfl, rfl, hrg, hA, hE⟩ := hrel
    go_wp2_with (at_next; refine wpList_next_s _ rfl _ rfl 9 strT bn (w.heap.size + 1) _ mm left cnt rfl hrg ?_ ?_)
    · intro hl0
      obtain ⟨hd1, hd2⟩ := hA.done hok hl0
      have hbnd := HD.out.bound
      have hbs : best.size ≤ maxLen := by
        cases hf : found with
        | false => rw [hA.no hf]; unfold maxLen; decide
        | true =>
          obtain ⟨⟨n, hn⟩, _⟩ := hA.there hf
          have h1 := hok.key _ hn
          have h2 := (vpath_facts (right_vpath (hok.right _ hn))).2.1
          unfold keyN at h1
          rw [← size_list] at h2
          have h3 : best.data.toList.length ≤ 4096 := by
            have h1' : best.data.toList = n.path.data.toList := h1
            rw [h1']; exact h2
          rw [size_list] at h3
          unfold maxLen; omega
      have hNd2 : NodesAt S wr bn M N := HND.out.keep (hE.block bn (by omega)) (fun _ h => h) (fun b o u hb hu => (hE.cell (p := ⟨b, o, none⟩) (hbnd b hb)).trans hu) (Nat.le_refl _)
      have hx : Box wr bt (treeC bn bk) := fun j => cell_of_row _ _ _ _ _ _ ((hE.block bt (hbnd _ HD.out.st)).trans HD.out.blk)
      obtain ⟨v, hv, _, hq2⟩ := hNd2.look' best hbs
      have hfit := hok.fit best.data.toList
      rw [hd2] at hv hfit
      generalize hn : ((afterN M s).map (·.2)).getD zeroN = n at *
      obtain ⟨da, dc, aa, ac, rfl, hDd, hAa⟩ := hv
      have hbndr : ∀ k, S k → k < wr.heap.size := fun k hk => Nat.lt_of_lt_of_le (hbnd k hk) hE.size
      have C := Lib.hid (sclone_nd n da aa dc ac wr hfit (hDd.cells hbndr) (hAa.cells hbndr))
      have HEW := Lib.hid (HE1.out.trans hE)
      have HRr := Lib.hid ((hE.block w.heap.size (by omega)).trans HR1.out)
      have HN := Lib.hid hn
      have HDN := Lib.hid hd1
      have hzr := hE.size
      unfold Box treeC at hx
      unfold ndC at hq2 C
      unfold zeroNd at HRr
      clear hrg hA hE hNd2 hDd hAa hbndr hfit hd1 hd2 hn hrg0 hg0 hs0 hEr hA0 hbnd hbs HT HE1 HR1 HD HND HR HW1
      go_wp2_with fail
      refine C.out.mono ?_
      rintro e w3 ⟨v3, rfl, hN3, hb3⟩
      have hE3 : Ext wr w3 := hb3
      obtain ⟨va, vc, vb, vd, rfl, h1, h2⟩ := hN3
      have HR3 := Lib.hid ((hE3.block w.heap.size (by omega)).trans HRr.out)
      have hz3 := hE3.size
      have hEw : Ext w w3 := HEW.out.trans hE3
      clear C hb3 hx hq2
      go_wp2_with (refine wpList_store_row rfl 47 (.tmp 4) (.tmp 40) rfl w.heap.size _ rfl rfl 47 _ HR3.out sizeNd rfl (cells_node n va vb _ _ vc vd) ?_)
      obtain ⟨cs, hcs⟩ : ∃ cs, cs = ndC n (.slice va n.data.length vc) (.slice vb n.acl.length vd) := ⟨_, rfl⟩
      have hR4 := setRow_heap w3 w.heap.size _ cs 47 (0, 0) HR3.out
      have hs4 : (w3.setRow w.heap.size cs).heap.size = w3.heap.size := by simp [World.setRow]
      have hb4 : Ext w (w3.setRow w.heap.size cs) := hEw.trans' ⟨rfl, rfl, rfl, by rw [hs4]; exact Nat.le_refl _, fun k hk => setRow_other _ _ _ _ (by omega)⟩
      have hk : ∀ (b o : Nat) u, (wr.heap.size ≤ b ∧ b < w3.heap.size) → w3.cell? ⟨b, o, none⟩ = some u → (w3.setRow w.heap.size cs).cell? ⟨b, o, none⟩ = some u := fun b o u hb hu =>
        (World.cell?_of_block (setRow_other _ _ _ _ (show b ≠ w.heap.size by have := hb.1; omega))).trans hu
      have c1 := h1.imp (S' := fun b => w.heap.size ≤ b ∧ b < (w3.setRow w.heap.size cs).heap.size) (fun b hb => ⟨by omega, by omega⟩) hk
      have c2 := h2.imp (S' := fun b => w.heap.size ≤ b ∧ b < (w3.setRow w.heap.size cs).heap.size) (fun b hb => ⟨by omega, by omega⟩) hk
      have hsz17 : (Tryz.prog.info? 47).map (·.size) = some cs.size := by rw [hcs]; exact sizeNd
      have hfin : AfterOut M s w (.returned (.tuple #[.agg cs, .bool found])) (w3.setRow w.heap.size cs) :=
        ⟨_, by rw [HDN.out], by rw [HN.out]; exact ⟨va, vc, vb, vd, by rw [hcs], c1, c2⟩, hb4⟩
      rw [hcs] at hfin hR4 hsz17
      refine bodyPost_ret (v := .tuple #[.agg (ndC n (.slice va n.data.length vc) (.slice vb n.acl.length vd)), .bool found]) ?_ rfl hfin
      exact results_cell_row2 (p := 4) (q := 5) (ty := 47) rfl _ _ w.heap.size 47 _ (0, 0) _ _ rfl rfl hR4 Tryz.underlying47 rfl hsz17
    · intro p v w1 cnt1 hps hmp hrg1 hlt hg1 hs1 hen
      obtain ⟨n, hmem⟩ : ∃ n, (p.data.toList, n) ∈ M := by
        rcases HR.out.get p.data.toList with ⟨_, h2⟩ | ⟨y, u, h1, _, _⟩
        · rw [h2] at hmp; cases hmp
        · exact ⟨y, mget_some_mem h1⟩
      have hA1 := hA.step p hmem
      have hEn : Ext W1 w1 := hE.trans' ⟨hg1.os, hg1.tape, hg1.output, hg1.size, fun k hk => hg1.block k (Nat.lt_of_lt_of_le hk hE.size) (fun e => by have := Option.some.inj e; omega)⟩
      have HA1 := Lib.hid hA1
      have HRG1 := Lib.hid hrg1
      have HRG := Lib.hid hrg
      have HEN := Lib.hid hEn
      have lt_b : ∀ a b : ByteArray, Op.bytesLess a.toList b.toList = bytesBefore a.data.toList b.data.toList := fun a b => by rw [less_before, Lib.toList_data, Lib.toList_data]
      clear hA hrg hrg1 hg1 hs1 hEr hA0 hrg0 hg0 hs0 hmem hmp hA1 hE hEn HT HE1 HR1 HD HND HR HW1
      cases hgt : bytesBefore s.data.toList p.data.toList with
      | false =>
        have hA2 := HA1.out
        rw [if_neg (by rw [hgt]; simp), if_neg (by rw [hgt]; simp)] at hA2
        have HA2 := Lib.hid hA2
        clear hA2 HA1
        cases hlp : bytesBefore p.data.toList s.data.toList with
        | true =>
          have f1 : Op.bytesLess p.toList s.toList = true := by rw [lt_b]; exact hlp
          clear hgt hlp lt_b
          go_wp2
          go_roundw
          case rel => exact ⟨_, _, _, _, rfl, rfl, HRG1.out, HA2.out, HEN.out⟩
          case measure => rw [HRG1.out.left_eq, HRG.out.left_eq]; exact hlt
        | false =>
          have hep : p = s := by
            by_cases e : p.data.toList = s.data.toList
            · exact ba_ext e
            · rcases WideAt.bytes_total _ _ e with h | h
              · rw [hlp] at h; cases h
              · rw [hgt] at h; cases h
          have f1 : Op.bytesLess p.toList s.toList = false := by rw [lt_b]; exact hlp
          have f2 : (p.toList == s.toList) = true := by rw [hep]; simp
          have f3 : p.toList = s.toList := by rw [hep]
          clear hgt hlp lt_b hep
          go_wp2
          go_roundw
          case rel => exact ⟨_, _, _, _, rfl, rfl, HRG1.out, HA2.out, HEN.out⟩
          case measure => rw [HRG1.out.left_eq, HRG.out.left_eq]; exact hlt
      | true =>
        have hlp : bytesBefore p.data.toList s.data.toList = false := by
          cases hq : bytesBefore p.data.toList s.data.toList with
          | false => rfl
          | true => have h3 := WideShapes.bytes_trans _ _ _ hgt hq; rw [WideAt.bytes_irrefl] at h3; cases h3
        have hne : p.toList ≠ s.toList := fun e => by
          rw [Lib.toList_data, Lib.toList_data] at e
          rw [e, WideAt.bytes_irrefl] at hgt; cases hgt
        have f1 : Op.bytesLess p.toList s.toList = false := by rw [lt_b]; exact hlp
        have f2 : (p.toList == s.toList) = false := by simpa using hne
        have f3 : decide (p.toList = s.toList) = false := by simpa using hne
        cases hf : found with
        | false =>
          have hA2 := HA1.out
          rw [if_pos ⟨hgt, .inl hf⟩, if_pos ⟨hgt, .inl hf⟩] at hA2
          have HA2 := Lib.hid hA2
          clear hA2 HA1 hgt hlp lt_b
          go_wp2
          go_roundw
          case rel => exact ⟨_, _, _, _, rfl, rfl, HRG1.out, HA2.out, HEN.out⟩
          case measure => rw [HRG1.out.left_eq, HRG.out.left_eq]; exact hlt
        | true =>
          cases hpb : bytesBefore p.data.toList best.data.toList with
          | true =>
            have f4 : Op.bytesLess p.toList best.toList = true := by rw [lt_b]; exact hpb
            have hA2 := HA1.out
            rw [if_pos ⟨hgt, .inr hpb⟩, if_pos ⟨hgt, .inr hpb⟩] at hA2
            have HA2 := Lib.hid hA2
            clear hA2 HA1 hgt hlp lt_b hpb
            go_wp2
            go_roundw
            case rel => exact ⟨_, _, _, _, rfl, rfl, HRG1.out, HA2.out, HEN.out⟩
            case measure => rw [HRG1.out.left_eq, HRG.out.left_eq]; exact hlt
          | false =>
            have f4 : Op.bytesLess p.toList best.toList = false := by rw [lt_b]; exact hpb
            have hA2 := HA1.out
            rw [if_neg (by rw [hf, hpb]; simp), if_neg (by rw [hf, hpb]; simp), hf] at hA2
            have HA2 := Lib.hid hA2
            clear hA2 HA1 hgt hlp lt_b hpb
            go_wp2
            go_roundw
            case rel => exact ⟨_, _, _, _, rfl, rfl, HRG1.out, HA2.out, HEN.out⟩
            case measure => rw [HRG1.out.left_eq, HRG.out.left_eq]; exact hlt
end Go.Proofs.YtamolbegmkngdaaGreatDoor
namespace Go.Proofs.YtamolbegmkngdaaGreatDoor
open Go.RowKit
section
variable {P : Program} {ops : Array Oper} {Q : Exit → Act → World → Prop} {a0 : Act} {w0 : World}
theorem region_store_vals (m : Nat) (vals : List Value) (k : Nat) (ol : Oper) (hk : ops[k]? = some ol) (hks : ops.size = k + 1) (hlen : vals.length = k) (hg : ol.guard = none) (hdn : ol.dst = none)
    (hchk : (dstsOk ops && aheadB ops && coverOk ops && ((ops.toList.take (ops.size - 1)).all fun o => o.dst.any fun d => decide (d < m))) = true) (hsz : a0.tmps.size = m)
    (hd : Duties P ops Q (fun i v _ => vals[i]? = some v) a0 w0 0 (ops.toList.take k))
    (hlast : ∀ w, Ext w0 w → ol.wp P (filled (ops.toList.take k) vals a0) w (fun a' w' => Q .normal a' w') Q) : RegionP P ops Q a0 w0 := by
  refine region_last_e m (fun i v _ => vals[i]? = some v) (fun _ _ _ _ h _ => h) hchk hsz k ol hk hks hg hdn hd fun us w hE hl hP => ?_
  have : us = vals := List.ext_getElem? fun i => by
    have hl' : us.length = k := by rw [hl, List.length_take]; simp [hks]
    by_cases hi : i < us.length
    · rw [hP i us[i] (List.getElem?_eq_getElem hi), List.getElem?_eq_getElem hi]
    · rw [List.getElem?_eq_none (by omega), List.getElem?_eq_none (by omega)]
  rw [this]
  exact hlast w hE
end
end Go.Proofs.YtamolbegmkngdaaGreatDoor
namespace Go.Proofs.YtamolbegmkngdaaGreatDoor
open Go.RowKit
set_option maxHeartbeats 4000000
set_option maxRecDepth 100000

theorem Cells.away' {B bb : Nat} {w : World} {a : Option Addr} {xs : List Value} {l : List UInt8} (hw : Wr B w bb l) (h : Cells B w a xs) : Away bb w a xs := Cells.away hw h

theorem encode_yes (n : Nd) (da aa : Option Addr) (dc ac : Nat) (w : World) (hf : Fit n) (hT : Tabs w) (hD : Cells w.heap.size w da (n.data.map u8v)) (hA : Cells w.heap.size w aa (acCs n.acl)) (hr : rightN n = 0) :
    Calls Tryz.prog 138 #[.agg (ndC n (.slice da n.data.length dc) (.slice aa n.acl.length ac))] w (EncOut n w) := by
  have hrs := right_sizes n hr
  have hs1 := hrs.1
  have hs2 := hrs.2.1
  have hs3 := hrs.2.2.1
  have HS4 := Lib.hid hrs.2.2.2
  clear hrs
  have hbox := Box.alloc w (ndC n (.slice da n.data.length dc) (.slice aa n.acl.length ac)) 47
  have hb0 : Below w.heap.size w (w.alloc (.cells (ndC n (.slice da n.data.length dc) (.slice aa n.acl.length ac)) 47)) := (Below.refl _ _).alloc (Nat.le_refl _) _
  have hD0 := hD.below hb0
  have hA0 := hA.below hb0
  have hT0 := hT.below hb0 hT.size
  have CR := right_any n da aa dc ac (w.alloc (.cells (ndC n (.slice da n.data.length dc) (.slice aa n.acl.length ac)) 47)) hf hT0 (hA0.mono (by simp))
  rw [hr] at CR
  have hh := heap_alloc_new w (.cells (ndC n (.slice da n.data.length dc) (.slice aa n.acl.length ac)) 47)
  have HR := Lib.hid hr
  have hne : (rightN n != 0) = false := by simp [hr]
  clear hD hA hT0 hr hne
  unfold ndC at hbox hb0 hD0 hA0 CR hh ⊢
  have HH := Lib.hid hh
  clear hh
  go_enter Tryz.func138, Tryz.ntmps138
  go_wp2_with (refine wpList_load_row rfl 47 (.tmp 1) rfl w.heap.size rfl 47 _ (0, 0) _ HH.out Tryz.underlying47 rfl sizeNd ?_)
  refine CR.mono ?_
  rintro e w1 ⟨rfl, hb1⟩
  have hsz1 : w.heap.size < w1.heap.size := by have := hb1.size; simp at this; omega
  have hx1 := hbox.below hb1 (by simp)
  have hb : Below w.heap.size w w1 := hb0.trans (hb1.mono (by simp))
  have hD1 := (hD0.below (hb1.mono (by simp)))
  have hA1 := (hA0.below (hb1.mono (by simp)))
  clear CR hbox hb0 hb1 hD0 hA0 HH
  have hw2 := Wr.empty w1
  have hb2 : Below w1.heap.size w1 (w1.alloc (.cells #[.slice none 0 0] 222)) := (Below.refl _ _).alloc (Nat.le_refl _) _
  have hx2 := hx1.below hb2 hsz1
  have hD2 := (hD1.mono (Nat.le_of_lt hsz1)).below hb2
  have hA2 := (hA1.mono (Nat.le_of_lt hsz1)).below hb2
  have hbw2 : Below w.heap.size w (w1.alloc (.cells #[.slice none 0 0] 222)) := hb.trans (hb2.mono (Nat.le_of_lt hsz1))
  clear hx1 hD1 hA1 hb hb2
  have hq := hx2
  unfold Box at hq
  go_wp2_with fail
  have HB := Lib.hid hsz1
  generalize w1.alloc (.cells #[.slice none 0 0] 222) = w2 at hw2 hx2 hD2 hA2 hbw2 hq ⊢
  generalize w1.heap.size = B at hw2 hD2 hA2 HB hsz1 ⊢
  refine (text_any B B [] n.path w2 hw2 (by omega) (by simp; omega)).mono ?_
  rintro e w3 ⟨rfl, k1, k2, k3⟩
  clear hq
  have hx3 := hx2.below k2 HB.out
  have hq := hx3
  unfold Box at hq
  go_wp2_with fail
  refine (buffer_any B B _ da _ dc n.data w3 k1 (Cells.away k1 (hD2.below k2)) rfl (by omega) (by simp [be_length]; omega)).mono ?_
  rintro e w4 ⟨rfl, m1, m2, m3⟩
  have hbw4 := k2.trans m2
  clear hq k1 k3 hx3 m3
  have hx4 := hx2.below hbw4 HB.out
  have hq := hx4
  unfold Box at hq
  go_wp2_with fail
  refine (list_any B B _ aa ac n.acl w4 m1 (hA2.below hbw4) hs3 HS4.out (by simp [be_length]; omega)).mono ?_
  rintro e w5 ⟨rfl, n1, n2, n3⟩
  have hbw5 := hbw4.trans n2
  clear hq m1 n3 hx4 k2 m2 hbw4 n2
  obtain ⟨l5, hl5, he5, n1⟩ : Exists fun l5 => l5.length ≤ 2000000 ∧ Hid (l5 = txt n.path ++ (be n.data.length 4 ++ n.data) ++ (be n.acl.length 4 ++ acBs n.acl)) ∧ Wr B w5 B l5 := by
    refine ⟨_, ?_, rfl, by simpa [txt, List.append_assoc] using n1⟩
    have := acBs_le n.acl HS4.out n.acl.length (Nat.le_refl _)
    rw [List.take_length] at this
    simp [txt_length, be_length]; omega
  have hx5 := hx2.below hbw5 HB.out
  have hq := hx5
  unfold Box at hq
  go_wp2_with fail
  refine (steps_any w.heap.size w5).mono ?_
  rintro e w6 ⟨g1, g2, rfl, p1, p2, p3, p4, p5⟩
  have hB5 : B ≤ w5.heap.size := Nat.le_of_lt n1.size
  have hw6 := n1.below (fun g _ hg => p1.block g hg)
  have hG1 := AwayBox.fresh n1 p1 p2 p4
  have hG2 := AwayBox.fresh n1 p1 p3 p5
  have hbw6 := hbw5.trans (p1.mono hB5)
  clear hq hx5 hbw5 n1 p1 p2 p3 p4 p5 hB5
  go_wp2
  go_loopw [37] (fun i wr => ∃ k : Nat, k ≤ 8 ∧ i = .int .i64 k ∧ Wr B wr B (l5 ++ longsB ((longsN n).take k)) ∧ Below B w6 wr ∧ Keeps B w6 wr) (fun i _ => 8 - (intOf i).toNat)
  case atStart => exact ⟨0, by omega, rfl, by simpa [longsB] using hw6, Below.refl _ _, Keeps.refl _ _⟩
  case round =>
    obtain ⟨k, hk, rfl, q1, q2, q3⟩ := hrel
    by_cases hlt : k < 8
    · obtain ⟨x, x1, x2⟩ := longs_get n k hlt
      have c1 : wr.cell? ⟨g1, k, none⟩ = some (.pointer (some ⟨w.heap.size, 3 + k, none⟩)) := ((hG1.keeps q3).2.2 k).trans (ptrs8_get w.heap.size k hlt)
      have c2 : wr.cell? ⟨w.heap.size, 3 + k, none⟩ = some (.int .i64 x) := ((hx2.below (hbw6.trans q2) HB.out) (3 + k)).trans (x2 _ _)
      have htk : Hid (longsB ((longsN n).take (k + 1)) = longsB ((longsN n).take k) ++ be (IntKind.u64.wrap x) 8) := by
        have hl : k < (longsN n).length := hlt
        unfold Hid
        rw [longsB_take _ k hl]
        rw [List.getElem?_eq_getElem hl] at x1
        rw [Option.some.inj x1]
      clear x1 x2
      go_wp2_with fail
      refine (long_any B B _ x wr q1 (by simp [longsB_length]; omega)).mono ?_
      rintro e w' ⟨rfl, r1, r2, r3⟩
      rw [List.append_assoc, ← htk.out] at r1
      have hB' := q2.trans r2
      have hK' := q3.trans r3
      clear c1 c2 q1 q2 q3 r2 r3
      go_wp2
      go_roundw
      case rel => exact ⟨k + 1, by omega, by go_num, r1, hB', hK'⟩
      case measure => simp [intOf]; omega
    · obtain rfl : k = 8 := by omega
      have q1 : Wr B wr B (l5 ++ longsB (longsN n)) := q1
      have hG2' := hG2.keeps q3
      have hbw7 := hbw6.trans q2
      clear q2 q3 hG1 hG2 hw6 hbw6
      obtain ⟨wo, rfl⟩ : ∃ wo : World, wo = wr := ⟨_, rfl⟩
      rw [show ((8 : Nat) : Int) = 8 from rfl]
      go_wp2
      go_loopw [49] (fun i wr => ∃ k : Nat, k ≤ 3 ∧ i = .int .i64 k ∧ Wr B wr B (l5 ++ longsB (longsN n) ++ intsB ((intsN n).take k)) ∧ Below B wo wr ∧ Keeps B wo wr) (fun i _ => 3 - (intOf i).toNat)
      case atStart => exact ⟨0, by omega, rfl, by simpa [intsB] using q1, Below.refl _ _, Keeps.refl _ _⟩
      case round =>
        obtain ⟨k, hk, rfl, s1, s2, s3⟩ := hrel
        by_cases hlt : k < 3
        · obtain ⟨x, x1, x2⟩ := ints_get n k hlt
          have c1 : wr.cell? ⟨g2, k, none⟩ = some (.pointer (some ⟨w.heap.size, 11 + k, none⟩)) := ((hG2'.keeps s3).2.2 k).trans (ptrs3_get w.heap.size k hlt)
          have c2 : wr.cell? ⟨w.heap.size, 11 + k, none⟩ = some (.int .i32 x) := ((hx2.below (hbw7.trans s2) HB.out) (11 + k)).trans (x2 _ _)
          have htk : Hid (intsB ((intsN n).take (k + 1)) = intsB ((intsN n).take k) ++ be (x % 4294967296) 4) := by
            have hl : k < (intsN n).length := hlt
            unfold Hid
            rw [intsB_take _ k hl]
            rw [List.getElem?_eq_getElem hl] at x1
            rw [Option.some.inj x1]
          have hll : (longsB (longsN n)).length = 64 := by rw [longsB_length]; rfl
          clear x1 x2
          go_wp2_with fail
          refine (int_any B B _ x wr s1 (by simp [intsB_length]; omega)).mono ?_
          rintro e w' ⟨rfl, r1, r2, r3⟩
          rw [List.append_assoc, ← htk.out] at r1
          have hB' := s2.trans r2
          have hK' := s3.trans r3
          clear c1 c2 s1 s2 s3 r2 r3
          go_wp2
          go_roundw
          case rel => exact ⟨k + 1, by omega, by go_num, r1, hB', hK'⟩
          case measure => simp [intOf]; omega
        · obtain rfl : k = 3 := by omega
          have s1 : Wr B wr B (l5 ++ longsB (longsN n) ++ intsB (intsN n)) := s1
          have hbw8 := hbw7.trans s2
          have hx8 := hx2.below hbw8 HB.out
          have hq := hx8
          have hl1 : (longsB (longsN n)).length = 64 := by rw [longsB_length]; rfl
          have hl2 : (intsB (intsN n)).length = 12 := by rw [intsB_length]; rfl
          have HL1 := Lib.hid hl1
          have HL2 := Lib.hid hl2
          clear s2 s3 hbw7 hG2' hl1 hl2
          unfold Box at hq
          go_wp2_with fail
          refine (bool_any B B _ n.has wr s1 (by have := HL1.out; have := HL2.out; simp; omega)).mono ?_
          rintro e w9 ⟨rfl, a1, a2, a3⟩
          have hbw9 := hbw8.trans a2
          have hx9 := hx2.below hbw9 HB.out
          clear hq hx8 s1 hbw8 a2 a3
          have hq := hx9
          unfold Box at hq
          go_wp2_with fail
          refine (long_any B B _ n.count w9 a1 (by have := HL1.out; have := HL2.out; simp; omega)).mono ?_
          rintro e w10 ⟨rfl, b1, b2, b3⟩
          have hbw10 := hbw9.trans b2
          have hx10 := hx2.below hbw10 HB.out
          clear hq hx9 a1 hbw9 b2 b3
          have hq := hx10
          unfold Box at hq
          go_wp2_with fail
          refine (long_any B B _ n.bytes w10 b1 (by have := HL1.out; have := HL2.out; simp [be_length]; omega)).mono ?_
          rintro e w11 ⟨rfl, d1, d2, d3⟩
          have hbw11 := hbw10.trans d2
          clear hq hx10 b1 hbw10 d2 d3
          go_wp2_with fail
          refine (bytes_any B B _ w11 d1 (by have := HL1.out; have := HL2.out; simp [be_length]; omega)).mono ?_
          rintro e w12 ⟨a', c', rfl, f1, f2⟩
          have hfin : Below w.heap.size w w12 := hbw2.trans ((hbw11.mono (Nat.le_of_lt HB.out)).trans (f2.mono (by have := hbw11.size; have := hw2.size; have := HB.out; omega)))
          have he : Hid (l5 ++ longsB (longsN n) ++ intsB (intsN n) ++ [if n.has then 1 else 0] ++ be (IntKind.u64.wrap n.count) 8 ++ be (IntKind.u64.wrap n.bytes) 8 = encN n) := by
            unfold Hid encN; rw [he5.out]
          rw [he.out] at f1 d1 ⊢
          clear hbw11 f2 d1
          go_wp2
          go_ret2
          exact ⟨hfin, .inr ⟨HR.out, a', c', rfl, f1⟩⟩

theorem encode_any (n : Nd) (da aa : Option Addr) (dc ac : Nat) (w : World) (hf : Fit n) (hT : Tabs w) (hD : Cells w.heap.size w da (n.data.map u8v)) (hA : Cells w.heap.size w aa (acCs n.acl)) :
    Calls Tryz.prog 138 #[.agg (ndC n (.slice da n.data.length dc) (.slice aa n.acl.length ac))] w (EncOut n w) := by
  by_cases hr : rightN n = 0
  · exact encode_yes n da aa dc ac w hf hT hD hA hr
  · exact encode_no n da aa dc ac w hf hT hA hr
end Go.Proofs.YtamolbegmkngdaaGreatDoor
namespace Go.Proofs.YtamolbegmkngdaaGreatDoor
open Go.RowKit
set_option maxHeartbeats 2000000
set_option maxRecDepth 100000

def fnvStep (h : Int) (c : UInt8) : Int := IntKind.u64.wrap (bits .xor .u64 h (IntKind.u64.wrap c.toNat) * 1099511628211)
def fnv0 : Int := 14695981039346656037
def fnv (l : List UInt8) : Int := l.foldl fnvStep fnv0
theorem fnv_take (l : List UInt8) (k : Nat) (h : k < l.length) : fnv (l.take (k + 1)) = fnvStep (fnv (l.take k)) l[k] := by
  unfold fnv; rw [List.take_succ_eq_append_getElem h, List.foldl_append]; rfl

theorem byteCell {B : Nat} {w : World} {a : Option Addr} {l : List UInt8} (h : Cells B w a (l.map u8v)) (k : Nat) (hk : k < l.length) : ∃ b off, a = some ⟨b, off, none⟩ ∧ b < B ∧ w.cell? ⟨b, off + k, none⟩ = some (.int .u8 l[k].toNat) := by
  obtain ⟨b, off, h1, h2, h3⟩ := h k (u8v l[k]) (by simp [List.getElem?_eq_getElem hk])
  exact ⟨b, off, h1, h2, h3⟩

theorem sum_any (a : Option Addr) (c : Nat) (l : List UInt8) (w : World) (hc : Cells w.heap.size w a (l.map u8v)) (hl : l.length ≤ 9223372036854775800) :
    Calls Tryz.prog 80 #[.slice a l.length c] w fun e w' => e = .returned (.int .u64 (fnv l)) ∧ w = w' := by
  go_enter Tryz.func80, Tryz.ntmps80
  go_wp2
  go_loop [3, 8] (fun h i => ∃ k : Nat, k ≤ l.length ∧ i = .int .i64 k ∧ h = .int .u64 (fnv (l.take k))) (fun _ i => l.length - (intOf i).toNat)
  case atStart => exact ⟨0, Nat.zero_le _, rfl, rfl⟩
  case round =>
    obtain ⟨k, hk, rfl, rfl⟩ := hrel
    by_cases hlt : k < l.length
    · obtain ⟨b, off, rfl, hb, c0⟩ := byteCell hc k hlt
      have H := Lib.hid (fnv_take l k hlt)
      generalize fnv (l.take k) = h0 at *
      go_wp2
      go_round
      case rel => exact ⟨k + 1, by omega, by go_num, by rw [H.out]; rfl⟩
      case measure => simp [intOf]; omega
    · obtain rfl : k = l.length := by omega
      rw [List.take_length]
      clear hc
      go_wp2
      go_ret
      exact ⟨rfl, rfl⟩

/-- A node's number. -/
def nodeN (n : Nd) : Int := if rightN n = 0 then fnv (encN n) else 0
def NodeOut (n : Nd) (w : World) (e : Ending) (w' : World) : Prop := e = .returned (.int .u64 (nodeN n)) ∧ Below w.heap.size w w'

theorem encN_length (n : Nd) (hr : rightN n = 0) : (encN n).length ≤ 2000000 := by
  have hrs := right_sizes n hr
  have h1 := acBs_le n.acl hrs.2.2.2 n.acl.length (Nat.le_refl _)
  rw [List.take_length] at h1
  have e1 : (longsN n).length = 8 := rfl
  have e2 : (intsN n).length = 3 := rfl
  simp only [encN, List.length_append, txt_length, be_length, longsB_length, intsB_length, e1, e2, List.length_cons, List.length_nil]
  omega
end Go.Proofs.YtamolbegmkngdaaGreatDoor
namespace Go.Proofs.YtamolbegmkngdaaGreatDoor
open Go.RowKit
set_option maxHeartbeats 2000000
set_option maxRecDepth 100000

theorem node_any (n : Nd) (da aa : Option Addr) (dc ac : Nat) (w : World) (hf : Fit n) (hT : Tabs w) (hD : Cells w.heap.size w da (n.data.map u8v)) (hA : Cells w.heap.size w aa (acCs n.acl)) :
    Calls Tryz.prog 77 #[.agg (ndC n (.slice da n.data.length dc) (.slice aa n.acl.length ac))] w (NodeOut n w) := by
  have hb0 : Below w.heap.size w (w.alloc (.cells (ndC n (.slice da n.data.length dc) (.slice aa n.acl.length ac)) 47)) := (Below.refl _ _).alloc (Nat.le_refl _) _
  have CR := encode_any n da aa dc ac (w.alloc (.cells (ndC n (.slice da n.data.length dc) (.slice aa n.acl.length ac)) 47)) hf (hT.below hb0 hT.size) ((hD.below hb0).mono (by simp)) ((hA.below hb0).mono (by simp))
  have hh := heap_alloc_new w (.cells (ndC n (.slice da n.data.length dc) (.slice aa n.acl.length ac)) 47)
  unfold ndC at hb0 CR hh ⊢
  have HH := Lib.hid hh
  have CR := Lib.hid CR
  clear hh hD hA hT
  by_cases hr : rightN n = 0
  · have HL := Lib.hid (encN_length n hr)
    have HN : Hid (nodeN n = fnv (encN n)) := by unfold Hid nodeN; rw [if_pos hr]
    have HR := Lib.hid hr
    clear hr
    go_enter Tryz.func77, Tryz.ntmps77
    go_wp2_with (refine wpList_load_row rfl 47 (.tmp 1) rfl w.heap.size rfl 47 _ (0, 0) _ HH.out Tryz.underlying47 rfl sizeNd ?_)
    refine CR.out.mono ?_
    rintro e w1 ⟨hb1, h⟩
    rcases h with ⟨h, _⟩ | ⟨_, a, c, rfl, hcs⟩
    · exact absurd HR.out h
    have hb : Below w.heap.size w w1 := hb0.trans (hb1.mono (by simp))
    clear CR hb0 hb1 HH
    go_wp2_with fail
    refine (sum_any a c (encN n) w1 hcs (by have := HL.out; omega)).mono ?_
    rintro e w2 ⟨rfl, rfl⟩
    clear hcs
    go_wp2
    go_ret
    exact ⟨by rw [HN.out]; rfl, hb⟩
  · have hne : (rightN n != 0) = true := by simpa using hr
    have HN : Hid (nodeN n = 0) := by unfold Hid nodeN; rw [if_neg hr]
    have HR := Lib.hid hr
    clear hr
    go_enter Tryz.func77, Tryz.ntmps77
    go_wp2_with (refine wpList_load_row rfl 47 (.tmp 1) rfl w.heap.size rfl 47 _ (0, 0) _ HH.out Tryz.underlying47 rfl sizeNd ?_)
    refine CR.out.mono ?_
    rintro e w1 ⟨hb1, h⟩
    have h := h.resolve_right (fun h => HR.out h.1)
    obtain ⟨_, rfl⟩ := h
    have hb : Below w.heap.size w w1 := hb0.trans (hb1.mono (by simp))
    clear CR hb0 hb1 HH
    go_wp2
    go_ret
    exact ⟨by rw [HN.out]; rfl, hb⟩
end Go.Proofs.YtamolbegmkngdaaGreatDoor
namespace Go.Proofs.YtamolbegmkngdaaGreatDoor
open Go.RowKit Go.Sort
set_option maxHeartbeats 4000000
set_option maxRecDepth 100000
attribute [local go_sem] Oper.semAt_some

/-- The numbers of nodes, added to and taken off a number, round. -/
def addN (s : Int) (ns : List Nd) : Int := ns.foldl (fun s n => IntKind.u64.wrap (s + nodeN n)) s
def subN (s : Int) (ns : List Nd) : Int := ns.foldl (fun s n => IntKind.u64.wrap (s - nodeN n)) s
theorem addN_snoc (s : Int) (ns : List Nd) (n : Nd) : addN s (ns ++ [n]) = IntKind.u64.wrap (addN s ns + nodeN n) := by unfold addN; rw [List.foldl_append]; rfl
theorem subN_snoc (s : Int) (ns : List Nd) (n : Nd) : subN s (ns ++ [n]) = IntKind.u64.wrap (subN s ns - nodeN n) := by unfold subN; rw [List.foldl_append]; rfl
theorem infoU64 : (Tryz.prog.info? 30).map (·.size) = some 1 := by kernel_rfl

structure OfI (w W7 : World) (pre : List (Value × Nd)) (W : World) : Prop where
  box : W.heap[w.heap.size]? = some (.cells #[.int .u64 (addN 0 (pre.map (·.2)))] 30 (0, 0))
  size : W7.heap.size ≤ W.heap.size
  keep : Below w.heap.size w W

theorem MOk.keys_le {M : List (Key × Nd)} (hok : MOk M) : ∀ k ∈ M.map (·.1), k.length ≤ maxLen := fun k hk => by
  obtain ⟨x, hx, rfl⟩ := List.mem_map.1 hk
  rw [hok.key x hx]
  unfold keyN
  rw [size_list]
  have := (vpath_facts (right_vpath (hok.right x hx))).2.1
  unfold maxLen; omega

theorem dof_any (S : Nat → Prop) (w : World) (bt : Nat) (M : List (Key × Nd)) (N : Nat) (hT : TreeAt S w bt M N) (hTb : Tabs w) (hks : M.length * 168 ≤ 140737488355328) :
    Calls Tryz.prog 14 #[.pointer (some ⟨bt, 0, none⟩)] w fun e w' => e = .returned (.int .u64 (addN 0 (M.map (·.2)))) ∧ Ext w w' := by
  obtain ⟨W0, hW0⟩ : ∃ W0, W0 = w.alloc (.cells #[.int .u64 0] 30) := ⟨_, rfl⟩
  have hE0 : Ext w W0 := by rw [hW0]; exact Ext.alloc _ _
  have hz0 : W0.heap.size = w.heap.size + 1 := by rw [hW0]; simp
  have hg0 : W0.heap[w.heap.size]? = some (.cells #[.int .u64 0] 30 (0, 0)) := by rw [hW0]; exact heap_alloc_new w _
  have C1 := Lib.hid (tall_any bt W0)
  have HW0 := Lib.hid hW0
  have HT := Lib.hid hT
  have HE0 := Lib.hid hE0
  have HG0 := Lib.hid hg0
  have HTb := Lib.hid hTb
  have hzT := hTb.size
  clear hT hW0 hE0 hg0 hTb
  refine (callsIn_wide (n := 6)).1 (callsIn_of_wp_marks Tryz.func14 rfl trivial ?_)
  simp only [Tryz.ntmps14, List.size_toArray, List.length_cons, List.length_nil, Nat.reduceAdd, Nat.reduceSub, Array.replicate_succ, Array.replicate_zero, List.push_toArray, List.append_toArray, List.nil_append, List.cons_append]
  gi_wp2_with fail
  rw [← HW0.out]
  refine ⟨trivial, (callsIn_wide.2 C1.out).mono ?_⟩
  rintro e W1 ⟨bw, btb, rfl, hcw, hct, hE1⟩
  have hz1 := hE1.size
  have hE01 := HE0.out.trans hE1
  have hT1 := HT.out.ext hE01
  have hbd := HT.out.bound
  have hok := HT.out.ok
  have hs1 : ∀ k, S k → k ≠ w.heap.size := fun k hk => by have := hbd k hk; omega
  have hg1 := (hE1.block _ (Array.getElem?_eq_some_iff.1 HG0.out).1).trans HG0.out
  have TT := told_tells (fun _ k => k ≠ w.heap.size) S W1 bt M N hT1 hs1 bw btb 122 #[.pointer (some ⟨bt, 0, none⟩)] #[] hcw hct (enters_of Tryz.func122 (by kernel_rfl) rfl) (M.map (·.1))
    (fun W hW => by simpa using tsorted_any S W bt M N (hT1.ext hW) (by omega)) (by simpa using hks) hok.keys_le
  rw [nodesOf_vals hok.sorted] at TT
  have hI0 : OfI w W1 [] W1 := ⟨hg1, Nat.le_refl _, hE01⟩
  have hnn := told_not_nil #[.pointer (some ⟨bw, 0, none⟩), .pointer (some ⟨btb, 0, none⟩)] W1
  have TT := Lib.hid TT
  have HI0 := Lib.hid hI0
  have HTB1 := Lib.hid (HTb.out.below hE01 hzT)
  have HOK := Lib.hid hok
  clear hcw hct hE1 hE01 hT1 hs1 hg1 hI0 C1 hok
  gi_wp2
  refine wpIn_tells_nd (Safe := fun _ k => k ≠ w.heap.size) (by omega) (gf := 159) (lb := #[.pointer (some ⟨bw, 0, none⟩), .pointer (some ⟨btb, 0, none⟩)]) rfl (enters_of Tryz.func159 (by kernel_rfl) rfl) TT.out (show 7 < 13 by decide) (show 4 < 13 by decide) (by decide)
    (OfI w W1) (fun _ _ _ => False) (fun _ _ _ _ h => h) ?hI ?hIx HI0.out ?body ?done ?stop
  case hI =>
    rintro pre X Y ⟨h1, h2, h3⟩ hTn
    exact ⟨⟨hTn.cells h1, Nat.le_trans h2 hTn.size, h3.trans (hTn.below (by omega) h3.size)⟩, fun k hk => by omega⟩
  case hIx => exact fun _ _ _ _ h _ => h
  case stop => exact fun _ _ _ _ _ _ h => h.elim
  case body =>
    rintro l pre n da dc aa ac bl W hl0 hrec ⟨rest, hSp⟩ ⟨hbx, hsz, hEw⟩ hG hbl
    simp only [List.setIfInBounds_toArray, List.set_cons_succ, List.set_cons_zero]
    have hs : W.cell? ⟨w.heap.size, 0, none⟩ = some (.int .u64 (addN 0 (pre.map (·.2)))) := cell_of_row _ _ _ _ _ _ hbx
    obtain ⟨hDW, hAW⟩ := nds_parts hG
    have hDW := hDW.cells fun b hb => hb.2
    have hAW := hAW.cells fun b hb => hb.2
    have hTW : Tabs W := HTb.out.below hEw hzT
    have hmem : n ∈ M.map (·.2) := by
      have : n ∈ (pre ++ [(Value.agg (ndC n (.slice da n.data.length dc) (.slice aa n.acl.length ac)), n)]).map (·.2) ++ rest := by simp
      rw [hSp] at this; exact this
    obtain ⟨x, hx, hxe⟩ := List.mem_map.1 hmem
    have hfit : Fit n := by rw [← hxe]; exact (right_fit (HOK.out.right x hx)).1
    have HS := Lib.hid (addN_snoc 0 (pre.map (·.2)) n)
    have HBX := Lib.hid hbx
    have HEW := Lib.hid hEw
    clear hbx hEw hmem hx hSp
    generalize addN 0 (pre.map (·.2)) = s at *
    refine wpIn_block ?_
    refine wpIn_region_P l (by kernel_rfl) (by rfl) (region_store_vals 13 [.int .u64 s, .agg (ndC n (.slice da n.data.length dc) (.slice aa n.acl.length ac)), .int .u64 (nodeN n), .int .u64 (IntKind.u64.wrap (s + nodeN n))] 4 _ rfl rfl rfl rfl rfl (by decide) rfl ?duties ?last)
    case duties =>
      refine ⟨?_, ?_, ?_, ?_, trivial⟩
      · refine duty_free rfl fun a w' hE hF hA => ?_
        have x1 := hF.slot 3 _ (by decide) rfl
        exact wp_value (ex_cell rfl _ _ x1 ((hE.cell (World.block_lt_of_cell? _ _ hs)).trans hs) rfl Tryz.underlying30) ⟨_, rfl, rfl, Ext.refl _⟩
      · refine duty_free rfl fun a w' hE hF hA => ?_
        have x1 := hF.slot 4 _ (by decide) rfl
        exact wp_value (ex_load_row rfl _ x1 47 _ (0, 0) _ ((hE.block _ (Array.getElem?_eq_some_iff.1 hbl).1).trans hbl) Tryz.underlying47 rfl sizeNd) ⟨_, rfl, rfl, Ext.refl _⟩
      · refine duty_free rfl fun a w' hE hF hA => ?_
        have x1 := hA.val 1 9 rfl rfl ⟨⟨1, .data⟩, by simp, rfl, rfl⟩ rfl
        refine wp_enter (ex_call rfl (enters_f Tryz.func77 (by kernel_rfl) rfl)) (by simp only [List.map_toArray, List.map_cons, List.map_nil, x1]; exact node_any n da aa dc ac w' hfit (hTW.below hE hTW.size) (hDW.ext hE) (hAW.ext hE)) ?_
        rintro e w4 ⟨rfl, hb⟩
        exact ⟨_, rfl, _, rfl, rfl, hb⟩
      · refine duty_free rfl fun a w' hE hF hA => ?_
        have x1 := hA.val 0 8 rfl rfl ⟨⟨0, .data⟩, by simp, rfl, rfl⟩ rfl
        have x2 := hA.val 2 10 rfl rfl ⟨⟨2, .data⟩, by simp, rfl, rfl⟩ rfl
        exact wp_value (w' := w') (v := .int .u64 (IntKind.u64.wrap (s + nodeN n))) (by simp only [execOp, x1, x2]; simp [go_sem]) ⟨_, rfl, rfl, Ext.refl _⟩
    case last =>
      intro W8 hE8
      have hbx8 := (hE8.block _ (Array.getElem?_eq_some_iff.1 HBX.out).1).trans HBX.out
      simp only [filled, List.take_succ_cons, List.take_zero, List.zip_cons_cons, List.zip_nil_left, List.foldl_cons, List.foldl_nil, Act.put, List.setIfInBounds_toArray, List.set_cons_succ, List.set_cons_zero]
      refine wp_skipped (w' := W8.setRow w.heap.size #[.int .u64 (IntKind.u64.wrap (s + nodeN n))]) (by refine run_store_one 30 (.tmp 3) (.tmp 11) ?_ w.heap.size (.int .u64 (IntKind.u64.wrap (s + nodeN n))) ?_ ?_ ?_ 30 (.int .u64 s) hbx8 infoU64 <;> rfl) ?_
      have hKp := (Kp.ext (B := W1.heap.size) (ga := w.heap.size) hE8).trans (Kp.set W8 #[.int .u64 (IntKind.u64.wrap (s + nodeN n))] (by omega))
      have hB8 : Below w.heap.size w (W8.setRow w.heap.size #[.int .u64 (IntKind.u64.wrap (s + nodeN n))]) := (HEW.out.trans (hE8.mono HEW.out.size)).trans ⟨rfl, rfl, rfl, by simp, fun k hk => setRow_other _ _ _ _ (by omega)⟩
      have hz8 := hE8.size
      simp only [Exit.inBlock, Act.put, tellPost]
      refine ⟨hKp.recs, hKp.cells, ?_, by simp; omega, hB8⟩
      simp only [List.map_append, List.map_cons, List.map_nil]
      rw [HS.out]
      exact setRow_heap _ _ _ _ _ _ hbx8
  case done =>
    rintro D xs W hD hS ⟨hbx, hsz, hEw⟩ hK
    have hfin : Ext w (W.putObj D (.deferred none)) := hEw.trans ((Turn.putObj (B := W1.heap.size) (.deferred none) hD hK rfl).below (by omega) hEw.size)
    have hv : W.cell? ⟨w.heap.size, 0, none⟩ = some (.int .u64 (addN 0 (xs.map (·.2)))) := cell_of_row _ _ _ _ _ _ hbx
    rw [hS] at hv
    have HFIN := Lib.hid hfin
    have HK := Lib.hid hK
    clear hfin hK hS TT HI0 hbx
    gi_wp2
    refine ⟨by simp, .inl ⟨_, _, rfl, run_takeDeferred HK.out, ?_⟩⟩
    refine ⟨_, results_tmp rfl _ _ _, ?_⟩
    exact ⟨rfl, HFIN.out⟩
end Go.Proofs.YtamolbegmkngdaaGreatDoor
namespace Go.Proofs.YtamolbegmkngdaaGreatDoor
open Go.RowKit Go.Sort
set_option maxHeartbeats 4000000
set_option maxRecDepth 100000
attribute [local go_sem] Oper.semAt_some

theorem sorted_nil (w : World) : Calls Tryz.prog 122 #[.pointer none] w fun e w' => e = .returned (.slice none 0 0) ∧ w = w' := by
  go_enter Tryz.func122, Tryz.ntmps122
  go_wp2
  go_ret
  exact ⟨rfl, rfl⟩

def SeqNil (w : World) (e : Ending) (w' : World) : Prop :=
  ∃ bw btb, e = .returned (.func (.func 159) #[] #[.pointer (some ⟨bw, 0, none⟩), .pointer (some ⟨btb, 0, none⟩)]) ∧
    w'.cell? ⟨bw, 0, none⟩ = some (.func (.func 122) #[.pointer none] #[]) ∧ Ext w w'

theorem told_nil (w : World) : Calls Tryz.prog 121 #[.pointer none, .func (.func 122) #[.pointer none] #[]] w (SeqNil w) := by
  have h2 : ∀ t u, ((w.alloc (.cells #[Value.pointer none] t)).alloc (.cells #[Value.func (.func 122) #[.pointer none] #[]] u)).cell? ⟨w.heap.size + 1, 0, none⟩ = some (.func (.func 122) #[.pointer none] #[]) := fun t u =>
    cell_of_row _ _ _ _ _ _ (by have := heap_alloc_new (w.alloc (.cells #[Value.pointer none] t)) (.cells #[Value.func (.func 122) #[.pointer none] #[]] u); rwa [World.size_alloc] at this)
  have H2 := Lib.hid h2
  clear h2
  go_enter Tryz.func121, Tryz.ntmps121
  go_wp2
  go_ret
  exact ⟨_, _, rfl, H2.out _ _, (Ext.alloc w _).trans (Ext.alloc _ _)⟩

theorem tall_nil (w : World) : Calls Tryz.prog 61 #[.pointer none] w (SeqNil w) := by
  have C1 := told_nil w
  go_enter Tryz.func61, Tryz.ntmps61
  go_wp2_with fail
  refine C1.mono ?_
  rintro e w1 ⟨bw, btb, rfl, h1, hE⟩
  have hfin : SeqNil w (.returned (.func (.func 159) #[] #[.pointer (some ⟨bw, 0, none⟩), .pointer (some ⟨btb, 0, none⟩)])) w1 := ⟨_, _, rfl, h1, hE⟩
  have HFIN := Lib.hid hfin
  clear hfin h1 hE C1
  go_wp2
  go_ret
  exact HFIN.out

/-- Nothing is told of a nil tree. -/
theorem told_tells_nil (Safe : World → Nat → Prop) (w : World) (bw btb fw : Nat) (bnd cap : Array Value)
    (hcw : w.cell? ⟨bw, 0, none⟩ = some (.func (.func fw) bnd cap)) (hen : ∀ args w, (callFunc fw args).run Tryz.prog w = .ok (.enter fw args) w) (hw : ∀ W, Ext w W → Calls Tryz.prog fw (bnd ++ cap) W fun e w' => e = .returned (.slice none 0 0) ∧ Ext W w') :
    Tells Fence.wide 5 Tryz.prog 159 #[.pointer (some ⟨bw, 0, none⟩), .pointer (some ⟨btb, 0, none⟩)] (fun x : Value × Nd => #[x.1]) (GS Safe) (KeepS Safe) Safe (fun xs => xs.map (·.2) = []) (fun pre => ∃ rest, pre.map (·.2) ++ rest = []) w := by
  intro l J Jx W hW hSW hJ hY h0
  refine callsIn_wide.2 ?_
  have hcwW : W.cell? ⟨bw, 0, none⟩ = some (.func (.func fw) bnd cap) := (hW.cell (p := ⟨bw, 0, none⟩) (World.block_lt_of_cell? _ _ hcw)).trans hcw
  have CW := hw W hW
  have HJ := Lib.hid hJ
  have CW := Lib.hid CW
  clear hcw hw hY hJ hSW
  go_enter Tryz.func159, Tryz.ntmps159
  go_wp2_with fail
  refine CW.out.mono ?_
  rintro e W1 ⟨rfl, hE1⟩
  have hJ1 := (HJ.out [] W W1 h0 hE1).1
  have HJ1 := Lib.hid hJ1
  clear CW hcwW hJ1 h0 hE1
  go_wp2
  go_loopw [4, 12] (fun lv i wr => lv = .slice none 0 0 ∧ i = .int .i64 0 ∧ wr = W1) (fun _ _ _ => 0)
  case atStart => exact ⟨rfl, rfl, rfl⟩
  case round =>
    obtain ⟨rfl, rfl, rfl⟩ := hrel
    go_wp2
    go_loopw [28] (fun i wt => i = .int .i64 0 ∧ wt = wr) (fun _ _ => 0)
    case atStart => exact ⟨rfl, rfl⟩
    case round =>
      obtain ⟨rfl, rfl⟩ := hrel
      go_wp2
      exact ⟨rfl, _, results_none rfl _ _ _, ⟨_, rfl⟩, .inl ⟨[], rfl, HJ1.out⟩⟩

theorem dof_nil (w : World) : Calls Tryz.prog 14 #[.pointer none] w fun e w' => e = .returned (.int .u64 0) ∧ Ext w w' := by
  obtain ⟨W0, hW0⟩ : ∃ W0, W0 = w.alloc (.cells #[.int .u64 0] 30) := ⟨_, rfl⟩
  have hE0 : Ext w W0 := by rw [hW0]; exact Ext.alloc _ _
  have hz0 : W0.heap.size = w.heap.size + 1 := by rw [hW0]; simp
  have hg0 : W0.heap[w.heap.size]? = some (.cells #[.int .u64 0] 30 (0, 0)) := by rw [hW0]; exact heap_alloc_new w _
  have C1 := Lib.hid (tall_nil W0)
  have HW0 := Lib.hid hW0
  have HE0 := Lib.hid hE0
  have HG0 := Lib.hid hg0
  clear hW0 hE0 hg0
  refine (callsIn_wide (n := 6)).1 (callsIn_of_wp_marks Tryz.func14 rfl trivial ?_)
  simp only [Tryz.ntmps14, List.size_toArray, List.length_cons, List.length_nil, Nat.reduceAdd, Nat.reduceSub, Array.replicate_succ, Array.replicate_zero, List.push_toArray, List.append_toArray, List.nil_append, List.cons_append]
  gi_wp2_with fail
  rw [← HW0.out]
  refine ⟨trivial, (callsIn_wide.2 C1.out).mono ?_⟩
  rintro e W1 ⟨bw, btb, rfl, hcw, hE1⟩
  have hz1 := hE1.size
  have hE01 := HE0.out.trans hE1
  have hg1 := (hE1.block _ (Array.getElem?_eq_some_iff.1 HG0.out).1).trans HG0.out
  have TT := told_tells_nil (fun _ k => k ≠ w.heap.size) W1 bw btb 122 #[.pointer none] #[] hcw (enters_of Tryz.func122 (by kernel_rfl) rfl)
    (fun W _ => (show Calls Tryz.prog 122 #[.pointer none] W _ from (sorted_nil W).mono fun e w' h => by obtain ⟨rfl, rfl⟩ := h; exact ⟨rfl, Ext.refl _⟩))
  have hI0 : OfI w W1 [] W1 := ⟨hg1, Nat.le_refl _, hE01⟩
  have hnn := told_not_nil #[.pointer (some ⟨bw, 0, none⟩), .pointer (some ⟨btb, 0, none⟩)] W1
  have TT := Lib.hid TT
  have HI0 := Lib.hid hI0
  clear hcw hE1 hE01 hg1 hI0 C1
  gi_wp2
  refine wpIn_tells_nd (Safe := fun _ k => k ≠ w.heap.size) (by omega) (gf := 159) (lb := #[.pointer (some ⟨bw, 0, none⟩), .pointer (some ⟨btb, 0, none⟩)]) rfl (enters_of Tryz.func159 (by kernel_rfl) rfl) TT.out (show 7 < 13 by decide) (show 4 < 13 by decide) (by decide)
    (OfI w W1) (fun _ _ _ => False) (fun _ _ _ _ h => h) ?hI ?hIx HI0.out ?body ?done ?stop
  case hI =>
    rintro pre X Y ⟨h1, h2, h3⟩ hTn
    exact ⟨⟨hTn.cells h1, Nat.le_trans h2 hTn.size, h3.trans (hTn.below (by omega) h3.size)⟩, fun k hk => by omega⟩
  case hIx => exact fun _ _ _ _ h _ => h
  case stop => exact fun _ _ _ _ _ _ h => h.elim
  case body =>
    rintro l pre n da dc aa ac bl W hl0 hrec ⟨rest, hSp⟩ _ hG hbl
    exfalso
    simp at hSp
  case done =>
    rintro D xs W hD hS ⟨hbx, hsz, hEw⟩ hK
    have hfin : Ext w (W.putObj D (.deferred none)) := hEw.trans ((Turn.putObj (B := W1.heap.size) (.deferred none) hD hK rfl).below (by omega) hEw.size)
    have hv : W.cell? ⟨w.heap.size, 0, none⟩ = some (.int .u64 (addN 0 (xs.map (·.2)))) := cell_of_row _ _ _ _ _ _ hbx
    rw [hS] at hv
    have HFIN := Lib.hid hfin
    have HK := Lib.hid hK
    clear hfin hK hS TT HI0 hbx
    gi_wp2
    refine ⟨by simp, .inl ⟨_, _, rfl, run_takeDeferred HK.out, ?_⟩⟩
    refine ⟨_, results_tmp rfl _ _ _, ?_⟩
    exact ⟨rfl, HFIN.out⟩
end Go.Proofs.YtamolbegmkngdaaGreatDoor
namespace Go.Proofs.YtamolbegmkngdaaGreatDoor
open Go.RowKit
set_option maxHeartbeats 2000000
set_option maxRecDepth 100000

/-- What is told of a node with so many children: eleven cells. -/
def statC (n : Nd) (k : Int) : Array Value :=
  #[.int .i64 n.czxid, .int .i64 n.mzxid, .int .i64 n.ctime, .int .i64 n.mtime, .int .i32 n.version, .int .i32 (wrap32 (wrap32 (2 * n.creates) - wrap32 k)), .int .i32 n.aversion, .int .i64 n.owner, .int .i32 (wrap32 n.data.length), .int .i32 (wrap32 k), .int .i64 n.pzxid]
def zeroStat : Array Value := #[.int .i64 0, .int .i64 0, .int .i64 0, .int .i64 0, .int .i32 0, .int .i32 0, .int .i32 0, .int .i64 0, .int .i32 0, .int .i32 0, .int .i64 0]
theorem sizeStat : (Tryz.prog.info? 93).map (·.size) = some 11 := by kernel_rfl

theorem statof_any (n : Nd) (da aa : Option Addr) (dc ac : Nat) (k : Int) (w : World) (hf : Fit n) :
    Calls Tryz.prog 117 #[.agg (ndC n (.slice da n.data.length dc) (.slice aa n.acl.length ac)), .int .i64 k] w fun e w' => e = .returned (.agg (statC n k)) ∧ Ext w w' := by
  have hfd := hf.data
  obtain ⟨W1, hW1⟩ : ∃ W1, W1 = w.alloc (.cells (ndC n (.slice da n.data.length dc) (.slice aa n.acl.length ac)) 47) := ⟨_, rfl⟩
  have hE1 : Ext w W1 := by rw [hW1]; exact Ext.alloc _ _
  have hz1 : W1.heap.size = w.heap.size + 1 := by rw [hW1]; simp
  have hb1 : W1.heap[w.heap.size]? = some (.cells (ndC n (.slice da n.data.length dc) (.slice aa n.acl.length ac)) 47 (0, 0)) := by rw [hW1]; exact heap_alloc_new w _
  obtain ⟨W2, hW2⟩ : ∃ W2, W2 = W1.alloc (.cells zeroStat 93) := ⟨_, rfl⟩
  have hE2 : Ext W1 W2 := by rw [hW2]; exact Ext.alloc _ _
  have hz2 : W2.heap.size = w.heap.size + 1 + 1 := by rw [hW2]; simp [hz1]
  have hb2 := (hE2.block w.heap.size (by omega)).trans hb1
  have hs2 : W2.heap[w.heap.size + 1]? = some (.cells zeroStat 93 (0, 0)) := by rw [hW2, ← hz1]; exact heap_alloc_new W1 _
  have hx : Box W2 w.heap.size (ndC n (.slice da n.data.length dc) (.slice aa n.acl.length ac)) := fun j => cell_of_row _ _ _ _ _ _ hb2
  rw [hW2, hW1] at hx hs2
  unfold Box at hx
  unfold ndC zeroStat at hx hs2
  have HS2 := Lib.hid hs2
  clear hb1 hb2 hs2 hE1 hE2 hf hz1 hz2 hW2 hW1
  clear W2
  clear W1
  unfold ndC
  go_enter Tryz.func117, Tryz.ntmps117
  go_wp2
  refine bodyPost_ret (v := .agg (statC n k)) ?_ rfl ⟨rfl, (Ext.alloc _ _).trans (Ext.alloc _ _)⟩
  refine results_cell_row (p := 4) (ty := 93) rfl _ _ (w.heap.size + 1) 93 (statC n k) (0, 0) _ rfl ?_ Tryz.underlying93 rfl sizeStat
  have := heap_alloc_new (w.alloc (.cells (ndC n (.slice da n.data.length dc) (.slice aa n.acl.length ac)) 47)) (.cells (statC n k) 93)
  rw [World.size_alloc] at this
  exact this
end Go.Proofs.YtamolbegmkngdaaGreatDoor
