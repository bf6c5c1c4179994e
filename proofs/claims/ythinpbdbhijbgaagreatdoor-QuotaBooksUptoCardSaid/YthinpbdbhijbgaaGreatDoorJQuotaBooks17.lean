/- The walk of a quota book's settle: what is used changes by what is new less what was, in whatever order the maps are gone through. The walk of the reference's Same at any two nodes. The walk of stat.Same at two copies of a node. The walks of bytes.Equal and slices.Equal (of rights) at any two lists. -/
import Derived.Test.YthinpbdbhijbgaaGreatDoorJQuotaBooks16
import Derived.Test.YthinpbdbhijbgaaGreatDoorJQuotaBooks9
import Derived.Test.YthinpbdbhijbgaaGreatDoorJQuotaBooks7
namespace Go.Proofs.YthinpbdbhijbgaaGreatDoor
open Go.RowKit Go.Sort
set_option maxHeartbeats 8000000
set_option maxRecDepth 100000

section
variable {P : Program} {ops : Array Oper} {rest : List Oper} {o : Oper} {a : Act} {Q : Exit → Act → World → Prop}
/-- The step of a range over a map keyed by strings: the key had not come. -/
theorem wpList_next_s2 (w : World) (hg : o.guard = none) (it : Operand) (hop : o.op = Op.next it false) (kt : TypeId) (hk : P.underlying kt = some .string) (b r n : Nat) (m : List (Key × Value)) (left : Lit → Bool) (cnt : Nat)
    (hit : a.eval it = .pointer (some ⟨r, 0, none⟩)) (h : w.ranges P kt Rv b r n (kvD m) left cnt)
    (hDone : (∀ kl, left kl = false) → wpList P ops Q rest (a.put o.dst (.tuple #[.bool false])) w)
    (hMore : ∀ (s : ByteArray) (v : Value) (w' : World) (cnt' : Nat), s.size ≤ maxLen → left (.string s.data.toList) = true → mget m s.data.toList = some v → w'.ranges P kt Rv b r n (kvD m) (fun z => left z && !z.sameKey (.string s.data.toList)) cnt' → cnt' < cnt →
      w.grownBy w' (some r) → w'.heap.size = w.heap.size → (Instr.entry (.pointer (some ⟨r, 0, none⟩))).run P w' = .ok (.tuple #[.string s, v]) w' → wpList P ops Q rest (a.put o.dst (.tuple #[.bool true, .string s, v])) w') :
    wpList P ops Q (o :: rest) a w :=
  wpList_next_ranges w hg it hop kt (Maps.string_keyed hk) Rv Value.string (id : Value → Value) (fun key kl hkey => by
      simp only [keyOf, hk, mapKey] at hkey
      cases key <;> simp at hkey
      exact ⟨_, rfl⟩) (fun v y _ => ⟨v, rfl⟩) b r n (kvD m) left cnt hit h (fun _ => hDone) fun s v kl y w' cnt' hkey hlf hv hat hrg hlt hgr hsz hen => by
    have hkl : kl = .string s.data.toList ∧ s.size ≤ maxLen := by
      simp only [keyOf, hk, mapKey] at hkey
      split at hkey
      · rename_i hs; exact ⟨(Option.some.inj hkey).symm, hs⟩
      · cases hkey
    obtain ⟨rfl, hs⟩ := hkl
    simp only [Rv, id, Option.some.injEq] at hv
    subst hv
    refine hMore s v w' cnt' hs hlf ?_ hrg hlt hgr hsz hen
    have h1 := hat (.held (.bool true))
    have h2 := hat (.held (.bool false))
    rw [kvD_at] at h1 h2
    simp only [DataW.held.injEq] at h1 h2
    cases hq : mget m s.data.toList with
    | some u => rw [hq] at h1; exact congrArg some h1
    | none => rw [hq] at h1 h2; simp at h1 h2; rw [← h1] at h2; cases h2
end

theorem Mod.grown {b : Nat} {w w' : World} (h : Mod (· = b) w w') : w.grownBy w' (some b) := ⟨h.os, h.tape, h.output, h.size, fun k hk hne => by
  have hk' : w.heap[k]? = some w.heap[k] := Array.getElem?_eq_getElem hk
  rw [hk']
  exact h.same k _ hk' (.inl fun e => hne (by rw [e]))⟩
theorem Mod.iter {S : Nat → Prop} {w0 w w' : World} {r : Nat} (h : Mod S w0 w) (hg : w.grownBy w' (some r)) (hr : w0.heap.size ≤ r) : Mod S w0 w' :=
  ⟨hg.os.trans h.os, hg.tape.trans h.tape, hg.output.trans h.output, Nat.le_trans h.size hg.size, fun k o hk ho => by
    have hlt := (Array.getElem?_eq_some_iff.1 hk).1
    exact (hg.block k (Nat.lt_of_lt_of_le hlt h.size) (fun e => by have := Option.some.inj e; omega)).trans (h.same k o hk ho)⟩
theorem Mod.of_none {S : Nat → Prop} {w w' : World} (hg : w.grownBy w' none) : Mod S w w' := Mod.of_ext ⟨hg.os, hg.tape, hg.output, hg.size, fun k hk => hg.block k hk (by simp)⟩
theorem BookAt.iter {w w' : World} {bb bm r : Nat} {m : List (Key × Value)} (h : BookAt w bb bm m) (hg : w.grownBy w' (some r)) (h1 : bb ≠ r) (h2 : bm ≠ r) : BookAt w' bb bm m :=
  ⟨(hg.block bb (Array.getElem?_eq_some_iff.1 h.1).1 (fun e => h1 (Option.some.inj e))).trans h.1, h.2.keep (hg.block bm h.2.lt (fun e => h2 (Option.some.inj e)))⟩
theorem PairAt.mod {S : Nat → Prop} {w w' : World} {bm b : Nat} {M : List (Key × Nd)} (h : PairAt S w b M) (hM : Mod (· = bm) w w') (hne : b ≠ bm) : PairAt S w' b M := by
  obtain ⟨m, h1, h2⟩ := h
  obtain ⟨es, c, hb⟩ := h1.isMap
  exact ⟨m, h1.keep ((hM.same b _ hb (.inl hne)).trans hb.symm), h2.imp fun _ _ _ hv => hv.imp (fun _ h => h) fun _ _ _ _ hu => hM.cell hu⟩

/-- What is still to come of a map of nodes. -/
def hasK (M : List (Key × Nd)) : Lit → Bool := fun z => M.any fun x => (Lit.string x.1).sameKey z
theorem hasK_of {R : Nd → Value → Prop} {M : List (Key × Nd)} {m : List (Key × Value)} (h : Rel2 R M m) : Maps.has (kvD m) = hasK M := by
  funext z
  have hk := h.keys
  have h1 : ∀ l : List (Key × Value), Maps.has (kvD l) z = (l.map (·.1)).any fun k => (Lit.string k).sameKey z := fun l => by
    simp only [kvD, Maps.has, List.any_map]
    rfl
  have h2 : hasK M z = (M.map (·.1)).any fun k => (Lit.string k).sameKey z := by
    unfold hasK
    rw [List.any_map]
    rfl
  rw [h1, h2, hk]

def dropS (I : List (Key × Nd)) (V : Bk) (p : ByteArray) : Bk := if (mget I p.data.toList).isSome = true then V else mdel V p.data.toList
def setS (P : List (Key × Nd)) (wv : ByteArray → Int × Int) (V : Bk) (p : ByteArray) (n : Nd) : Bk :=
  if n.has = false then mdel V p.data.toList else if (mget V p.data.toList).isSome = false ∨ ((mget P p.data.toList).getD zeroN).has = false then mput V p.data.toList (wv p) else V
/-- What holds between the rounds of settle's three ranges: whatever the order. -/
structure SetJ (P I : List (Key × Nd)) (wv : ByteArray → Int × Int) (U : Bk) (J1 J2 J3 : (Lit → Bool) → Bk → Prop) : Prop where
  i1 : J1 (hasK I) U
  s1 : ∀ left V p n, J1 left V → left (.string p.data.toList) = true → mget I p.data.toList = some n → J1 (fun z => left z && !z.sameKey (.string p.data.toList)) (shiftM V (lineA p) 1 n.data.length)
  i2 : ∀ left V, (∀ k, left k = false) → J1 left V → J2 (hasK P) V
  s2 : ∀ left V p n, J2 left V → left (.string p.data.toList) = true → mget P p.data.toList = some n → J2 (fun z => left z && !z.sameKey (.string p.data.toList)) (dropS I (shiftM V (lineA p) (-1) (-(n.data.length : Int))) p)
  i3 : ∀ left V, (∀ k, left k = false) → J2 left V → J3 (hasK I) V
  s3 : ∀ left V p n, J3 left V → left (.string p.data.toList) = true → mget I p.data.toList = some n → J3 (fun z => left z && !z.sameKey (.string p.data.toList)) (setS P wv V p n)

theorem kvD_size (m : List (Key × Value)) : Maps.size (kvD m) = m.length := by simp [kvD, Maps.size]
theorem mdel_le {α : Type} (M : List (Key × α)) (k : Key) : (mdel M k).length ≤ M.length := List.length_filter_le _ _
theorem mput_le {α : Type} (M : List (Key × α)) (k : Key) (v : α) : (mput M k v).length ≤ M.length + 1 := by
  unfold mput
  rw [mins_length]
  have := mdel_le M k
  omega

/-- A range's rounds. -/
def L2 (bb bm b r K : Nat) (mb : List (Key × Value)) (J : (Lit → Bool) → Bk → Prop) (w wr : World) : Prop := ∃ (left : Lit → Bool) (cnt : Nat) (V : Bk), Hid (wr.ranges Tryz.prog 9 Rv b r mb.length (kvD mb) left cnt) ∧ Hid (J left V) ∧ Hid (BookAt wr bb bm (bookV V)) ∧ Hid (Mod (· = bm) w wr) ∧ V.length ≤ K

theorem run_field_quota (y : Nd) (d a : Option Addr) (l1 l2 c1 c2 : Nat) : ∀ W : World, (Instr.field 44 (.agg (ndC y (.slice d l1 c1) (.slice a l2 c2))) 14).run Tryz.prog W = .ok (.agg #[.bool y.has, .int .i64 y.count, .int .i64 y.bytes]) W := fun W => by kernel_rfl
theorem run_field_has (h : Bool) (c b : Int) : ∀ W : World, (Instr.field 23 (.agg #[.bool h, .int .i64 c, .int .i64 b]) 0).run Tryz.prog W = .ok (.bool h) W := fun W => by kernel_rfl
/-- The last range's rounds. -/
def L3 (bb bm bi r3 K : Nat) (mi : List (Key × Value)) (J3 : (Lit → Bool) → Bk → Prop) (w wr : World) : Prop := ∃ (left : Lit → Bool) (cnt : Nat) (V : Bk), Hid (wr.ranges Tryz.prog 9 Rv bi r3 mi.length (kvD mi) left cnt) ∧ Hid (J3 left V) ∧ Hid (BookAt wr bb bm (bookV V)) ∧ Hid (Mod (· = bm) w wr) ∧ V.length + cnt ≤ K

def SettleOut (bb bm : Nat) (J3 : (Lit → Bool) → Bk → Prop) (w : World) (e : Ending) (w' : World) : Prop :=
  e = .returned (.tuple #[]) ∧ (∃ U' left, (∀ k, left k = false) ∧ J3 left U' ∧ BookAt w' bb bm (bookV U')) ∧ Mod (· = bm) w w'

theorem qsettle_any (S : Nat → Prop) (po : Option Addr) (bb bm bp bi : Nat) (U : Bk) (P I : List (Key × Nd)) (wv : ByteArray → Int × Int) (w : World) (hB : BookAt w bb bm (bookV U)) (hP : PairAt S w bp P) (hI : PairAt S w bi I) (hbp : bp ≠ bm) (hbi : bi ≠ bm) (hS : ∀ k, S k → k < w.heap.size)
    (hfP : ∀ x ∈ P, Fit x.2 ∧ x.1 = keyN x.2) (hfI : ∀ x ∈ I, Fit x.2 ∧ x.1 = keyN x.2) (hl : U.length + I.length < 4611686018427387904) {J1 J2 J3 : (Lit → Bool) → Bk → Prop} (hJ : SetJ P I wv U J1 J2 J3)
    (hWe : ∀ W (p : ByteArray) n, Mod (· = bm) w W → mget I p.data.toList = some n → Calls Tryz.prog 85 #[.pointer po, .string p] W fun e w' => e = .returned (.tuple #[.int .i64 (wv p).1, .int .i64 (wv p).2, .int .i64 0]) ∧ Ext W w') :
    Calls Tryz.prog 103 #[.pointer (some ⟨bb, 0, none⟩), .pointer po, .map (some bp), .map (some bi)] w (SettleOut bb bm J3 w) := by
  have hne : bb ≠ bm := fun e => by
    obtain ⟨es, c, h⟩ := hB.2.isMap
    rw [← e, hB.1] at h
    cases h
  have hbl : bb < w.heap.size := (Array.getElem?_eq_some_iff.1 hB.1).1
  have hml : bm < w.heap.size := hB.2.lt
  have HPI := Lib.hid hI
  have HPP := Lib.hid hP
  obtain ⟨mi, hmi, hri⟩ := hI
  obtain ⟨mp, hmp, hrp⟩ := hP
  have hil := hri.length
  have hi0 := hasK_of hri
  have hp0 := hasK_of hrp
  have hbil := hmi.lt
  have hbpl := hmp.lt
  have HRI := Lib.hid hri
  have HRP := Lib.hid hrp
  have HMI := Lib.hid hmi
  have HMP := Lib.hid hmp
  have HB := Lib.hid hB
  have HJ := Lib.hid hJ
  have HWE := Lib.hid hWe
  have HFI := Lib.hid hfI
  have HFP := Lib.hid hfP
  have HI0 := Lib.hid hi0
  have HP0 := Lib.hid hp0
  have HSb := Lib.hid hS
  have HEL := Lib.hid hil
  clear hri hrp hmp hB hJ hWe hfI hfP hi0 hp0 hS hil
  go_enter Tryz.func103, Tryz.ntmps103
  go_wp2_with (at_range; refine wpList_range_s _ rfl _ 120 rfl 9 44 strT Tryz.underlying120 bi mi rfl hmi ?_; intro w0 hrg0 hg0 hs0)
  go_frame
  rw [HI0.out] at hrg0
  have HRG0 := Lib.hid hrg0
  have hM0 : Mod (· = bm) w w0 := Mod.of_none hg0
  have hB0 : BookAt w0 bb bm (bookV U) := HB.out.ext ⟨hg0.os, hg0.tape, hg0.output, hg0.size, fun k hk => hg0.block k hk (by simp)⟩
  have HM0 := Lib.hid hM0
  have HB0 := Lib.hid hB0
  clear hrg0 hg0 hs0 hM0 hB0 hmi
  go_loopw [] (fun wr => ∃ (left : Lit → Bool) (cnt : Nat) (V : Bk), Hid (wr.ranges Tryz.prog 9 Rv bi w.heap.size mi.length (kvD mi) left cnt) ∧ Hid (J1 left V) ∧ Hid (BookAt wr bb bm (bookV V)) ∧ Hid (Mod (· = bm) w wr) ∧ V.length ≤ U.length) (fun wr => wr.rangeLeft bi w.heap.size)
  case atStart => exact ⟨_, _, U, HRG0.out, HJ.out.i1, HB0.out, HM0.out, Nat.le_refl _⟩
  case round =>
    obtain ⟨left, cnt, V, HRG, HJ1, HBK, HM, hVl⟩ := hrel
    clear HRG0 HB0 HM0
    go_wp2_with (at_next; refine wpList_next_s2 _ rfl _ rfl 9 strT bi w.heap.size _ mi left cnt rfl HRG.out ?_ ?_)
    · intro hl0
      have hJ2 := HJ.out.i2 left V hl0 HJ1.out
      have HJ2 := Lib.hid hJ2
      obtain ⟨es, cc, hbq⟩ := HMP.out.isMap
      have hmp : SMap Tryz.prog 9 wr bp mp := HMP.out.keep ((HM.out.same bp _ hbq (.inl hbp)).trans hbq.symm)
      have hz1 := HM.out.size
      clear hJ2 hbq HRG HJ1 hl0
      go_wp2_with (at_range; refine wpList_range_s _ rfl _ 120 rfl 9 44 strT Tryz.underlying120 bp mp rfl hmp ?_; intro w0 hrg0 hg0 hs0)
      go_frame
      rw [HP0.out] at hrg0
      have HRG0 := Lib.hid hrg0
      have hM0 : Mod (· = bm) w w0 := HM.out.trans (Mod.of_none hg0)
      have hB0 : BookAt w0 bb bm (bookV V) := HBK.out.ext ⟨hg0.os, hg0.tape, hg0.output, hg0.size, fun k hk => hg0.block k hk (by simp)⟩
      have HM0 := Lib.hid hM0
      have HB0 := Lib.hid hB0
      obtain ⟨r2, hr2⟩ : ∃ r2, r2 = wr.heap.size := ⟨_, rfl⟩
      rw [← hr2] at HRG0 ⊢
      rw [← hr2] at hz1
      clear hrg0 hg0 hs0 hM0 hB0 hmp HM HBK hr2
      go_loopw [] (fun wr => L2 bb bm bp r2 U.length mp J2 w wr) (fun wr => wr.rangeLeft bp r2)
      case atStart => exact ⟨_, _, V, HRG0.out, HJ2.out, HB0.out, HM0.out, hVl⟩
      case round =>
        clear hVl HJ2
        obtain ⟨left, cnt, V, HRG, HJ2, HBK, HM, hVl⟩ := hrel
        clear HRG0 HB0 HM0
        go_wp2_with (at_next; refine wpList_next_s2 _ rfl _ rfl 9 strT bp r2 _ mp left cnt rfl HRG.out ?_ ?_)
        · intro hl0
          have hJ3 := HJ.out.i3 left V hl0 HJ2.out
          have HJ3 := Lib.hid hJ3
          obtain ⟨es, cc, hbq⟩ := HMI.out.isMap
          have hmi : SMap Tryz.prog 9 wr bi mi := HMI.out.keep ((HM.out.same bi _ hbq (.inl hbi)).trans hbq.symm)
          have hz1 := HM.out.size
          clear hJ3 hbq HRG HJ2 hl0
          go_wp2_with (at_range; refine wpList_range_s _ rfl _ 120 rfl 9 44 strT Tryz.underlying120 bi mi rfl hmi ?_; intro w0 hrg0 hg0 hs0)
          go_frame
          rw [HI0.out, kvD_size] at hrg0
          have HRG0 := Lib.hid hrg0
          have hM0 : Mod (· = bm) w w0 := HM.out.trans (Mod.of_none hg0)
          have hB0 : BookAt w0 bb bm (bookV V) := HBK.out.ext ⟨hg0.os, hg0.tape, hg0.output, hg0.size, fun k hk => hg0.block k hk (by simp)⟩
          have HM0 := Lib.hid hM0
          have HB0 := Lib.hid hB0
          obtain ⟨r3, hr3⟩ : ∃ r3, r3 = wr.heap.size := ⟨_, rfl⟩
          rw [← hr3] at HRG0 ⊢
          rw [← hr3] at hz1
          clear hrg0 hg0 hs0 hM0 hB0 hmi HM HBK hr3
          go_loopw [] (fun wr => L3 bb bm bi r3 (U.length + mi.length) mi J3 w wr) (fun wr => wr.rangeLeft bi r3)
          case atStart => exact ⟨_, _, V, HRG0.out, HJ3.out, HB0.out, HM0.out, by omega⟩
          case round =>
            clear hVl HJ3
            obtain ⟨left, cnt, V, HRG, HJ3, HBK, HM, hVl⟩ := hrel
            clear HRG0 HB0 HM0
            have hil := HEL.out
            go_wp2_with (at_next; refine wpList_next_s2 _ rfl _ rfl 9 strT bi r3 _ mi left cnt rfl HRG.out ?_ ?_)
            · intro hl0
              have hfin : SettleOut bb bm J3 w (.returned (.tuple #[])) wr := ⟨rfl, ⟨V, left, hl0, HJ3.out, HBK.out⟩, HM.out⟩
              have HFIN := Lib.hid hfin
              clear hfin HRG HJ3 HBK HM hl0
              go_wp2
              exact ⟨rfl, _, results_none rfl _ _ _, HFIN.out⟩
            · intro p v w1 cnt1 hps hlf hmg hrg1 hlt hg1 hs1 hen
              obtain ⟨n, hIn, hNd⟩ : ∃ n, mget I p.data.toList = some n ∧ NdS S w v n := by
                rcases HRI.out.get p.data.toList with ⟨_, h2⟩ | ⟨y, u, h1, h2, h3⟩
                · rw [h2] at hmg; cases hmg
                · rw [h2] at hmg; cases hmg; exact ⟨y, h1, h3⟩
              obtain ⟨hfn, hkn⟩ := HFI.out _ (mget_some_mem hIn)
              have hpp : p.size ≤ 9223372036854775800 := by
                have : p = n.path := ba_ext hkn
                rw [this]; exact hfn.path
              have hdl : n.data.length ≤ 140737488355328 := hfn.data
              obtain ⟨da, dc, aa, ac, rfl, -, -⟩ := hNd
              have hM1 := HM.out.iter hg1 (by omega)
              have hB1 := HBK.out.iter hg1 (by omega) (by omega)
              obtain ⟨W2, hW2⟩ : ∃ W2, W2 = w1.alloc (.cells (ndC n (.slice da n.data.length dc) (.slice aa n.acl.length ac)) 44) := ⟨_, rfl⟩
              have hE2 : Ext w1 W2 := by rw [hW2]; exact Ext.alloc _ _
              have hb2 : W2.heap[w1.heap.size]? = some (.cells (ndC n (.slice da n.data.length dc) (.slice aa n.acl.length ac)) 44 (0, 0)) := by rw [hW2]; exact heap_alloc_new w1 _
              have hrg2 := hrg1.alloc (.cells (ndC n (.slice da n.data.length dc) (.slice aa n.acl.length ac)) 44)
              rw [← hW2] at hrg2

              have hlkb := SMap.look_ok (e := 107) (hB1.ext hE2).2 strT Tryz.underlying163 (z := .agg zeroUsed) (by kernel_rfl) hps
              rw [bookV_get] at hlkb
              have hzu : ((mget V p.data.toList).map usedW).getD (.agg zeroUsed) = usedW ((mget V p.data.toList).getD (0, 0)) := by cases mget V p.data.toList <;> rfl
              rw [hzu, Option.isSome_map] at hlkb
              obtain ⟨c, d, hcd⟩ : ∃ c d, (mget V p.data.toList).getD (0, 0) = (c, d) := ⟨_, _, rfl⟩
              rw [hcd] at hlkb
              have hJn := HJ.out.s3 left V p n HJ3.out hlf hIn
              obtain ⟨X3, hX3⟩ : ∃ X3, X3 = W2.alloc (.cells #[.int .i64 c, .int .i64 d] 107) := ⟨_, rfl⟩
              have hE3 : Ext W2 X3 := by rw [hX3]; exact Ext.alloc _ _
              have hEE := hE2.trans hE3
              have hB2 := hB1.ext hE2
              have hbk2 : W2.cell? ⟨bb, 0, none⟩ = some (.map (some bm)) := cell_of_row _ _ _ _ _ _ hB2.1
              have hB3 := hB1.ext hEE
              have hbk3 : X3.cell? ⟨bb, 0, none⟩ = some (.map (some bm)) := cell_of_row _ _ _ _ _ _ hB3.1
              have hh : X3.cell? ⟨w1.heap.size, 14, none⟩ = some (.bool n.has) := cell_of_row _ _ _ _ _ _ ((hE3.block _ (Array.getElem?_eq_some_iff.1 hb2).1).trans hb2)
              have hMT := hM1.trans (Mod.of_ext hEE)
              have hzX := hMT.size
              have HRG3 := Lib.hid (hrg2.kept ⟨hE3.os, hE3.tape, hE3.output, hE3.size, fun k hk _ => hE3.block k hk⟩ (row := none) (by simp) (by simp))
              have hst : setS P wv V p n = if n.has = false then mdel V p.data.toList else if (mget V p.data.toList).isSome = false ∨ ((mget P p.data.toList).getD zeroN).has = false then mput V p.data.toList (wv p) else V := rfl
              have HST := Lib.hid hst
              have HJN := Lib.hid hJn
              have HIN := Lib.hid hIn
              have HM3 := Lib.hid hMT
              have HB3 := Lib.hid hB3
              have HSET := Lib.hid ((setRow_alloc w1 zeroNd (ndC n (.slice da n.data.length dc) (.slice aa n.acl.length ac)) 44).trans hW2.symm)
              have HNEW := Lib.hid (heap_alloc_new w1 (.cells zeroNd 44))
              have HSET3 := Lib.hid ((setRow_alloc W2 zeroUsed #[.int .i64 c, .int .i64 d] 107).trans hX3.symm)
              have HNEW3 := Lib.hid (heap_alloc_new W2 (.cells zeroUsed 107))
              obtain ⟨v2, hv2, _, hlkw⟩ := (HPP.out.mod hMT hbp).look p hps
              obtain ⟨d1, e1, a1, f1, rfl, -, -⟩ := hv2
              generalize (mget P p.data.toList).getD zeroN = y at *
              generalize (mget V p.data.toList).isSome = st at *
              obtain ⟨hb, hhb⟩ : ∃ hb, hb = n.has := ⟨_, rfl⟩
              rw [← hhb] at hh
              have HHB := Lib.hid hhb.symm
              clear hhb
              have hfq := run_field_quota y d1 a1 y.data.length y.acl.length e1 f1
              unfold ndC at HSET hen hlkw hfq
              unfold zeroNd at HSET HNEW
              unfold zeroUsed at HSET3 HNEW3
              unfold usedW at hlkb
              simp only at hlkb
              clear hM1 hB1 hW2 hE2 hb2 hrg1 hrg2 hg1 hs1 hJn hkn hIn hmg HJ3 HBK HM hzu hcd hX3 hE3 hEE hB2 hB3 hMT hst
              cases hb with
              | false =>
                have HJN : Hid (J3 (fun z => left z && !z.sameKey (.string p.data.toList)) (mdel V p.data.toList)) := by
                  have h := HJN.out
                  rw [HST.out, if_pos HHB.out] at h
                  exact h
                clear HST
                have hS3 := HB3.out.2
                go_wp2_with (first | (refine wpList_store_row rfl 44 (.tmp 15) (.tmp 64) rfl w1.heap.size _ rfl rfl 44 _ HNEW.out sizeNd rfl (cells_node n da aa _ _ dc ac) ?_; rw [HSET.out]) | (refine wpList_store_row rfl 107 (.tmp 16) (.tmp 72) rfl W2.heap.size _ rfl rfl 107 _ HNEW3.out sizeUsed rfl (by simp [Value.oneCell']) ?_; rw [HSET3.out]) | (refine wpList_del _ rfl (.tmp 82) (.tmp 83) 163 9 107 rfl strT Tryz.underlying163 bm (bookV V) hS3 rfl p hps rfl ?_; intro w9 hs9 ht9))
                have hMod : Mod (· = bm) X3 w9 := Mod.turned ht9 rfl
                have hB9 : BookAt w9 bb bm (bookV (mdel V p.data.toList)) := by
                  rw [← bookV_del]
                  exact HB3.out.mod hMod hs9
                have HRG9 := Lib.hid (HRG3.out.kept hMod.grown (fun e => hbi (Option.some.inj e)) (fun e => by have := Option.some.inj e; omega))
                have HB9 := Lib.hid hB9
                have HM9 := Lib.hid (HM3.out.trans hMod)
                have hV9 := mdel_le V p.data.toList
                clear hMod hB9 hs9 ht9 HB3 HM3 HRG3 hS3 hbk3
                go_wp2
                go_roundw
                case rel => exact ⟨_, cnt1, _, HRG9.out, HJN.out, HB9.out, HM9.out, by omega⟩
                case measure => rw [HRG9.out.left_eq, HRG.out.left_eq]; exact hlt
              | true =>
                cases st with
                | false =>
                  have HJN : Hid (J3 (fun z => left z && !z.sameKey (.string p.data.toList)) (mput V p.data.toList (wv p))) := by
                    have h := HJN.out
                    rw [HST.out, if_neg (by rw [HHB.out]; simp), if_pos (.inl rfl)] at h
                    exact h
                  clear HST
                  go_wp2_with (first | (refine wpList_store_row rfl 44 (.tmp 15) (.tmp 64) rfl w1.heap.size _ rfl rfl 44 _ HNEW.out sizeNd rfl (cells_node n da aa _ _ dc ac) ?_; rw [HSET.out]) | (refine wpList_store_row rfl 107 (.tmp 16) (.tmp 72) rfl W2.heap.size _ rfl rfl 107 _ HNEW3.out sizeUsed rfl (by simp [Value.oneCell']) ?_; rw [HSET3.out]))
                  refine wp_region_P (by kernel_rfl) (region_sp_last 104 [.val (.pointer (some ⟨bb, 0, none⟩)), .val (.pointer (some ⟨bb, 0, none⟩)), .val (.pointer (some ⟨bb, 0, none⟩)), .val (.map (some bm)), .val (.string p), .val (.pointer po), .prop (fun v w => ∃ x, v = WeighF x ∧ w.cell? ⟨x, 0, none⟩ = some (.pointer po)), .val (.string p), .val (.agg #[.int .i64 (wv p).1, .int .i64 (wv p).2])] ⟨fun v w w' h hE => by obtain ⟨x, h1, h2⟩ := h; exact ⟨x, h1, (hE.cell (World.block_lt_of_cell? _ _ h2)).trans h2⟩, trivial⟩ 9 _ rfl rfl rfl rfl rfl (by decide) rfl ?duties ?last)
                  case duties =>
                    refine ⟨?_, ?_, ?_, ?_, ?_, ?_, ?_, ?_, ?_, trivial⟩
                    · refine duty_free rfl fun a w' hE hF hA => ?_
                      have x1 := hF.slot 0 _ (by decide) rfl
                      exact wp_value (w' := w') (v := .pointer (some ⟨bb, 0, none⟩)) (by simp only [execOp, x1]; simp [go_sem]) ⟨_, rfl, rfl, Ext.refl _⟩
                    · refine duty_free rfl fun a w' hE hF hA => ?_
                      have x1 := hA.pick 0 95 (.pointer (some ⟨bb, 0, none⟩)) rfl rfl ⟨⟨0, .data⟩, by simp, rfl, rfl⟩ (fun u h => h)
                      exact wp_value (ex_nilCheck rfl _ x1) ⟨_, rfl, rfl, Ext.refl _⟩
                    · refine duty_free rfl fun a w' hE hF hA => ?_
                      have x1 := hA.pick 1 96 (.pointer (some ⟨bb, 0, none⟩)) rfl rfl ⟨⟨1, .data⟩, by simp, rfl, rfl⟩ (fun u h => h)
                      exact wp_value (w' := w') (v := .pointer (some ⟨bb, 0, none⟩)) (by simp only [execOp, x1]; simp [go_sem]) ⟨_, rfl, rfl, Ext.refl _⟩
                    · refine duty_free rfl fun a w' hE hF hA => ?_
                      have x1 := hA.pick 2 97 (.pointer (some ⟨bb, 0, none⟩)) rfl rfl ⟨⟨2, .data⟩, by simp, rfl, rfl⟩ (fun u h => h)
                      exact wp_value (ex_cell rfl _ _ x1 ((hE.cell (World.block_lt_of_cell? _ _ hbk3)).trans hbk3) rfl Tryz.underlying163) ⟨_, rfl, rfl, Ext.refl _⟩
                    · refine duty_free rfl fun a w' hE hF hA => ?_
                      have x1 := hF.slot 14 _ (by decide) rfl
                      exact wp_value (w' := w') (v := .string p) (by simp only [execOp, x1]; simp [go_sem]) ⟨_, rfl, rfl, Ext.refl _⟩
                    · refine duty_free rfl fun a w' hE hF hA => ?_
                      have x1 := hF.slot 1 _ (by decide) rfl
                      exact wp_value (w' := w') (v := .pointer po) (by simp only [execOp, x1]; simp [go_sem]) ⟨_, rfl, rfl, Ext.refl _⟩
                    · refine duty_free rfl fun a w' hE hF hA => ?_
                      have x1 := hA.pick 5 100 (.pointer po) rfl rfl ⟨⟨5, .data⟩, by simp, rfl, rfl⟩ (fun u h => h)
                      refine wp_enter (ex_call rfl (enters_f Tryz.func100 (by kernel_rfl) rfl)) (by simp only [List.map_toArray, List.map_cons, List.map_nil, x1]; exact qweigh_any (.pointer po) ⟨_, rfl⟩ w') ?_
                      rintro e w4 ⟨x, rfl, hx, _, hb⟩
                      exact ⟨_, rfl, _, rfl, ⟨x, rfl, hx⟩, hb⟩
                    · refine duty_free rfl fun a w' hE hF hA => ?_
                      have x1 := hF.slot 14 _ (by decide) rfl
                      exact wp_value (w' := w') (v := .string p) (by simp only [execOp, x1]; simp [go_sem]) ⟨_, rfl, rfl, Ext.refl _⟩
                    · refine duty_free rfl fun a w' hE hF hA => ?_
                      have p1 : (fun v w => ∃ x, v = WeighF x ∧ w.cell? ⟨x, 0, none⟩ = some (.pointer po)) (a.eval (.tmp 101)) w' := hA.slot 6 101 rfl rfl ⟨⟨6, .data⟩, by simp, rfl, rfl⟩
                      have x2 := hA.pick 7 102 (.string p) rfl rfl ⟨⟨7, .data⟩, by simp, rfl, rfl⟩ (fun u h => h)
                      obtain ⟨x, x1, hx⟩ := p1
                      refine wp_enter (ex_callv rfl x1 (enters_f Tryz.func156 (by kernel_rfl) rfl)) (by simp only [List.map_toArray, List.map_cons, List.map_nil, List.append_toArray, List.cons_append, List.nil_append, x2]; exact qweigh1_any x (.pointer po) p _ _ 0 w' hx fun W2 h2 => HWE.out W2 p n (HM3.out.trans (Mod.of_ext (hE.trans h2))) HIN.out) ?_; rintro e w4 ⟨rfl, hb⟩; exact ⟨_, rfl, _, rfl, rfl, hb⟩
                  case last =>
                    intro W8 hE8
                    simp only [forS]
                    intro u hu
                    clear hu
                    have HRG8 := Lib.hid (HRG3.out.kept ⟨hE8.os, hE8.tape, hE8.output, hE8.size, fun k hk _ => hE8.block k hk⟩ (row := none) (by simp) (by simp))
                    have HB8 := Lib.hid (HB3.out.ext hE8)
                    have HM8 := Lib.hid (HM3.out.trans (Mod.of_ext hE8))
                    have hVm : (bookV V).length < maxLen := by rw [bookV_len]; unfold maxLen; omega
                    clear hE8 HB3 HM3 HRG3 hbk3
                    simp only [filled, List.take_succ_cons, List.take_zero, List.zip_cons_cons, List.zip_nil_left, List.foldl_cons, List.foldl_nil, Act.put, List.setIfInBounds_toArray, List.set_cons_succ, List.set_cons_zero]
                    change Oper.wp _ ⟨none, _, _, _, _, _⟩ _ _ _ _
                    refine oper_put (.tmp 98) (.tmp 99) (.tmp 103) 163 rfl 9 107 strT Tryz.underlying163 bm (bookV V) HB8.out.2 hVm rfl p hps rfl _ rfl ?_
                    intro W9 hS9 hT9
                    have hMod : Mod (· = bm) W8 W9 := Mod.turned hT9 rfl
                    have hB9 : BookAt W9 bb bm (bookV (mput V p.data.toList (wv p))) := by
                      rw [← bookV_put]
                      exact HB8.out.mod hMod hS9
                    have HRG9 := Lib.hid (HRG8.out.kept hMod.grown (fun e => hbi (Option.some.inj e)) (fun e => by have := Option.some.inj e; omega))
                    have HB9 := Lib.hid hB9
                    have HM9 := Lib.hid (HM8.out.trans hMod)
                    have hV9 := mput_le V p.data.toList (wv p)
                    clear hMod hB9 hS9 hT9 HB8 HM8 HRG8
                    simp only [Exit.inBlock, Act.put]
                    go_wp2
                    go_roundw
                    case rel => exact ⟨_, cnt1, _, HRG9.out, HJN.out, HB9.out, HM9.out, by omega⟩
                    case measure => rw [HRG9.out.left_eq, HRG.out.left_eq]; exact hlt
                | true =>
                  cases hyh : y.has with
                  | false =>
                    rw [hyh] at hlkw hfq
                    have hfh := run_field_has false y.count y.bytes
                    have HJN : Hid (J3 (fun z => left z && !z.sameKey (.string p.data.toList)) (mput V p.data.toList (wv p))) := by
                      have h := HJN.out
                      rw [HST.out, if_neg (by rw [HHB.out]; simp), if_pos (.inr hyh)] at h
                      exact h
                    clear HST
                    go_wp2_with (first | (refine wpList_store_row rfl 44 (.tmp 15) (.tmp 64) rfl w1.heap.size _ rfl rfl 44 _ HNEW.out sizeNd rfl (cells_node n da aa _ _ dc ac) ?_; rw [HSET.out]) | (refine wpList_store_row rfl 107 (.tmp 16) (.tmp 72) rfl W2.heap.size _ rfl rfl 107 _ HNEW3.out sizeUsed rfl (by simp [Value.oneCell']) ?_; rw [HSET3.out]))
                    refine wp_region_P (by kernel_rfl) (region_sp_last 104 [.val (.pointer (some ⟨bb, 0, none⟩)), .val (.pointer (some ⟨bb, 0, none⟩)), .val (.pointer (some ⟨bb, 0, none⟩)), .val (.map (some bm)), .val (.string p), .val (.pointer po), .prop (fun v w => ∃ x, v = WeighF x ∧ w.cell? ⟨x, 0, none⟩ = some (.pointer po)), .val (.string p), .val (.agg #[.int .i64 (wv p).1, .int .i64 (wv p).2])] ⟨fun v w w' h hE => by obtain ⟨x, h1, h2⟩ := h; exact ⟨x, h1, (hE.cell (World.block_lt_of_cell? _ _ h2)).trans h2⟩, trivial⟩ 9 _ rfl rfl rfl rfl rfl (by decide) rfl ?duties ?last)
                    case duties =>
                      refine ⟨?_, ?_, ?_, ?_, ?_, ?_, ?_, ?_, ?_, trivial⟩
                      · refine duty_free rfl fun a w' hE hF hA => ?_
                        have x1 := hF.slot 0 _ (by decide) rfl
                        exact wp_value (w' := w') (v := .pointer (some ⟨bb, 0, none⟩)) (by simp only [execOp, x1]; simp [go_sem]) ⟨_, rfl, rfl, Ext.refl _⟩
                      · refine duty_free rfl fun a w' hE hF hA => ?_
                        have x1 := hA.pick 0 95 (.pointer (some ⟨bb, 0, none⟩)) rfl rfl ⟨⟨0, .data⟩, by simp, rfl, rfl⟩ (fun u h => h)
                        exact wp_value (ex_nilCheck rfl _ x1) ⟨_, rfl, rfl, Ext.refl _⟩
                      · refine duty_free rfl fun a w' hE hF hA => ?_
                        have x1 := hA.pick 1 96 (.pointer (some ⟨bb, 0, none⟩)) rfl rfl ⟨⟨1, .data⟩, by simp, rfl, rfl⟩ (fun u h => h)
                        exact wp_value (w' := w') (v := .pointer (some ⟨bb, 0, none⟩)) (by simp only [execOp, x1]; simp [go_sem]) ⟨_, rfl, rfl, Ext.refl _⟩
                      · refine duty_free rfl fun a w' hE hF hA => ?_
                        have x1 := hA.pick 2 97 (.pointer (some ⟨bb, 0, none⟩)) rfl rfl ⟨⟨2, .data⟩, by simp, rfl, rfl⟩ (fun u h => h)
                        exact wp_value (ex_cell rfl _ _ x1 ((hE.cell (World.block_lt_of_cell? _ _ hbk3)).trans hbk3) rfl Tryz.underlying163) ⟨_, rfl, rfl, Ext.refl _⟩
                      · refine duty_free rfl fun a w' hE hF hA => ?_
                        have x1 := hF.slot 14 _ (by decide) rfl
                        exact wp_value (w' := w') (v := .string p) (by simp only [execOp, x1]; simp [go_sem]) ⟨_, rfl, rfl, Ext.refl _⟩
                      · refine duty_free rfl fun a w' hE hF hA => ?_
                        have x1 := hF.slot 1 _ (by decide) rfl
                        exact wp_value (w' := w') (v := .pointer po) (by simp only [execOp, x1]; simp [go_sem]) ⟨_, rfl, rfl, Ext.refl _⟩
                      · refine duty_free rfl fun a w' hE hF hA => ?_
                        have x1 := hA.pick 5 100 (.pointer po) rfl rfl ⟨⟨5, .data⟩, by simp, rfl, rfl⟩ (fun u h => h)
                        refine wp_enter (ex_call rfl (enters_f Tryz.func100 (by kernel_rfl) rfl)) (by simp only [List.map_toArray, List.map_cons, List.map_nil, x1]; exact qweigh_any (.pointer po) ⟨_, rfl⟩ w') ?_
                        rintro e w4 ⟨x, rfl, hx, _, hb⟩
                        exact ⟨_, rfl, _, rfl, ⟨x, rfl, hx⟩, hb⟩
                      · refine duty_free rfl fun a w' hE hF hA => ?_
                        have x1 := hF.slot 14 _ (by decide) rfl
                        exact wp_value (w' := w') (v := .string p) (by simp only [execOp, x1]; simp [go_sem]) ⟨_, rfl, rfl, Ext.refl _⟩
                      · refine duty_free rfl fun a w' hE hF hA => ?_
                        have p1 : (fun v w => ∃ x, v = WeighF x ∧ w.cell? ⟨x, 0, none⟩ = some (.pointer po)) (a.eval (.tmp 101)) w' := hA.slot 6 101 rfl rfl ⟨⟨6, .data⟩, by simp, rfl, rfl⟩
                        have x2 := hA.pick 7 102 (.string p) rfl rfl ⟨⟨7, .data⟩, by simp, rfl, rfl⟩ (fun u h => h)
                        obtain ⟨x, x1, hx⟩ := p1
                        refine wp_enter (ex_callv rfl x1 (enters_f Tryz.func156 (by kernel_rfl) rfl)) (by simp only [List.map_toArray, List.map_cons, List.map_nil, List.append_toArray, List.cons_append, List.nil_append, x2]; exact qweigh1_any x (.pointer po) p _ _ 0 w' hx fun W2 h2 => HWE.out W2 p n (HM3.out.trans (Mod.of_ext (hE.trans h2))) HIN.out) ?_; rintro e w4 ⟨rfl, hb⟩; exact ⟨_, rfl, _, rfl, rfl, hb⟩
                    case last =>
                      intro W8 hE8
                      simp only [forS]
                      intro u hu
                      clear hu
                      have HRG8 := Lib.hid (HRG3.out.kept ⟨hE8.os, hE8.tape, hE8.output, hE8.size, fun k hk _ => hE8.block k hk⟩ (row := none) (by simp) (by simp))
                      have HB8 := Lib.hid (HB3.out.ext hE8)
                      have HM8 := Lib.hid (HM3.out.trans (Mod.of_ext hE8))
                      have hVm : (bookV V).length < maxLen := by rw [bookV_len]; unfold maxLen; omega
                      clear hE8 HB3 HM3 HRG3 hbk3
                      simp only [filled, List.take_succ_cons, List.take_zero, List.zip_cons_cons, List.zip_nil_left, List.foldl_cons, List.foldl_nil, Act.put, List.setIfInBounds_toArray, List.set_cons_succ, List.set_cons_zero]
                      change Oper.wp _ ⟨none, _, _, _, _, _⟩ _ _ _ _
                      refine oper_put (.tmp 98) (.tmp 99) (.tmp 103) 163 rfl 9 107 strT Tryz.underlying163 bm (bookV V) HB8.out.2 hVm rfl p hps rfl _ rfl ?_
                      intro W9 hS9 hT9
                      have hMod : Mod (· = bm) W8 W9 := Mod.turned hT9 rfl
                      have hB9 : BookAt W9 bb bm (bookV (mput V p.data.toList (wv p))) := by
                        rw [← bookV_put]
                        exact HB8.out.mod hMod hS9
                      have HRG9 := Lib.hid (HRG8.out.kept hMod.grown (fun e => hbi (Option.some.inj e)) (fun e => by have := Option.some.inj e; omega))
                      have HB9 := Lib.hid hB9
                      have HM9 := Lib.hid (HM8.out.trans hMod)
                      have hV9 := mput_le V p.data.toList (wv p)
                      clear hMod hB9 hS9 hT9 HB8 HM8 HRG8
                      simp only [Exit.inBlock, Act.put]
                      go_wp2
                      go_roundw
                      case rel => exact ⟨_, cnt1, _, HRG9.out, HJN.out, HB9.out, HM9.out, by omega⟩
                      case measure => rw [HRG9.out.left_eq, HRG.out.left_eq]; exact hlt
                  | true =>
                    rw [hyh] at hlkw hfq
                    have hfh := run_field_has true y.count y.bytes
                    have HJN : Hid (J3 (fun z => left z && !z.sameKey (.string p.data.toList)) (V)) := by
                      have h := HJN.out
                      rw [HST.out, if_neg (by rw [HHB.out]; simp), if_neg (by rw [hyh]; simp)] at h
                      exact h
                    clear HST
                    go_wp2_with (first | (refine wpList_store_row rfl 44 (.tmp 15) (.tmp 64) rfl w1.heap.size _ rfl rfl 44 _ HNEW.out sizeNd rfl (cells_node n da aa _ _ dc ac) ?_; rw [HSET.out]) | (refine wpList_store_row rfl 107 (.tmp 16) (.tmp 72) rfl W2.heap.size _ rfl rfl 107 _ HNEW3.out sizeUsed rfl (by simp [Value.oneCell']) ?_; rw [HSET3.out]))
                    go_roundw
                    case rel => exact ⟨_, cnt1, _, HRG3.out, HJN.out, HB3.out, HM3.out, by omega⟩
                    case measure => rw [HRG3.out.left_eq, HRG.out.left_eq]; exact hlt
        · intro p v w1 cnt1 hps hlf hmg hrg1 hlt hg1 hs1 hen
          obtain ⟨n, hIn, hNd⟩ : ∃ n, mget P p.data.toList = some n ∧ NdS S w v n := by
            rcases HRP.out.get p.data.toList with ⟨_, h2⟩ | ⟨y, u, h1, h2, h3⟩
            · rw [h2] at hmg; cases hmg
            · rw [h2] at hmg; cases hmg; exact ⟨y, h1, h3⟩
          obtain ⟨hfn, hkn⟩ := HFP.out _ (mget_some_mem hIn)
          have hpp : p.size ≤ 9223372036854775800 := by
            have : p = n.path := ba_ext hkn
            rw [this]; exact hfn.path
          have hdl : n.data.length ≤ 140737488355328 := hfn.data
          obtain ⟨da, dc, aa, ac, rfl, -, -⟩ := hNd
          have hM1 := HM.out.iter hg1 (by omega)
          have hB1 := HBK.out.iter hg1 (by omega) (by omega)
          obtain ⟨W2, hW2⟩ : ∃ W2, W2 = w1.alloc (.cells (ndC n (.slice da n.data.length dc) (.slice aa n.acl.length ac)) 44) := ⟨_, rfl⟩
          have hE2 : Ext w1 W2 := by rw [hW2]; exact Ext.alloc _ _
          have hb2 : W2.heap[w1.heap.size]? = some (.cells (ndC n (.slice da n.data.length dc) (.slice aa n.acl.length ac)) 44 (0, 0)) := by rw [hW2]; exact heap_alloc_new w1 _
          have hrg2 := hrg1.alloc (.cells (ndC n (.slice da n.data.length dc) (.slice aa n.acl.length ac)) 44)
          rw [← hW2] at hrg2

          have hc1 : W2.cell? ⟨w1.heap.size, 1, none⟩ = some (.slice da n.data.length dc) := cell_of_row _ _ _ _ _ _ hb2
          have CS := Lib.hid (qshift_any bb bm V W2 (hB1.ext hE2) (by unfold maxLen; omega) p hpp (-1) (-(n.data.length : Int)))
          have hsp := shiftM_spec (-1) (-(n.data.length : Int)) (lineA p) V (HBK.out.sorted)
          have hJn := HJ.out.s2 left V p n HJ2.out hlf hIn
          have hneg : wrap64 (-(n.data.length : Int)) = -(n.data.length : Int) := by unfold wrap64; omega
          have HJN := Lib.hid hJn
          have HRG2 := Lib.hid hrg2
          have HM2 := Lib.hid (hM1.trans (Mod.of_ext hE2))
          have HSET := Lib.hid ((setRow_alloc w1 zeroNd (ndC n (.slice da n.data.length dc) (.slice aa n.acl.length ac)) 44).trans hW2.symm)
          have HNEW := Lib.hid (heap_alloc_new w1 (.cells zeroNd 44))
          unfold ndC at HSET hen
          unfold zeroNd at HSET HNEW
          clear hM1 hB1 hW2 hE2 hb2 hrg1 hrg2 hg1 hs1 hJn hkn hIn hmg HJ2 HBK HM
          go_wp2_with (refine wpList_store_row rfl 44 (.tmp 11) (.tmp 37) rfl w1.heap.size _ rfl rfl 44 _ HNEW.out sizeNd rfl (cells_node n da aa _ _ dc ac) ?_; rw [HSET.out])
          refine CS.out.mono ?_
          rintro e X ⟨rfl, hBX, hMX⟩
          have hBX : BookAt X bb bm (bookV (shiftM V (lineA p) (-1) (-(n.data.length : Int)))) := hBX
          have hMX : Mod (· = bm) W2 X := hMX
          have hMT : Mod (· = bm) w X := HM2.out.trans hMX
          have hrgx := HRG2.out.kept hMX.grown (fun e => hbp (Option.some.inj e)) (fun e => by have := Option.some.inj e; omega)
          generalize shiftM V (lineA p) (-1) (-(n.data.length : Int)) = V1 at *
          have hV1l : V1.length ≤ U.length := by rw [hsp.2]; exact hVl
          obtain ⟨v2, hv2, hlk, _⟩ := (HPI.out.mod hMT hbi).look p hps
          have hzX := hMT.size
          obtain ⟨d1, e1, a1, f1, X3, e0, hset3, hbx3, hEX3, _, _⟩ := box_node hv2 fun k hk => by have := HSb.out k hk; omega
          subst e0
          generalize (mget I p.data.toList).getD zeroN = y at *
          have hdr : dropS I V1 p = if (mget I p.data.toList).isSome = true then V1 else mdel V1 p.data.toList := rfl
          generalize (mget I p.data.toList).isSome = st at *
          have hB3 := hBX.ext hEX3
          have hbk3 : X3.cell? ⟨bb, 0, none⟩ = some (.map (some bm)) := cell_of_row _ _ _ _ _ _ hB3.1
          have HSET3 := Lib.hid hset3
          have HNEW3 := Lib.hid (heap_alloc_new X (.cells zeroNd 44))
          have HB3 := Lib.hid hB3
          have HM3 := Lib.hid (hMT.trans (Mod.of_ext hEX3))
          have HRG3 := Lib.hid (hrgx.kept ⟨hEX3.os, hEX3.tape, hEX3.output, hEX3.size, fun k hk _ => hEX3.block k hk⟩ (row := none) (by simp) (by simp))
          have HDR := Lib.hid hdr
          unfold ndC at HSET3 hlk
          unfold zeroNd at HSET3 HNEW3
          clear CS hBX hMX hMT HRG2 HM2 hrgx hv2 hset3 hbx3 hEX3 hB3 hdr hsp HNEW HSET
          cases st with
          | true =>
            have HJN : Hid (J2 (fun z => left z && !z.sameKey (.string p.data.toList)) V1) := by
              have h := HJN.out
              rw [HDR.out, if_pos rfl] at h
              exact h
            clear HDR
            go_wp2_with (refine wpList_store_row rfl 44 (.tmp 12) (.tmp 49) rfl X.heap.size _ rfl rfl 44 _ HNEW3.out sizeNd rfl (cells_node y d1 a1 _ _ e1 f1) ?_; rw [HSET3.out])
            go_roundw
            case rel => exact ⟨_, cnt1, V1, HRG3.out, HJN.out, HB3.out, HM3.out, hV1l⟩
            case measure => rw [HRG3.out.left_eq, HRG.out.left_eq]; exact hlt
          | false =>
            have HJN : Hid (J2 (fun z => left z && !z.sameKey (.string p.data.toList)) (mdel V1 p.data.toList)) := by
              have h := HJN.out
              rw [HDR.out, if_neg (by simp)] at h
              exact h
            clear HDR
            have hS3 := HB3.out.2
            go_wp2_with (first | (refine wpList_store_row rfl 44 (.tmp 12) (.tmp 49) rfl X.heap.size _ rfl rfl 44 _ HNEW3.out sizeNd rfl (cells_node y d1 a1 _ _ e1 f1) ?_; rw [HSET3.out]) | (refine wpList_del _ rfl (.tmp 56) (.tmp 57) 163 9 107 rfl strT Tryz.underlying163 bm (bookV V1) hS3 rfl p hps rfl ?_; intro w9 hs9 ht9))
            have hMod : Mod (· = bm) X3 w9 := Mod.turned ht9 rfl
            have hB9 : BookAt w9 bb bm (bookV (mdel V1 p.data.toList)) := by
              rw [← bookV_del]
              exact HB3.out.mod hMod hs9
            have HRG9 := Lib.hid (HRG3.out.kept hMod.grown (fun e => hbp (Option.some.inj e)) (fun e => by have := Option.some.inj e; omega))
            have HB9 := Lib.hid hB9
            have HM9 := Lib.hid (HM3.out.trans hMod)
            have hV9 := mdel_le V1 p.data.toList
            clear hMod hB9 hs9 ht9 HB3 HM3 HRG3 hS3 hbk3 hlk
            simp only [Act.put]
            go_wp2
            go_roundw
            case rel => exact ⟨_, cnt1, _, HRG9.out, HJN.out, HB9.out, HM9.out, by omega⟩
            case measure => rw [HRG9.out.left_eq, HRG.out.left_eq]; exact hlt
    · intro p v w1 cnt1 hps hlf hmg hrg1 hlt hg1 hs1 hen
      obtain ⟨n, hIn, hNd⟩ : ∃ n, mget I p.data.toList = some n ∧ NdS S w v n := by
        rcases HRI.out.get p.data.toList with ⟨_, h2⟩ | ⟨y, u, h1, h2, h3⟩
        · rw [h2] at hmg; cases hmg
        · rw [h2] at hmg; cases hmg; exact ⟨y, h1, h3⟩
      obtain ⟨hfn, hkn⟩ := HFI.out _ (mget_some_mem hIn)
      have hpp : p.size ≤ 9223372036854775800 := by
        have : p = n.path := ba_ext hkn
        rw [this]; exact hfn.path
      have hdl := hfn.data
      obtain ⟨da, dc, aa, ac, rfl, _, _⟩ := hNd
      have hM1 := HM.out.iter hg1 (Nat.le_refl _)
      have hB1 := HBK.out.iter hg1 (by omega) (by omega)
      obtain ⟨W2, hW2⟩ : ∃ W2, W2 = w1.alloc (.cells (ndC n (.slice da n.data.length dc) (.slice aa n.acl.length ac)) 44) := ⟨_, rfl⟩
      have hE2 : Ext w1 W2 := by rw [hW2]; exact Ext.alloc _ _
      have hb2 : W2.heap[w1.heap.size]? = some (.cells (ndC n (.slice da n.data.length dc) (.slice aa n.acl.length ac)) 44 (0, 0)) := by rw [hW2]; exact heap_alloc_new w1 _
      have hc1 : W2.cell? ⟨w1.heap.size, 1, none⟩ = some (.slice da n.data.length dc) := cell_of_row _ _ _ _ _ _ hb2
      have hrg2 := hrg1.alloc (.cells (ndC n (.slice da n.data.length dc) (.slice aa n.acl.length ac)) 44)
      rw [← hW2] at hrg2
      have CS := Lib.hid (qshift_any bb bm V W2 (hB1.ext hE2) (by unfold maxLen; omega) p hpp 1 n.data.length)
      have hsp := shiftM_spec 1 n.data.length (lineA p) V (HBK.out.sorted)
      have hJn := HJ.out.s1 left V p n HJ1.out hlf hIn
      have HJN := Lib.hid hJn
      have HRG2 := Lib.hid hrg2
      have HM2 := Lib.hid (hM1.trans (Mod.of_ext hE2))
      have HSET := Lib.hid ((setRow_alloc w1 zeroNd (ndC n (.slice da n.data.length dc) (.slice aa n.acl.length ac)) 44).trans hW2.symm)
      have HNEW := Lib.hid (heap_alloc_new w1 (.cells zeroNd 44))
      unfold ndC at HSET hen
      unfold zeroNd at HSET HNEW
      clear hM1 hB1 hW2 hE2 hb2 hrg1 hrg2 hg1 hs1 hJn hkn hIn hmg HJ1 HBK HM
      go_wp2_with (refine wpList_store_row rfl 44 (.tmp 9) (.tmp 24) rfl w1.heap.size _ rfl rfl 44 _ HNEW.out sizeNd rfl (cells_node n da aa _ _ dc ac) ?_; rw [HSET.out])
      refine CS.out.mono ?_
      rintro e X ⟨rfl, hBX, hMX⟩
      have hBX : BookAt X bb bm (bookV (shiftM V (lineA p) 1 n.data.length)) := hBX
      have hMX : Mod (· = bm) W2 X := hMX
      have HRGX := Lib.hid (HRG2.out.kept hMX.grown (fun e => hbi (Option.some.inj e)) (fun e => by have := Option.some.inj e; omega))
      have HBX := Lib.hid hBX
      have HMX := Lib.hid (HM2.out.trans hMX)
      clear CS hBX hMX HRG2 HM2
      go_wp2
      go_roundw
      case rel => exact ⟨_, cnt1, _, HRGX.out, HJN.out, HBX.out, HMX.out, by rw [hsp.2]; exact hVl⟩
      case measure => rw [HRGX.out.left_eq, HRG.out.left_eq]; exact hlt
end Go.Proofs.YthinpbdbhijbgaaGreatDoor
namespace Go.Proofs.YthinpbdbhijbgaaGreatDoor
open Go.RowKit
set_option maxHeartbeats 4000000
set_option maxRecDepth 100000

/-- Are two nodes one? -/
noncomputable def sameN (x y : Nd) : Bool := @decide (x = y) (Classical.propDecidable _)
theorem sameN_self (x : Nd) : sameN x x = true := by simp [sameN]
theorem sameN_not {x y : Nd} (h : x ≠ y) : sameN x y = false := by simp [sameN, h]
theorem ba_ext0 {a b : ByteArray} (h : a.data.toList = b.data.toList) : a = b := ByteArray.ext (Array.toList_inj.1 h)
theorem eqAc_eq {x y : Ac} (h : eqAc x y = true) : x = y := by
  unfold eqAc at h
  simp only [Bool.and_eq_true, beq_iff_eq, ByteArray.toList_eq] at h
  obtain ⟨h1, h2, h3⟩ := h
  cases x; cases y
  simp only at h1 h2 h3
  rw [h1, ba_ext0 h2, ba_ext0 h3]
theorem eqAcs_eq : ∀ {xs ys : List Ac}, eqAcs xs ys = true → xs = ys
  | [], [], _ => rfl
  | [], _ :: _, h => by simp [eqAcs] at h
  | _ :: _, [], h => by simp [eqAcs] at h
  | x :: xs, y :: ys, h => by
    simp only [eqAcs, Bool.and_eq_true] at h
    rw [eqAc_eq h.1, eqAcs_eq h.2]

theorem rsame_any (x y : Nd) (da aa db ab : Option Addr) (dc ac dd ad : Nat) (w : World) (hf : Fit x) (hf' : Fit y) (hD : Cells w.heap.size w da (x.data.map u8v)) (hA : Cells w.heap.size w aa (acCs x.acl)) (hD' : Cells w.heap.size w db (y.data.map u8v)) (hA' : Cells w.heap.size w ab (acCs y.acl)) :
    Calls Tryz.prog 55 #[.agg (ndC x (.slice da x.data.length dc) (.slice aa x.acl.length ac)), .agg (ndC y (.slice db y.data.length dd) (.slice ab y.acl.length ad))] w fun e w' => e = .returned (.bool (sameN x y)) ∧ Below w.heap.size w w' := by
  by_cases hxy : x = y
  · subst hxy
    rw [sameN_self]
    exact rsame_self x da aa db ab dc ac dd ad w hf hD hA hD' hA'
  rw [sameN_not hxy]
  have hfa := hf.acl
  have hfb := hf'.acl
  obtain ⟨W2, hW2⟩ : ∃ W2, W2 = (w.alloc (.cells (ndC x (.slice da x.data.length dc) (.slice aa x.acl.length ac)) 44)).alloc (.cells (ndC y (.slice db y.data.length dd) (.slice ab y.acl.length ad)) 44) := ⟨_, rfl⟩
  have hs2 : W2.heap.size = w.heap.size + 1 + 1 := by rw [hW2]; simp
  have hb2 : Below w.heap.size w W2 := by rw [hW2]; exact ((Below.refl _ _).alloc (Nat.le_refl _) _).alloc (by simp) _
  have hx : Box W2 w.heap.size (ndC x (.slice da x.data.length dc) (.slice aa x.acl.length ac)) := fun j => by rw [hW2]; exact cell_of_row _ _ _ _ _ _ (heap_alloc2_old w _ _)
  have hy : Box W2 (w.heap.size + 1) (ndC y (.slice db y.data.length dd) (.slice ab y.acl.length ad)) := fun j => by rw [hW2]; exact cell_of_row _ _ _ _ _ _ (heap_alloc2_new w _ _)
  have hv1 := conv_string dc (hD.below hb2)
  have hv2 := conv_string dd (hD'.below hb2)
  have CA := racls_any aa ab ac ad x.acl y.acl W2 ((hA.below hb2).mono (by omega)) ((hA'.below hb2).mono (by omega)) (by omega) (by omega)
  have hgq := guard_q
  have hnq := neq_q
  rw [hW2] at hv1 hv2 CA
  clear hD hA hD' hA' hf hf'
  obtain ⟨x_path, x_data, x_acl, x_owner, x_czxid, x_mzxid, x_pzxid, x_azxid, x_qzxid, x_ctime, x_mtime, x_version, x_creates, x_aversion, x_has, x_count, x_bytes⟩ := x
  obtain ⟨y_path, y_data, y_acl, y_owner, y_czxid, y_mzxid, y_pzxid, y_azxid, y_qzxid, y_ctime, y_mtime, y_version, y_creates, y_aversion, y_has, y_count, y_bytes⟩ := y
  simp only at hx hy hv1 hv2 CA hW2 hfa hfb
  by_cases q : x_data = y_data
  rotate_left
  · have f1 : (x_data != y_data) = true := by simpa using q
    have f2 : (x_data == y_data) = false := by simpa using q
    have hbw := hb2
    rw [hW2] at hbw
    unfold ndC at hbw
    clear CA hxy
    have HW2 := Lib.hid hW2
    unfold Box ndC at hx hy
    unfold ndC at hv1 hv2 HW2 ⊢
    clear hW2
    rw [HW2.out] at hx hy
    go_enter Tryz.func55, Tryz.ntmps55
    go_wp2
    go_ret
    exact ⟨rfl, hbw⟩
  subst q
  by_cases q : x_acl = y_acl
  rotate_left
  · rw [show eqAcs x_acl y_acl = false from Bool.eq_false_iff.2 fun h => q (eqAcs_eq h)] at CA
    have CA := Lib.hid CA
    clear hxy q
    have HW2 := Lib.hid hW2
    unfold ndC at hx hy hv1 hv2 CA HW2 ⊢
    clear hW2
    go_enter Tryz.func55, Tryz.ntmps55
    go_wp2_with fail
    refine CA.out.mono ?_
    rintro e w3 ⟨rfl, hb3⟩
    rw [← HW2.out] at hb3
    have hx3 := hx.below hb3 (by omega)
    have hy3 := hy.below hb3 (by omega)
    have hbb := hb2.trans (hb3.mono (by omega))
    unfold Box at hx3 hy3
    clear CA hx hy hv1 hv2 hb3 hb2 HW2
    go_wp2
    go_ret
    exact ⟨rfl, hbb⟩
  subst q
  by_cases q : x_path = y_path
  rotate_left
  · have f1 : (x_path.toList != y_path.toList) = true := by simp only [ByteArray.toList_eq, bne_iff_ne, ne_eq]; exact fun h => q (ba_ext0 h)
    have f2 : (x_path.toList == y_path.toList) = false := by simp only [ByteArray.toList_eq, beq_eq_false_iff_ne, ne_eq]; exact fun h => q (ba_ext0 h)
    rw [eqAcs_self] at CA
    have hqq : ∀ h a b, eqQ h a b h a b = true := fun h a b => by simp [eqQ]
    have CA := Lib.hid CA
    clear hxy q
    have HW2 := Lib.hid hW2
    unfold ndC at hx hy hv1 hv2 CA HW2 ⊢
    clear hW2
    go_enter Tryz.func55, Tryz.ntmps55
    go_wp2_with fail
    refine CA.out.mono ?_
    rintro e w3 ⟨rfl, hb3⟩
    rw [← HW2.out] at hb3
    have hx3 := hx.below hb3 (by omega)
    have hy3 := hy.below hb3 (by omega)
    have hbb := hb2.trans (hb3.mono (by omega))
    unfold Box at hx3 hy3
    clear CA hx hy hv1 hv2 hb3 hb2 HW2
    go_wp2
    go_ret
    exact ⟨rfl, hbb⟩
  subst q
  by_cases q : x_owner = y_owner
  rotate_left
  · have f1 : (x_owner != y_owner) = true := by simpa using q
    have f2 : (x_owner == y_owner) = false := by simpa using q
    rw [eqAcs_self] at CA
    have hqq : ∀ h a b, eqQ h a b h a b = true := fun h a b => by simp [eqQ]
    have CA := Lib.hid CA
    clear hxy q
    have HW2 := Lib.hid hW2
    unfold ndC at hx hy hv1 hv2 CA HW2 ⊢
    clear hW2
    go_enter Tryz.func55, Tryz.ntmps55
    go_wp2_with fail
    refine CA.out.mono ?_
    rintro e w3 ⟨rfl, hb3⟩
    rw [← HW2.out] at hb3
    have hx3 := hx.below hb3 (by omega)
    have hy3 := hy.below hb3 (by omega)
    have hbb := hb2.trans (hb3.mono (by omega))
    unfold Box at hx3 hy3
    clear CA hx hy hv1 hv2 hb3 hb2 HW2
    go_wp2
    go_ret
    exact ⟨rfl, hbb⟩
  subst q
  by_cases q : x_has = y_has ∧ x_count = y_count ∧ x_bytes = y_bytes
  rotate_left
  · have hqq : eqQ x_has x_count x_bytes y_has y_count y_bytes = false := Bool.eq_false_iff.2 fun h => q (by unfold eqQ at h; simpa using h)
    rw [eqAcs_self] at CA
    have CA := Lib.hid CA
    clear hxy q
    have HW2 := Lib.hid hW2
    unfold ndC at hx hy hv1 hv2 CA HW2 ⊢
    clear hW2
    go_enter Tryz.func55, Tryz.ntmps55
    go_wp2_with fail
    refine CA.out.mono ?_
    rintro e w3 ⟨rfl, hb3⟩
    rw [← HW2.out] at hb3
    have hx3 := hx.below hb3 (by omega)
    have hy3 := hy.below hb3 (by omega)
    have hbb := hb2.trans (hb3.mono (by omega))
    unfold Box at hx3 hy3
    clear CA hx hy hv1 hv2 hb3 hb2 HW2
    go_wp2
    go_ret
    exact ⟨rfl, hbb⟩
  obtain ⟨rfl, rfl, rfl⟩ := q
  by_cases q : x_czxid = y_czxid
  rotate_left
  · have f1 : (x_czxid != y_czxid) = true := by simpa using q
    have f2 : (x_czxid == y_czxid) = false := by simpa using q
    rw [eqAcs_self] at CA
    have hqq : ∀ h a b, eqQ h a b h a b = true := fun h a b => by simp [eqQ]
    have CA := Lib.hid CA
    clear hxy q
    have HW2 := Lib.hid hW2
    unfold ndC at hx hy hv1 hv2 CA HW2 ⊢
    clear hW2
    go_enter Tryz.func55, Tryz.ntmps55
    go_wp2_with fail
    refine CA.out.mono ?_
    rintro e w3 ⟨rfl, hb3⟩
    rw [← HW2.out] at hb3
    have hx3 := hx.below hb3 (by omega)
    have hy3 := hy.below hb3 (by omega)
    have hbb := hb2.trans (hb3.mono (by omega))
    unfold Box at hx3 hy3
    clear CA hx hy hv1 hv2 hb3 hb2 HW2
    go_wp2
    go_ret
    exact ⟨rfl, hbb⟩
  subst q
  by_cases q : x_mzxid = y_mzxid
  rotate_left
  · have f1 : (x_mzxid != y_mzxid) = true := by simpa using q
    have f2 : (x_mzxid == y_mzxid) = false := by simpa using q
    rw [eqAcs_self] at CA
    have hqq : ∀ h a b, eqQ h a b h a b = true := fun h a b => by simp [eqQ]
    have CA := Lib.hid CA
    clear hxy q
    have HW2 := Lib.hid hW2
    unfold ndC at hx hy hv1 hv2 CA HW2 ⊢
    clear hW2
    go_enter Tryz.func55, Tryz.ntmps55
    go_wp2_with fail
    refine CA.out.mono ?_
    rintro e w3 ⟨rfl, hb3⟩
    rw [← HW2.out] at hb3
    have hx3 := hx.below hb3 (by omega)
    have hy3 := hy.below hb3 (by omega)
    have hbb := hb2.trans (hb3.mono (by omega))
    unfold Box at hx3 hy3
    clear CA hx hy hv1 hv2 hb3 hb2 HW2
    go_wp2
    go_ret
    exact ⟨rfl, hbb⟩
  subst q
  by_cases q : x_pzxid = y_pzxid
  rotate_left
  · have f1 : (x_pzxid != y_pzxid) = true := by simpa using q
    have f2 : (x_pzxid == y_pzxid) = false := by simpa using q
    rw [eqAcs_self] at CA
    have hqq : ∀ h a b, eqQ h a b h a b = true := fun h a b => by simp [eqQ]
    have CA := Lib.hid CA
    clear hxy q
    have HW2 := Lib.hid hW2
    unfold ndC at hx hy hv1 hv2 CA HW2 ⊢
    clear hW2
    go_enter Tryz.func55, Tryz.ntmps55
    go_wp2_with fail
    refine CA.out.mono ?_
    rintro e w3 ⟨rfl, hb3⟩
    rw [← HW2.out] at hb3
    have hx3 := hx.below hb3 (by omega)
    have hy3 := hy.below hb3 (by omega)
    have hbb := hb2.trans (hb3.mono (by omega))
    unfold Box at hx3 hy3
    clear CA hx hy hv1 hv2 hb3 hb2 HW2
    go_wp2
    go_ret
    exact ⟨rfl, hbb⟩
  subst q
  by_cases q : x_azxid = y_azxid
  rotate_left
  · have f1 : (x_azxid != y_azxid) = true := by simpa using q
    have f2 : (x_azxid == y_azxid) = false := by simpa using q
    rw [eqAcs_self] at CA
    have hqq : ∀ h a b, eqQ h a b h a b = true := fun h a b => by simp [eqQ]
    have CA := Lib.hid CA
    clear hxy q
    have HW2 := Lib.hid hW2
    unfold ndC at hx hy hv1 hv2 CA HW2 ⊢
    clear hW2
    go_enter Tryz.func55, Tryz.ntmps55
    go_wp2_with fail
    refine CA.out.mono ?_
    rintro e w3 ⟨rfl, hb3⟩
    rw [← HW2.out] at hb3
    have hx3 := hx.below hb3 (by omega)
    have hy3 := hy.below hb3 (by omega)
    have hbb := hb2.trans (hb3.mono (by omega))
    unfold Box at hx3 hy3
    clear CA hx hy hv1 hv2 hb3 hb2 HW2
    go_wp2
    go_ret
    exact ⟨rfl, hbb⟩
  subst q
  by_cases q : x_qzxid = y_qzxid
  rotate_left
  · have f1 : (x_qzxid != y_qzxid) = true := by simpa using q
    have f2 : (x_qzxid == y_qzxid) = false := by simpa using q
    rw [eqAcs_self] at CA
    have hqq : ∀ h a b, eqQ h a b h a b = true := fun h a b => by simp [eqQ]
    have CA := Lib.hid CA
    clear hxy q
    have HW2 := Lib.hid hW2
    unfold ndC at hx hy hv1 hv2 CA HW2 ⊢
    clear hW2
    go_enter Tryz.func55, Tryz.ntmps55
    go_wp2_with fail
    refine CA.out.mono ?_
    rintro e w3 ⟨rfl, hb3⟩
    rw [← HW2.out] at hb3
    have hx3 := hx.below hb3 (by omega)
    have hy3 := hy.below hb3 (by omega)
    have hbb := hb2.trans (hb3.mono (by omega))
    unfold Box at hx3 hy3
    clear CA hx hy hv1 hv2 hb3 hb2 HW2
    go_wp2
    go_ret
    exact ⟨rfl, hbb⟩
  subst q
  by_cases q : x_ctime = y_ctime
  rotate_left
  · have f1 : (x_ctime != y_ctime) = true := by simpa using q
    have f2 : (x_ctime == y_ctime) = false := by simpa using q
    rw [eqAcs_self] at CA
    have hqq : ∀ h a b, eqQ h a b h a b = true := fun h a b => by simp [eqQ]
    have CA := Lib.hid CA
    clear hxy q
    have HW2 := Lib.hid hW2
    unfold ndC at hx hy hv1 hv2 CA HW2 ⊢
    clear hW2
    go_enter Tryz.func55, Tryz.ntmps55
    go_wp2_with fail
    refine CA.out.mono ?_
    rintro e w3 ⟨rfl, hb3⟩
    rw [← HW2.out] at hb3
    have hx3 := hx.below hb3 (by omega)
    have hy3 := hy.below hb3 (by omega)
    have hbb := hb2.trans (hb3.mono (by omega))
    unfold Box at hx3 hy3
    clear CA hx hy hv1 hv2 hb3 hb2 HW2
    go_wp2
    go_ret
    exact ⟨rfl, hbb⟩
  subst q
  by_cases q : x_mtime = y_mtime
  rotate_left
  · have f1 : (x_mtime != y_mtime) = true := by simpa using q
    have f2 : (x_mtime == y_mtime) = false := by simpa using q
    rw [eqAcs_self] at CA
    have hqq : ∀ h a b, eqQ h a b h a b = true := fun h a b => by simp [eqQ]
    have CA := Lib.hid CA
    clear hxy q
    have HW2 := Lib.hid hW2
    unfold ndC at hx hy hv1 hv2 CA HW2 ⊢
    clear hW2
    go_enter Tryz.func55, Tryz.ntmps55
    go_wp2_with fail
    refine CA.out.mono ?_
    rintro e w3 ⟨rfl, hb3⟩
    rw [← HW2.out] at hb3
    have hx3 := hx.below hb3 (by omega)
    have hy3 := hy.below hb3 (by omega)
    have hbb := hb2.trans (hb3.mono (by omega))
    unfold Box at hx3 hy3
    clear CA hx hy hv1 hv2 hb3 hb2 HW2
    go_wp2
    go_ret
    exact ⟨rfl, hbb⟩
  subst q
  by_cases q : x_version = y_version
  rotate_left
  · have f1 : (x_version != y_version) = true := by simpa using q
    have f2 : (x_version == y_version) = false := by simpa using q
    rw [eqAcs_self] at CA
    have hqq : ∀ h a b, eqQ h a b h a b = true := fun h a b => by simp [eqQ]
    have CA := Lib.hid CA
    clear hxy q
    have HW2 := Lib.hid hW2
    unfold ndC at hx hy hv1 hv2 CA HW2 ⊢
    clear hW2
    go_enter Tryz.func55, Tryz.ntmps55
    go_wp2_with fail
    refine CA.out.mono ?_
    rintro e w3 ⟨rfl, hb3⟩
    rw [← HW2.out] at hb3
    have hx3 := hx.below hb3 (by omega)
    have hy3 := hy.below hb3 (by omega)
    have hbb := hb2.trans (hb3.mono (by omega))
    unfold Box at hx3 hy3
    clear CA hx hy hv1 hv2 hb3 hb2 HW2
    go_wp2
    go_ret
    exact ⟨rfl, hbb⟩
  subst q
  by_cases q : x_creates = y_creates
  rotate_left
  · have f1 : (x_creates != y_creates) = true := by simpa using q
    have f2 : (x_creates == y_creates) = false := by simpa using q
    rw [eqAcs_self] at CA
    have hqq : ∀ h a b, eqQ h a b h a b = true := fun h a b => by simp [eqQ]
    have CA := Lib.hid CA
    clear hxy q
    have HW2 := Lib.hid hW2
    unfold ndC at hx hy hv1 hv2 CA HW2 ⊢
    clear hW2
    go_enter Tryz.func55, Tryz.ntmps55
    go_wp2_with fail
    refine CA.out.mono ?_
    rintro e w3 ⟨rfl, hb3⟩
    rw [← HW2.out] at hb3
    have hx3 := hx.below hb3 (by omega)
    have hy3 := hy.below hb3 (by omega)
    have hbb := hb2.trans (hb3.mono (by omega))
    unfold Box at hx3 hy3
    clear CA hx hy hv1 hv2 hb3 hb2 HW2
    go_wp2
    go_ret
    exact ⟨rfl, hbb⟩
  subst q
  by_cases q : x_aversion = y_aversion
  rotate_left
  · have f1 : (x_aversion != y_aversion) = true := by simpa using q
    have f2 : (x_aversion == y_aversion) = false := by simpa using q
    rw [eqAcs_self] at CA
    have hqq : ∀ h a b, eqQ h a b h a b = true := fun h a b => by simp [eqQ]
    have CA := Lib.hid CA
    clear hxy q
    have HW2 := Lib.hid hW2
    unfold ndC at hx hy hv1 hv2 CA HW2 ⊢
    clear hW2
    go_enter Tryz.func55, Tryz.ntmps55
    go_wp2_with fail
    refine CA.out.mono ?_
    rintro e w3 ⟨rfl, hb3⟩
    rw [← HW2.out] at hb3
    have hx3 := hx.below hb3 (by omega)
    have hy3 := hy.below hb3 (by omega)
    have hbb := hb2.trans (hb3.mono (by omega))
    unfold Box at hx3 hy3
    clear CA hx hy hv1 hv2 hb3 hb2 HW2
    go_wp2
    go_ret
    exact ⟨rfl, hbb⟩
  subst q
  exact absurd rfl hxy
end Go.Proofs.YthinpbdbhijbgaaGreatDoor
namespace Go.Proofs.YthinpbdbhijbgaaGreatDoor
open Go.RowKit
set_option maxHeartbeats 2000000
set_option maxRecDepth 100000

theorem bequal_self (a b : Option Addr) (c d : Nat) (xs : List UInt8) (w : World) (hx : Cells w.heap.size w a (xs.map u8v)) (hy : Cells w.heap.size w b (xs.map u8v)) :
    Calls Tryz.prog 154 #[.slice a xs.length c, .slice b xs.length d] w fun e w' => e = .returned (.bool true) ∧ w = w' := by
  have hv1 := conv_string c hx
  have hv2 := conv_string d hy
  clear hx hy
  go_enter Tryz.func154, Tryz.ntmps154
  go_wp2
  go_ret
  exact ⟨rfl, rfl⟩

theorem aequal_self (a b : Option Addr) (c d : Nat) (xs : List Ac) (w : World) (hx : Cells w.heap.size w a (acCs xs)) (hy : Cells w.heap.size w b (acCs xs)) (hm : xs.length ≤ 9223372036854775800) :
    Calls Tryz.prog 155 #[.slice a xs.length c, .slice b xs.length d] w fun e w' => e = .returned (.bool true) ∧ Below w.heap.size w w' := by
  have hg := guard_ac
  have hnq := neq_ac
  go_enter Tryz.func155, Tryz.ntmps155
  go_wp2
  go_loopw [13] (fun i wr => ∃ (k n : Nat), k ≤ xs.length ∧ i = .int .i64 k ∧ wr = w.drewN n) (fun i _ => xs.length - (intOf i).toNat)
  case atStart => exact ⟨0, 0, Nat.zero_le _, rfl, rfl⟩
  case round =>
    obtain ⟨k, n, hk, rfl, rfl⟩ := hrel
    by_cases hlt : k < xs.length
    · obtain ⟨b1, o1, rfl, hb1, c0, c1, c2⟩ := acCells hx k hlt
      obtain ⟨b2, o2, rfl, hb2, d0, d1, d2⟩ := acCells hy k hlt
      have hk1 : (k : Int) < xs.length := by omega
      have hk0 : (0 : Int) ≤ k := by omega
      have he := eqAc_self xs[k]
      clear hx hy
      go_wp2
      go_quiet (fail)
      go_wp2
      go_roundw
      case rel => exact ⟨k + 1, _, by omega, by go_num, rfl⟩
      case measure => simp [intOf]; omega
    · obtain rfl : k = xs.length := by omega
      clear hx hy
      go_wp2
      go_ret
      exact ⟨rfl, below_drewN (Below.refl _ _) _⟩

/-- A node and its like are the same. -/
theorem ssame_self (n : Nd) (da aa db ab : Option Addr) (dc ac dd ad : Nat) (w : World) (hf : Fit n) (hD : Cells w.heap.size w da (n.data.map u8v)) (hA : Cells w.heap.size w aa (acCs n.acl)) (hD' : Cells w.heap.size w db (n.data.map u8v)) (hA' : Cells w.heap.size w ab (acCs n.acl)) :
    Calls Tryz.prog 98 #[.agg (ndC n (.slice da n.data.length dc) (.slice aa n.acl.length ac)), .agg (ndC n (.slice db n.data.length dd) (.slice ab n.acl.length ad))] w fun e w' => e = .returned (.bool true) ∧ Below w.heap.size w w' := by
  have hfa := hf.acl
  obtain ⟨W2, hW2⟩ : ∃ W2, W2 = (w.alloc (.cells (ndC n (.slice da n.data.length dc) (.slice aa n.acl.length ac)) 44)).alloc (.cells (ndC n (.slice db n.data.length dd) (.slice ab n.acl.length ad)) 44) := ⟨_, rfl⟩
  have hs2 : W2.heap.size = w.heap.size + 1 + 1 := by rw [hW2]; simp
  have hb2 : Below w.heap.size w W2 := by rw [hW2]; exact ((Below.refl _ _).alloc (Nat.le_refl _) _).alloc (by simp) _
  have hx : Box W2 w.heap.size (ndC n (.slice da n.data.length dc) (.slice aa n.acl.length ac)) := fun j => by rw [hW2]; exact cell_of_row _ _ _ _ _ _ (heap_alloc2_old w _ _)
  have hy : Box W2 (w.heap.size + 1) (ndC n (.slice db n.data.length dd) (.slice ab n.acl.length ad)) := fun j => by rw [hW2]; exact cell_of_row _ _ _ _ _ _ (heap_alloc2_new w _ _)
  have CB := bequal_self da db dc dd n.data W2 ((hD.below hb2).mono (by omega)) ((hD'.below hb2).mono (by omega))
  have CA := aequal_self aa ab ac ad n.acl W2 ((hA.below hb2).mono (by omega)) ((hA'.below hb2).mono (by omega)) (by omega)
  have hgq := guard_q
  have hnq := eql_q
  have hqq : ∀ h a b, eqQ h a b h a b = true := fun h a b => by simp [eqQ]
  rw [hW2] at CA CB
  have CA := Lib.hid CA
  have CB := Lib.hid CB
  have HW2 := Lib.hid hW2
  unfold ndC at hx hy CA CB HW2 ⊢
  clear hW2 hD hA hD' hA'
  unfold Box at hx hy
  have hx0 := hx
  have hy0 := hy
  rw [HW2.out] at hx hy
  go_enter Tryz.func98, Tryz.ntmps98
  go_wp2_with fail
  refine CB.out.mono ?_
  rintro e w3 ⟨rfl, rfl⟩
  clear CB
  go_wp2_with fail
  refine CA.out.mono ?_
  rintro e w3 ⟨rfl, hb3⟩
  rw [← HW2.out] at hb3
  have hx3 := Box.below (fun j => hx0 j) hb3 (by omega)
  have hy3 := Box.below (fun j => hy0 j) hb3 (by omega)
  have hbb := hb2.trans (hb3.mono (by omega))
  unfold Box at hx3 hy3
  clear CA hx hy hx0 hy0 hb3 hb2 HW2
  go_wp2
  go_ret
  exact ⟨rfl, hbb⟩
end Go.Proofs.YthinpbdbhijbgaaGreatDoor
namespace Go.Proofs.YthinpbdbhijbgaaGreatDoor
open Go.RowKit
set_option maxHeartbeats 2000000
set_option maxRecDepth 100000

theorem bequal_any (a b : Option Addr) (c d : Nat) (xs ys : List UInt8) (w : World) (hx : Cells w.heap.size w a (xs.map u8v)) (hy : Cells w.heap.size w b (ys.map u8v)) :
    Calls Tryz.prog 154 #[.slice a xs.length c, .slice b ys.length d] w fun e w' => e = .returned (.bool (xs == ys)) ∧ w = w' := by
  have hv1 := conv_string c hx
  have hv2 := conv_string d hy
  clear hx hy
  go_enter Tryz.func154, Tryz.ntmps154
  go_wp2
  go_ret
  exact ⟨rfl, rfl⟩

theorem aequal_any (a b : Option Addr) (c d : Nat) (xs ys : List Ac) (w : World) (hx : Cells w.heap.size w a (acCs xs)) (hy : Cells w.heap.size w b (acCs ys)) (hm : xs.length ≤ 9223372036854775800) (hm' : ys.length ≤ 9223372036854775800) :
    Calls Tryz.prog 155 #[.slice a xs.length c, .slice b ys.length d] w fun e w' => e = .returned (.bool (eqAcs xs ys)) ∧ Below w.heap.size w w' := by
  by_cases hl : xs.length ≠ ys.length
  · have H1 := Lib.hid (eqAcs_len xs ys hl)
    have hlb : ((xs.length : Int) != ys.length) = true := by simp; omega
    clear hl hx hy
    go_enter Tryz.func155, Tryz.ntmps155
    go_wp2
    go_ret
    exact ⟨by rw [H1.out]; rfl, Below.refl _ _⟩
  have hl : xs.length = ys.length := by omega
  have HL := Lib.hid hl
  have hg := guard_ac
  have hnq := neq_ac
  have hlb : ((xs.length : Int) != ys.length) = false := by simp [hl]
  clear hl
  go_enter Tryz.func155, Tryz.ntmps155
  go_wp2
  go_loopw [13] (fun i wr => ∃ (k n : Nat), k ≤ xs.length ∧ i = .int .i64 k ∧ wr = w.drewN n ∧ Hid (eqAcs xs ys = eqAcs (xs.drop k) (ys.drop k))) (fun i _ => xs.length - (intOf i).toNat)
  case atStart => exact ⟨0, 0, Nat.zero_le _, rfl, rfl, rfl⟩
  case round =>
    obtain ⟨k, n, hk, rfl, rfl, HQ⟩ := hrel
    by_cases hlt : k < xs.length
    · have hlt' : k < ys.length := by have := HL.out; omega
      obtain ⟨b1, o1, rfl, hb1, c0, c1, c2⟩ := acCells hx k hlt
      obtain ⟨b2, o2, rfl, hb2, d0, d1, d2⟩ := acCells hy k hlt'
      have hk1 : (k : Int) < xs.length := by omega
      have hk2 : (k : Int) < ys.length := by omega
      have hk0 : (0 : Int) ≤ k := by omega
      have HD := Lib.hid (eqAcs_drop xs ys k hlt hlt')
      cases he : eqAc xs[k] ys[k]
      · have H1 : Hid (eqAcs xs ys = false) := by unfold Hid; rw [HQ.out, HD.out, he]; rfl
        clear hx hy
        go_wp2
        go_quiet (fail)
        go_wp2
        go_ret
        exact ⟨by rw [H1.out]; rfl, below_drewN (below_drewN (Below.refl _ _) _) _⟩
      · have H1 : Hid (eqAcs xs ys = eqAcs (xs.drop (k + 1)) (ys.drop (k + 1))) := by unfold Hid; rw [HQ.out, HD.out, he]; rfl
        clear hx hy
        go_wp2
        go_quiet (fail)
        go_wp2
        go_roundw
        case rel => exact ⟨k + 1, _, by omega, by go_num, rfl, H1⟩
        case measure => simp [intOf]; omega
    · obtain rfl : k = xs.length := by omega
      have H1 : Hid (eqAcs xs ys = true) := by
        unfold Hid; rw [HQ.out, List.drop_length, HL.out, List.drop_length]; rfl
      clear hx hy
      go_wp2
      go_ret
      exact ⟨by rw [H1.out]; rfl, below_drewN (Below.refl _ _) _⟩
end Go.Proofs.YthinpbdbhijbgaaGreatDoor
