/- A script of calls, opened; what the rounds of TreePlays keep. The walk of the reference's Same at any two nodes. The walks of bytes.Equal and slices.Equal (of rights) at any two lists. -/
import Derived.Test.YthinpbdbhijbgaaGreatDoorJTreePlays16
import Derived.Test.YthinpbdbhijbgaaGreatDoorJTreePlays13
import Derived.Test.YthinpbdbhijbgaaGreatDoorJTreePlays7
namespace Go.Proofs.YthinpbdbhijbgaaGreatDoor
open Go.ChangeShapes Go.WideShapes Go.ChangeAt Go.RowKit Go.Deep
set_option maxHeartbeats 2000000
set_option maxRecDepth 100000

theorem Tryz.cells_op : Tryz.prog.cellsOf 46 = 19 := by kernel_rfl
theorem Tryz.bytes_op : Tryz.prog.bytesOf 46 = 192 := by kernel_rfl
theorem Tryz.cells_int7 : Tryz.prog.cellsOf 3 = 1 := by kernel_rfl
theorem sizeOp : (Tryz.prog.info? 46).map (·.size) = some 19 := by kernel_rfl

/-- A slice that shows these calls. -/
def OpsAt (B : Nat) (w : World) (a : Option Addr) (L : List Opn) : Prop := ∀ i c, L[i]? = some c → ∃ b off da dc aa ac, a = some ⟨b, off, none⟩ ∧ b < B ∧ Cells B w da (c.n.data.map u8v) ∧ Cells B w aa (acCs c.n.acl) ∧
  ∀ r u, (opC c.k c.p c.n (.slice da c.n.data.length dc) (.slice aa c.n.acl.length ac))[r]? = some u → w.cell? ⟨b, off + i * 19 + r, none⟩ = some u

section
variable {H : Type} {enc : TypeId × Value → H} {w : World} {fuel : Nat}
theorem open_opn {n : Nat} {cs : List Value} {y : DataW H × List MemPlace} (h : DataW.trod enc Tryz.prog w 0 (fun _ => true) true n 46 cs = some y) (hz : Light 46 y.1) :
    ∃ (c : Opn) (da aa : Option Addr) (dc ac : Nat), cs = (opC c.k c.p c.n (.slice da c.n.data.length dc) (.slice aa c.n.acl.length ac)).toList ∧ (Fit c.n ∧ Ir c.n ∧ c.p.size ≤ 9223372036854775800) ∧ Cells w.heap.size w da (c.n.data.map u8v) ∧ Cells w.heap.size w aa (acCs c.n.acl) := by
  obtain ⟨y0, y1, y2, m, rfl, hl, h0, h1, h2⟩ := trod_struct3 Tryz.underlying46 h
  rw [Tryz.cells_op] at hl
  match cs, hl with
  | [c0, c1, c2, c3, c4, c5, c6, c7, c8, c9, c10, c11, c12, c13, c14, c15, c16, c17, c18], _ =>
    simp only [Tryz.cells_int7, Tryz.cells_node, Tryz.cells_str, List.drop_succ_cons, List.drop_zero, List.take_succ_cons, List.take_zero] at h0 h1 h2
    obtain ⟨k, e0, _, _⟩ := DataW.trod_int Tryz.underlying3 h0
    have q1 : Light 9 y1.1 := light_agg Tryz.underlying46 hz (j := 1) rfl rfl
    obtain ⟨s, e1, ed, _⟩ := DataW.trod_string Tryz.underlying9 h1
    have hs : s.size ≤ 9223372036854775800 := by
      rw [show y1.1 = .lit (.string s.data.toList) from congrArg Prod.fst ed] at q1
      have := light_str q1
      omega
    have q2 : Light 44 y2.1 := light_agg Tryz.underlying46 hz (j := 2) rfl rfl
    obtain ⟨nd, da, aa, dc, ac, he, hf, hD, hA⟩ := open_node h2 q2
    rw [he] at h2
    have hr := node_rng h2
    refine ⟨⟨k, s, nd⟩, da, aa, dc, ac, ?_, ⟨hf, hr, hs⟩, hD, hA⟩
    have hcs : [c0, c1, c2, c3, c4, c5, c6, c7, c8, c9, c10, c11, c12, c13, c14, c15, c16, c17, c18] = [c0] ++ ([c1] ++ [c2, c3, c4, c5, c6, c7, c8, c9, c10, c11, c12, c13, c14, c15, c16, c17, c18]) := rfl
    rw [hcs, he, e0, e1]
    rfl

/-- A slice of calls, opened. -/
theorem open_ops {v : Value} {x : DataW H × List MemPlace} (h : DataW.trod enc Tryz.prog w 0 (fun _ => true) true fuel 36 [v] = some x) (hz : Light 36 x.1) :
    ∃ (l : List Opn) (a : Option Addr) (cap : Nat), v = .slice a l.length cap ∧ l.length * 192 ≤ 140737488355328 ∧ (∀ c ∈ l, Fit c.n ∧ Ir c.n ∧ c.p.size ≤ 9223372036854775800) ∧ OpsAt w.heap.size w a l := by
  rcases open_slice Tryz.underlying36 h with ⟨hcs, rfl⟩ | ⟨a, len, cap, m, n, D, Pl, hcs, _, hl, hm, hmm, rfl, hx⟩
  · simp only [List.cons.injEq, and_true] at hcs
    subst hcs
    exact ⟨[], none, 0, rfl, by simp, by simp, fun i n h => (by simp at h)⟩
  · simp only [List.cons.injEq, and_true] at hcs
    subst hcs
    simp only [if_true] at hmm
    subst hmm
    have hw := light_len Tryz.underlying36 hz
    rw [Tryz.bytes_op] at hw
    simp only [List.length_map, List.length_range] at hw
    obtain ⟨X, hX⟩ := choose_lt (n := len) (p := fun i (c : Opn) => ∃ (da aa : Option Addr) (dc ac : Nat), (Cells w.heap.size w da (c.n.data.map u8v) ∧ Cells w.heap.size w aa (acCs c.n.acl)) ∧ (∀ r u, (opC c.k c.p c.n (.slice da c.n.data.length dc) (.slice aa c.n.acl.length ac))[r]? = some u → w.cell? ((a.add (i * 19)).add r) = some u) ∧ (Fit c.n ∧ Ir c.n ∧ c.p.size ≤ 9223372036854775800)) fun i hi => by
      obtain ⟨cs', h1, h2⟩ := hx i (by omega)
      obtain ⟨c, da, aa, dc, ac, rfl, hf, hD, hA⟩ := open_opn h2 (light_elem Tryz.underlying36 hz (List.mem_map.2 ⟨i, List.mem_range.2 hi, rfl⟩))
      rw [Tryz.cells_op] at h1
      obtain ⟨_, _, h3⟩ := World.cells?_some h1
      refine ⟨c, da, aa, dc, ac, ⟨hD, hA⟩, fun r u hr => ?_, hf⟩
      rw [h3 r (by have := (Array.getElem?_eq_some_iff.1 hr).1; simpa [opC] using this)]
      simpa using hr
    refine ⟨(List.range len).map X, some a, m, by simp, by simp; omega, fun x hx' => ?_, fun j n hj => ?_⟩
    · obtain ⟨i, hi, rfl⟩ := List.mem_map.1 hx'
      obtain ⟨_, _, _, _, _, _, h⟩ := hX i (List.mem_range.1 hi)
      exact h
    · simp only [List.getElem?_map] at hj
      by_cases hi : j < len
      · rw [List.getElem?_range hi] at hj
        simp only [Option.map_some, Option.some.injEq] at hj
        subst hj
        obtain ⟨da, aa, dc, ac, ⟨hD, hA⟩, hc, _⟩ := hX j hi
        obtain ⟨_, _, _, _, _, hc00, _⟩ := hX 0 (by omega)
        have hc0 := hc00 0 _ rfl
        have hsp := World.cell?_spot hc0
        have hlt := World.block_lt_of_cell? _ _ hc0
        obtain ⟨b, off, sp⟩ := a
        obtain rfl : sp = none := by simpa [Addr.add] using hsp
        refine ⟨b, off, da, dc, aa, ac, rfl, by simpa [Addr.add] using hlt, hD, hA, fun r u hr => ?_⟩
        have := hc r u hr
        rw [add_plain, add_plain] at this
        rw [← this]
      · rw [List.getElem?_eq_none (by simp; omega)] at hj
        simp at hj
end

/-- Both pairs of trees between two calls. -/
structure PlayAt (B : Nat) (w wr : World) (t u r q K : Nat) (M1 M2 : List (Key × Nd)) : Prop where
  at_ : ∃ S1 R1 S2 R2, Two7 B S1 R1 wr t r K M1 ∧ Two7 B S2 R2 wr u q K M2 ∧ ∀ k, (S1 k ∨ R1 k ∨ k = r) → ¬ (S2 k ∨ R2 k ∨ k = q)
  bel : Below B w wr
theorem PlayAt.ext {B : Nat} {w wr W : World} {t u r q K : Nat} {M1 M2 : List (Key × Nd)} (h : PlayAt B w wr t u r q K M1 M2) (hE : Ext wr W) : PlayAt B w W t u r q K M1 M2 := by
  obtain ⟨S1, R1, S2, R2, h1, h2, h3⟩ := h.at_
  exact ⟨⟨S1, R1, S2, R2, h1.ext hE, h2.ext hE, h3⟩, h.bel.trans (hE.mono h1.size)⟩
theorem PlayAt.more {B : Nat} {w wr : World} {t u r q K K' : Nat} {M1 M2 : List (Key × Nd)} (h : PlayAt B w wr t u r q K M1 M2) (hk : K ≤ K') : PlayAt B w wr t u r q K' M1 M2 := by
  obtain ⟨S1, R1, S2, R2, h1, h2, h3⟩ := h.at_
  exact ⟨⟨S1, R1, S2, R2, h1.more hk, h2.more hk, h3⟩, h.bel⟩
theorem PlayAt.swap {B : Nat} {w wr : World} {t u r q K : Nat} {M1 M2 : List (Key × Nd)} (h : PlayAt B w wr t u r q K M1 M2) : PlayAt B w wr u t q r K M2 M1 := by
  obtain ⟨S1, R1, S2, R2, h1, h2, h3⟩ := h.at_
  exact ⟨⟨S2, R2, S1, R1, h2, h1, fun k hk hn => h3 k hn hk⟩, h.bel⟩
theorem PlayAt.clone {B : Nat} {w wr W1 W2 : World} {t u r q K b b2 : Nat} {M1 M2 : List (Key × Nd)} (h : PlayAt B w wr t u r q K M1 M2) (hT : TreeAt (fun k => wr.heap.size ≤ k ∧ k < W1.heap.size) W1 b M1 M1.length) (hE1 : Ext wr W1)
    (hb : W1.heap.size ≤ b2) (hR : RTree (fun k => W1.heap.size ≤ k ∧ k < W2.heap.size ∧ k ≠ b2) W2 b2 (nds M1)) (hE2 : Ext W1 W2) : PlayAt B w W2 b t b2 r K M1 M1 := by
  obtain ⟨S1, R1, S2, R2, h1, h2, h3⟩ := h.at_
  have hz := h1.size
  have hz1 := hE1.size
  refine ⟨⟨_, _, S1, R1, ⟨(hT.ext hE2).keep (fun _ _ => rfl) (fun _ h => h) (hT.ext hE2).bound h1.well.len, hR, fun k hk => ⟨fun h => by omega, by omega⟩, fun k hk => by omega, by omega, h1.well⟩, (h1.ext hE1).ext hE2, fun k hk hn => ?_⟩, (h.bel.trans (hE1.mono hz)).trans (hE2.mono (by omega))⟩
  have hlt : k < wr.heap.size := by
    rcases hn with hn | hn | hn
    · exact h1.tree.bound k hn
    · exact (h1.ref.bound k hn).1
    · rw [hn]; exact h1.ref.lt
  omega
theorem PlayAt.does {B : Nat} {w wr W : World} {t u r q K : Nat} {M1 M2 M' : List (Key × Nd)} {S1 R1 S2 R2 : Nat → Prop} (h1 : Two7 B S1 R1 wr t r K M1) (h2 : Two7 B S2 R2 wr u q K M2) (h3 : ∀ k, (S1 k ∨ R1 k ∨ k = r) → ¬ (S2 k ∨ R2 k ∨ k = q)) (hb : Below B w wr)
    (hA : Aft7 B S1 R1 wr wr t r (K + 1) M' W) : PlayAt B w W t u r q (K + 1) M' M2 := by
  obtain ⟨S', R', hA1, hA2, hA3⟩ := hA
  refine ⟨⟨S', R', S2, R2, hA1, (h2.chg hA3 fun k hk => ?_).more (Nat.le_succ K), fun k hk hn => ?_⟩, hb.trans (hA3.below (fun k hk => hk.elim (fun h => h1.low k (.inl h)) fun e => by rw [e]; exact h1.own) h1.size)⟩
  · have h4 := h3 k (hk.elim .inl fun e => .inr (.inr e))
    exact ⟨fun h => h4 (.inl h), fun h => h4 (.inr (.inl h)), fun h => h4 (.inr (.inr h))⟩
  · have hlt : k < wr.heap.size := by
      rcases hn with hn | hn | hn
      · exact h2.tree.bound k hn
      · exact (h2.ref.bound k hn).1
      · rw [hn]; exact h2.ref.lt
    rcases hk with hk | hk | hk
    · rcases hA2 k (.inl hk) with h | h | h
      · exact h3 k (.inl h) hn
      · exact h3 k (.inr (.inl h)) hn
      · omega
    · rcases hA2 k (.inr hk) with h | h | h
      · exact h3 k (.inl h) hn
      · exact h3 k (.inr (.inl h)) hn
      · omega
    · exact h3 k (.inr (.inr hk)) hn
theorem root_well : Well7 1 [(keyN rootN, rootN)] := ⟨fun x hx h => by
  simp only [List.mem_singleton] at hx
  subst hx
  exact absurd rfl h, fun x hx => by
  simp only [List.mem_singleton] at hx
  subst hx
  exact ⟨by decide, by decide⟩, Nat.le_refl _⟩
end Go.Proofs.YthinpbdbhijbgaaGreatDoor
namespace Go.Proofs.YthinpbdbhijbgaaGreatDoor
open Go.RowKit
set_option maxHeartbeats 4000000
set_option maxRecDepth 100000

/-- Are two nodes one? -/
noncomputable def sameN (x y : Nd) : Bool := @decide (x = y) (Classical.propDecidable _)
theorem sameN_self (x : Nd) : sameN x x = true := by simp [sameN]
theorem sameN_not {x y : Nd} (h : x ≠ y) : sameN x y = false := by simp [sameN, h]
theorem ba_ext0 {a b : ByteArray} (h : a.data.toList = b.data.toList) : a = b := ByteArray.ext (Array.toList_inj.1 h)
theorem eqAc_eq {x y : Ac} (h : eqAc x y = true) : x = y := by
  unfold eqAc at h
  simp only [Bool.and_eq_true, beq_iff_eq, ByteArray.toList_eq] at h
  obtain ⟨h1, h2, h3⟩ := h
  cases x; cases y
  simp only at h1 h2 h3
  rw [h1, ba_ext0 h2, ba_ext0 h3]
theorem eqAcs_eq : ∀ {xs ys : List Ac}, eqAcs xs ys = true → xs = ys
  | [], [], _ => rfl
  | [], _ :: _, h => by simp [eqAcs] at h
  | _ :: _, [], h => by simp [eqAcs] at h
  | x :: xs, y :: ys, h => by
    simp only [eqAcs, Bool.and_eq_true] at h
    rw [eqAc_eq h.1, eqAcs_eq h.2]

theorem rsame_any (x y : Nd) (da aa db ab : Option Addr) (dc ac dd ad : Nat) (w : World) (hf : Fit x) (hf' : Fit y) (hD : Cells w.heap.size w da (x.data.map u8v)) (hA : Cells w.heap.size w aa (acCs x.acl)) (hD' : Cells w.heap.size w db (y.data.map u8v)) (hA' : Cells w.heap.size w ab (acCs y.acl)) :
    Calls Tryz.prog 55 #[.agg (ndC x (.slice da x.data.length dc) (.slice aa x.acl.length ac)), .agg (ndC y (.slice db y.data.length dd) (.slice ab y.acl.length ad))] w fun e w' => e = .returned (.bool (sameN x y)) ∧ Below w.heap.size w w' := by
  by_cases hxy : x = y
  · subst hxy
    rw [sameN_self]
    exact rsame_self x da aa db ab dc ac dd ad w hf hD hA hD' hA'
  rw [sameN_not hxy]
  have hfa := hf.acl
  have hfb := hf'.acl
  obtain ⟨W2, hW2⟩ : ∃ W2, W2 = (w.alloc (.cells (ndC x (.slice da x.data.length dc) (.slice aa x.acl.length ac)) 44)).alloc (.cells (ndC y (.slice db y.data.length dd) (.slice ab y.acl.length ad)) 44) := ⟨_, rfl⟩
  have hs2 : W2.heap.size = w.heap.size + 1 + 1 := by rw [hW2]; simp
  have hb2 : Below w.heap.size w W2 := by rw [hW2]; exact ((Below.refl _ _).alloc (Nat.le_refl _) _).alloc (by simp) _
  have hx : Box W2 w.heap.size (ndC x (.slice da x.data.length dc) (.slice aa x.acl.length ac)) := fun j => by rw [hW2]; exact cell_of_row _ _ _ _ _ _ (heap_alloc2_old w _ _)
  have hy : Box W2 (w.heap.size + 1) (ndC y (.slice db y.data.length dd) (.slice ab y.acl.length ad)) := fun j => by rw [hW2]; exact cell_of_row _ _ _ _ _ _ (heap_alloc2_new w _ _)
  have hv1 := conv_string dc (hD.below hb2)
  have hv2 := conv_string dd (hD'.below hb2)
  have CA := racls_any aa ab ac ad x.acl y.acl W2 ((hA.below hb2).mono (by omega)) ((hA'.below hb2).mono (by omega)) (by omega) (by omega)
  have hgq := guard_q
  have hnq := neq_q
  rw [hW2] at hv1 hv2 CA
  clear hD hA hD' hA' hf hf'
  obtain ⟨x_path, x_data, x_acl, x_owner, x_czxid, x_mzxid, x_pzxid, x_azxid, x_qzxid, x_ctime, x_mtime, x_version, x_creates, x_aversion, x_has, x_count, x_bytes⟩ := x
  obtain ⟨y_path, y_data, y_acl, y_owner, y_czxid, y_mzxid, y_pzxid, y_azxid, y_qzxid, y_ctime, y_mtime, y_version, y_creates, y_aversion, y_has, y_count, y_bytes⟩ := y
  simp only at hx hy hv1 hv2 CA hW2 hfa hfb
  by_cases q : x_data = y_data
  rotate_left
  · have f1 : (x_data != y_data) = true := by simpa using q
    have f2 : (x_data == y_data) = false := by simpa using q
    have hbw := hb2
    rw [hW2] at hbw
    unfold ndC at hbw
    clear CA hxy
    have HW2 := Lib.hid hW2
    unfold Box ndC at hx hy
    unfold ndC at hv1 hv2 HW2 ⊢
    clear hW2
    rw [HW2.out] at hx hy
    go_enter Tryz.func55, Tryz.ntmps55
    go_wp2
    go_ret
    exact ⟨rfl, hbw⟩
  subst q
  by_cases q : x_acl = y_acl
  rotate_left
  · rw [show eqAcs x_acl y_acl = false from Bool.eq_false_iff.2 fun h => q (eqAcs_eq h)] at CA
    have CA := Lib.hid CA
    clear hxy q
    have HW2 := Lib.hid hW2
    unfold ndC at hx hy hv1 hv2 CA HW2 ⊢
    clear hW2
    go_enter Tryz.func55, Tryz.ntmps55
    go_wp2_with fail
    refine CA.out.mono ?_
    rintro e w3 ⟨rfl, hb3⟩
    rw [← HW2.out] at hb3
    have hx3 := hx.below hb3 (by omega)
    have hy3 := hy.below hb3 (by omega)
    have hbb := hb2.trans (hb3.mono (by omega))
    unfold Box at hx3 hy3
    clear CA hx hy hv1 hv2 hb3 hb2 HW2
    go_wp2
    go_ret
    exact ⟨rfl, hbb⟩
  subst q
  by_cases q : x_path = y_path
  rotate_left
  · have f1 : (x_path.toList != y_path.toList) = true := by simp only [ByteArray.toList_eq, bne_iff_ne, ne_eq]; exact fun h => q (ba_ext0 h)
    have f2 : (x_path.toList == y_path.toList) = false := by simp only [ByteArray.toList_eq, beq_eq_false_iff_ne, ne_eq]; exact fun h => q (ba_ext0 h)
    rw [eqAcs_self] at CA
    have hqq : ∀ h a b, eqQ h a b h a b = true := fun h a b => by simp [eqQ]
    have CA := Lib.hid CA
    clear hxy q
    have HW2 := Lib.hid hW2
    unfold ndC at hx hy hv1 hv2 CA HW2 ⊢
    clear hW2
    go_enter Tryz.func55, Tryz.ntmps55
    go_wp2_with fail
    refine CA.out.mono ?_
    rintro e w3 ⟨rfl, hb3⟩
    rw [← HW2.out] at hb3
    have hx3 := hx.below hb3 (by omega)
    have hy3 := hy.below hb3 (by omega)
    have hbb := hb2.trans (hb3.mono (by omega))
    unfold Box at hx3 hy3
    clear CA hx hy hv1 hv2 hb3 hb2 HW2
    go_wp2
    go_ret
    exact ⟨rfl, hbb⟩
  subst q
  by_cases q : x_owner = y_owner
  rotate_left
  · have f1 : (x_owner != y_owner) = true := by simpa using q
    have f2 : (x_owner == y_owner) = false := by simpa using q
    rw [eqAcs_self] at CA
    have hqq : ∀ h a b, eqQ h a b h a b = true := fun h a b => by simp [eqQ]
    have CA := Lib.hid CA
    clear hxy q
    have HW2 := Lib.hid hW2
    unfold ndC at hx hy hv1 hv2 CA HW2 ⊢
    clear hW2
    go_enter Tryz.func55, Tryz.ntmps55
    go_wp2_with fail
    refine CA.out.mono ?_
    rintro e w3 ⟨rfl, hb3⟩
    rw [← HW2.out] at hb3
    have hx3 := hx.below hb3 (by omega)
    have hy3 := hy.below hb3 (by omega)
    have hbb := hb2.trans (hb3.mono (by omega))
    unfold Box at hx3 hy3
    clear CA hx hy hv1 hv2 hb3 hb2 HW2
    go_wp2
    go_ret
    exact ⟨rfl, hbb⟩
  subst q
  by_cases q : x_has = y_has ∧ x_count = y_count ∧ x_bytes = y_bytes
  rotate_left
  · have hqq : eqQ x_has x_count x_bytes y_has y_count y_bytes = false := Bool.eq_false_iff.2 fun h => q (by unfold eqQ at h; simpa using h)
    rw [eqAcs_self] at CA
    have CA := Lib.hid CA
    clear hxy q
    have HW2 := Lib.hid hW2
    unfold ndC at hx hy hv1 hv2 CA HW2 ⊢
    clear hW2
    go_enter Tryz.func55, Tryz.ntmps55
    go_wp2_with fail
    refine CA.out.mono ?_
    rintro e w3 ⟨rfl, hb3⟩
    rw [← HW2.out] at hb3
    have hx3 := hx.below hb3 (by omega)
    have hy3 := hy.below hb3 (by omega)
    have hbb := hb2.trans (hb3.mono (by omega))
    unfold Box at hx3 hy3
    clear CA hx hy hv1 hv2 hb3 hb2 HW2
    go_wp2
    go_ret
    exact ⟨rfl, hbb⟩
  obtain ⟨rfl, rfl, rfl⟩ := q
  by_cases q : x_czxid = y_czxid
  rotate_left
  · have f1 : (x_czxid != y_czxid) = true := by simpa using q
    have f2 : (x_czxid == y_czxid) = false := by simpa using q
    rw [eqAcs_self] at CA
    have hqq : ∀ h a b, eqQ h a b h a b = true := fun h a b => by simp [eqQ]
    have CA := Lib.hid CA
    clear hxy q
    have HW2 := Lib.hid hW2
    unfold ndC at hx hy hv1 hv2 CA HW2 ⊢
    clear hW2
    go_enter Tryz.func55, Tryz.ntmps55
    go_wp2_with fail
    refine CA.out.mono ?_
    rintro e w3 ⟨rfl, hb3⟩
    rw [← HW2.out] at hb3
    have hx3 := hx.below hb3 (by omega)
    have hy3 := hy.below hb3 (by omega)
    have hbb := hb2.trans (hb3.mono (by omega))
    unfold Box at hx3 hy3
    clear CA hx hy hv1 hv2 hb3 hb2 HW2
    go_wp2
    go_ret
    exact ⟨rfl, hbb⟩
  subst q
  by_cases q : x_mzxid = y_mzxid
  rotate_left
  · have f1 : (x_mzxid != y_mzxid) = true := by simpa using q
    have f2 : (x_mzxid == y_mzxid) = false := by simpa using q
    rw [eqAcs_self] at CA
    have hqq : ∀ h a b, eqQ h a b h a b = true := fun h a b => by simp [eqQ]
    have CA := Lib.hid CA
    clear hxy q
    have HW2 := Lib.hid hW2
    unfold ndC at hx hy hv1 hv2 CA HW2 ⊢
    clear hW2
    go_enter Tryz.func55, Tryz.ntmps55
    go_wp2_with fail
    refine CA.out.mono ?_
    rintro e w3 ⟨rfl, hb3⟩
    rw [← HW2.out] at hb3
    have hx3 := hx.below hb3 (by omega)
    have hy3 := hy.below hb3 (by omega)
    have hbb := hb2.trans (hb3.mono (by omega))
    unfold Box at hx3 hy3
    clear CA hx hy hv1 hv2 hb3 hb2 HW2
    go_wp2
    go_ret
    exact ⟨rfl, hbb⟩
  subst q
  by_cases q : x_pzxid = y_pzxid
  rotate_left
  · have f1 : (x_pzxid != y_pzxid) = true := by simpa using q
    have f2 : (x_pzxid == y_pzxid) = false := by simpa using q
    rw [eqAcs_self] at CA
    have hqq : ∀ h a b, eqQ h a b h a b = true := fun h a b => by simp [eqQ]
    have CA := Lib.hid CA
    clear hxy q
    have HW2 := Lib.hid hW2
    unfold ndC at hx hy hv1 hv2 CA HW2 ⊢
    clear hW2
    go_enter Tryz.func55, Tryz.ntmps55
    go_wp2_with fail
    refine CA.out.mono ?_
    rintro e w3 ⟨rfl, hb3⟩
    rw [← HW2.out] at hb3
    have hx3 := hx.below hb3 (by omega)
    have hy3 := hy.below hb3 (by omega)
    have hbb := hb2.trans (hb3.mono (by omega))
    unfold Box at hx3 hy3
    clear CA hx hy hv1 hv2 hb3 hb2 HW2
    go_wp2
    go_ret
    exact ⟨rfl, hbb⟩
  subst q
  by_cases q : x_azxid = y_azxid
  rotate_left
  · have f1 : (x_azxid != y_azxid) = true := by simpa using q
    have f2 : (x_azxid == y_azxid) = false := by simpa using q
    rw [eqAcs_self] at CA
    have hqq : ∀ h a b, eqQ h a b h a b = true := fun h a b => by simp [eqQ]
    have CA := Lib.hid CA
    clear hxy q
    have HW2 := Lib.hid hW2
    unfold ndC at hx hy hv1 hv2 CA HW2 ⊢
    clear hW2
    go_enter Tryz.func55, Tryz.ntmps55
    go_wp2_with fail
    refine CA.out.mono ?_
    rintro e w3 ⟨rfl, hb3⟩
    rw [← HW2.out] at hb3
    have hx3 := hx.below hb3 (by omega)
    have hy3 := hy.below hb3 (by omega)
    have hbb := hb2.trans (hb3.mono (by omega))
    unfold Box at hx3 hy3
    clear CA hx hy hv1 hv2 hb3 hb2 HW2
    go_wp2
    go_ret
    exact ⟨rfl, hbb⟩
  subst q
  by_cases q : x_qzxid = y_qzxid
  rotate_left
  · have f1 : (x_qzxid != y_qzxid) = true := by simpa using q
    have f2 : (x_qzxid == y_qzxid) = false := by simpa using q
    rw [eqAcs_self] at CA
    have hqq : ∀ h a b, eqQ h a b h a b = true := fun h a b => by simp [eqQ]
    have CA := Lib.hid CA
    clear hxy q
    have HW2 := Lib.hid hW2
    unfold ndC at hx hy hv1 hv2 CA HW2 ⊢
    clear hW2
    go_enter Tryz.func55, Tryz.ntmps55
    go_wp2_with fail
    refine CA.out.mono ?_
    rintro e w3 ⟨rfl, hb3⟩
    rw [← HW2.out] at hb3
    have hx3 := hx.below hb3 (by omega)
    have hy3 := hy.below hb3 (by omega)
    have hbb := hb2.trans (hb3.mono (by omega))
    unfold Box at hx3 hy3
    clear CA hx hy hv1 hv2 hb3 hb2 HW2
    go_wp2
    go_ret
    exact ⟨rfl, hbb⟩
  subst q
  by_cases q : x_ctime = y_ctime
  rotate_left
  · have f1 : (x_ctime != y_ctime) = true := by simpa using q
    have f2 : (x_ctime == y_ctime) = false := by simpa using q
    rw [eqAcs_self] at CA
    have hqq : ∀ h a b, eqQ h a b h a b = true := fun h a b => by simp [eqQ]
    have CA := Lib.hid CA
    clear hxy q
    have HW2 := Lib.hid hW2
    unfold ndC at hx hy hv1 hv2 CA HW2 ⊢
    clear hW2
    go_enter Tryz.func55, Tryz.ntmps55
    go_wp2_with fail
    refine CA.out.mono ?_
    rintro e w3 ⟨rfl, hb3⟩
    rw [← HW2.out] at hb3
    have hx3 := hx.below hb3 (by omega)
    have hy3 := hy.below hb3 (by omega)
    have hbb := hb2.trans (hb3.mono (by omega))
    unfold Box at hx3 hy3
    clear CA hx hy hv1 hv2 hb3 hb2 HW2
    go_wp2
    go_ret
    exact ⟨rfl, hbb⟩
  subst q
  by_cases q : x_mtime = y_mtime
  rotate_left
  · have f1 : (x_mtime != y_mtime) = true := by simpa using q
    have f2 : (x_mtime == y_mtime) = false := by simpa using q
    rw [eqAcs_self] at CA
    have hqq : ∀ h a b, eqQ h a b h a b = true := fun h a b => by simp [eqQ]
    have CA := Lib.hid CA
    clear hxy q
    have HW2 := Lib.hid hW2
    unfold ndC at hx hy hv1 hv2 CA HW2 ⊢
    clear hW2
    go_enter Tryz.func55, Tryz.ntmps55
    go_wp2_with fail
    refine CA.out.mono ?_
    rintro e w3 ⟨rfl, hb3⟩
    rw [← HW2.out] at hb3
    have hx3 := hx.below hb3 (by omega)
    have hy3 := hy.below hb3 (by omega)
    have hbb := hb2.trans (hb3.mono (by omega))
    unfold Box at hx3 hy3
    clear CA hx hy hv1 hv2 hb3 hb2 HW2
    go_wp2
    go_ret
    exact ⟨rfl, hbb⟩
  subst q
  by_cases q : x_version = y_version
  rotate_left
  · have f1 : (x_version != y_version) = true := by simpa using q
    have f2 : (x_version == y_version) = false := by simpa using q
    rw [eqAcs_self] at CA
    have hqq : ∀ h a b, eqQ h a b h a b = true := fun h a b => by simp [eqQ]
    have CA := Lib.hid CA
    clear hxy q
    have HW2 := Lib.hid hW2
    unfold ndC at hx hy hv1 hv2 CA HW2 ⊢
    clear hW2
    go_enter Tryz.func55, Tryz.ntmps55
    go_wp2_with fail
    refine CA.out.mono ?_
    rintro e w3 ⟨rfl, hb3⟩
    rw [← HW2.out] at hb3
    have hx3 := hx.below hb3 (by omega)
    have hy3 := hy.below hb3 (by omega)
    have hbb := hb2.trans (hb3.mono (by omega))
    unfold Box at hx3 hy3
    clear CA hx hy hv1 hv2 hb3 hb2 HW2
    go_wp2
    go_ret
    exact ⟨rfl, hbb⟩
  subst q
  by_cases q : x_creates = y_creates
  rotate_left
  · have f1 : (x_creates != y_creates) = true := by simpa using q
    have f2 : (x_creates == y_creates) = false := by simpa using q
    rw [eqAcs_self] at CA
    have hqq : ∀ h a b, eqQ h a b h a b = true := fun h a b => by simp [eqQ]
    have CA := Lib.hid CA
    clear hxy q
    have HW2 := Lib.hid hW2
    unfold ndC at hx hy hv1 hv2 CA HW2 ⊢
    clear hW2
    go_enter Tryz.func55, Tryz.ntmps55
    go_wp2_with fail
    refine CA.out.mono ?_
    rintro e w3 ⟨rfl, hb3⟩
    rw [← HW2.out] at hb3
    have hx3 := hx.below hb3 (by omega)
    have hy3 := hy.below hb3 (by omega)
    have hbb := hb2.trans (hb3.mono (by omega))
    unfold Box at hx3 hy3
    clear CA hx hy hv1 hv2 hb3 hb2 HW2
    go_wp2
    go_ret
    exact ⟨rfl, hbb⟩
  subst q
  by_cases q : x_aversion = y_aversion
  rotate_left
  · have f1 : (x_aversion != y_aversion) = true := by simpa using q
    have f2 : (x_aversion == y_aversion) = false := by simpa using q
    rw [eqAcs_self] at CA
    have hqq : ∀ h a b, eqQ h a b h a b = true := fun h a b => by simp [eqQ]
    have CA := Lib.hid CA
    clear hxy q
    have HW2 := Lib.hid hW2
    unfold ndC at hx hy hv1 hv2 CA HW2 ⊢
    clear hW2
    go_enter Tryz.func55, Tryz.ntmps55
    go_wp2_with fail
    refine CA.out.mono ?_
    rintro e w3 ⟨rfl, hb3⟩
    rw [← HW2.out] at hb3
    have hx3 := hx.below hb3 (by omega)
    have hy3 := hy.below hb3 (by omega)
    have hbb := hb2.trans (hb3.mono (by omega))
    unfold Box at hx3 hy3
    clear CA hx hy hv1 hv2 hb3 hb2 HW2
    go_wp2
    go_ret
    exact ⟨rfl, hbb⟩
  subst q
  exact absurd rfl hxy
end Go.Proofs.YthinpbdbhijbgaaGreatDoor
namespace Go.Proofs.YthinpbdbhijbgaaGreatDoor
open Go.RowKit
set_option maxHeartbeats 2000000
set_option maxRecDepth 100000

theorem bequal_any (a b : Option Addr) (c d : Nat) (xs ys : List UInt8) (w : World) (hx : Cells w.heap.size w a (xs.map u8v)) (hy : Cells w.heap.size w b (ys.map u8v)) :
    Calls Tryz.prog 154 #[.slice a xs.length c, .slice b ys.length d] w fun e w' => e = .returned (.bool (xs == ys)) ∧ w = w' := by
  have hv1 := conv_string c hx
  have hv2 := conv_string d hy
  clear hx hy
  go_enter Tryz.func154, Tryz.ntmps154
  go_wp2
  go_ret
  exact ⟨rfl, rfl⟩

theorem aequal_any (a b : Option Addr) (c d : Nat) (xs ys : List Ac) (w : World) (hx : Cells w.heap.size w a (acCs xs)) (hy : Cells w.heap.size w b (acCs ys)) (hm : xs.length ≤ 9223372036854775800) (hm' : ys.length ≤ 9223372036854775800) :
    Calls Tryz.prog 155 #[.slice a xs.length c, .slice b ys.length d] w fun e w' => e = .returned (.bool (eqAcs xs ys)) ∧ Below w.heap.size w w' := by
  by_cases hl : xs.length ≠ ys.length
  · have H1 := Lib.hid (eqAcs_len xs ys hl)
    have hlb : ((xs.length : Int) != ys.length) = true := by simp; omega
    clear hl hx hy
    go_enter Tryz.func155, Tryz.ntmps155
    go_wp2
    go_ret
    exact ⟨by rw [H1.out]; rfl, Below.refl _ _⟩
  have hl : xs.length = ys.length := by omega
  have HL := Lib.hid hl
  have hg := guard_ac
  have hnq := neq_ac
  have hlb : ((xs.length : Int) != ys.length) = false := by simp [hl]
  clear hl
  go_enter Tryz.func155, Tryz.ntmps155
  go_wp2
  go_loopw [13] (fun i wr => ∃ (k n : Nat), k ≤ xs.length ∧ i = .int .i64 k ∧ wr = w.drewN n ∧ Hid (eqAcs xs ys = eqAcs (xs.drop k) (ys.drop k))) (fun i _ => xs.length - (intOf i).toNat)
  case atStart => exact ⟨0, 0, Nat.zero_le _, rfl, rfl, rfl⟩
  case round =>
    obtain ⟨k, n, hk, rfl, rfl, HQ⟩ := hrel
    by_cases hlt : k < xs.length
    · have hlt' : k < ys.length := by have := HL.out; omega
      obtain ⟨b1, o1, rfl, hb1, c0, c1, c2⟩ := acCells hx k hlt
      obtain ⟨b2, o2, rfl, hb2, d0, d1, d2⟩ := acCells hy k hlt'
      have hk1 : (k : Int) < xs.length := by omega
      have hk2 : (k : Int) < ys.length := by omega
      have hk0 : (0 : Int) ≤ k := by omega
      have HD := Lib.hid (eqAcs_drop xs ys k hlt hlt')
      cases he : eqAc xs[k] ys[k]
      · have H1 : Hid (eqAcs xs ys = false) := by unfold Hid; rw [HQ.out, HD.out, he]; rfl
        clear hx hy
        go_wp2
        go_quiet (fail)
        go_wp2
        go_ret
        exact ⟨by rw [H1.out]; rfl, below_drewN (below_drewN (Below.refl _ _) _) _⟩
      · have H1 : Hid (eqAcs xs ys = eqAcs (xs.drop (k + 1)) (ys.drop (k + 1))) := by unfold Hid; rw [HQ.out, HD.out, he]; rfl
        clear hx hy
        go_wp2
        go_quiet (fail)
        go_wp2
        go_roundw
        case rel => exact ⟨k + 1, _, by omega, by go_num, rfl, H1⟩
        case measure => simp [intOf]; omega
    · obtain rfl : k = xs.length := by omega
      have H1 : Hid (eqAcs xs ys = true) := by
        unfold Hid; rw [HQ.out, List.drop_length, HL.out, List.drop_length]; rfl
      clear hx hy
      go_wp2
      go_ret
      exact ⟨by rw [H1.out]; rfl, below_drewN (Below.refl _ _) _⟩
end Go.Proofs.YthinpbdbhijbgaaGreatDoor
