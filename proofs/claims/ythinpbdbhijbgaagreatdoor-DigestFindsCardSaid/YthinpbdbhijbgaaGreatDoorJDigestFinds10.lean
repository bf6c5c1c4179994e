/- The walk of stat.Same at two copies of a node. The walks of bytes.Equal and slices.Equal (of rights) at any two lists. -/
import Derived.Test.YthinpbdbhijbgaaGreatDoorJDigestFinds5
namespace Go.Proofs.YthinpbdbhijbgaaGreatDoor
open Go.RowKit
set_option maxHeartbeats 2000000
set_option maxRecDepth 100000

theorem bequal_self (a b : Option Addr) (c d : Nat) (xs : List UInt8) (w : World) (hx : Cells w.heap.size w a (xs.map u8v)) (hy : Cells w.heap.size w b (xs.map u8v)) :
    Calls Tryz.prog 154 #[.slice a xs.length c, .slice b xs.length d] w fun e w' => e = .returned (.bool true) ∧ w = w' := by
  have hv1 := conv_string c hx
  have hv2 := conv_string d hy
  clear hx hy
  go_enter Tryz.func154, Tryz.ntmps154
  go_wp2
  go_ret
  exact ⟨rfl, rfl⟩

theorem aequal_self (a b : Option Addr) (c d : Nat) (xs : List Ac) (w : World) (hx : Cells w.heap.size w a (acCs xs)) (hy : Cells w.heap.size w b (acCs xs)) (hm : xs.length ≤ 9223372036854775800) :
    Calls Tryz.prog 155 #[.slice a xs.length c, .slice b xs.length d] w fun e w' => e = .returned (.bool true) ∧ Below w.heap.size w w' := by
  have hg := guard_ac
  have hnq := neq_ac
  go_enter Tryz.func155, Tryz.ntmps155
  go_wp2
  go_loopw [13] (fun i wr => ∃ (k n : Nat), k ≤ xs.length ∧ i = .int .i64 k ∧ wr = w.drewN n) (fun i _ => xs.length - (intOf i).toNat)
  case atStart => exact ⟨0, 0, Nat.zero_le _, rfl, rfl⟩
  case round =>
    obtain ⟨k, n, hk, rfl, rfl⟩ := hrel
    by_cases hlt : k < xs.length
    · obtain ⟨b1, o1, rfl, hb1, c0, c1, c2⟩ := acCells hx k hlt
      obtain ⟨b2, o2, rfl, hb2, d0, d1, d2⟩ := acCells hy k hlt
      have hk1 : (k : Int) < xs.length := by omega
      have hk0 : (0 : Int) ≤ k := by omega
      have he := eqAc_self xs[k]
      clear hx hy
      go_wp2
      go_quiet (fail)
      go_wp2
      go_roundw
      case rel => exact ⟨k + 1, _, by omega, by go_num, rfl⟩
      case measure => simp [intOf]; omega
    · obtain rfl : k = xs.length := by omega
      clear hx hy
      go_wp2
      go_ret
      exact ⟨rfl, below_drewN (Below.refl _ _) _⟩

/-- A node and its like are the same. -/
theorem ssame_self (n : Nd) (da aa db ab : Option Addr) (dc ac dd ad : Nat) (w : World) (hf : Fit n) (hD : Cells w.heap.size w da (n.data.map u8v)) (hA : Cells w.heap.size w aa (acCs n.acl)) (hD' : Cells w.heap.size w db (n.data.map u8v)) (hA' : Cells w.heap.size w ab (acCs n.acl)) :
    Calls Tryz.prog 98 #[.agg (ndC n (.slice da n.data.length dc) (.slice aa n.acl.length ac)), .agg (ndC n (.slice db n.data.length dd) (.slice ab n.acl.length ad))] w fun e w' => e = .returned (.bool true) ∧ Below w.heap.size w w' := by
  have hfa := hf.acl
  obtain ⟨W2, hW2⟩ : ∃ W2, W2 = (w.alloc (.cells (ndC n (.slice da n.data.length dc) (.slice aa n.acl.length ac)) 44)).alloc (.cells (ndC n (.slice db n.data.length dd) (.slice ab n.acl.length ad)) 44) := ⟨_, rfl⟩
  have hs2 : W2.heap.size = w.heap.size + 1 + 1 := by rw [hW2]; simp
  have hb2 : Below w.heap.size w W2 := by rw [hW2]; exact ((Below.refl _ _).alloc (Nat.le_refl _) _).alloc (by simp) _
  have hx : Box W2 w.heap.size (ndC n (.slice da n.data.length dc) (.slice aa n.acl.length ac)) := fun j => by rw [hW2]; exact cell_of_row _ _ _ _ _ _ (heap_alloc2_old w _ _)
  have hy : Box W2 (w.heap.size + 1) (ndC n (.slice db n.data.length dd) (.slice ab n.acl.length ad)) := fun j => by rw [hW2]; exact cell_of_row _ _ _ _ _ _ (heap_alloc2_new w _ _)
  have CB := bequal_self da db dc dd n.data W2 ((hD.below hb2).mono (by omega)) ((hD'.below hb2).mono (by omega))
  have CA := aequal_self aa ab ac ad n.acl W2 ((hA.below hb2).mono (by omega)) ((hA'.below hb2).mono (by omega)) (by omega)
  have hgq := guard_q
  have hnq := eql_q
  have hqq : ∀ h a b, eqQ h a b h a b = true := fun h a b => by simp [eqQ]
  rw [hW2] at CA CB
  have CA := Lib.hid CA
  have CB := Lib.hid CB
  have HW2 := Lib.hid hW2
  unfold ndC at hx hy CA CB HW2 ⊢
  clear hW2 hD hA hD' hA'
  unfold Box at hx hy
  have hx0 := hx
  have hy0 := hy
  rw [HW2.out] at hx hy
  go_enter Tryz.func98, Tryz.ntmps98
  go_wp2_with fail
  refine CB.out.mono ?_
  rintro e w3 ⟨rfl, rfl⟩
  clear CB
  go_wp2_with fail
  refine CA.out.mono ?_
  rintro e w3 ⟨rfl, hb3⟩
  rw [← HW2.out] at hb3
  have hx3 := Box.below (fun j => hx0 j) hb3 (by omega)
  have hy3 := Box.below (fun j => hy0 j) hb3 (by omega)
  have hbb := hb2.trans (hb3.mono (by omega))
  unfold Box at hx3 hy3
  clear CA hx hy hx0 hy0 hb3 hb2 HW2
  go_wp2
  go_ret
  exact ⟨rfl, hbb⟩
end Go.Proofs.YthinpbdbhijbgaaGreatDoor
namespace Go.Proofs.YthinpbdbhijbgaaGreatDoor
open Go.RowKit
set_option maxHeartbeats 2000000
set_option maxRecDepth 100000

theorem bequal_any (a b : Option Addr) (c d : Nat) (xs ys : List UInt8) (w : World) (hx : Cells w.heap.size w a (xs.map u8v)) (hy : Cells w.heap.size w b (ys.map u8v)) :
    Calls Tryz.prog 154 #[.slice a xs.length c, .slice b ys.length d] w fun e w' => e = .returned (.bool (xs == ys)) ∧ w = w' := by
  have hv1 := conv_string c hx
  have hv2 := conv_string d hy
  clear hx hy
  go_enter Tryz.func154, Tryz.ntmps154
  go_wp2
  go_ret
  exact ⟨rfl, rfl⟩

theorem aequal_any (a b : Option Addr) (c d : Nat) (xs ys : List Ac) (w : World) (hx : Cells w.heap.size w a (acCs xs)) (hy : Cells w.heap.size w b (acCs ys)) (hm : xs.length ≤ 9223372036854775800) (hm' : ys.length ≤ 9223372036854775800) :
    Calls Tryz.prog 155 #[.slice a xs.length c, .slice b ys.length d] w fun e w' => e = .returned (.bool (eqAcs xs ys)) ∧ Below w.heap.size w w' := by
  by_cases hl : xs.length ≠ ys.length
  · have H1 := Lib.hid (eqAcs_len xs ys hl)
    have hlb : ((xs.length : Int) != ys.length) = true := by simp; omega
    clear hl hx hy
    go_enter Tryz.func155, Tryz.ntmps155
    go_wp2
    go_ret
    exact ⟨by rw [H1.out]; rfl, Below.refl _ _⟩
  have hl : xs.length = ys.length := by omega
  have HL := Lib.hid hl
  have hg := guard_ac
  have hnq := neq_ac
  have hlb : ((xs.length : Int) != ys.length) = false := by simp [hl]
  clear hl
  go_enter Tryz.func155, Tryz.ntmps155
  go_wp2
  go_loopw [13] (fun i wr => ∃ (k n : Nat), k ≤ xs.length ∧ i = .int .i64 k ∧ wr = w.drewN n ∧ Hid (eqAcs xs ys = eqAcs (xs.drop k) (ys.drop k))) (fun i _ => xs.length - (intOf i).toNat)
  case atStart => exact ⟨0, 0, Nat.zero_le _, rfl, rfl, rfl⟩
  case round =>
    obtain ⟨k, n, hk, rfl, rfl, HQ⟩ := hrel
    by_cases hlt : k < xs.length
    · have hlt' : k < ys.length := by have := HL.out; omega
      obtain ⟨b1, o1, rfl, hb1, c0, c1, c2⟩ := acCells hx k hlt
      obtain ⟨b2, o2, rfl, hb2, d0, d1, d2⟩ := acCells hy k hlt'
      have hk1 : (k : Int) < xs.length := by omega
      have hk2 : (k : Int) < ys.length := by omega
      have hk0 : (0 : Int) ≤ k := by omega
      have HD := Lib.hid (eqAcs_drop xs ys k hlt hlt')
      cases he : eqAc xs[k] ys[k]
      · have H1 : Hid (eqAcs xs ys = false) := by unfold Hid; rw [HQ.out, HD.out, he]; rfl
        clear hx hy
        go_wp2
        go_quiet (fail)
        go_wp2
        go_ret
        exact ⟨by rw [H1.out]; rfl, below_drewN (below_drewN (Below.refl _ _) _) _⟩
      · have H1 : Hid (eqAcs xs ys = eqAcs (xs.drop (k + 1)) (ys.drop (k + 1))) := by unfold Hid; rw [HQ.out, HD.out, he]; rfl
        clear hx hy
        go_wp2
        go_quiet (fail)
        go_wp2
        go_roundw
        case rel => exact ⟨k + 1, _, by omega, by go_num, rfl, H1⟩
        case measure => simp [intOf]; omega
    · obtain rfl : k = xs.length := by omega
      have H1 : Hid (eqAcs xs ys = true) := by
        unfold Hid; rw [HQ.out, List.drop_length, HL.out, List.drop_length]; rfl
      clear hx hy
      go_wp2
      go_ret
      exact ⟨by rw [H1.out]; rfl, below_drewN (Below.refl _ _) _⟩
end Go.Proofs.YthinpbdbhijbgaaGreatDoor
