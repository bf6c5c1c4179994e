/- The walks of arborref07's All, Clone and New. What the rounds keep that overwrite the node of a call on both trees. -/
import Derived.Test.YthinpbdbhijbgaaGreatDoorJTreePlays12
import Derived.Test.YthinpbdbhijbgaaGreatDoorJTreePlays14
import Derived.Test.YthinpbdbhijbgaaGreatDoorJTreePlays13
import Derived.Great.BuildSlice
import Derived.Test.YthinpbdbhijbgaaGreatDoorJTreePlays8
namespace Go.Proofs.YthinpbdbhijbgaaGreatDoor
open Go.RowKit Go.Sort
set_option maxHeartbeats 4000000
set_option maxRecDepth 100000

theorem rall_any (w : World) (b : Nat) (M : List (Key × Nd)) (hR : RT w b (nds M)) (hM : MOk M) (hl : M.length * 168 ≤ 140737488355328) :
    Calls Tryz.prog 73 #[.pointer (some ⟨b, 0, none⟩)] w (NodesOut (nds M) w) := by
  obtain ⟨a, cap, vs, hb, hlc, hcm, hS, hrows, _⟩ := hR
  have hcb : w.cell? ⟨b, 0, none⟩ = some (.slice a (nds M).length cap) := cell_of_row _ _ _ _ _ _ hb
  have hbl := (Array.getElem?_eq_some_iff.1 hb).1
  rw [nds_length] at hcb
  have hl64 : M.length ≤ 9223372036854775807 := by omega
  have HROWS := Lib.hid hrows
  have HS := Lib.hid hS
  have HM := Lib.hid hM
  clear hb hrows hS hM hlc hcm
  go_enter Tryz.func73, Tryz.ntmps73
  go_wp2
  go_loopw [3, 4] (fun ov i wr => ∃ k : Nat, k ≤ M.length ∧ i = .int .i64 k ∧ Hid (OwnN w.heap.size (nds (M.take k)) ov wr) ∧ Ext w wr) (fun _ i _ => M.length - (intOf i).toNat)
  case atStart => exact ⟨0, Nat.zero_le _, rfl, OwnN.nil _ _, Ext.refl _⟩
  case round =>
    obtain ⟨k, hk, rfl, HO, hE⟩ := hrel
    have hcr : wr.cell? ⟨b, 0, none⟩ = some (.slice a M.length cap) := (hE.cell (p := ⟨b, 0, none⟩) hbl).trans hcb
    by_cases hlt : k < M.length
    · have hMk : (nds M)[k]? = some M[k].2 := by unfold nds; rw [List.getElem?_map, List.getElem?_eq_getElem hlt]; rfl
      obtain ⟨bl, off, da, dc, aa, ac, ea, hSb, hc, hD, hA, _⟩ := HROWS.out.row hMk
      subst ea
      have hfit := (right_fit (HM.out.right M[k] (List.getElem_mem hlt))).1
      have HST := Lib.hid (nds_take_succ hlt)
      generalize hxx : M[k] = x at *
      obtain ⟨xk, n⟩ := x
      simp only at *
      have hcw : ∀ j u, (ndC n (.slice da n.data.length dc) (.slice aa n.acl.length ac))[j]? = some u → wr.cell? ((⟨bl, off + k * 17, none⟩ : Addr).add j) = some u := fun j u hj => by
        rw [addr_add, hE.cell (p := ⟨bl, off + k * 17 + j, none⟩) (HS.out bl hSb).1]
        exact hc j u hj
      have hll : (nds (M.take k)).length ≤ k := by rw [nds_length, List.length_take]; omega
      have CC := Lib.hid (rclone_new n da aa dc ac wr hfit ((hD.cells fun b hb => (HS.out b hb).1).ext hE) ((hA.cells fun b hb => (HS.out b hb).1).ext hE))
      have HC := Lib.hid hcw
      have HE := Lib.hid hE
      unfold ndC at HC
      clear hc hD hA hfit hE hMk hxx hcw
      go_wp2_with (refine wpList_load_at rfl 44 (.tmp 24) rfl _ rfl _ _ HC.out Tryz.underlying44 rfl sizeNd ?_)
      refine CC.out.mono ?_
      rintro e W5 ⟨v, rfl, hN, hE5⟩
      have hE5 : Ext wr W5 := hE5
      have HNW := Lib.hid hN
      obtain ⟨qa, qc, ra, rc, rfl, _, _⟩ := hN
      have HE5 := Lib.hid hE5
      have hbz : w.heap.size ≤ wr.heap.size := HE.out.size
      have HE05 := Lib.hid (HE.out.trans hE5)
      unfold ndC at HNW ⊢
      clear CC hE5 hcr HC
      go_wp2_with (at_builtin; refine wpList_append_nd rfl (.tmp 18) (.tmp 27) rfl w.heap.size (nds (M.take k)) _ HO.out HE5.out hbz n _ HNW.out (by omega) rfl rfl ?_)
      intro v' W6 hO6 hE6
      have HO6 := Lib.hid hO6
      have HE6 := Lib.hid (hE6 w HE05.out (Nat.le_refl _))
      clear hO6 hE6
      go_wp2
      go_roundw
      case rel => exact ⟨k + 1, by omega, by go_num, by unfold Hid; rw [HST.out]; exact HO6.out, HE6.out⟩
      case measure => simp [intOf]; omega
    · obtain rfl : k = M.length := by omega
      rw [List.take_length] at HO
      have HFIN := Lib.hid (show NodesOut (nds M) w (.returned u3) wr from ⟨_, rfl, HO.out, hE⟩)
      clear hE HROWS HO
      go_wp2
      go_ret
      exact HFIN.out

/-- A new tree of the document's. -/
def RNewT (L : List Nd) (w : World) (e : Ending) (w' : World) : Prop := ∃ b, e = .returned (.pointer (some ⟨b, 0, none⟩)) ∧ w.heap.size ≤ b ∧ RTree (fun k => w.heap.size ≤ k ∧ k < w'.heap.size ∧ k ≠ b) w' b L ∧ Ext w w'
theorem rtree_box {w W : World} {v : Value} {L : List Nd} (h : OwnN w.heap.size L v W) (hE : Ext w W) : RNewT L w (.returned (.pointer (some ⟨W.heap.size, 0, none⟩))) (W.alloc (.cells #[v] 53)) := by
  obtain ⟨a, c, vs, rfl, h1, h2, h3, h4⟩ := h.rows
  refine ⟨_, rfl, hE.size, ⟨a, c, vs, heap_alloc_new W _, h1, h2, fun k hk => ⟨hk.2.1, hk.2.2⟩, h3.imp (fun k hk => ⟨hk.1, by rw [World.size_alloc]; omega, by omega⟩) (fun k hk => heap_alloc_old W _ hk.2), h4⟩, hE.trans (Ext.alloc _ _)⟩

theorem rclone7_any (w : World) (b : Nat) (M : List (Key × Nd)) (hR : RT w b (nds M)) (hM : MOk M) (hl : M.length * 168 ≤ 140737488355328) :
    Calls Tryz.prog 18 #[.pointer (some ⟨b, 0, none⟩)] w (RNewT (nds M) w) := by
  have CA := Lib.hid (rall_any w b M hR hM hl)
  clear hR hM
  go_enter Tryz.func18, Tryz.ntmps18
  go_wp2_with fail
  refine CA.out.mono ?_
  rintro e W ⟨v, rfl, hO, hE⟩
  have HFIN := Lib.hid (rtree_box hO hE)
  obtain ⟨a, c, vs, rfl, _⟩ := hO.rows
  clear CA hO hE
  go_wp2
  go_ret
  exact HFIN.out

theorem ownN_one {w W : World} {n : Nd} {cs : Array Value} (hN : NdS (fun k => w.heap.size ≤ k ∧ k < W.heap.size) W (.agg cs) n) (hE : Ext w W) : OwnN w.heap.size [n] (.slice (some ⟨W.heap.size, 0, none⟩) 1 1) (W.alloc (.cells cs 44)) := by
  have hs17 : cs.size = 17 := by
    obtain ⟨_, _, _, _, e, _⟩ := hN
    cases e; rfl
  refine ⟨[cs], ⟨by simp [hs17], .inr ⟨W.heap.size, 1, cs, rfl, hE.size, heap_alloc_new W _, Nat.le_refl _, by unfold maxLen; decide, by simp [hs17], by simp [List.take_of_length_le, hs17]⟩⟩, ?_⟩
  refine EachN.one (NdS.imp hN (fun k hk => ⟨hk.1, by rw [World.size_alloc]; omega, fun e => ?_⟩) fun b o u hb hu => cell_ext (Ext.alloc W _) b o u hu)
  have h : W.heap.size = k := Option.some.inj e
  omega

theorem rnew7_any (w : World) : Calls Tryz.prog 15 #[] w (RNewT [rootN] w) := by
  have CR := Lib.hid (rroot_any w)
  go_enter Tryz.func15, Tryz.ntmps15
  go_wp2_with fail
  refine CR.out.mono ?_
  rintro e W ⟨v, rfl, hN, hE⟩
  have hE : Ext w W := hE
  have hN0 := hN
  obtain ⟨qa, qc, ra, rc, rfl, _, _⟩ := hN0
  have HFIN := Lib.hid (rtree_box (ownN_one hN hE) (hE.trans (Ext.alloc _ _)))
  rw [World.size_alloc] at HFIN
  unfold ndC at HFIN ⊢
  clear CR hN hE
  go_wp2
  go_ret
  exact HFIN.out
end Go.Proofs.YthinpbdbhijbgaaGreatDoor
namespace Go.Proofs.YthinpbdbhijbgaaGreatDoor
open Go.RowKit Go.Sort
set_option maxHeartbeats 16000000
set_option maxRecDepth 100000

/-- A call's cells. -/
def opC (k : Int) (p : ByteArray) (n : Nd) (d a : Value) : Array Value :=
  #[.int .i64 k, .string p, .string n.path, d, a, .int .i64 n.owner, .int .i64 n.czxid, .int .i64 n.mzxid, .int .i64 n.pzxid, .int .i64 n.azxid, .int .i64 n.qzxid, .int .i64 n.ctime, .int .i64 n.mtime, .int .i32 n.version, .int .i32 n.creates, .int .i32 n.aversion, .bool n.has, .int .i64 n.count, .int .i64 n.bytes]
theorem op_nd {k : Int} {p : ByteArray} {n : Nd} {d a : Value} {j : Nat} {u : Value} (h : (ndC n d a)[j]? = some u) : (opC k p n d a)[2 + j]? = some u := by
  have hj := (Array.getElem?_eq_some_iff.1 h).1
  have hj : j < 17 := hj
  rw [Nat.add_comm]
  match j, hj with
  | 0, _ | 1, _ | 2, _ | 3, _ | 4, _ | 5, _ | 6, _ | 7, _ | 8, _ | 9, _ | 10, _ | 11, _ | 12, _ | 13, _ | 14, _ | 15, _ | 16, _ => exact h
theorem wpList_load_at_g {P : Program} {ops : Array Oper} {rest : List Oper} {o : Oper} {a : Act} {Q : Exit → Act → World → Prop} {w : World} (hw : Region.wanted o (yielded ops a.tmps) = true) (ty : TypeId) (x : Operand) (ho : o.op = .load ty x) (p : Addr) (hx : a.eval x = .pointer (some p))
    (cs : Array Value) (d : TypeDesc) (hc : ∀ j u, cs[j]? = some u → w.cell? (p.add j) = some u) (hu : P.underlying ty = some d) (hd : oneD d = false) (hi : (P.info? ty).map (·.size) = some cs.size)
    (hK : wpList P ops Q rest (a.put o.dst (.agg cs)) w) : wpList P ops Q (o :: rest) a w := by
  rw [wpList, if_pos hw]
  exact .inl (wp_value (ex_load_at ho p hx cs hc hu hd hi) hK)
theorem infoI32c : (Tryz.prog.info? 21).map (·.size) = some (Value.int .i32 (-5)).cells.size := by kernel_rfl
theorem infoU8c (z : Int) : (Tryz.prog.info? 5).map (·.size) = some (Value.int .u8 z).cells.size := (show (Tryz.prog.info? 5).map (·.size) = some 1 by kernel_rfl)
theorem one_int (k : IntKind) (z : Int) : ∀ u ∈ (Value.int k z).cells.toList, u.oneCell' = true := fun u hu => by
  have h : u ∈ [Value.int k z] := hu
  rw [List.mem_singleton] at h
  subst h; rfl
/-- An operation that only reads, while the second call is not done. -/
theorem dutyS_rd {P : Program} {ops : Array Oper} {Q : Exit → Act → World → Prop} {a0 : Act} {i j2 : Nat} {o : Oper} {G : (Nat → Bool) → World → Prop} {Φ : Nat → Value → Prop} (f : Nat) (hreach : reachB ops f j2 i = true) (hG : ∀ d d' w w', G d w → Ext w w' → (∀ k, k ≠ i → d' k = d k) → G d' w')
    (h : ∀ d a w, d j2 = false → G d w → Framed ops a0 a → Ahead ops (fun i v _ => Φ i v) o a w → o.wp P a w (fun a' w' => ∃ v, a' = a.put o.dst v ∧ Φ i v ∧ Ext w w') Q) : DutyS P ops Q G Φ a0 i o := by
  intro d a w hdi hcl _ hGw hF hA
  have hj : d j2 = false := by
    cases hq : d j2 with
    | false => rfl
    | true => have := hcl f j2 i hreach hq; rw [hdi] at this; cases this
  refine Oper.wp_mono (fun a' w' hh => ?_) (h d a w hj hGw hF hA)
  obtain ⟨v, rfl, hv, hE⟩ := hh
  exact ⟨v, rfl, hv, hG d _ _ _ hGw hE fun k hk => by
    have : (k == i) = false := by simpa using hk
    rw [this, Bool.or_false]⟩

/-- What the rounds that overwrite the call's own node keep. -/
structure Ovr (B : Nat) (S R : Nat → Prop) (w X : World) (bt br K : Nat) (M : List (Key × Nd)) (b7 kk : Nat) (opc : Array Value) (n : Nd) (d1 a1 : Option Addr) (e1 f1 k : Nat) (W : World) : Prop where
  aft : Aft7 B S R w X bt br K M W
  box : W.heap[kk]? = some (.cells opc 46 (0, 0))
  node : W.heap[b7]? = some (.cells (ndC n (.slice d1 n.data.length e1) (.slice a1 n.acl.length f1)) 44 (0, 0))
  data : ∃ xs, W.ownsRow w.heap.size 5 1 (.slice d1 n.data.length e1) n.data.length xs ∧ xs.drop k = (n.data.map u8v).drop k
  acl : ∃ ys, W.ownsRow w.heap.size 129 3 (.slice a1 n.acl.length f1) n.acl.length ys
theorem row_kept {W W' : World} {base size n : Nat} {e : TypeId} {v : Value} {xs : List Value} (h : W.ownsRow base e size v n xs) (hb : ∀ g, v.ownBlock = some g → W'.heap[g]? = W.heap[g]?) : W'.ownsRow base e size v n xs := by
  refine ⟨h.1, ?_⟩
  rcases h.2 with h | ⟨g, cap, cur, h1, h2, h3, h4⟩
  · exact .inl h
  · exact .inr ⟨g, cap, cur, h1, h2, (hb g (by rw [h1]; rfl)).trans h3, h4⟩

theorem cells_of_row {w : World} {base size n m c : Nat} {e : TypeId} {a : Option Addr} {xs : List Value} (h : w.ownsRow base e size (.slice a n c) m xs) : Cells w.heap.size w a xs := fun j u hj => by
  rcases h.2 with ⟨_, h0⟩ | ⟨g, cap, cur, e1, hb, hg, _⟩
  · have h1 := h.1
    rw [h0, Nat.zero_mul] at h1
    have := (List.getElem?_eq_some_iff.1 hj).1
    omega
  · simp only [Value.slice.injEq] at e1
    obtain ⟨rfl, rfl, rfl⟩ := e1
    refine ⟨g, 0, rfl, (Array.getElem?_eq_some_iff.1 hg).1, ?_⟩
    have := h.cells (g := g) rfl j u hj
    rwa [addr_add] at this
section
variable {B : Nat} {S R : Nat → Prop} {w X : World} {bt br K : Nat} {M : List (Key × Nd)} {b7 kk : Nat} {opc : Array Value} {n : Nd} {d1 a1 : Option Addr} {e1 f1 k : Nat} {W : World}
theorem Ovr.ext {W' : World} (h : Ovr B S R w X bt br K M b7 kk opc n d1 a1 e1 f1 k W) (hE : Ext W W') : Ovr B S R w X bt br K M b7 kk opc n d1 a1 e1 f1 k W' := by
  obtain ⟨xs, hx, hd⟩ := h.data
  obtain ⟨ys, hy⟩ := h.acl
  have hb : ∀ (g : Nat) o, W.heap[g]? = some o → W'.heap[g]? = some o := fun g o ho => (hE.block g (Array.getElem?_eq_some_iff.1 ho).1).trans ho
  exact ⟨h.aft.ext hE, hb _ _ h.box, hb _ _ h.node, ⟨xs, World.ownsRow.kept hx (grown_of_ext hE none) (Classical.em _), hd⟩, ⟨ys, World.ownsRow.kept hy (grown_of_ext hE none) (Classical.em _)⟩⟩
theorem Ovr.put1 (h : Ovr B S R w X bt br K M b7 kk opc n d1 a1 e1 f1 k W) (hS : ∀ k, S k ∨ R k ∨ k = br → k < w.heap.size) (hg : ∀ g, (Value.slice d1 n.data.length e1).ownBlock = some g → w.heap.size < g ∧ g < b7) (hb7 : b7 < X.heap.size) (hkk : kk = w.heap.size)
    (hap : ∀ g, (Value.slice d1 n.data.length e1).ownBlock = some g → (Value.slice a1 n.acl.length f1).ownBlock ≠ some g) (hk : k < n.data.length) (u : Value) :
    ∃ g cur, d1 = some ⟨g, 0, none⟩ ∧ W.heap[g]? = some (.cells cur 5 (0, 0)) ∧ k + 1 ≤ cur.size ∧ W.cell? ⟨g, k, none⟩ = some (u8v n.data[k]) ∧ Ovr B S R w X bt br K M b7 kk opc n d1 a1 e1 f1 (k + 1) (W.setRow g (cur.toList.take k ++ [u] ++ cur.toList.drop (k + 1)).toArray) := by
  obtain ⟨xs, hx, hd⟩ := h.data
  obtain ⟨ys, hy⟩ := h.acl
  have hlen : xs.length = n.data.length := by simpa using hx.1
  obtain ⟨g, cap, cur, ev, _, hgr, hgs, hnew⟩ := own_set (u := u) hx (i := k) (by omega)
  simp only [Value.slice.injEq, true_and] at ev
  obtain ⟨ed, _⟩ := ev
  have hob : (Value.slice d1 n.data.length e1).ownBlock = some g := by rw [ed]; rfl
  have hgg := hg g hob
  have hxk : xs[k]? = some (u8v n.data[k]) := by
    have e1 : (xs.drop k)[0]? = ((n.data.map u8v).drop k)[0]? := by rw [hd]
    rw [List.getElem?_drop, List.getElem?_drop, Nat.add_zero, List.getElem?_map, List.getElem?_eq_getElem hk] at e1
    exact e1
  have hcd := hx.cells (g := g) hob k _ hxk
  rw [addr_add, Nat.zero_add] at hcd
  refine ⟨g, cur, ed, hgr, hgs, hcd, ?_⟩
  have hC := Chg.set (S := (· = g)) g W (cur.toList.take k ++ [u] ++ cur.toList.drop (k + 1)).toArray rfl
  exact ⟨h.aft.chg hS hC fun j hj => by subst hj; omega, (setRow_other _ _ _ _ (by omega)).trans h.box, (setRow_other _ _ _ _ (by omega)).trans h.node,
    ⟨_, hnew, by rw [List.drop_set_of_lt (by omega), ← List.drop_drop, ← List.drop_drop, hd]⟩, ⟨ys, row_kept hy fun j hj => setRow_other _ _ _ _ fun e => hap g hob (by rw [hj, e])⟩⟩
theorem Ovr.put2 (h : Ovr B S R w X bt br K M b7 kk opc n d1 a1 e1 f1 k W) (hS : ∀ k, S k ∨ R k ∨ k = br → k < w.heap.size) (hg : ∀ g, (Value.slice a1 n.acl.length f1).ownBlock = some g → w.heap.size < g ∧ g < b7) (hb7 : b7 < X.heap.size) (hkk : kk = w.heap.size)
    (hap : ∀ g, (Value.slice d1 n.data.length e1).ownBlock = some g → (Value.slice a1 n.acl.length f1).ownBlock ≠ some g) {i : Nat} (hi : i < n.acl.length * 3) (u : Value) :
    ∃ g cur, a1 = some ⟨g, 0, none⟩ ∧ W.heap[g]? = some (.cells cur 129 (0, 0)) ∧ i + 1 ≤ cur.size ∧ Ovr B S R w X bt br K M b7 kk opc n d1 a1 e1 f1 k (W.setRow g (cur.toList.take i ++ [u] ++ cur.toList.drop (i + 1)).toArray) := by
  obtain ⟨xs, hx, hd⟩ := h.data
  obtain ⟨ys, hy⟩ := h.acl
  obtain ⟨g, cap, cur, ev, _, hgr, hgs, hnew⟩ := own_set (u := u) hy (i := i) (by rw [hy.1]; exact hi)
  simp only [Value.slice.injEq, true_and] at ev
  obtain ⟨ed, _⟩ := ev
  have hob : (Value.slice a1 n.acl.length f1).ownBlock = some g := by rw [ed]; rfl
  have hgg := hg g hob
  refine ⟨g, cur, ed, hgr, hgs, ?_⟩
  have hC := Chg.set (S := (· = g)) g W (cur.toList.take i ++ [u] ++ cur.toList.drop (i + 1)).toArray rfl
  exact ⟨h.aft.chg hS hC fun j hj => by subst hj; omega, (setRow_other _ _ _ _ (by omega)).trans h.box, (setRow_other _ _ _ _ (by omega)).trans h.node,
    ⟨xs, row_kept hx fun j hj => setRow_other _ _ _ _ fun e => hap j hj (by rw [e]; exact hob), hd⟩, ⟨_, hnew⟩⟩
end

end Go.Proofs.YthinpbdbhijbgaaGreatDoor
