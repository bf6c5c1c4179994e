/- A slice of nodes in memory; what From makes of nodes. The walk of tree.From. The walk of Get. A slice of nodes, opened. What the bound on the bulk says of a list of nodes: how long it is. The walk of Add. The walk of Remove. A tree is cut down from the last path on: what is left. -/
import Derived.Test.YthinpbdbhijbgaaGreatDoorJQuotaBooks4
import Derived.Test.YthinpbdbhijbgaaGreatDoorJQuotaBooks2
import Derived.Test.YthinpbdbhijbgaaGreatDoorRows
namespace Go.Proofs.YthinpbdbhijbgaaGreatDoor
open Go.RowKit

/-- A slice of nodes: each node's seventeen cells in a row, its two slices' cells below a block number. -/
def NdsAt (B : Nat) (w : World) (a : Option Addr) (L : List Nd) : Prop :=
  ∀ i n, L[i]? = some n → ∃ b off v, a = some ⟨b, off, none⟩ ∧ b < B ∧ NdV B w v n ∧ ∀ j u, v.cells[j]? = some u → w.cell? ⟨b, off + i * 17 + j, none⟩ = some u

theorem NdV.below {B : Nat} {w w' : World} {v : Value} {n : Nd} (h : NdV B w v n) (hb : Below B w w') : NdV B w' v n := by
  obtain ⟨da, dc, aa, ac, rfl, h1, h2⟩ := h
  exact ⟨da, dc, aa, ac, rfl, h1.below hb, h2.below hb⟩
theorem NdV.mono {B B' : Nat} {w : World} {v : Value} {n : Nd} (h : NdV B w v n) (hb : B ≤ B') : NdV B' w v n := by
  obtain ⟨da, dc, aa, ac, rfl, h1, h2⟩ := h
  exact ⟨da, dc, aa, ac, rfl, h1.mono hb, h2.mono hb⟩
theorem NdsAt.below {B : Nat} {w w' : World} {a : Option Addr} {L : List Nd} (h : NdsAt B w a L) (hb : Below B w w') : NdsAt B w' a L := fun i n hi => by
  obtain ⟨b, off, v, h1, h2, h3, h4⟩ := h i n hi
  exact ⟨b, off, v, h1, h2, h3.below hb, fun j u hj => (hb.cell (p := ⟨b, off + i * 17 + j, none⟩) h2).trans (h4 j u hj)⟩

theorem addr_add (b o j : Nat) : (⟨b, o, none⟩ : Addr).add j = ⟨b, o + j, none⟩ := by unfold Addr.add; split <;> simp_all

/-- A struct is read out of the middle of a block. -/
theorem run_loadVar_at {P : Program} (w : World) (p : Addr) (ty : TypeId) (cs : Array Value) (d : TypeDesc) (hc : ∀ j u, cs[j]? = some u → w.cell? (p.add j) = some u) (hu : P.underlying ty = some d) (hd : oneD d = false) (hi : (P.info? ty).map (·.size) = some cs.size) :
    (loadVar ty p).run P w = .ok (.agg cs) w := by
  have hl : (loadCells p cs.toList.length).run P w = .ok cs.toList.toArray w := run_loadCells_list (P := P) w p cs.toList (fun j v hv => hc j v (by simpa using hv))
  cases hq : P.info? ty with
  | none => simp [hq] at hi
  | some i =>
    have hs : i.size = cs.size := by simpa [hq] using hi
    have hsz : (sizeOf ty).run P w = .ok i.size w := by simp [sizeOf, typeInfo, hq]
    simp only [loadVar, isAgg, Sem.run_bind, run_underlying hu, Result.andThen_ok]
    have he : cs.toList.length = cs.size := Array.length_toList
    rw [he] at hl
    cases d <;> first | (simp [oneD] at hd; done) | (simp [Sem.run, hsz, hs, hl, Result.andThen])

theorem wpList_load_at {P : Program} {w : World} {ops : Array Oper} {rest : List Oper} {o : Oper} {a : Act} {Q : Exit → Act → World → Prop} (hg : o.guard = none) (ty : TypeId) (x : Operand) (ho : o.op = .load ty x) (p : Addr) (hx : a.eval x = .pointer (some p))
    (cs : Array Value) (d : TypeDesc) (hc : ∀ j u, cs[j]? = some u → w.cell? (p.add j) = some u) (hu : P.underlying ty = some d) (hd : oneD d = false) (hi : (P.info? ty).map (·.size) = some cs.size)
    (hK : wpList P ops Q rest (a.put o.dst (.agg cs)) w) : wpList P ops Q (o :: rest) a w :=
  wpList_plain hg fun K hK' => by
    unfold Oper.wp execOp
    simp only [ho, hx, Instr.loadAt, Instr.sureAddr, Sem.run_bind, Sem.run_pure, Result.andThen_ok, run_loadVar_at w p ty cs d hc hu hd hi]
    exact hK' _ _ hK

/-- What From makes of nodes: the tree, or the place and the number of what is wrong. -/
def fromL : List Nd → Nat → List (Key × Nd) → Except (Nat × Int) (List (Key × Nd))
  | [], _, M => .ok M
  | n :: l, i, M => if rightN n ≠ 0 then .error (i, rightN n) else if (mget M (keyN n)).isSome = true then .error (i, 71) else fromL l (i + 1) (mput M (keyN n) n)
def parL (M : List (Key × Nd)) : List Nd → Nat → Except (Nat × Int) Unit
  | [], _ => .ok ()
  | n :: l, i => if n.path.size ≠ 1 ∧ mget M (parentB n.path).data.toList = none then .error (i, 73) else parL M l (i + 1)
def fromN (L : List Nd) : Except (Nat × Int) (List (Key × Nd)) :=
  match fromL L 0 [] with
  | .error e => .error e
  | .ok M => if mget M [47] = none then .error (0, 70) else match parL M L 0 with
    | .error e => .error e
    | .ok _ => .ok M

theorem fromL_step (L : List Nd) (k : Nat) (n : Nd) (M : List (Key × Nd)) (h : L[k]? = some n) : fromL (L.drop k) k M = if rightN n ≠ 0 then .error (k, rightN n) else if (mget M (keyN n)).isSome = true then .error (k, 71) else fromL (L.drop (k + 1)) (k + 1) (mput M (keyN n) n) := by
  obtain ⟨hk, e⟩ := List.getElem?_eq_some_iff.1 h
  rw [List.drop_eq_getElem_cons hk, e]; rfl
theorem parL_step (M : List (Key × Nd)) (L : List Nd) (k : Nat) (n : Nd) (h : L[k]? = some n) : parL M (L.drop k) k = if n.path.size ≠ 1 ∧ mget M (parentB n.path).data.toList = none then .error (k, 73) else parL M (L.drop (k + 1)) (k + 1) := by
  obtain ⟨hk, e⟩ := List.getElem?_eq_some_iff.1 h
  rw [List.drop_eq_getElem_cons hk, e]; rfl
theorem fromL_right : ∀ (l : List Nd) (i : Nat) (M0 M : List (Key × Nd)), fromL l i M0 = .ok M → ∀ n ∈ l, rightN n = 0
  | [], _, _, _, _, n, hn => by simp at hn
  | x :: l, i, M0, M, h, n, hn => by
    unfold fromL at h
    split at h
    · cases h
    · rename_i hx
      split at h
      · cases h
      · rcases List.mem_cons.1 hn with rfl | hn
        · simpa using hx
        · exact fromL_right l _ _ _ h n hn

/-- What a look into the map of nodes gives. -/
theorem NodesAt.look {S : Nat → Prop} {w : World} {bn : Nat} {M : List (Key × Nd)} {N : Nat} (h : NodesAt S w bn M N) (s : ByteArray) (hs : s.size ≤ maxLen) :
    ∃ cs, (cs.size = 17 ∧ cs.all (·.oneCell') = true) ∧ (Instr.lookup 120 (.map (some bn)) (.string s) true).run Tryz.prog w = .ok (.tuple #[.agg cs, .bool (mget M s.data.toList).isSome]) w ∧
      (Instr.lookup 120 (.map (some bn)) (.string s) false).run Tryz.prog w = .ok (.agg cs) w ∧
      ∀ n, mget M s.data.toList = some n → NdS S w (.agg cs) n := by
  obtain ⟨mm, hm, hr⟩ := h.ex
  have q1 := SMap.look_ok (e := 44) hm strT Tryz.underlying120 (z := .agg zeroNd) (by kernel_rfl) hs
  have q2 := SMap.look (e := 44) hm strT Tryz.underlying120 (z := .agg zeroNd) (by kernel_rfl) hs
  rcases hr.get s.data.toList with ⟨h1, h2⟩ | ⟨y, v, h1, h2, h3⟩
  · rw [h2] at q1 q2
    exact ⟨zeroNd, ⟨rfl, by simp [zeroNd, Value.oneCell']⟩, by rw [h1]; exact q1, q2, fun n hn => by rw [h1] at hn; cases hn⟩
  · obtain ⟨da, dc, aa, ac, rfl, h4⟩ := h3
    rw [h2] at q1 q2
    exact ⟨_, ⟨rfl, cells_node _ _ _ _ _ _ _⟩, by rw [h1]; exact q1, q2, fun n hn => by rw [h1] at hn; cases hn; exact ⟨da, dc, aa, ac, rfl, h4⟩⟩
end Go.Proofs.YthinpbdbhijbgaaGreatDoor
namespace Go.Proofs.YthinpbdbhijbgaaGreatDoor
open Go.RowKit
set_option maxHeartbeats 2000000
set_option maxRecDepth 100000

theorem world_ext {u v : World} (h1 : u.heap = v.heap) (h2 : u.tape = v.tape) (h3 : u.drawn = v.drawn) (h4 : u.os = v.os) (h5 : u.output = v.output) : u = v := by
  cases u; cases v; simp_all
theorem setRow_alloc (w : World) (z cs : Array Value) (t : TypeId) : (w.alloc (.cells z t)).setRow w.heap.size cs = w.alloc (.cells cs t) := by
  refine world_ext ?_ rfl rfl rfl rfl
  apply Array.ext_getElem?
  intro i
  by_cases h : i = w.heap.size
  · subst h
    rw [setRow_heap _ _ _ _ _ _ (heap_alloc_new w (.cells z t)), heap_alloc_new]
  · rw [setRow_other _ _ _ _ h]
    show (w.heap.push _)[i]? = (w.heap.push _)[i]?
    rw [Array.getElem?_push, Array.getElem?_push, if_neg h, if_neg h]

def FromOut (L : List Nd) (w : World) (e : Ending) (w' : World) : Prop :=
  match fromN L with
  | .error (i, x) => e = .returned (.tuple #[.pointer none, .int .i64 i, .int .i64 x]) ∧ Ext w w'
  | .ok M => ∃ b, e = .returned (.tuple #[.pointer (some ⟨b, 0, none⟩), .int .i64 0, .int .i64 0]) ∧ TreeAt (fun k => w.heap.size ≤ k ∧ k < w'.heap.size) w' b M L.length ∧ Ext w w'

theorem fromOut_err {L : List Nd} {w w' : World} {i : Nat} {x : Int} (h : fromN L = .error (i, x)) (hb : Ext w w') : FromOut L w (.returned (.tuple #[.pointer none, .int .i64 i, .int .i64 x])) w' := by
  unfold FromOut; rw [h]; exact ⟨rfl, hb⟩

theorem from_any (L : List Nd) (a : Option Addr) (c : Nat) (w : World) (hT0 : Tabs w) (hL : NdsAt w.heap.size w a L) (hf : ∀ n ∈ L, Fit n) (hl : L.length ≤ 140737488355328) : Calls Tryz.prog 51 #[.slice a L.length c] w (FromOut L w) := by
  have hz := emptyW_size w
  have hE := emptyW_ext w
  have hTr := tree_empty w
  have hmm := @run_makeMap Tryz.prog
  obtain ⟨W1, hW1⟩ : ∃ W1, W1 = emptyW w := ⟨_, rfl⟩
  rw [← hW1] at hz hE hTr
  have HW1 := Lib.hid hW1
  unfold emptyW treeC at HW1
  have hl2 : L.length ≤ 9223372036854775807 := by omega
  clear hW1
  go_enter Tryz.func51, Tryz.ntmps51
  go_wp2
  rw [← HW1.out]
  clear hmm
  go_loopw [25] (fun i wr => ∃ (k : Nat) (M : List (Key × Nd)), k ≤ L.length ∧ i = .int .i64 k ∧ Hid (fromL L 0 [] = fromL (L.drop k) k M) ∧ TreeAt (fun b => w.heap.size ≤ b ∧ b < wr.heap.size) wr (w.heap.size + 1 + 1) M k ∧ Below w.heap.size w wr) (fun i _ => L.length - (intOf i).toNat)
  case atStart => exact ⟨0, [], Nat.zero_le _, rfl, rfl, hTr, hE⟩
  case round =>
    obtain ⟨k, M, hk, rfl, HF, hT, hB⟩ := hrel
    by_cases hlt : k < L.length
    · have hLk : L[k]? = some L[k] := List.getElem?_eq_getElem hlt
      have hfk := hf L[k] (List.getElem_mem hlt)
      have HS := Lib.hid (HF.out.trans (fromL_step L k L[k] M hLk))
      obtain ⟨b, off, v, rfl, hb, hv, hc⟩ := hL k L[k] hLk
      have hLb := hL
      generalize L[k] = n at *
      obtain ⟨da, dc, aa, ac, rfl, hD, hA⟩ := hv
      have hcw : ∀ j u, (ndC n (.slice da n.data.length dc) (.slice aa n.acl.length ac))[j]? = some u → wr.cell? ((⟨b, off + k * 17, none⟩ : Addr).add j) = some u := fun j u hj => by
        rw [addr_add, hB.cell (p := ⟨b, off + k * 17 + j, none⟩) hb]
        exact hc j u hj
      have hDr := (hD.below hB).mono hB.size
      have hAr := (hA.below hB).mono hB.size
      obtain ⟨W2, hW2⟩ : ∃ W2, W2 = wr.alloc (.cells (ndC n (.slice da n.data.length dc) (.slice aa n.acl.length ac)) 44) := ⟨_, rfl⟩
      have he2 : Ext wr W2 := by rw [hW2]; exact Ext.alloc _ _
      have hn2 : W2.heap[wr.heap.size]? = some (.cells (ndC n (.slice da n.data.length dc) (.slice aa n.acl.length ac)) 44 (0, 0)) := by rw [hW2]; exact heap_alloc_new wr _
      have hz2 : W2.heap.size = wr.heap.size + 1 := by rw [hW2]; simp
      have hT2 := hT.ext he2
      have hB2 : Below w.heap.size w W2 := hB.trans (he2.mono hB.size)
      have hu2 : Tabs W2 := hT0.below hB2 hT0.size
      have hD2 := hDr.ext he2
      have hA2 := hAr.ext he2
      have CR := right_any n da aa dc ac W2 hfk hu2 hA2
      have hset := setRow_alloc wr zeroNd (ndC n (.slice da n.data.length dc) (.slice aa n.acl.length ac)) 44
      have HC := Lib.hid hcw
      have HN := Lib.hid hn2
      have HT := Lib.hid hT2
      have HSET := Lib.hid (hset.trans hW2.symm)
      have HNew := Lib.hid (heap_alloc_new wr (.cells zeroNd 44))
      have CR := Lib.hid CR
      have HL := Lib.hid hLb
      unfold ndC at HC HN CR HSET
      unfold zeroNd at HSET HNew
      clear hcw hn2 hT2 hset hW2 hc hL hT hDr hAr hD hA hLb
      go_wp2_with (first | (refine wpList_load_at rfl 44 (.tmp 28) rfl _ rfl _ _ HC.out Tryz.underlying44 rfl sizeNd ?_) | (refine wpList_store_row rfl 44 (.tmp 7) (.tmp 29) rfl wr.heap.size _ rfl rfl 44 _ HNew.out sizeNd rfl (cells_node n da aa _ _ dc ac) ?_; rw [HSET.out]) | (refine wpList_load_row rfl 44 (.tmp 7) rfl wr.heap.size rfl 44 _ (0, 0) _ HN.out Tryz.underlying44 rfl sizeNd ?_))
      refine CR.out.mono ?_
      rintro e w3 ⟨rfl, hb3⟩
      have hE3 : Ext W2 w3 := hb3
      have hB3 : Below w.heap.size w w3 := hB2.trans (hE3.mono hB2.size)
      by_cases hr : rightN n = 0
      · rw [hr]
        have HR := Lib.hid hr
        have hT3 := HT.out.ext hE3
        have hn3 := (hE3.block wr.heap.size (by omega)).trans HN.out
        have hD3 := hD2.ext hE3
        have hA3 := hA2.ext hE3
        obtain ⟨bn, bk, K, hd, hNd, hKd⟩ := hT3
        have hps : n.path.size ≤ maxLen := by
          have := (vpath_facts (right_vpath hr)).2.1
          unfold maxLen; omega
        clear hr CR HC HN HSET HNew hb3 hz2 hD2 hA2 he2 hB2 hu2
        go_wp2
        refine there_region _ _ _ _ _ _ _ _ _ _ _ _ 5 7 _ 91 rfl (by decide) (by decide) (by decide) hd hNd wr.heap.size n.path _ hn3 rfl hps rfl rfl ?_
        intro v0 v1 v2 v3 v4 v5 v6 v7 v8 v9 v10 w4 hE4
        simp only [Act.put]
        go_simp
        rename_i hK
        refine hK _ _ ?_
        have hB4 : Below w.heap.size w w4 := hB3.trans (hE4.mono hB3.size)
        have hT4 : TreeAt (fun b => w.heap.size ≤ b ∧ b < wr.heap.size) w4 (w.heap.size + 1 + 1) M k := TreeAt.ext ⟨bn, bk, K, hd, hNd, hKd⟩ hE4
        have hD4 := hD3.ext hE4
        have hA4 := hA3.ext hE4
        have hn4 := (hE4.block wr.heap.size (Array.getElem?_eq_some_iff.1 hn3).1).trans hn3
        clear hd hNd hKd hn3 hD3 hA3 hB3
        cases hg : mget M n.path.data.toList with
        | some y =>
          have hfin : FromOut L w (.returned (.tuple #[.pointer none, .int .i64 k, .int .i64 71])) w4 := fromOut_err (by
            unfold fromN
            rw [HS.out, if_neg (by rw [HR.out]; simp), if_pos (by unfold keyN; rw [hg]; rfl)]) hB4
          have HFIN := Lib.hid hfin
          clear hfin hT4 hB4 hD4 hA4 hn4 hg HS
          go_wp2
          go_ret3
          exact HFIN.out
        | none =>
          have C3 := lay_any _ w4 _ M k hT4 n da aa dc ac HR.out hg (by omega) hD4 hA4
          have HS2 := Lib.hid (HS.out.trans (by rw [if_neg (by rw [HR.out]; simp), if_neg (by unfold keyN; rw [hg]; simp)]))
          have HN4 := Lib.hid hn4
          have C3 := Lib.hid C3
          unfold ndC at HN4 C3
          have hz4 : wr.heap.size ≤ w4.heap.size := by have := (Array.getElem?_eq_some_iff.1 hn4).1; omega
          clear hT4 hD4 hA4 hn4 hg HS
          go_wp2_with (refine wpList_load_row rfl 44 (.tmp 7) rfl wr.heap.size rfl 44 _ (0, 0) _ HN4.out Tryz.underlying44 rfl sizeNd ?_)
          refine C3.out.mono ?_
          rintro e w5 ⟨rfl, hT5, hM5⟩
          have hz5 := hM5.size
          have hB5 : Below w.heap.size w w5 := hB4.trans (hM5.below (fun b hb => hb.1) (by have := hB4.size; omega))
          have HT5 := Lib.hid hT5
          have hzw := hB.size
          clear C3 HN4 hT5 hM5 hB4
          go_wp2
          go_roundw
          case rel =>
            exact ⟨k + 1, _, by omega, by go_num, HS2.out, HT5.out.keep (fun _ _ => rfl) (fun b hb => ⟨by rcases hb with h | h <;> omega, HT5.out.bound b hb⟩) (fun b hb => hb.2) (Nat.le_refl _), hB5⟩
          case measure => simp [intOf]; omega
      · have hne : (rightN n != 0) = true := by simpa using hr
        have hfin : FromOut L w (.returned (.tuple #[.pointer none, .int .i64 k, .int .i64 (rightN n)])) w3 := fromOut_err (by
          unfold fromN
          rw [HS.out, if_pos hr]) hB3
        have HFIN := Lib.hid hfin
        clear hfin hr HS CR HC HN HSET HNew HT hb3 hE3 hB3 hB2 hD2 hA2 he2 hu2
        go_wp2
        go_ret3
        exact HFIN.out
    · obtain rfl : k = L.length := by omega
      have HF2 : Hid (fromL L 0 [] = .ok M) := by
        have := HF.out
        rw [List.drop_length] at this
        exact this
      obtain ⟨bn, bk, K, hd, hNd, hKd⟩ := hT
      have hT : TreeAt (fun b => w.heap.size ≤ b ∧ b < wr.heap.size) wr (w.heap.size + 1 + 1) M L.length := ⟨bn, bk, K, hd, hNd, hKd⟩
      have hbox : Box wr (w.heap.size + 1 + 1) (treeC bn bk) := fun j => cell_of_row _ _ _ _ _ _ hd.blk
      obtain ⟨cs, ⟨hc17, hc1⟩, hq, _, _⟩ := hNd.look ⟨#[47]⟩ (by unfold maxLen; decide)
      have hsz17 : (Tryz.prog.info? 44).map (·.size) = some cs.size := by rw [hc17]; exact sizeNd
      have hzs : zeroNd.size = cs.size := by rw [hc17]; rfl
      obtain ⟨W2, hW2⟩ : ∃ W2, W2 = wr.alloc (.cells cs 44) := ⟨_, rfl⟩
      have HSET := Lib.hid ((setRow_alloc wr zeroNd cs 44).trans hW2.symm)
      have HNew := Lib.hid (heap_alloc_new wr (.cells zeroNd 44))
      have hE2 : Ext wr W2 := by rw [hW2]; exact Ext.alloc _ _
      have hB2 : Below w.heap.size w W2 := hB.trans (hE2.mono hB.size)
      have hT2 : TreeAt (fun b => w.heap.size ≤ b ∧ b < W2.heap.size) W2 (w.heap.size + 1 + 1) M L.length := (hT.ext hE2).keep (fun _ _ => rfl) (fun b hb => ⟨hb.1, Nat.lt_of_lt_of_le hb.2 hE2.size⟩) (fun b hb => hb.2) (Nat.le_refl _)
      have hhid := Lib.hid hzs
      change Hid (zeroNd.size = cs.size) at hhid
      unfold zeroNd at HSET HNew
      unfold Box treeC at hbox
      have hkl : ((⟨#[47]⟩ : ByteArray)).data.toList = [47] := rfl
      rw [hkl] at hq
      have HC1 := Lib.hid hc1
      have H17 := Lib.hid hsz17
      clear hW2 hd hNd hKd hT hzs hc1 hc17 hsz17 hkl
      cases hg : mget M [47] with
      | none =>
        rw [hg] at hq
        have hq' : (Instr.lookup 120 (.map (some bn)) (.string ⟨#[47]⟩) true).run Tryz.prog wr = .ok (.tuple #[.agg cs, .bool false]) wr := hq
        have hfin : FromOut L w (.returned (.tuple #[.pointer none, .int .i64 0, .int .i64 70])) W2 := fromOut_err (i := 0) (by
          unfold fromN
          rw [HF2.out]
          simp only
          rw [if_pos hg]) hB2
        have HFIN := Lib.hid hfin
        clear hq hfin hg hT2 hE2 hB2
        go_wp2_with (refine wpList_store_row rfl 44 (.tmp 11) (.tmp 58) rfl wr.heap.size _ rfl rfl 44 _ HNew.out H17.out hhid.out HC1.out ?_; rw [HSET.out])
        go_ret3
        exact HFIN.out
      | some y0 =>
        rw [hg] at hq
        have hq' : (Instr.lookup 120 (.map (some bn)) (.string ⟨#[47]⟩) true).run Tryz.prog wr = .ok (.tuple #[.agg cs, .bool true]) wr := hq
        have HG := Lib.hid hg
        have HRt := Lib.hid (fromL_right L 0 [] M HF2.out)
        clear hq hg hE2
        go_wp2_with (refine wpList_store_row rfl 44 (.tmp 11) (.tmp 58) rfl wr.heap.size _ rfl rfl 44 _ HNew.out H17.out hhid.out HC1.out ?_; rw [HSET.out])
        clear hq' HNew HSET hhid H17 HC1 hbox
        generalize wr.heap.size = gx
        go_loopw [64] (fun i wt => ∃ k : Nat, k ≤ L.length ∧ i = .int .i64 k ∧ Hid (parL M L 0 = parL M (L.drop k) k) ∧ TreeAt (fun b => w.heap.size ≤ b ∧ b < wt.heap.size) wt (w.heap.size + 1 + 1) M L.length ∧ Below w.heap.size w wt) (fun i _ => L.length - (intOf i).toNat)
        case atStart => exact ⟨0, Nat.zero_le _, rfl, rfl, hT2, hB2⟩
        case round =>
          obtain ⟨k, hk, rfl, HP, hT3, hB3⟩ := hrel
          by_cases hlt : k < L.length
          · have hLk : L[k]? = some L[k] := List.getElem?_eq_getElem hlt
            have hrk := HRt.out L[k] (List.getElem_mem hlt)
            have HS := Lib.hid (HP.out.trans (parL_step M L k L[k] hLk))
            obtain ⟨b, off, v, rfl, hb, hv, hc⟩ := hL k L[k] hLk
            have HL := Lib.hid hL
            generalize L[k] = n at *
            obtain ⟨da, dc, aa, ac, rfl, hD, hA⟩ := hv
            have hcw : ∀ j u, (ndC n (.slice da n.data.length dc) (.slice aa n.acl.length ac))[j]? = some u → wr.cell? ((⟨b, off + k * 17, none⟩ : Addr).add j) = some u := fun j u hj => by
              rw [addr_add, hB3.cell (p := ⟨b, off + k * 17 + j, none⟩) hb]
              exact hc j u hj
            obtain ⟨W4, hW4⟩ : ∃ W4, W4 = wr.alloc (.cells (ndC n (.slice da n.data.length dc) (.slice aa n.acl.length ac)) 44) := ⟨_, rfl⟩
            have hE4 : Ext wr W4 := by rw [hW4]; exact Ext.alloc _ _
            have hn4 : W4.heap[wr.heap.size]? = some (.cells (ndC n (.slice da n.data.length dc) (.slice aa n.acl.length ac)) 44 (0, 0)) := by rw [hW4]; exact heap_alloc_new wr _
            have hz4 : W4.heap.size = wr.heap.size + 1 := by rw [hW4]; simp
            have hT4 := hT3.ext hE4
            have hB4 : Below w.heap.size w W4 := hB3.trans (hE4.mono hB3.size)
            have hx4 : Box W4 wr.heap.size (ndC n (.slice da n.data.length dc) (.slice aa n.acl.length ac)) := fun j => cell_of_row _ _ _ _ _ _ hn4
            have hvp := right_vpath hrk
            have hvf := vpath_facts hvp
            have CP := parent_any n.path W4 (by omega)
            have HC := Lib.hid hcw
            have HN := Lib.hid hn4
            have HSET := Lib.hid ((setRow_alloc wr zeroNd (ndC n (.slice da n.data.length dc) (.slice aa n.acl.length ac)) 44).trans hW4.symm)
            have HNew := Lib.hid (heap_alloc_new wr (.cells zeroNd 44))
            have HT4 := Lib.hid hT4
            have hwt := hB3.size
            unfold ndC at HC HN HSET
            unfold zeroNd at HSET HNew
            unfold Box ndC at hx4
            clear hcw hn4 hW4 hc hL hD hA hT3 hT4 hB3 hvf
            by_cases hroot : n.path.size = 1
            · rw [show parV n.path = .tuple #[.string ⟨#[]⟩, .int .i64 30] by unfold parV; rw [if_neg (fun h => h.2 hroot)]] at CP
              have HS2 := Lib.hid (HS.out.trans (by rw [if_neg (fun h => h.1 hroot)]))
              have CP := Lib.hid CP
              clear hroot HS hvp hrk
              go_wp2_with (first | (refine wpList_load_at rfl 44 (.tmp 67) rfl _ rfl _ _ HC.out Tryz.underlying44 rfl sizeNd ?_) | (refine wpList_store_row rfl 44 (.tmp 14) (.tmp 68) rfl wr.heap.size _ rfl rfl 44 _ HNew.out sizeNd rfl (cells_node n da aa _ _ dc ac) ?_; rw [HSET.out]))
              refine CP.out.mono ?_
              rintro e w5 ⟨rfl, hb5⟩
              have hE5 : Ext W4 w5 := hb5
              have hz5 := hE5.size
              have hB5 : Below w.heap.size w w5 := hB4.trans (hE5.mono hB4.size)
              have HT5 := Lib.hid (HT4.out.ext hE5)
              clear CP HC HN HSET HNew hx4 hb5 hB4 HT4
              go_wp2
              go_roundw
              case rel => exact ⟨k + 1, by omega, by go_num, HS2.out, HT5.out.keep (fun _ _ => rfl) (fun b hb => ⟨hb.1, HT5.out.bound b hb⟩) (fun b hb => hb.2) (Nat.le_refl _), hB5⟩
              case measure => simp [intOf]; omega
            · rw [show parV n.path = .tuple #[.string (parentB n.path), .int .i64 0] by unfold parV; rw [if_pos ⟨hvp, hroot⟩]] at CP
              have hps : (parentB n.path).size ≤ maxLen := by
                have := (path_split hvp hroot).2.2.1
                have := (vpath_facts hvp).2.1
                unfold maxLen; omega
              have CP := Lib.hid CP
              have HRoot := Lib.hid hroot
              clear hroot hvp hrk
              go_wp2_with (first | (refine wpList_load_at rfl 44 (.tmp 67) rfl _ rfl _ _ HC.out Tryz.underlying44 rfl sizeNd ?_) | (refine wpList_store_row rfl 44 (.tmp 14) (.tmp 68) rfl wr.heap.size _ rfl rfl 44 _ HNew.out sizeNd rfl (cells_node n da aa _ _ dc ac) ?_; rw [HSET.out]))
              refine CP.out.mono ?_
              rintro e w5 ⟨rfl, hb5⟩
              have hE5 : Ext W4 w5 := hb5
              have hz5 := hE5.size
              have hB5 : Below w.heap.size w w5 := hB4.trans (hE5.mono hB4.size)
              have hT5 := HT4.out.ext hE5
              obtain ⟨bn, bk, K, hd, hNd, hKd⟩ := hT5
              have hT5 : TreeAt (fun b => w.heap.size ≤ b ∧ b < wr.heap.size) w5 (w.heap.size + 1 + 1) M L.length := ⟨bn, bk, K, hd, hNd, hKd⟩
              have hbox : Box w5 (w.heap.size + 1 + 1) (treeC bn bk) := fun j => cell_of_row _ _ _ _ _ _ hd.blk
              obtain ⟨cs, ⟨hc17, hc1⟩, hq, _, _⟩ := hNd.look (parentB n.path) hps
              have hsz17 : (Tryz.prog.info? 44).map (·.size) = some cs.size := by rw [hc17]; exact sizeNd
              have hzs : zeroNd.size = cs.size := by rw [hc17]; rfl
              obtain ⟨W6, hW6⟩ : ∃ W6, W6 = w5.alloc (.cells cs 44) := ⟨_, rfl⟩
              have HSET6 := Lib.hid ((setRow_alloc w5 zeroNd cs 44).trans hW6.symm)
              have HNew6 := Lib.hid (heap_alloc_new w5 (.cells zeroNd 44))
              have hE6 : Ext w5 W6 := by rw [hW6]; exact Ext.alloc _ _
              have hz6 := hE6.size
              have hB6 : Below w.heap.size w W6 := hB5.trans (hE6.mono hB5.size)
              have HT6 := Lib.hid (hT5.ext hE6)
              have hhid := Lib.hid hzs
              change Hid (zeroNd.size = cs.size) at hhid
              unfold zeroNd at HSET6 HNew6
              unfold Box treeC at hbox
              have HC1 := Lib.hid hc1
              have H17 := Lib.hid hsz17
              clear hW6 hd hNd hKd hT5 hzs hc1 hc17 hsz17 CP HC HN HSET HNew hx4 hb5 hB4 HT4 hE6 hE5 hB5
              cases hg : mget M (parentB n.path).data.toList with
              | none =>
                rw [hg] at hq
                have hq' : (Instr.lookup 120 (.map (some bn)) (.string (parentB n.path)) true).run Tryz.prog w5 = .ok (.tuple #[.agg cs, .bool false]) w5 := hq
                have hfin : FromOut L w (.returned (.tuple #[.pointer none, .int .i64 k, .int .i64 73])) W6 := fromOut_err (by
                  unfold fromN
                  rw [HF2.out]
                  simp only
                  rw [if_neg (by rw [HG.out]; simp), HS.out, if_pos ⟨HRoot.out, hg⟩]) hB6
                have HFIN := Lib.hid hfin
                clear hq hfin hg hB6 HS HT6
                go_wp2_with (refine wpList_store_row rfl 44 (.tmp 17) (.tmp 84) rfl w5.heap.size _ rfl rfl 44 _ HNew6.out H17.out hhid.out HC1.out ?_; rw [HSET6.out])
                go_ret3
                exact HFIN.out
              | some y1 =>
                rw [hg] at hq
                have hq' : (Instr.lookup 120 (.map (some bn)) (.string (parentB n.path)) true).run Tryz.prog w5 = .ok (.tuple #[.agg cs, .bool true]) w5 := hq
                have HS2 := Lib.hid (HS.out.trans (by rw [if_neg (fun h => by rw [hg] at h; cases h.2)]))
                clear hq hg HS
                go_wp2_with (refine wpList_store_row rfl 44 (.tmp 17) (.tmp 84) rfl w5.heap.size _ rfl rfl 44 _ HNew6.out H17.out hhid.out HC1.out ?_; rw [HSET6.out])
                go_roundw
                case rel => exact ⟨k + 1, by omega, by go_num, HS2.out, HT6.out.keep (fun _ _ => rfl) (fun b hb => ⟨hb.1, HT6.out.bound b hb⟩) (fun b hb => hb.2) (Nat.le_refl _), hB6⟩
                case measure => simp [intOf]; omega
          · obtain rfl : k = L.length := by omega
            have hfin : FromOut L w (.returned (.tuple #[.pointer (some ⟨w.heap.size + 1 + 1, 0, none⟩), .int .i64 0, .int .i64 0])) wr := by
              unfold FromOut fromN
              rw [HF2.out]
              simp only
              rw [if_neg (by rw [HG.out]; simp), HP.out, List.drop_length]
              exact ⟨_, rfl, hT3, hB3⟩
            have HFIN := Lib.hid hfin
            clear hfin hT3 hB3 HP HG HF2
            go_wp2
            go_ret3
            exact HFIN.out
end Go.Proofs.YthinpbdbhijbgaaGreatDoor
namespace Go.Proofs.YthinpbdbhijbgaaGreatDoor
open Go.RowKit
set_option maxHeartbeats 2000000
set_option maxRecDepth 100000

theorem results_cell_row2 {P : Program} {fn : Func} {p q : Tmp} {ty : TypeId} (h : fn.results = #[.cell p ty, .tmp q]) (tmps : Array Value) (w : World) (g : Nat) (t : TypeId) (cs : Array Value) (fr : Nat × Nat) (d : TypeDesc) (v : Value)
    (hp : tmps.getD p undef = .pointer (some ⟨g, 0, none⟩)) (hq : tmps.getD q undef = v) (hg : w.heap[g]? = some (.cells cs t fr))
    (hu : P.underlying ty = some d) (hd : (match d with | .struct _ | .array _ _ => true | _ => false) = true) (hi : (P.info? ty).map (·.size) = some cs.size) :
    (results fn tmps).run P w = .ok (.tuple #[.agg cs, v]) w := by
  have hp' : tmps[p]?.getD undef = .pointer (some ⟨g, 0, none⟩) := by simpa using hp
  have hq' : tmps[q]?.getD undef = v := by simpa using hq
  simp [results, h, hp', hq', asAddr, run_loadVar_row w g t ty cs fr d hg hu hd hi]

theorem TreeAt.box {S : Nat → Prop} {w : World} {bt bn bk : Nat} (hd : Hd S w bt bn bk) : Box w bt (treeC bn bk) := fun j => cell_of_row _ _ _ _ _ _ hd.blk

def zeroN : Nd := ⟨⟨#[]⟩, [], [], 0, 0, 0, 0, 0, 0, 0, 0, 0, 0, 0, false, 0, 0⟩
theorem zeroN_fit : Fit zeroN := ⟨by simp [zeroN, ByteArray.size], by simp [zeroN], by simp [zeroN], fun x hx => by simp [zeroN] at hx⟩
theorem zeroN_nds (S : Nat → Prop) (w : World) : NdS S w (.agg zeroNd) zeroN := ⟨none, 0, none, 0, rfl, fun j u h => by simp [zeroN] at h, fun j u h => by simp [zeroN, acCs] at h⟩

theorem NodesAt.look' {S : Nat → Prop} {w : World} {bn : Nat} {M : List (Key × Nd)} {N : Nat} (h : NodesAt S w bn M N) (s : ByteArray) (hs : s.size ≤ maxLen) :
    ∃ v, NdS S w v ((mget M s.data.toList).getD zeroN) ∧ (Instr.lookup 120 (.map (some bn)) (.string s) true).run Tryz.prog w = .ok (.tuple #[v, .bool (mget M s.data.toList).isSome]) w ∧
      (Instr.lookup 120 (.map (some bn)) (.string s) false).run Tryz.prog w = .ok v w := by
  obtain ⟨mm, hm, hr⟩ := h.ex
  have q1 := SMap.look_ok (e := 44) hm strT Tryz.underlying120 (z := .agg zeroNd) (by kernel_rfl) hs
  have q2 := SMap.look (e := 44) hm strT Tryz.underlying120 (z := .agg zeroNd) (by kernel_rfl) hs
  rcases hr.get s.data.toList with ⟨h1, h2⟩ | ⟨y, v, h1, h2, h3⟩
  · rw [h2] at q1 q2
    rw [h1]
    exact ⟨.agg zeroNd, zeroN_nds S w, q1, q2⟩
  · rw [h2] at q1 q2
    rw [h1]
    exact ⟨v, h3, q1, q2⟩

theorem MOk.fit {M : List (Key × Nd)} (h : MOk M) (k : Key) : Fit ((mget M k).getD zeroN) := by
  cases hg : mget M k with
  | none => exact zeroN_fit
  | some n => exact (right_fit (h.at hg).2).1

def GetOut (M : List (Key × Nd)) (s : ByteArray) (w : World) (e : Ending) (w' : World) : Prop :=
  ∃ v, e = .returned (.tuple #[v, .bool (mget M s.data.toList).isSome]) ∧ NdS (fun b => w.heap.size ≤ b ∧ b < w'.heap.size) w' v ((mget M s.data.toList).getD zeroN) ∧ Ext w w'

theorem tget_any (S : Nat → Prop) (w : World) (bt : Nat) (M : List (Key × Nd)) (N : Nat) (hT : TreeAt S w bt M N) (s : ByteArray) (hs : s.size ≤ maxLen) : Calls Tryz.prog 54 #[.pointer (some ⟨bt, 0, none⟩), .string s] w (GetOut M s w) := by
  obtain ⟨W1, hW1⟩ : ∃ W1, W1 = w.alloc (.cells zeroNd 44) := ⟨_, rfl⟩
  have hE1 : Ext w W1 := by rw [hW1]; exact Ext.alloc _ _
  have hz1 : W1.heap.size = w.heap.size + 1 := by rw [hW1]; simp
  have hr1 : W1.heap[w.heap.size]? = some (.cells zeroNd 44 (0, 0)) := by rw [hW1]; exact heap_alloc_new w _
  have hT1 := hT.ext hE1
  have hok := hT.ok
  have hbnd := hT.bound
  obtain ⟨bn, bk, K, hd, hNd, hKd⟩ := hT1
  have hx := TreeAt.box hd
  obtain ⟨v, hv, hq, hq2⟩ := hNd.look' s hs
  clear hq2
  have hfit := hok.fit s.data.toList
  generalize hn : (mget M s.data.toList).getD zeroN = n at *
  obtain ⟨da, dc, aa, ac, rfl, hD, hA⟩ := hv
  obtain ⟨W2, hW2⟩ : ∃ W2, W2 = W1.alloc (.cells (ndC n (.slice da n.data.length dc) (.slice aa n.acl.length ac)) 44) := ⟨_, rfl⟩
  have hE2 : Ext W1 W2 := by rw [hW2]; exact Ext.alloc _ _
  have hz2 : W2.heap.size = W1.heap.size + 1 := by rw [hW2]; simp
  have hr2 := (hE2.block w.heap.size (by omega)).trans hr1
  have hb2 : W2.heap[W1.heap.size]? = some (.cells (ndC n (.slice da n.data.length dc) (.slice aa n.acl.length ac)) 44 (0, 0)) := by rw [hW2]; exact heap_alloc_new W1 _
  have hD2 : Cells W2.heap.size W2 da (n.data.map u8v) := (hD.cells hd.bound).ext hE2
  have hA2 : Cells W2.heap.size W2 aa (acCs n.acl) := (hA.cells hd.bound).ext hE2
  have C := sclone_nd n da aa dc ac W2 hfit hD2 hA2
  have HSET := Lib.hid ((setRow_alloc W1 zeroNd (ndC n (.slice da n.data.length dc) (.slice aa n.acl.length ac)) 44).trans hW2.symm)
  have HNew := Lib.hid (heap_alloc_new W1 (.cells zeroNd 44))
  rw [hz1] at hb2
  have HB2 := Lib.hid hb2
  have HR2 := Lib.hid hr2
  have HW1 := Lib.hid hW1
  have HN := Lib.hid hn
  unfold ndC at HSET HB2 C hq
  unfold zeroNd at HSET HNew HW1 HR2
  unfold Box treeC at hx
  have C := Lib.hid C
  have hx' := hx
  have hq' := hq
  have HS' := HSET.out
  rw [HW1.out] at hx' hq' HS'
  rw [World.size_alloc] at HS'
  have HS2 := Lib.hid HS'
  have HNew' := HNew.out
  rw [HW1.out, World.size_alloc] at HNew'
  have HN2 := Lib.hid HNew'
  clear HSET HNew HNew' HS' hx hq
  clear hW1 hr1 hd hNd hKd hD hA hW2 hb2 hr2 hD2 hA2 hT hn hok hbnd hfit
  go_enter Tryz.func54, Tryz.ntmps54
  go_wp2_with (first | (refine wpList_store_row rfl 44 (.tmp 6) (.tmp 18) rfl (w.heap.size + 1) _ rfl rfl 44 _ HN2.out sizeNd rfl (cells_node n da aa _ _ dc ac) ?_; rw [HS2.out]) | (refine wpList_load_row rfl 44 (.tmp 6) rfl (w.heap.size + 1) rfl 44 _ (0, 0) _ HB2.out Tryz.underlying44 rfl sizeNd ?_))
  refine C.out.mono ?_
  rintro e w3 ⟨v3, rfl, hN3, hb3⟩
  have hE3 : Ext W2 w3 := hb3
  obtain ⟨va, vc, vb, vd, rfl, h1, h2⟩ := hN3
  have HR3 := Lib.hid ((hE3.block w.heap.size (by omega)).trans HR2.out)
  have hz3 := hE3.size
  have hEw : Ext w w3 := (hE1.trans hE2).trans hE3
  clear C HB2 HN2 HS2 hx' hq' hb3
  go_wp2_with (refine wpList_store_row rfl 44 (.tmp 4) (.tmp 21) rfl w.heap.size _ rfl rfl 44 _ HR3.out sizeNd rfl (cells_node n va vb _ _ vc vd) ?_)
  obtain ⟨cs, hcs⟩ : ∃ cs, cs = ndC n (.slice va n.data.length vc) (.slice vb n.acl.length vd) := ⟨_, rfl⟩
  have hR4 := setRow_heap w3 w.heap.size _ cs 44 (0, 0) HR3.out
  have hs4 : (w3.setRow w.heap.size cs).heap.size = w3.heap.size := by simp [World.setRow]
  have hb4 : Ext w (w3.setRow w.heap.size cs) := hEw.trans' ⟨rfl, rfl, rfl, by rw [hs4]; exact Nat.le_refl _, fun k hk => setRow_other _ _ _ _ (by omega)⟩
  have hk : ∀ (b o : Nat) u, (W2.heap.size ≤ b ∧ b < w3.heap.size) → w3.cell? ⟨b, o, none⟩ = some u → (w3.setRow w.heap.size cs).cell? ⟨b, o, none⟩ = some u := fun b o u hb hu =>
    (World.cell?_of_block (setRow_other _ _ _ _ (show b ≠ w.heap.size by have := hb.1; omega))).trans hu
  have c1 := h1.imp (S' := fun b => w.heap.size ≤ b ∧ b < (w3.setRow w.heap.size cs).heap.size) (fun b hb => ⟨by omega, by omega⟩) hk
  have c2 := h2.imp (S' := fun b => w.heap.size ≤ b ∧ b < (w3.setRow w.heap.size cs).heap.size) (fun b hb => ⟨by omega, by omega⟩) hk
  have hsz17 : (Tryz.prog.info? 44).map (·.size) = some cs.size := by rw [hcs]; exact sizeNd
  have hfin : GetOut M s w (.returned (.tuple #[.agg cs, .bool (mget M s.data.toList).isSome])) (w3.setRow w.heap.size cs) :=
    ⟨_, rfl, by rw [HN.out]; exact ⟨va, vc, vb, vd, by rw [hcs], c1, c2⟩, hb4⟩
  rw [hcs] at hfin hR4 hsz17
  refine bodyPost_ret (v := .tuple #[.agg (ndC n (.slice va n.data.length vc) (.slice vb n.acl.length vd)), .bool (mget M s.data.toList).isSome]) ?_ rfl hfin
  exact results_cell_row2 (p := 4) (q := 5) (ty := 44) rfl _ _ w.heap.size 44 _ (0, 0) _ _ rfl rfl hR4 Tryz.underlying44 rfl hsz17
end Go.Proofs.YthinpbdbhijbgaaGreatDoor
namespace Go.Proofs.YthinpbdbhijbgaaGreatDoor
open Go.ChangeShapes Go.WideShapes Go.ChangeAt Go.RowKit Go.Deep
set_option maxHeartbeats 2000000
set_option maxRecDepth 100000

theorem Tryz.bytes_node : Tryz.prog.bytesOf 44 = 168 := by kernel_rfl

instance : Inhabited Nd := ⟨zeroN⟩

section
variable {H : Type} {enc : TypeId × Value → H} {w : World} {fuel : Nat}

end
end Go.Proofs.YthinpbdbhijbgaaGreatDoor
namespace Go.Proofs.YthinpbdbhijbgaaGreatDoor
open Go.ChangeShapes Go.WideShapes Go.ChangeAt Go.RowKit Go.Deep
set_option maxHeartbeats 2000000

theorem bulk_pos {H : Type} (d : DataW H) : 1 ≤ Rows.uptoBulk d := by
  cases d with
  | lit l => cases l <;> simp [Rows.uptoBulk]
  | _ => simp [Rows.uptoBulk]
theorem bulk_mem {H : Type} {d : DataW H} : ∀ {l : List (DataW H)}, d ∈ l → Rows.uptoBulk d ≤ Rows.uptoBulkAll l
  | [], h => by cases h
  | x :: r, h => by
    simp only [Rows.uptoBulkAll]
    rcases List.mem_cons.1 h with rfl | h
    · omega
    · have := bulk_mem h; omega
theorem bulk_len {H : Type} : ∀ l : List (DataW H), l.length ≤ Rows.uptoBulkAll l
  | [] => by simp
  | x :: r => by
    have h1 := bulk_pos x
    have h2 := bulk_len r
    simp only [Rows.uptoBulkAll, List.length_cons]; omega

/-- A slice is no longer than its bulk. -/
theorem slice_bulk {H : Type} {enc : TypeId × Value → H} {w : World} {fuel : Nat} {t e : TypeId} (ht : Tryz.prog.underlying t = some (.slice e)) {a : Option Addr} {len cap : Nat} {x : DataW H × List MemPlace} (h : DataW.trod enc Tryz.prog w 0 (fun _ => true) true fuel t [.slice a len cap] = some x) : len ≤ Rows.uptoBulk x.1 := by
  rcases open_slice ht h with ⟨hcs, rfl⟩ | ⟨a', len', cap', m, n, D, Pl, hcs, _, hl, hm, hmm, rfl, hx⟩
  · simp only [List.cons.injEq, and_true, Value.slice.injEq] at hcs
    omega
  · simp only [List.cons.injEq, and_true, Value.slice.injEq] at hcs
    obtain ⟨_, rfl, _⟩ := hcs
    have := bulk_len ((List.range len).map D)
    simp only [Rows.uptoBulk]
    rw [List.length_map, List.length_range] at this
    omega
theorem small_mem {H : Type} {l : List (DataW H)} (h : Rows.uptoSmall H l = true) {d : DataW H} (hd : d ∈ l) : Rows.uptoBulk d ≤ 1048576 := by
  have h1 : Rows.uptoBulkAll l ≤ 1048576 := of_decide_eq_true h
  have := bulk_mem hd
  omega
end Go.Proofs.YthinpbdbhijbgaaGreatDoor
namespace Go.Proofs.YthinpbdbhijbgaaGreatDoor
open Go.RowKit
set_option maxHeartbeats 2000000
set_option maxRecDepth 100000

/-- What Add answers, and what it makes of the nodes. -/
def addE (M : List (Key × Nd)) (n : Nd) : Int :=
  if rightN n ≠ 0 then rightN n else if (mget M (keyN n)).isSome = true then 71 else if n.path.size = 1 ∨ mget M (parentB n.path).data.toList = none then 73 else 0
def addM (M : List (Key × Nd)) (n : Nd) : List (Key × Nd) := if addE M n = 0 then mput M (keyN n) n else M

def TreeTo (S : Nat → Prop) (w : World) (bt : Nat) (M' : List (Key × Nd)) (N' : Nat) (v : Value) (e : Ending) (w' : World) : Prop :=
  e = .returned v ∧ TreeAt (fun k => S k ∨ (w.heap.size ≤ k ∧ k < w'.heap.size)) w' bt M' N' ∧ Mod S w w'

theorem treeTo_same {S : Nat → Prop} {w w' : World} {bt : Nat} {M : List (Key × Nd)} {N N' : Nat} (hT : TreeAt S w bt M N) (hE : Ext w w') (hN : N ≤ N') (v : Value) : TreeTo S w bt M N' v (.returned v) w' :=
  ⟨rfl, (hT.ext hE).keep (fun _ _ => rfl) (fun _ h => .inl h) (fun k hk => hk.elim (fun h => Nat.lt_of_lt_of_le (hT.bound k h) hE.size) (fun h => h.2)) hN, Mod.of_ext hE⟩

theorem add_any (S : Nat → Prop) (w : World) (bt : Nat) (M : List (Key × Nd)) (N : Nat) (hT : TreeAt S w bt M N) (n : Nd) (da aa : Option Addr) (dc ac : Nat) (hu : Tabs w) (hf : Fit n) (hN : N < 4611686018427387904)
    (hD : Cells w.heap.size w da (n.data.map u8v)) (hA : Cells w.heap.size w aa (acCs n.acl)) :
    Calls Tryz.prog 70 #[.pointer (some ⟨bt, 0, none⟩), .agg (ndC n (.slice da n.data.length dc) (.slice aa n.acl.length ac))] w (TreeTo S w bt (addM M n) (N + 1) (.int .i64 (addE M n))) := by
  obtain ⟨W2, hW2⟩ : ∃ W2, W2 = w.alloc (.cells (ndC n (.slice da n.data.length dc) (.slice aa n.acl.length ac)) 44) := ⟨_, rfl⟩
  have he2 : Ext w W2 := by rw [hW2]; exact Ext.alloc _ _
  have hz2 : W2.heap.size = w.heap.size + 1 := by rw [hW2]; simp
  have hn2 : W2.heap[w.heap.size]? = some (.cells (ndC n (.slice da n.data.length dc) (.slice aa n.acl.length ac)) 44 (0, 0)) := by rw [hW2]; exact heap_alloc_new w _
  have hT2 := hT.ext he2
  have hD2 := hD.ext he2
  have hA2 := hA.ext he2
  have hu2 : Tabs W2 := hu.below he2 hu.size
  have CR := right_any n da aa dc ac W2 hf hu2 hA2
  rw [hW2] at CR
  have HW2 := Lib.hid hW2
  have HN := Lib.hid hn2
  have HTW := Lib.hid hT
  have HNW := Lib.hid (hW2 ▸ hn2)
  unfold ndC at CR HW2 HN HNW ⊢
  have CR := Lib.hid CR
  clear hW2 hn2 hT
  by_cases hr : rightN n = 0
  · have hM := hT2.ok
    have HR := Lib.hid hr
    have hps : n.path.size ≤ maxLen := by
      have := (vpath_facts (right_vpath hr)).2.1
      unfold maxLen; omega
    have hvp := right_vpath hr
    have hvf := vpath_facts hvp
    rw [hr] at CR
    clear hr
    go_enter Tryz.func70, Tryz.ntmps70
    go_wp2_with (refine wpList_load_row rfl 44 (.tmp 3) rfl w.heap.size rfl 44 _ (0, 0) _ HNW.out Tryz.underlying44 rfl sizeNd ?_)
    refine CR.out.mono ?_
    rintro e w3 ⟨rfl, hb3⟩
    rw [← HW2.out] at hb3
    have hE3 : Ext W2 w3 := hb3
    have hT3 := hT2.ext hE3
    have hn3 := (hE3.block w.heap.size (by omega)).trans HN.out
    have hD3 := hD2.ext hE3
    have hA3 := hA2.ext hE3
    have hEw3 := he2.trans hE3
    obtain ⟨bn, bk, K, hd, hNd, hKd⟩ := hT3
    clear CR HW2 HN HNW hb3 hz2 hD2 hA2 hu2 hT2
    go_wp2
    refine there_region _ _ _ _ _ _ _ _ _ _ _ _ 0 3 _ 54 rfl (by decide) (by decide) (by decide) hd hNd w.heap.size n.path _ hn3 rfl hps rfl rfl ?_
    intro v0 v1 v2 v3 v4 v5 v6 v7 v8 v9 v10 w4 hE4
    simp only [Act.put]
    go_simp
    rename_i hK
    refine hK _ _ ?_
    have hEw4 := hEw3.trans hE4
    have hT4 : TreeAt S w4 bt M N := TreeAt.ext ⟨bn, bk, K, hd, hNd, hKd⟩ hE4
    have hD4 := hD3.ext hE4
    have hA4 := hA3.ext hE4
    have hn4 := (hE4.block w.heap.size (Array.getElem?_eq_some_iff.1 hn3).1).trans hn3
    clear hd hNd hKd hn3 hD3 hA3 hEw3
    cases hg : mget M n.path.data.toList with
    | some y =>
      have hfin : TreeTo S w bt (addM M n) (N + 1) (.int .i64 (addE M n)) (.returned (.int .i64 71)) w4 := by
        have e : addE M n = 71 := by unfold addE; rw [if_neg (by rw [HR.out]; simp), if_pos (by unfold keyN; rw [hg]; rfl)]
        have e2 : addM M n = M := by unfold addM; rw [if_neg (by rw [e]; decide)]
        rw [e, e2]
        exact treeTo_same HTW.out hEw4 (by omega) _
      have HFIN := Lib.hid hfin
      clear hfin hT4 hEw4 hD4 hA4 hn4 hg
      go_wp2
      go_ret
      exact HFIN.out
    | none =>
      have HG := Lib.hid hg
      have hx4 : Box w4 w.heap.size (ndC n (.slice da n.data.length dc) (.slice aa n.acl.length ac)) := fun j => cell_of_row _ _ _ _ _ _ hn4
      have CP := parent_any n.path w4 (by omega)
      have hlt4 := (Array.getElem?_eq_some_iff.1 hn4).1
      have HN4 := Lib.hid hn4
      unfold Box ndC at hx4
      clear hg hn4
      have hpp : ∃ (pp : ByteArray) (ee : Int), parV n.path = .tuple #[.string pp, .int .i64 ee] ∧ pp.size ≤ maxLen ∧ ((n.path.size = 1 ∨ mget M (parentB n.path).data.toList = none) ↔ (mget M pp.data.toList = none ∨ ee ≠ 0)) ∧ (ee = 0 → pp = parentB n.path) := by
        by_cases hroot : n.path.size = 1
        · exact ⟨⟨#[]⟩, 30, by unfold parV; rw [if_neg (fun h => h.2 hroot)], by unfold maxLen; decide, ⟨fun _ => .inr (by decide), fun _ => .inl hroot⟩, fun h => by cases h⟩
        · have h1 := (path_split hvp hroot).2.2.1
          exact ⟨parentB n.path, 0, by unfold parV; rw [if_pos ⟨hvp, hroot⟩], by unfold maxLen; omega, ⟨fun h => .inl (h.resolve_left hroot), fun h => .inr (h.resolve_right (by simp))⟩, fun _ => rfl⟩
      obtain ⟨pp, ee, hpv, hpz, hiff, hpe⟩ := hpp
      rw [hpv] at CP
      have CP := Lib.hid CP
      have HIFF := Lib.hid hiff
      have HPE := Lib.hid hpe
      clear hpv hiff hpe hvp hvf
      go_wp2_with fail
      refine CP.out.mono ?_
      rintro e w5 ⟨rfl, hb5⟩
      have hE5 : Ext w4 w5 := hb5
      have hEw5 := hEw4.trans hE5
      have hT5 := hT4.ext hE5
      have hD5 := hD4.ext hE5
      have hA5 := hA4.ext hE5
      have hn5 := (hE5.block w.heap.size hlt4).trans HN4.out
      obtain ⟨bn, bk, K, hd, hNd, hKd⟩ := hT5
      have hT5 : TreeAt S w5 bt M N := ⟨bn, bk, K, hd, hNd, hKd⟩
      have hbox := TreeAt.box hd
      obtain ⟨cs, ⟨hc17, hc1⟩, hq, hq2, _⟩ := hNd.look pp hpz
      clear hq2
      have hsz17 : (Tryz.prog.info? 44).map (·.size) = some cs.size := by rw [hc17]; exact sizeNd
      have hzs : zeroNd.size = cs.size := by rw [hc17]; rfl
      obtain ⟨W6, hW6⟩ : ∃ W6, W6 = w5.alloc (.cells cs 44) := ⟨_, rfl⟩
      have HSET6 := Lib.hid ((setRow_alloc w5 zeroNd cs 44).trans hW6.symm)
      have HNew6 := Lib.hid (heap_alloc_new w5 (.cells zeroNd 44))
      have hE6 : Ext w5 W6 := by rw [hW6]; exact Ext.alloc _ _
      have hEw6 := hEw5.trans hE6
      have hT6 := hT5.ext hE6
      have hD6 := hD5.ext hE6
      have hA6 := hA5.ext hE6
      have hn6 := (hE6.block w.heap.size (Array.getElem?_eq_some_iff.1 hn5).1).trans hn5
      have HN6 := Lib.hid hn6
      have hhid : Hid (zeroNd.size = cs.size) := hzs
      unfold zeroNd at HSET6 HNew6
      unfold Box treeC at hbox
      unfold ndC at HN6
      have HC1 := Lib.hid hc1
      have H17 := Lib.hid hsz17
      clear hW6 hd hNd hKd hT5 hzs hc1 hc17 hsz17 CP hx4 hb5 HN4 hE6 hE5 hEw5 hn6 hn5 hD5 hA5 hT4 hD4 hA4 hEw4
      have bad : mget M pp.data.toList = none ∨ ee ≠ 0 → TreeTo S w bt (addM M n) (N + 1) (.int .i64 (addE M n)) (.returned (.int .i64 73)) W6 := fun h => by
        have e : addE M n = 73 := by
          unfold addE
          rw [if_neg (by rw [HR.out]; simp), if_neg (by unfold keyN; rw [HG.out]; simp), if_pos (HIFF.out.2 h)]
        have e2 : addM M n = M := by unfold addM; rw [if_neg (by rw [e]; decide)]
        rw [e, e2]
        exact treeTo_same HTW.out hEw6 (by omega) _
      have BAD := Lib.hid bad
      clear bad
      cases hg : mget M pp.data.toList with
      | none =>
        rw [hg] at hq
        have hq' : (Instr.lookup 120 (.map (some bn)) (.string pp) true).run Tryz.prog w5 = .ok (.tuple #[.agg cs, .bool false]) w5 := hq
        have HFIN := Lib.hid (BAD.out (.inl hg))
        clear hq hg hT6 hD6 hA6 hEw6
        go_wp2_with (refine wpList_store_row rfl 44 (.tmp 10) (.tmp 43) rfl w5.heap.size _ rfl rfl 44 _ HNew6.out H17.out hhid.out HC1.out ?_; rw [HSET6.out])
        go_ret
        exact HFIN.out
      | some y1 =>
        rw [hg] at hq
        have hq' : (Instr.lookup 120 (.map (some bn)) (.string pp) true).run Tryz.prog w5 = .ok (.tuple #[.agg cs, .bool true]) w5 := hq
        by_cases hee : ee = 0
        · subst hee
          have C3 := lay_any S W6 bt M N hT6 n da aa dc ac HR.out HG.out hN hD6 hA6
          have e : addE M n = 0 := by
            unfold addE
            rw [if_neg (by rw [HR.out]; simp), if_neg (by unfold keyN; rw [HG.out]; simp), if_neg (fun h => by
              rcases HIFF.out.1 h with h | h
              · rw [hg] at h; cases h
              · exact h rfl)]
          have e2 : addM M n = mput M (keyN n) n := by unfold addM; rw [if_pos e]
          have E1 := Lib.hid e
          have E2 := Lib.hid e2
          unfold ndC at C3
          have C3 := Lib.hid C3
          have hszw := hEw6.size
          clear hq hg hT6 hD6 hA6 e e2 BAD
          go_wp2_with (first | (refine wpList_store_row rfl 44 (.tmp 10) (.tmp 43) rfl w5.heap.size _ rfl rfl 44 _ HNew6.out H17.out hhid.out HC1.out ?_; rw [HSET6.out]) | (refine wpList_load_row rfl 44 (.tmp 3) rfl w.heap.size rfl 44 _ (0, 0) _ HN6.out Tryz.underlying44 rfl sizeNd ?_))
          refine C3.out.mono ?_
          rintro e w7 ⟨rfl, hT7, hM7⟩
          have hz7 := hM7.size
          have hb7 := HTW.out.bound
          have hfin : TreeTo S w bt (addM M n) (N + 1) (.int .i64 (addE M n)) (.returned (.int .i64 0)) w7 := by
            rw [E1.out, E2.out]
            exact ⟨rfl, hT7.keep (fun _ _ => rfl) (fun k hk => hk.imp id fun h => ⟨by omega, h.2⟩) (fun k hk => hk.elim (fun h => by have := hb7 k h; omega) (fun h => h.2)) (Nat.le_refl _), (Mod.of_ext hEw6).trans hM7⟩
          have HFIN := Lib.hid hfin
          clear C3 hT7 hM7 hEw6 hfin hb7
          go_wp2
          go_ret
          exact HFIN.out
        · have hne : (ee != 0) = true := by simpa using hee
          have HFIN := Lib.hid (BAD.out (.inr hee))
          clear hq hg hT6 hD6 hA6 hEw6 BAD hee
          go_wp2_with (refine wpList_store_row rfl 44 (.tmp 10) (.tmp 43) rfl w5.heap.size _ rfl rfl 44 _ HNew6.out H17.out hhid.out HC1.out ?_; rw [HSET6.out])
          go_ret
          exact HFIN.out
  · have hne : (rightN n != 0) = true := by simpa using hr
    have e : addE M n = rightN n := by unfold addE; rw [if_pos hr]
    have e2 : addM M n = M := by unfold addM; rw [if_neg (by rw [e]; exact hr)]
    have E1 := Lib.hid e
    have E2 := Lib.hid e2
    clear hr e e2
    go_enter Tryz.func70, Tryz.ntmps70
    go_wp2_with (refine wpList_load_row rfl 44 (.tmp 3) rfl w.heap.size rfl 44 _ (0, 0) _ HNW.out Tryz.underlying44 rfl sizeNd ?_)
    refine CR.out.mono ?_
    rintro e w3 ⟨rfl, hb3⟩
    rw [← HW2.out] at hb3
    have hfin : TreeTo S w bt (addM M n) (N + 1) (.int .i64 (addE M n)) (.returned (.int .i64 (rightN n))) w3 := by
      rw [E1.out, E2.out]
      exact treeTo_same HTW.out (he2.trans hb3) (by omega) _
    have HFIN := Lib.hid hfin
    clear hfin CR hb3 hT2 hD2 hA2 HN HNW HW2 hu2
    go_wp2
    go_ret
    exact HFIN.out
end Go.Proofs.YthinpbdbhijbgaaGreatDoor
namespace Go.Proofs.YthinpbdbhijbgaaGreatDoor
open Go.RowKit
set_option maxHeartbeats 2000000
set_option maxRecDepth 100000

theorem NodesAt.del {S : Nat → Prop} {w w' : World} {bn : Nat} {M : List (Key × Nd)} {N : Nat} (h : NodesAt S w bn M N) {k : Key} {m : List (Key × Value)} (hr : Rel2 (fun n v => NdS S w v n) M m)
    (hs : SMap Tryz.prog 9 w' bn (mdel m k)) (hT : w.mapTurned w' bn) : NodesAt S w' bn (mdel M k) N := by
  have hc : ∀ (b o : Nat) u, S b → w.cell? ⟨b, o, none⟩ = some u → w'.cell? ⟨b, o, none⟩ = some u := fun b o u _ hu => (Mod.turned (S := fun _ => True) hT trivial).cell hu
  exact ⟨⟨_, hs, (hr.mdel k).imp fun _ _ _ hx => hx.imp (fun _ h => h) hc⟩, h.ok.del k, Nat.le_trans (List.length_filter_le _ _) h.len⟩

theorem apart_key {K : List (Key × Nat)} (h : K.Pairwise fun x y => x.2 ≠ y.2) {k : Key} {b : Nat} (hm : (k, b) ∈ K) {x : Key × Nat} (hx : x ∈ K) (e : x.2 = b) : x.1 = k := by
  obtain ⟨i, hi, ei⟩ := List.getElem_of_mem hx
  obtain ⟨j, hj, ej⟩ := List.getElem_of_mem hm
  have hp := List.pairwise_iff_getElem.1 h
  have : i = j := by
    rcases Nat.lt_trichotomy i j with hlt | he | hlt
    · exact absurd (by rw [ei, ej]; exact e) (hp i j hi hj hlt)
    · exact he
    · exact absurd (by rw [ei, ej]; exact e.symm) (hp j i hj hi hlt)
  subst this
  rw [ei] at ej
  rw [ej]

theorem kidsV_mem {K : List (Key × Nat)} (h : MSorted (kidsV K)) {x : Key × Nat} (hx : x ∈ K) : mget K x.1 = some x.2 := by
  have := mget_of_mem h (k := x.1) (v := .map (some x.2)) (List.mem_map.2 ⟨x, hx, rfl⟩)
  rw [kidsV_get] at this
  cases hg : mget K x.1 with
  | none => rw [hg] at this; cases this
  | some b => rw [hg] at this; simpa using this

/-- A node without children is struck: its own map goes, its name goes out of its parent's. -/
theorem KidsAt.del {S : Nat → Prop} {w w1 w2 w3 : World} {bn bk : Nat} {K : List (Key × Nat)} {M : List (Key × Nd)} {N : Nat} (h : KidsAt S w bn bk K M N) (hM : MOk M) {n : Nd} (hg : mget M (keyN n) = some n) (hroot : n.path.size ≠ 1) (hno : kidsOf M n.path = [])
    {b : Nat} (hb : mget K (parentB n.path).data.toList = some b) (hne : bn ≠ bk)
    (hT1 : w.mapTurned w1 bn) (hT2 : w1.mapTurned w2 bk) (hs2 : SMap Tryz.prog 9 w2 bk (mdel (kidsV K) (keyN n)))
    (hT3 : w2.mapTurned w3 b) (hs3 : SMap Tryz.prog 9 w3 b (mdel (kidsOf M (parentB n.path)) (nameB n.path).data.toList)) :
    KidsAt S w3 bn bk (mdel K (keyN n)) (mdel M (keyN n)) N := by
  have hr := (hM.at hg).2
  have hmem := mget_some_mem hb
  have hE := h.each _ hmem
  have hc : childOf (parentB n.path) n = true := childOf_iff.2 ⟨hroot, rfl⟩
  have hoth : ∀ p, p ≠ parentB n.path → kidsOf (mdel M (keyN n)) p = kidsOf M p := fun p hp => by
    rw [kids_del hM hg p, if_neg (fun hc => hp (childOf_iff.1 hc).2.symm)]
  have hsort := SMap.sorted (Maps.string_keyed strT) h.map
  refine ⟨?_, Nat.le_trans (List.length_filter_le _ _) h.len, fun x hx => ?_, h.apart.filter _, fun p hp => ?_⟩
  · unfold kidsV
    rw [mdel_map (fun b => Value.map (some b))]
    exact hs2.keep (turned_other hT3 hE.2.2.1.symm)
  · obtain ⟨hx, hxk⟩ := mem_mdel.1 hx
    obtain ⟨h1, h2, h3, h4⟩ := h.each x hx
    refine ⟨h1, h2, h3, ?_⟩
    by_cases e : x.2 = b
    · have hk := apart_key h.apart hmem hx e
      rw [hk, key_bytes, kids_del hM hg, if_pos hc, e]
      exact hs3
    · rw [hoth _ (fun e1 => e (by
        have : x.1 = (parentB n.path).data.toList := by rw [← e1, key_back]
        have h5 := kidsV_mem hsort hx
        rw [this, hb] at h5
        exact (Option.some.inj h5).symm))]
      exact h4.keep ((turned_other hT3 e).trans ((turned_other hT2 h3).trans (turned_other hT1 h2)))
  · by_cases e : p = n.path
    · rw [e, kids_del hM hg]
      split
      · rw [hno]; rfl
      · exact hno
    · by_cases e2 : p = parentB n.path
      · exfalso
        refine mget_none hp ((parentB n.path).data.toList, b) (mem_mdel.2 ⟨hmem, fun e3 => ?_⟩) (by rw [e2])
        exact e (e2.trans (ba_ext e3))
      · rw [hoth p e2]
        refine h.rest p (mget_none_of fun x hx e3 => ?_)
        exact mget_none hp x (mem_mdel.2 ⟨hx, fun e4 => e (ba_ext (e3.symm.trans e4))⟩) e3

/-- What Remove answers, and what it makes of the nodes. -/
def remE (M : List (Key × Nd)) (s : ByteArray) : Int :=
  if ¬ (vpath s = true ∧ s.size ≠ 1) then 30 else if mget M s.data.toList = none then 70 else if (kidsOf M s).length ≠ 0 then 72 else 0
def remM (M : List (Key × Nd)) (s : ByteArray) : List (Key × Nd) := if remE M s = 0 then mdel M s.data.toList else M

theorem run_len_nil_map {P : Program} (w : World) (t k e ty : TypeId) (h : P.underlying t = some (.map k e)) : (Builtin.len_ #[t] ty #[.map none]).run P w = .ok (.int .i64 0) w := by
  simp [Builtin.len_, run_underlying h, goInt, Result.andThen]

/-- What Remove leaves: the tree in the blocks that it had. -/
def RemTo (S : Nat → Prop) (w : World) (bt : Nat) (M' : List (Key × Nd)) (N' : Nat) (v : Value) (e : Ending) (w' : World) : Prop :=
  e = .returned v ∧ TreeAt S w' bt M' N' ∧ Mod S w w'
theorem remTo_same {S : Nat → Prop} {w w' : World} {bt : Nat} {M : List (Key × Nd)} {N : Nat} (hT : TreeAt S w bt M N) (hE : Ext w w') (v : Value) : RemTo S w bt M N v (.returned v) w' := ⟨rfl, hT.ext hE, Mod.of_ext hE⟩

theorem rem_to (S : Nat → Prop) (w : World) (bt : Nat) (M : List (Key × Nd)) (N : Nat) (hT : TreeAt S w bt M N) (s : ByteArray) (hs : s.size ≤ 9223372036854775800) (hN : N < 4611686018427387904) :
    Calls Tryz.prog 72 #[.pointer (some ⟨bt, 0, none⟩), .string s] w (RemTo S w bt (remM M s) N (.int .i64 (remE M s))) := by
  have CP := parent_any s w hs
  have HTW := Lib.hid hT
  by_cases hvr : vpath s = true ∧ s.size ≠ 1
  · have hps : s.size ≤ maxLen := by
      have := (vpath_facts hvr.1).2.1
      unfold maxLen; omega
    have hsp := path_split hvr.1 hvr.2
    have hpp : (parentB s).size ≤ maxLen := by
      have := hsp.2.2.1
      omega
    have hns : (nameB s).size ≤ maxLen := by
      have h1 : (nameB s).size ≤ s.size := by unfold nameB; rw [ByteArray.size_extract]; omega
      omega
    rw [show parV s = .tuple #[.string (parentB s), .int .i64 0] by unfold parV; rw [if_pos hvr]] at CP
    have CN := fun w => name_any s w hs
    rw [show namV s = .tuple #[.string (nameB s), .int .i64 0] by unfold namV; rw [if_pos hvr.1]] at CN
    have HVR := Lib.hid hvr
    have CN := Lib.hid CN
    have CP := Lib.hid CP
    clear hvr hsp
    go_enter Tryz.func72, Tryz.ntmps72
    go_wp2_with fail
    refine CP.out.mono ?_
    rintro e w5 ⟨rfl, hb5⟩
    have hE5 : Ext w w5 := hb5
    have hT5 := hT.ext hE5
    have hok := hT.ok
    obtain ⟨bn, bk, K, hd, hNd, hKd⟩ := hT5
    have hT5 : TreeAt S w5 bt M N := ⟨bn, bk, K, hd, hNd, hKd⟩
    have hbox := TreeAt.box hd
    obtain ⟨cs, ⟨hc17, hc1⟩, hq, hq2, _⟩ := hNd.look s hps
    clear hq2
    have hsz17 : (Tryz.prog.info? 44).map (·.size) = some cs.size := by rw [hc17]; exact sizeNd
    have hzs : zeroNd.size = cs.size := by rw [hc17]; rfl
    obtain ⟨W6, hW6⟩ : ∃ W6, W6 = w5.alloc (.cells cs 44) := ⟨_, rfl⟩
    have HSET6 := Lib.hid ((setRow_alloc w5 zeroNd cs 44).trans hW6.symm)
    have HNew6 := Lib.hid (heap_alloc_new w5 (.cells zeroNd 44))
    have hE6 : Ext w5 W6 := by rw [hW6]; exact Ext.alloc _ _
    have hEw6 := hE5.trans hE6
    have hhid : Hid (zeroNd.size = cs.size) := hzs
    unfold zeroNd at HSET6 HNew6
    unfold Box treeC at hbox
    have HC1 := Lib.hid hc1
    have H17 := Lib.hid hsz17
    clear hW6 hzs hc1 hc17 hsz17 CP hb5
    cases hg : mget M s.data.toList with
    | none =>
      rw [hg] at hq
      have hq' : (Instr.lookup 120 (.map (some bn)) (.string s) true).run Tryz.prog w5 = .ok (.tuple #[.agg cs, .bool false]) w5 := hq
      have hfin : RemTo S w bt (remM M s) N (.int .i64 (remE M s)) (.returned (.int .i64 70)) W6 := by
        have e : remE M s = 70 := by unfold remE; rw [if_neg (fun h => h HVR.out), if_pos hg]
        have e2 : remM M s = M := by unfold remM; rw [if_neg (by rw [e]; decide)]
        rw [e, e2]
        exact remTo_same HTW.out hEw6 _
      have HFIN := Lib.hid hfin
      clear hq hg hfin hE5 hE6 hEw6 hT hT5 hd hNd hKd hok
      go_wp2_with (refine wpList_store_row rfl 44 (.tmp 7) (.tmp 27) rfl w5.heap.size _ rfl rfl 44 _ HNew6.out H17.out hhid.out HC1.out ?_; rw [HSET6.out])
      go_ret
      exact HFIN.out
    | some n =>
      rw [hg] at hq
      have hq' : (Instr.lookup 120 (.map (some bn)) (.string s) true).run Tryz.prog w5 = .ok (.tuple #[.agg cs, .bool true]) w5 := hq
      obtain ⟨hkey, hrn⟩ := hok.at hg
      obtain rfl : s = n.path := ba_ext hkey
      have hT6 := hT5.ext hE6
      clear hd hNd hKd hT5
      obtain ⟨bn', bk', K', hd, hNd, hKd⟩ := hT6
      have ebn : bn' = bn ∧ bk' = bk := by
        have h1 := hd.blk
        have h2 : W6.cell? ⟨bt, 0, none⟩ = some (.map (some bn)) := (hE6.cell (p := ⟨bt, 0, none⟩) (by have := hT.bound bt; have := hE5.size; obtain ⟨_, _, _, hd0, _⟩ := hT; have := hd0.bound _ hd0.st; show bt < _; omega)).trans (hbox 0)
        have h3 : W6.cell? ⟨bt, 1, none⟩ = some (.map (some bk)) := (hE6.cell (p := ⟨bt, 1, none⟩) (by have := hE5.size; obtain ⟨_, _, _, hd0, _⟩ := hT; have := hd0.bound _ hd0.st; show bt < _; omega)).trans (hbox 1)
        rw [cell_of_row _ _ _ _ _ _ h1] at h2 h3
        simp [treeC] at h2 h3
        exact ⟨h2, h3⟩
      obtain ⟨rfl, rfl⟩ := ebn
      have hbox6 := TreeAt.box hd
      have hl6 := SMap.look (e := 157) hKd.map strT Tryz.underlying121 (z := .map none) (by kernel_rfl) hps
      have hln : ∀ ty, (Builtin.len_ #[157] ty #[(mget (kidsV K') n.path.data.toList).getD (.map none)]).run Tryz.prog W6 = .ok (.int .i64 (kidsOf M n.path).length) W6 := fun ty => by
        rw [kidsV_get]
        cases hgk : mget K' n.path.data.toList with
        | none =>
          rw [hKd.rest n.path hgk]
          exact run_len_nil_map W6 _ _ _ ty Tryz.underlying157
        | some b' =>
          have h4 := (hKd.each _ (mget_some_mem hgk)).2.2.2
          rw [key_bytes] at h4
          exact h4.len Tryz.underlying157 ty
      generalize (mget (kidsV K') n.path.data.toList).getD (.map none) = kv at hl6 hln
      unfold Box treeC at hbox6
      have HG := Lib.hid hg
      clear hq hg hkey
      by_cases hk0 : (kidsOf M n.path).length = 0
      · have hno : kidsOf M n.path = [] := List.eq_nil_of_length_eq_zero hk0
        have hd0 : decide ((0 : Int) < ((kidsOf M n.path).length : Int)) = false := by rw [hk0]; decide
        have hpar : ∃ b, mget K' (parentB n.path).data.toList = some b := by
          cases hgp : mget K' (parentB n.path).data.toList with
          | some b => exact ⟨b, rfl⟩
          | none =>
            have h1 := hKd.rest _ hgp
            have h2 : (nameK n, Value.agg #[]) ∈ kidsOf M (parentB n.path) := mem_kids.2 ⟨_, mget_some_mem HG.out, childOf_iff.2 ⟨HVR.out.2, rfl⟩, rfl⟩
            rw [h1] at h2; simp at h2
        obtain ⟨b, hgb⟩ := hpar
        have hEb := hKd.each _ (mget_some_mem hgb)
        have HGB := Lib.hid hgb
        have HNO := Lib.hid hno
        have HKD := Lib.hid hKd
        have HND := Lib.hid hNd
        have HHD := Lib.hid hd
        have HE := Lib.hid hEw6
        have hz6 : decide ((0 : Int) < 0) = false := by decide
        rw [hk0] at hln
        clear hk0 hno hd0 hgb hd hNd hKd hEw6 hE5 hE6 hT hok
        go_wp2_with (refine wpList_store_row rfl 44 (.tmp 7) (.tmp 27) rfl w5.heap.size _ rfl rfl 44 _ HNew6.out H17.out hhid.out HC1.out ?_; rw [HSET6.out])
        refine (CN.out _).mono ?_
        rintro e w7 ⟨rfl, hb7⟩
        have hE7 : Ext W6 w7 := hb7
        have hd7 : Hd S w7 bt bn' bk' := HHD.out.keep (hE7.block _ (HHD.out.bound _ HHD.out.st)) (fun _ h => h) (fun k h => Nat.lt_of_lt_of_le (HHD.out.bound k h) hE7.size)
        have hN7 : NodesAt S w7 bn' M N := HND.out.keep (hE7.block _ (HHD.out.bound _ HHD.out.sn)) (fun _ h => h) (fun b o u hb hu => (hE7.cell (p := ⟨b, o, none⟩) (HHD.out.bound b hb)).trans hu) (Nat.le_refl _)
        have hK7 : KidsAt S w7 bn' bk' K' M N := HKD.out.keep (hE7.block _ (HHD.out.bound _ HHD.out.sk)) (fun _ h => h) (fun x hx => hE7.block _ (HHD.out.bound _ (HKD.out.each x hx).1)) (Nat.le_refl _)
        have hEw7 := HE.out.trans hE7
        clear CN HHD HND HKD HE hb7 hE7 HSET6 HNew6 H17 hhid HC1 hbox hbox6 hq' hl6 hln hz6
        obtain ⟨m7, hm7, hr7⟩ := hN7.ex
        have hx7 := TreeAt.box hd7
        have hst1 : ∀ w8 : World, w7.mapTurned w8 bn' → Box w8 bt (treeC bn' bk') ∧ SMap Tryz.prog 9 w8 bk' (kidsV K') := fun w8 ht8 =>
          ⟨fun j => cell_of_row _ _ _ _ _ _ ((Mod.turned (S := S) ht8 hd7.sn).cells hd7.blk), hK7.map.keep (turned_other ht8 hd7.ne.symm)⟩
        have hst2 : ∀ w8 w9 : World, w7.mapTurned w8 bn' → w8.mapTurned w9 bk' → SMap Tryz.prog 9 w9 bk' (mdel (kidsV K') n.path.data.toList) →
            Box w9 bt (treeC bn' bk') ∧ SMap Tryz.prog 9 w9 b (kidsOf M (parentB n.path)) ∧
            (Instr.lookup 121 (.map (some bk')) (.string (parentB n.path)) false).run Tryz.prog w9 = .ok (.map (some b)) w9 := fun w8 w9 ht8 ht9 hs9 => by
          refine ⟨fun j => cell_of_row _ _ _ _ _ _ (((Mod.turned (S := S) ht8 hd7.sn).trans (Mod.turned ht9 hd7.sk)).cells hd7.blk), ?_, ?_⟩
          · have h4 := hEb.2.2.2
            rw [key_bytes] at h4
            have h5 := (hK7.each _ (mget_some_mem HGB.out)).2.2.2
            rw [key_bytes] at h5
            exact h5.keep ((turned_other ht9 hEb.2.2.1).trans (turned_other ht8 hEb.2.1))
          · have h6 := SMap.look (e := 157) hs9 strT Tryz.underlying121 (z := .map none) (by kernel_rfl) hpp
            have hsrt := mdel_sorted (SMap.sorted (Maps.string_keyed strT) hK7.map) n.path.data.toList
            have hlt := (path_split HVR.out.1 HVR.out.2).2.2.1
            rw [mget_of_mem (v := .map (some b)) hsrt (mem_mdel.2 ⟨List.mem_map.2 ⟨_, mget_some_mem HGB.out, rfl⟩, fun e => by
              have := congrArg List.length e
              rw [size_list, size_list] at this
              omega⟩)] at h6
            exact h6
        have hfin : ∀ w8 w9 w10 : World, w7.mapTurned w8 bn' → SMap Tryz.prog 9 w8 bn' (mdel m7 n.path.data.toList) → w8.mapTurned w9 bk' → SMap Tryz.prog 9 w9 bk' (mdel (kidsV K') n.path.data.toList) →
            w9.mapTurned w10 b → SMap Tryz.prog 9 w10 b (mdel (kidsOf M (parentB n.path)) (nameB n.path).data.toList) →
            RemTo S w bt (remM M n.path) N (.int .i64 (remE M n.path)) (.returned (.int .i64 0)) w10 := fun w8 w9 w10 ht8 hs8 ht9 hs9 ht10 hs10 => by
          have e : remE M n.path = 0 := by
            unfold remE
            rw [if_neg (fun h => h HVR.out), if_neg (by rw [HG.out]; simp), if_neg (by rw [HNO.out]; simp)]
          have e2 : remM M n.path = mdel M n.path.data.toList := by unfold remM; rw [if_pos e]
          have hM : Mod S w7 w10 := ((Mod.turned ht8 hd7.sn).trans (Mod.turned ht9 hd7.sk)).trans (Mod.turned ht10 hEb.1)
          have hM9 : Mod S w8 w10 := (Mod.turned ht9 hd7.sk).trans (Mod.turned ht10 hEb.1)
          have hz10 : w10.heap.size = w7.heap.size := by rw [turned_size ht10, turned_size ht9, turned_size ht8]
          have hd10 : Hd S w10 bt bn' bk' := ⟨hM.cells hd7.blk, hd7.st, hd7.sn, hd7.sk, hd7.ne, fun k h => by rw [hz10]; exact hd7.bound k h⟩
          have hN8 : NodesAt S w8 bn' (mdel M n.path.data.toList) N := hN7.del hr7 hs8 ht8
          have hN10 : NodesAt S w10 bn' (mdel M n.path.data.toList) N := hN8.keep ((turned_other ht10 hEb.2.1.symm).trans (turned_other ht9 hd7.ne)) (fun _ h => h) (fun b o u _ hu => hM9.cell hu) (Nat.le_refl _)
          have hK10 := hK7.del hN7.ok HG.out HVR.out.2 HNO.out HGB.out hd7.ne ht8 ht9 hs9 ht10 hs10
          have hT10 : TreeAt S w10 bt (mdel M n.path.data.toList) N := ⟨bn', bk', _, hd10, hN10, hK10⟩
          rw [e, e2]
          exact ⟨rfl, hT10, (Mod.of_ext hEw7).trans hM⟩
        have H1 := Lib.hid hst1
        have H2 := Lib.hid hst2
        have H3 := Lib.hid hfin
        unfold Box treeC at hx7
        clear hst1 hst2 hfin hd7 hN7 hK7 hEw7 hEb hr7
        go_wp2_with (first | (refine wpList_del _ rfl (.tmp 47) (.tmp 48) 120 9 44 rfl strT Tryz.underlying120 bn' _ hm7 rfl n.path hps rfl ?_; intro w8 hs8 ht8; have hq8 := H1.out w8 ht8; have hx8 := hq8.1; have hm8 := hq8.2; unfold Box treeC at hx8; clear hq8 hx7 hm7) | (refine wpList_del _ rfl (.tmp 52) (.tmp 53) 121 9 157 rfl strT Tryz.underlying121 bk' _ hm8 rfl n.path hps rfl ?_; intro w9 hs9 ht9; have hq9 := H2.out w8 w9 ht8 ht9 hs9; have hx9 := hq9.1; have hm9 := hq9.2.1; have hl9 := hq9.2.2; unfold Box treeC at hx9; clear hq9 hx8 hm8) | (refine wpList_del _ rfl (.tmp 59) (.tmp 60) 157 9 205 rfl strT Tryz.underlying157 b _ hm9 rfl (nameB n.path) hns rfl ?_; intro w10 hs10 ht10))
        go_ret
        exact H3.out w8 w9 w10 ht8 hs8 ht9 hs9 ht10 hs10
      · have hpos : 0 < (kidsOf M n.path).length := by omega
        have hfin : RemTo S w bt (remM M n.path) N (.int .i64 (remE M n.path)) (.returned (.int .i64 72)) W6 := by
          have e : remE M n.path = 72 := by
            unfold remE
            rw [if_neg (fun h => h HVR.out), if_neg (by rw [HG.out]; simp), if_pos hk0]
          have e2 : remM M n.path = M := by unfold remM; rw [if_neg (by rw [e]; decide)]
          rw [e, e2]
          exact remTo_same HTW.out hEw6 _
        have HFIN := Lib.hid hfin
        clear hk0 hfin hE5 hE6 hEw6 hT hd hNd hKd hok
        go_wp2_with (refine wpList_store_row rfl 44 (.tmp 7) (.tmp 27) rfl w5.heap.size _ rfl rfl 44 _ HNew6.out H17.out hhid.out HC1.out ?_; rw [HSET6.out])
        go_ret
        exact HFIN.out
  · rw [show parV s = .tuple #[.string ⟨#[]⟩, .int .i64 30] by unfold parV; rw [if_neg hvr]] at CP
    have hfin : ∀ w3, Ext w w3 → RemTo S w bt (remM M s) N (.int .i64 (remE M s)) (.returned (.int .i64 30)) w3 := fun w3 hE => by
      have e : remE M s = 30 := by unfold remE; rw [if_pos hvr]
      have e2 : remM M s = M := by unfold remM; rw [if_neg (by rw [e]; decide)]
      rw [e, e2]
      exact remTo_same HTW.out hE _
    have HFIN := Lib.hid hfin
    have CP := Lib.hid CP
    clear hvr hfin hT
    go_enter Tryz.func72, Tryz.ntmps72
    go_wp2_with fail
    refine CP.out.mono ?_
    rintro e w3 ⟨rfl, hb3⟩
    clear CP
    go_wp2
    go_ret
    exact HFIN.out w3 hb3

theorem rem_any (S : Nat → Prop) (w : World) (bt : Nat) (M : List (Key × Nd)) (N : Nat) (hT : TreeAt S w bt M N) (s : ByteArray) (hs : s.size ≤ 9223372036854775800) (hN : N < 4611686018427387904) :
    Calls Tryz.prog 72 #[.pointer (some ⟨bt, 0, none⟩), .string s] w (TreeTo S w bt (remM M s) N (.int .i64 (remE M s))) :=
  (rem_to S w bt M N hT s hs hN).mono fun e w' ⟨h1, h2, h3⟩ =>
    ⟨h1, h2.keep (fun _ _ => rfl) (fun _ h => .inl h) (fun k hk => hk.elim (fun h => h2.bound k h) (fun h => h.2)) (Nat.le_refl _), h3⟩
end Go.Proofs.YthinpbdbhijbgaaGreatDoor
namespace Go.Proofs.YthinpbdbhijbgaaGreatDoor
open Go.RowKit
set_option maxHeartbeats 1000000

theorem before_prefix (a b : List UInt8) (hb : b ≠ []) : bytesBefore a (a ++ b) = true := by
  induction a with
  | nil => cases b with
    | nil => exact absurd rfl hb
    | cons x b => rfl
  | cons x a ih => simp [bytesBefore, ih]

/-- A child comes after its parent. -/
theorem parent_before {s : ByteArray} (h : vpath s = true) (h1 : s.size ≠ 1) : bytesBefore (parentB s).data.toList s.data.toList = true := by
  obtain ⟨e, hn, _, _⟩ := path_split h h1
  have hn' : (nameB s).data.toList ≠ [] := fun e => hn (by rw [← size_list, e]; rfl)
  rw [e]
  unfold preL
  split
  · exact before_prefix _ _ hn'
  · rw [List.append_assoc]
    exact before_prefix _ _ (by simp)

theorem before_asymm : ∀ {a b : List UInt8}, bytesBefore a b = true → bytesBefore b a = true → False
  | [], [], h, _ => by simp [bytesBefore] at h
  | [], _ :: _, _, h => by simp [bytesBefore] at h
  | _ :: _, [], h, _ => by simp [bytesBefore] at h
  | x :: a, y :: b, h, k => by
    simp only [bytesBefore, Bool.or_eq_true, Bool.and_eq_true, decide_eq_true_eq, beq_iff_eq] at h k
    rcases h with h | ⟨rfl, h⟩
    · rcases k with k | ⟨rfl, k⟩
      · exact absurd h (UInt8.lt_asymm k)
      · exact absurd h (UInt8.lt_irrefl _)
    · rcases k with k | ⟨_, k⟩
      · exact absurd k (UInt8.lt_irrefl _)
      · exact before_asymm h k

theorem MOk.take {M : List (Key × Nd)} (h : MOk M) (m : Nat) : MOk (M.take m) :=
  ⟨List.Pairwise.sublist (List.take_sublist m M) h.sorted, fun x hx => h.key x (List.mem_of_mem_take hx), fun x hx => h.right x (List.mem_of_mem_take hx)⟩

end Go.Proofs.YthinpbdbhijbgaaGreatDoor
